/- The contract of the reference's Strip. -/
import Derived.Test.YtcihcjlaamfjfaaStrip1
namespace Go.Proofs.Ytcihcjlaamfjfaa
open Go.RowKit Go.Maps
set_option maxRecDepth 100000 in
set_option maxHeartbeats 4000000 in
theorem refStrip_any (l : List UInt8) (w : World) (hl : l.length ≤ 100000) : Calls Try.prog 44 #[.string (S l)] w fun r w' => r = .returned (.string (S (stripL l))) ∧ Below w.heap.size w w' := by
  obtain ⟨i0, hi, hz0, hz1, hz2⟩ := info_parts infoU8
  have hsz := S_size l
  have hget := S_get l
  go_enter Try.func44, Try.ntmps44
  go_wp2
  go_loopw [4, 3] (fun i v wr => ∃ (k : Nat) (out : List UInt8), k ≤ l.length + 1 ∧ i = .int .i64 k ∧ out ++ restL l k = stripL l ∧ out.length ≤ k ∧ wr.ownsRow w.heap.size 5 1 v out.length (u8s out) ∧ Below w.heap.size w wr) (fun i _ _ => l.length + 1 - (intOf i).toNat)
  case atStart => exact ⟨0, [], by omega, rfl, by simp [restL], by simp, World.ownsRow_nil _ _ _ _, Below.refl _ _⟩
  case round =>
    obtain ⟨k, out, hk, rfl, hout, hol, hown, hb⟩ := hrel
    obtain ⟨a, c, rfl⟩ : ∃ a c, u3 = .slice a out.length c := ownsRow_slice hown
    have Hout := Lib.hid hout
    clear hout
    by_cases hlt : k < l.length
    · obtain ⟨b, hbq⟩ : ∃ b, b = nth 0 l k := ⟨_, rfl⟩
      obtain ⟨b2, hbq2⟩ : ∃ b, b = nth 0 l (k + 1) := ⟨_, rfl⟩
      by_cases hesc : (nth 0 l k).toNat = 27 ∧ k + 1 < l.length ∧ (nth 0 l (k + 1)).toNat = 91
      · obtain ⟨g1, g2, g3⟩ := hesc
        have Hr := Lib.hid (restL_esc l k g2 g1 g3)
        have f1 : (((nth 0 l k).toNat : Int) == 27) = true := by simp [g1]
        have f3 : (((nth 0 l (k + 1)).toNat : Int) == 91) = true := by simp [g3]
        clear g1 g3 hbq hbq2
        go_wp2_with fail
        clear f1 f3
        go_loop [4] (fun i => ∃ j : Nat, k + 2 ≤ j ∧ j ≤ l.length ∧ i = .int .i64 j ∧ Hid (skipL (l.drop (k + 2)) = skipL (l.drop j))) (fun i => l.length - (intOf i).toNat)
        case atStart => exact ⟨k + 2, by omega, by omega, by go_num, rfl⟩
        case round =>
          obtain ⟨j, hj1, hj2, rfl, hsk⟩ := hrel
          by_cases hj3 : j < l.length
          · by_cases he : 64 ≤ (nth 0 l j).toNat ∧ (nth 0 l j).toNat ≤ 126
            · have f4 : (64 : Int) ≤ ((nth 0 l j).toNat : Int) := by omega
              have f5 : ((nth 0 l j).toNat : Int) ≤ 126 := by omega
              have Hs := Lib.hid (skip_stop l j hj3 he)
              clear he
              go_wp2
              exact ⟨⟨j + 1, out, by omega, by go_num, by rw [← Hout.out, Hr.out, hsk.out, Hs.out], by omega, hown, hb⟩, by simp [intOf]; omega⟩
            · have Hs := Lib.hid (skip_go l j hj3 he)
              have f4 : ((nth 0 l j).toNat : Int) < 64 ∨ (64 ≤ ((nth 0 l j).toNat : Int) ∧ 126 < ((nth 0 l j).toNat : Int)) := by omega
              clear he
              rcases f4 with f4 | ⟨f4, f5⟩
              all_goals
                go_wp2
                go_round
                case rel => exact ⟨j + 1, by omega, by omega, by go_num, hsk.out.trans Hs.out⟩
                case measure => simp [intOf]; omega
          · have Hs := Lib.hid (skip_end l j (by omega))
            obtain rfl : j = l.length := by omega
            go_wp2_with fail
            exact ⟨⟨l.length + 1, out, by omega, by go_num, by rw [← Hout.out, Hr.out, hsk.out, Hs.out], by omega, hown, hb⟩, by simp [intOf]; omega⟩
      · have Hr := Lib.hid (restL_one l k hlt hesc)
        have hB : (((nth 0 l k).toNat : Int) == 27) = false ∨ ((((nth 0 l k).toNat : Int) == 27) = true ∧ (l.length : Int) ≤ (k : Int) + 1) ∨ ((((nth 0 l k).toNat : Int) == 27) = true ∧ (k : Int) + 1 < (l.length : Int) ∧ (((nth 0 l (k + 1)).toNat : Int) == 91) = false) := by
          by_cases q1 : (nth 0 l k).toNat = 27
          · by_cases q2 : k + 1 < l.length
            · exact .inr (.inr ⟨by simp [q1], by omega, by simp; intro q3; exact hesc ⟨q1, q2, by omega⟩⟩)
            · exact .inr (.inl ⟨by simp [q1], by omega⟩)
          · exact .inl (by simp; omega)
        clear hesc hbq hbq2
        rcases hB with f1 | ⟨f1, f2⟩ | ⟨f1, f2, f3⟩
        all_goals
          by_cases h32 : (nth 0 l k).toNat < 32
          · have f4 : ((nth 0 l k).toNat : Int) < 32 := by omega
            rw [if_pos h32] at Hr
            clear h32
            go_wp2
            exact ⟨⟨k + 1, out, by omega, by go_num, by rw [← Hout.out, Hr.out]; simp, by omega, hown, hb⟩, by simp [intOf]; omega⟩
          · have f4 : (32 : Int) ≤ ((nth 0 l k).toNat : Int) := by omega
            rw [if_neg h32] at Hr
            clear h32
            go_wp2_with (at_builtin; refine wpList_append_own _ rfl _ _ 110 rfl w.heap.size 5 i0 (.int .u8 0) 1 1 Try.underlying110 hi hz0 hz1 hz2 rfl (by decide) _ _ _ rfl (hown.alloc _) ⟨wr.heap.size, 0, none⟩ 1 1 [.int .u8 (nth 0 l k).toNat] rfl rfl (cell_one_new _ _ _) (by simp [Value.oneCell']) (by unfold maxLen; omega) (by omega) (by have := hb.size; simp; omega) ?_; intro v' w1 hown' hgrow _; obtain ⟨g', cap', rfl⟩ := ownsRow_succ hown')
            have hb1 : Below w.heap.size w w1 := hb.trans (below_append hown hb.size hgrow)
            exact ⟨⟨k + 1, out ++ [nth 0 l k], by omega, by go_num, by rw [← Hout.out, Hr.out]; simp, by simp; omega, by rw [u8s_snoc]; simpa using hown', hb1⟩, by simp [intOf]; omega⟩
    · have he := restL_end l k (by omega)
      have hcv := conv_own hown
      have Hfin : Hid (out = stripL l) := by have := Hout.out; rw [he, List.append_nil] at this; exact this
      clear he
      go_wp2
      go_ret
      exact ⟨ret_str (by rw [Hfin.out]), hb⟩
end Go.Proofs.Ytcihcjlaamfjfaa
