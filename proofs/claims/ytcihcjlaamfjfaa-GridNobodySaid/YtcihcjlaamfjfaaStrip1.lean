/- The contracts of Strip, of the program and of its reference. -/
import Derived.Test.YtcihcjlaamfjfaaSMath
import Derived.Test.YtcihcjlaamfjfaaEsc4
import Derived.Maps.AppendAt
namespace Go.Proofs.Ytcihcjlaamfjfaa
open Go.RowKit Go.Maps

def kindI (c : Int) : Int := if c = 127 then 111 else if 32 ≤ c ∧ c < 64 then 111 else if c < 32 then 99 else if 64 ≤ c ∧ c ≤ 126 then 101 else 111
theorem kind_any (c : Int) (w : World) : Calls Try.prog 90 #[.int .u8 c] w fun e w' => e = .returned (.int .u8 (kindI c)) ∧ w = w' := by
  go_enter Try.func90, Try.ntmps90
  go_wp2
  all_goals
    go_ret
    refine ⟨ret_int ?_, rfl⟩
    first
      | (have h := eq_of_beq ‹(c == 127) = true›; unfold kindI; split <;> omega)
      | (have h := ne_of_beq_false ‹(c == 127) = false›; unfold kindI; repeat' split <;> omega)

theorem infoU8 : (Try.prog.info? 5).map (fun i => (i.zero, i.size, i.bytes)) = some (some (.int .u8 0), 1, 1) := by kernel_rfl
def u8s (l : List UInt8) : List Value := l.map fun b => .int .u8 b.toNat
theorem u8s_length (l : List UInt8) : (u8s l).length = l.length := by simp [u8s]
theorem ownsRow_slice {W : World} {base : Nat} {e : TypeId} {size : Nat} {v : Value} {n : Nat} {xs : List Value} (h : W.ownsRow base e size v n xs) : ∃ a c, v = .slice a n c := by
  rcases h.2 with ⟨rfl, rfl⟩ | ⟨g, cap, _, rfl, _⟩
  · exact ⟨_, _, rfl⟩
  · exact ⟨_, _, rfl⟩
theorem S_get (l : List UInt8) (i : Nat) (h : i < (S l).size) : (S l)[i]'h = nth 0 l i := by
  rw [nth_eq _ _ _ (by rw [S_size] at h; exact h)]; rfl
theorem u8s_snoc (l : List UInt8) (b : UInt8) : u8s (l ++ [b]) = u8s l ++ [Value.int .u8 b.toNat] := by simp [u8s]
/-- A row of bytes that the call owns, as a string. -/
theorem conv_own {W : World} {base : Nat} {a : Option Addr} {c : Nat} {l : List UInt8} (h : W.ownsRow base 5 1 (.slice a l.length c) l.length (u8s l)) :
    (convert 110 9 (.slice a l.length c)).run Try.prog W = .ok (.string (S l)) W := by
  rcases h.2 with ⟨e, h0⟩ | ⟨g, cap, cur, e, _, hg, _, _, hcs, ht⟩
  · have hl := List.length_eq_zero_iff.1 h0
    subst hl
    simp only [Value.slice.injEq] at e
    obtain ⟨rfl, _, rfl⟩ := e
    exact run_convert_bytes_nil (P := Try.prog) W 110 5 Try.underlying110 Try.underlying5 _ _ 9 Try.underlying9
  · simp only [Value.slice.injEq] at e
    obtain ⟨rfl, _, rfl⟩ := e
    have := run_convert_bytes_arg (P := Try.prog) W 110 5 Try.underlying110 Try.underlying5 g 0 l.length c (l.map fun b => (b.toNat : Int)) (by simp)
      (fun i hi => ?_) 9 Try.underlying9
    · rw [strOfNums_S] at this; exact this
    · unfold World.cell?
      dsimp only
      rw [hg]
      have h4 : (cur.toList.take (l.length * 1))[i]? = (u8s l)[i]? := by rw [ht]
      rw [List.getElem?_take_of_lt (by omega), Array.getElem?_toList] at h4
      simp only [Nat.zero_add, Option.isSome_none, Bool.false_eq_true, if_false]
      rw [h4]
      simp [u8s, hi]
theorem kindI_e (c : Int) : (kindI c != 101) = false ↔ 64 ≤ c ∧ c ≤ 126 := by
  unfold kindI
  constructor
  · intro h; repeat' split at h
    all_goals first | omega | simp at h
  · intro h; rw [if_neg (by omega), if_neg (by omega), if_neg (by omega), if_pos h]; rfl
theorem kindI_c (c : Int) : (kindI c != 99) = false ↔ c < 32 := by
  unfold kindI
  constructor
  · intro h; repeat' split at h
    all_goals first | omega | simp at h
  · intro h; rw [if_neg (by omega), if_neg (by omega), if_pos h]; rfl

/-- An append to a row of the call's own turns nothing below it. -/
theorem below_append {B : Nat} {W w1 : World} {e : TypeId} {size : Nat} {v : Value} {n : Nat} {xs : List Value} {tmp : Obj} (hown : W.ownsRow B e size v n xs) (hB : B ≤ W.heap.size) (hg : (W.alloc tmp).grownBy w1 v.ownBlock) : Below B W w1 :=
  ((Below.refl B W).alloc hB tmp).grown hg (by simp; omega) (fun j ej => by
    rcases hown.2 with ⟨rfl, _⟩ | ⟨g, cap, cur, rfl, hgb, _⟩
    · simp [Value.ownBlock] at ej
    · obtain rfl : g = j := by simpa [Value.ownBlock] using ej
      exact hgb)
set_option maxRecDepth 100000 in
set_option maxHeartbeats 4000000 in
theorem strip_any (l : List UInt8) (w : World) (hl : l.length ≤ 100000) : Calls Try.prog 43 #[.string (S l)] w fun r w' => r = .returned (.string (S (stripL l))) ∧ Below w.heap.size w w' := by
  obtain ⟨i0, hi, hz0, hz1, hz2⟩ := info_parts infoU8
  have hsz := S_size l
  have hget := S_get l
  go_enter Try.func43, Try.ntmps43
  go_wp2
  go_loopw [4, 3] (fun i v wr => ∃ (k : Nat) (out : List UInt8), k ≤ l.length + 1 ∧ i = .int .i64 k ∧ out ++ restL l k = stripL l ∧ out.length ≤ k ∧ wr.ownsRow w.heap.size 5 1 v out.length (u8s out) ∧ Below w.heap.size w wr) (fun i _ _ => l.length + 1 - (intOf i).toNat)
  case atStart => exact ⟨0, [], by omega, rfl, by simp [restL], by simp, World.ownsRow_nil _ _ _ _, Below.refl _ _⟩
  case round =>
    obtain ⟨k, out, hk, rfl, hout, hol, hown, hb⟩ := hrel
    obtain ⟨a, c, rfl⟩ : ∃ a c, u3 = .slice a out.length c := ownsRow_slice hown
    have Hout := Lib.hid hout
    clear hout
    by_cases hlt : k < l.length
    · obtain ⟨b, hbq⟩ : ∃ b, b = nth 0 l k := ⟨_, rfl⟩
      obtain ⟨b2, hbq2⟩ : ∃ b, b = nth 0 l (k + 1) := ⟨_, rfl⟩
      by_cases hesc : (nth 0 l k).toNat = 27 ∧ k + 1 < l.length ∧ (nth 0 l (k + 1)).toNat = 91
      · obtain ⟨g1, g2, g3⟩ := hesc
        have Hr := Lib.hid (restL_esc l k g2 g1 g3)
        have f1 : (((nth 0 l k).toNat : Int) == 27) = true := by simp [g1]
        have f3 : (((nth 0 l (k + 1)).toNat : Int) == 91) = true := by simp [g3]
        clear g1 g3 hbq hbq2
        go_wp2_with fail
        clear f1 f3
        go_loop [4] (fun i => ∃ j : Nat, k + 2 ≤ j ∧ j ≤ l.length ∧ i = .int .i64 j ∧ Hid (skipL (l.drop (k + 2)) = skipL (l.drop j))) (fun i => l.length - (intOf i).toNat)
        case atStart => exact ⟨k + 2, by omega, by omega, by go_num, rfl⟩
        case round =>
          obtain ⟨j, hj1, hj2, rfl, hsk⟩ := hrel
          by_cases hj3 : j < l.length
          · by_cases he : 64 ≤ (nth 0 l j).toNat ∧ (nth 0 l j).toNat ≤ 126
            · have f4 := (kindI_e ((nth 0 l j).toNat : Int)).2 (by omega)
              have Hs := Lib.hid (skip_stop l j hj3 he)
              clear he
              go_wp2_with (go_at_call 90; refine (kind_any _ _).mono ?_; rintro e w1 ⟨rfl, rfl⟩)
              exact ⟨⟨j + 1, out, by omega, by go_num, by rw [← Hout.out, Hr.out, hsk.out, Hs.out], by omega, hown, hb⟩, by simp [intOf]; omega⟩
            · have f4 : (kindI ((nth 0 l j).toNat : Int) != 101) = true := by
                cases h : (kindI ((nth 0 l j).toNat : Int) != 101) with
                | true => rfl
                | false => exact absurd ((kindI_e _).1 h) (by omega)
              have Hs := Lib.hid (skip_go l j hj3 he)
              clear he
              go_wp2_with (go_at_call 90; refine (kind_any _ _).mono ?_; rintro e w1 ⟨rfl, rfl⟩)
              go_round
              case rel => exact ⟨j + 1, by omega, by omega, by go_num, hsk.out.trans Hs.out⟩
              case measure => simp [intOf]; omega
          · have Hs := Lib.hid (skip_end l j (by omega))
            obtain rfl : j = l.length := by omega
            go_wp2_with fail
            exact ⟨⟨l.length + 1, out, by omega, by go_num, by rw [← Hout.out, Hr.out, hsk.out, Hs.out], by omega, hown, hb⟩, by simp [intOf]; omega⟩
      · have Hr := Lib.hid (restL_one l k hlt hesc)
        have hB : (((nth 0 l k).toNat : Int) == 27) = false ∨ ((((nth 0 l k).toNat : Int) == 27) = true ∧ (l.length : Int) ≤ (k : Int) + 1) ∨ ((((nth 0 l k).toNat : Int) == 27) = true ∧ (k : Int) + 1 < (l.length : Int) ∧ (((nth 0 l (k + 1)).toNat : Int) == 91) = false) := by
          by_cases q1 : (nth 0 l k).toNat = 27
          · by_cases q2 : k + 1 < l.length
            · exact .inr (.inr ⟨by simp [q1], by omega, by simp; intro q3; exact hesc ⟨q1, q2, by omega⟩⟩)
            · exact .inr (.inl ⟨by simp [q1], by omega⟩)
          · exact .inl (by simp; omega)
        clear hesc hbq hbq2
        rcases hB with f1 | ⟨f1, f2⟩ | ⟨f1, f2, f3⟩
        all_goals
          by_cases h32 : (nth 0 l k).toNat < 32
          · have f4 := (kindI_c ((nth 0 l k).toNat : Int)).2 (by omega)
            rw [if_pos h32] at Hr
            clear h32
            go_wp2_with (go_at_call 90; refine (kind_any _ _).mono ?_; rintro e w1 ⟨rfl, rfl⟩)
            exact ⟨⟨k + 1, out, by omega, by go_num, by rw [← Hout.out, Hr.out]; simp, by omega, hown, hb⟩, by simp [intOf]; omega⟩
          · have f4 : (kindI ((nth 0 l k).toNat : Int) != 99) = true := by
              cases h : (kindI ((nth 0 l k).toNat : Int) != 99) with
              | true => rfl
              | false => exact absurd ((kindI_c _).1 h) (by omega)
            rw [if_neg h32] at Hr
            clear h32
            go_wp2_with (first
              | (go_at_call 90; refine (kind_any _ _).mono ?_; rintro e w1 ⟨rfl, rfl⟩)
              | (at_builtin; refine wpList_append_own _ rfl _ _ 110 rfl w.heap.size 5 i0 (.int .u8 0) 1 1 Try.underlying110 hi hz0 hz1 hz2 rfl (by decide) _ _ _ rfl (hown.alloc _) ⟨wr.heap.size, 0, none⟩ 1 1 [.int .u8 (nth 0 l k).toNat] rfl rfl (cell_one_new _ _ _) (by simp [Value.oneCell']) (by unfold maxLen; omega) (by omega) (by have := hb.size; simp; omega) ?_; intro v' w1 hown' hgrow _; obtain ⟨g', cap', rfl⟩ := ownsRow_succ hown'))
            have hb1 : Below w.heap.size w w1 := hb.trans (below_append hown hb.size hgrow)
            exact ⟨⟨k + 1, out ++ [nth 0 l k], by omega, by go_num, by rw [← Hout.out, Hr.out]; simp, by simp; omega, by rw [u8s_snoc]; simpa using hown', hb1⟩, by simp [intOf]; omega⟩
    · have he := restL_end l k (by omega)
      have hcv := conv_own hown
      have Hfin : Hid (out = stripL l) := by have := Hout.out; rw [he, List.append_nil] at this; exact this
      clear he
      go_wp2
      go_ret
      exact ⟨ret_str (by rw [Hfin.out]), hb⟩
end Go.Proofs.Ytcihcjlaamfjfaa
