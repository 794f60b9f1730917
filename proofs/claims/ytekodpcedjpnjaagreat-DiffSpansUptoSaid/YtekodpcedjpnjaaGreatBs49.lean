/- The reference's diff: spans of a row. No condition. -/
import Derived.Test.YtekodpcedjpnjaaGreatBs39
set_option linter.unusedVariables false
set_option linter.unusedSimpArgs false
namespace Go.Proofs.YtekodpcedjpnjaaGreat
open Go.RowKit Go.Shelf Go.Maps
structure BoolsAt (W : World) (a : Option Addr) (n : Nat) (L : List Bool) : Prop where
  len : L.length = n
  at_ : ∀ i, i < n → ∃ b off, a = some ⟨b, off, none⟩ ∧ b < W.heap.size ∧ W.cell? ⟨b, off + i, none⟩ = some (.bool (nth false L i))
theorem BoolsAt.below {W X : World} {a : Option Addr} {n : Nat} {L : List Bool} (h : BoolsAt W a n L) (hb : Below W.heap.size W X) : BoolsAt X a n L :=
  ⟨h.len, fun i hi => by
    obtain ⟨b, off, h1, h2, h3⟩ := h.at_ i hi
    exact ⟨b, off, h1, Nat.lt_of_lt_of_le h2 hb.size, (hb.cell (p := ⟨b, _, none⟩) h2).trans h3⟩⟩
theorem BoolsAt.of_own {W : World} {n₀ n c : Nat} {a : Option Addr} {L : List Bool} (hl : L.length = n) (h : W.ownsRow n₀ 4 1 (.slice a n c) n (L.map Value.bool)) : BoolsAt W a n L :=
  ⟨hl, fun i hi => by
    obtain ⟨gb, c, hv0, hgb, hc1, hc2⟩ := own_neS h (by omega)
    simp only [Value.slice.injEq, true_and] at hv0
    obtain ⟨rfl, rfl⟩ := hv0
    exact ⟨gb, 0, rfl, (own_block h).2, by rw [Nat.zero_add]; exact (own_get h (bv_get (i := i) (by omega))).1⟩⟩
theorem infoSpanR : (Tryz.prog.info? 172).map (fun i => (i.zero, i.size, i.bytes)) = some (some (.agg #[.int .i64 0, .int .i64 0, .int .i64 0]), 3, 24) := by kernel_rfl
set_option maxRecDepth 100000 in
set_option maxHeartbeats 8000000 in
theorem rspans_any {W : World} {a1 : Option Addr} {n c1 : Nat} {on : List Bool} (hL : BoolsAt W a1 n on) (hn : n ≤ 1000) (r : Nat) :
    Calls Tryz.prog 107 #[.int .i64 r, .slice a1 n c1] W fun e w' => ∃ v, e = .returned v ∧ w'.ownsRow W.heap.size 172 3 v (rowSp r on).length (spV (rowSp r on)) ∧ Below W.heap.size W w' := by
  obtain ⟨i0, hi0, hz0, hz1, hz2⟩ := info_parts infoSpanR
  have HOL := Lib.hid hL.len
  have HL := Lib.hid hL
  clear hL
  have hcnt := spansF_count on 0 none
  have hcnt : (spansF 0 none on).length ≤ n := by rw [HOL.out] at hcnt; simpa using hcnt
  go_enter Tryz.func107, Tryz.ntmps107
  go_wp2
  go_loopw [5, 6] (fun v i wr => ∃ (k : Nat) (L : List (Nat × Nat)), k ≤ n + 1 ∧ i = .int .i64 k ∧ wr.ownsRow W.heap.size 172 3 v L.length (spV (atSp r L)) ∧ Hid (L ++ spansF k none (on.drop k) = spansF 0 none on) ∧ Below W.heap.size W wr) (fun _ i _ => n + 1 - (intOf i).toNat)
  case atStart => exact ⟨0, [], Nat.zero_le _, rfl, World.ownsRow_nil _ _ _ _, Lib.hid rfl, Below.refl _ _⟩
  case round =>
    obtain ⟨k, L, hk, rfl, hown, HI, hb⟩ := hrel
    have hs := hb.size
    obtain ⟨av, cv, rfl⟩ := own_sliceF hown
    have hLn : L.length ≤ n := by
      have := congrArg List.length HI.out
      rw [List.length_append] at this
      omega
    by_cases hlt : k < n
    · obtain ⟨b, off, rfl, hbl, hc0⟩ := HL.out.at_ k hlt
      have hlti : (k : Int) < (n : Int) := by omega
      cases hv : nth false on k with
      | false =>
        have v0 := (hb.cell (p := ⟨b, _, none⟩) hbl).trans hc0
        rw [hv] at v0
        have HN : Hid (L ++ spansF (k + 1) none (on.drop (k + 1)) = spansF 0 none on) := Lib.hid (by rw [← HI.out, spansF_off on k (by rw [HOL.out]; exact hlt) hv])
        clear hv HI hc0
        go_wp2
        go_roundw
        case rel => exact ⟨k + 1, L, by omega, by go_num, hown, HN, hb⟩
        case measure => simp [intOf]; omega
      | true =>
        have v0 := (hb.cell (p := ⟨b, _, none⟩) hbl).trans hc0
        rw [hv] at v0
        have HV := Lib.hid hv
        clear hv
        go_wp2
        go_loopw [7] (fun j wx => ∃ m : Nat, k ≤ m ∧ m ≤ n ∧ j = .int .i64 m ∧ Hid (∀ x, k ≤ x → x < m → nth false on x = true) ∧ wr = wx) (fun j _ => n - (intOf j).toNat)
        case atStart => exact ⟨k, Nat.le_refl _, by omega, rfl, Lib.hid (fun x h1 h2 => absurd h2 (by omega)), rfl⟩
        case round =>
          clear v0
          obtain ⟨m, hkm, hmn, rfl, HT, rfl⟩ := hrel
          by_cases hgo : m < n ∧ nth false on m = true
          · obtain ⟨hm, hvm⟩ := hgo
            obtain ⟨b', off', e', _, hc1⟩ := HL.out.at_ m hm
            simp only [Option.some.injEq, Addr.mk.injEq, and_true] at e'
            obtain ⟨rfl, rfl⟩ := e'
            have v0 := (hb.cell (p := ⟨b, _, none⟩) hbl).trans hc1
            rw [hvm] at v0
            have HT2 : Hid (∀ x, k ≤ x → x < m + 1 → nth false on x = true) := Lib.hid (fun x h1 h2 => by
              by_cases h : x < m
              · exact HT.out x h1 h
              · obtain rfl : x = m := by omega
                exact hvm)
            have hmi : (m : Int) < (n : Int) := by omega
            clear hc1 hvm
            go_wp2
            go_roundw
            case rel => exact ⟨m + 1, by omega, hm, by go_num, HT2, trivial⟩
            case measure => simp [intOf]; omega
          · have hkm2 : k < m := by
              refine Classical.byContradiction fun h => ?_
              obtain rfl : m = k := by omega
              exact hgo ⟨hlt, HV.out⟩
            have hend : m = on.length ∨ nth false on m = false := by
              rw [HOL.out]
              by_cases hm : m < n
              · right
                cases hh : nth false on m with
                | false => rfl
                | true => exact absurd ⟨hm, hh⟩ hgo
              · left; omega
            have hrun := spansF_run on k m hkm2 (by rw [HOL.out]; exact hmn) HT.out hend
            have HN : Hid ((L ++ [(k, m)]) ++ spansF (m + 1) none (on.drop (m + 1)) = spansF 0 none on) := Lib.hid (by rw [← HI.out, hrun, List.append_assoc]; rfl)
            have hne : Hid (spV (atSp r (L ++ [(k, m)])) = spV (atSp r L) ++ [.int .i64 (r : Nat), .int .i64 (k : Nat), .int .i64 (m : Nat)]) := Lib.hid (by rw [atSp_app, spV_app]; rfl)
            have hll : Hid ((L ++ [(k, m)]).length = L.length + 1) := Lib.hid (by simp)
            have hnews := cells3 wr (.int .i64 (r : Nat)) (.int .i64 (k : Nat)) (.int .i64 (m : Nat)) 172
            have hone : ∀ u ∈ [Value.int .i64 (r : Nat), .int .i64 (k : Nat), .int .i64 (m : Nat)], u.oneCell' = true := fun u hu => by
              simp only [List.mem_cons, List.not_mem_nil, or_false] at hu
              rcases hu with rfl | rfl | rfl <;> rfl
            clear hrun hend HI HT hc0
            by_cases hm : m < n
            · obtain ⟨b', off', e', _, hc1⟩ := HL.out.at_ m hm
              simp only [Option.some.injEq, Addr.mk.injEq, and_true] at e'
              obtain ⟨rfl, rfl⟩ := e'
              have v0 := (hb.cell (p := ⟨b, _, none⟩) hbl).trans hc1
              have hvm : nth false on m = false := by
                cases hh : nth false on m with
                | false => rfl
                | true => exact absurd ⟨hm, hh⟩ hgo
              rw [hvm] at v0
              have hmi : (m : Int) < (n : Int) := by omega
              clear hc1 hvm hgo
              go_wp2_with (at_builtin; refine wpList_append_own_at _ rfl _ _ 75 rfl W.heap.size 172 i0 (.agg #[.int .i64 0, .int .i64 0, .int .i64 0]) 3 24 Tryz.underlying75 hi0 hz0 hz1 hz2 rfl (by decide) _ _ _ rfl (hown.alloc _) ⟨wr.heap.size, 0, none⟩ 1 1 [.int .i64 (r : Nat), .int .i64 (k : Nat), .int .i64 (m : Nat)] rfl rfl hnews hone (by unfold maxLen; omega) (by omega) (by simp; omega) ?_; intro v' w2 hown' hgrow _ _)
              have hB1 : Below W.heap.size wr w2 := ((Below.refl W.heap.size wr).alloc (by omega) _).grown hgrow (by simp; omega) (fun k e => (own_cells hown k e).1)
              go_roundw
              case rel => exact ⟨m + 1, L ++ [(k, m)], by omega, by go_num, by rw [hll.out, hne.out]; exact hown', HN, hb.trans hB1⟩
              case measure => simp [intOf]; omega
            · obtain rfl : m = n := by omega
              clear hgo
              go_wp2_with (at_builtin; refine wpList_append_own_at _ rfl _ _ 75 rfl W.heap.size 172 i0 (.agg #[.int .i64 0, .int .i64 0, .int .i64 0]) 3 24 Tryz.underlying75 hi0 hz0 hz1 hz2 rfl (by decide) _ _ _ rfl (hown.alloc _) ⟨wr.heap.size, 0, none⟩ 1 1 [.int .i64 (r : Nat), .int .i64 (k : Nat), .int .i64 (m : Nat)] rfl rfl hnews hone (by unfold maxLen; omega) (by omega) (by simp; omega) ?_; intro v' w2 hown' hgrow _ _)
              have hB1 : Below W.heap.size wr w2 := ((Below.refl W.heap.size wr).alloc (by omega) _).grown hgrow (by simp; omega) (fun k e => (own_cells hown k e).1)
              go_roundw
              case rel => exact ⟨m + 1, L ++ [(k, m)], by omega, by go_num, by rw [hll.out, hne.out]; exact hown', HN, hb.trans hB1⟩
              case measure => simp [intOf]; omega
    · have hfin : Hid (atSp r L = rowSp r on) := Lib.hid (by
        have := HI.out
        rw [spansF_past on k (by rw [HOL.out]; omega), List.append_nil] at this
        rw [this]; rfl)
      have hlen : Hid (L.length = (rowSp r on).length) := Lib.hid (by rw [← hfin.out]; unfold atSp; rw [List.length_map])
      have ho2 := hown
      rw [hfin.out, hlen.out] at ho2
      have HO2 := Lib.hid ho2
      have HLE : Hid (Value.slice av L.length cv = .slice av (rowSp r on).length cv) := Lib.hid (by rw [hlen.out])
      have hki : ¬ (k : Int) < (n : Int) := by omega
      clear ho2 hown HI
      go_wp2
      go_ret
      exact ⟨_, congrArg Ending.returned HLE.out, HO2.out, hb⟩
end Go.Proofs.YtekodpcedjpnjaaGreat
