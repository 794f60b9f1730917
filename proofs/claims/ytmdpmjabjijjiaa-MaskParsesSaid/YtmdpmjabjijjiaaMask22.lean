/- The reference mask: where it lies; slots. No condition. -/
import Derived.Test.YtmdpmjabjijjiaaMask20
namespace Go.Proofs.Ytmdpmjabjijjiaa
set_option linter.unusedVariables false
set_option linter.unusedSimpArgs false
open Go.RowKit Go.Shelf Go.Maps
/-- The reference's mask, handed over as a value: its pieces where they lie. -/
structure RefAt (w : World) (a : Option Addr) (n c : Nat) (L : PL) : Prop where
  len : n = L.length
  cap : n ≤ c
  max : c ≤ maxLen
  row : RowAt w.heap.size w a (RV L)
theorem RefAt.below {w w' : World} {a : Option Addr} {n c : Nat} {L : PL} (h : RefAt w a n c L) (hb : Below w.heap.size w w') : RefAt w' a n c L :=
  ⟨h.len, h.cap, h.max, (h.row.below hb).more hb.size⟩
theorem box_new {w : World} {a : Option Addr} {n c : Nat} {L : PL} (h : RefAt w a n c L) (T : TypeId) :
    ∃ W, w.alloc (.cells #[.slice a n c] T) = W ∧ W.cell? ⟨w.heap.size, 0, none⟩ = some (.slice a n c) ∧ RefAt W a n c L ∧ Below w.heap.size w W ∧ W.heap.size = w.heap.size + 1 :=
  ⟨_, rfl, (cell_new_l w _ _).1, h.below ((Below.refl _ _).alloc (Nat.le_refl _) _), (Below.refl _ _).alloc (Nat.le_refl _) _, by simp⟩
/-- A slice of these strings. -/
def StrsP (l : List (List UInt8)) (w : World) (e : Ending) (w' : World) : Prop :=
  ∃ a n c, n = l.length ∧ n ≤ c ∧ c ≤ maxLen ∧ e = .returned (.slice a n c) ∧ RowAt w'.heap.size w' a (strV l) ∧ Below w.heap.size w w'
theorem below_new {w W w' : World} (hb : Below w.heap.size w W) (h : Below W.heap.size W w') : Below w.heap.size w w' := bnext hb h
set_option maxRecDepth 100000 in
set_option maxHeartbeats 4000000 in
theorem refSlots_any {w : World} {a : Option Addr} {n c : Nat} {L : PL} (h : RefAt w a n c L) (hL : L.length ≤ 300) : Calls Try.prog 45 #[.agg #[.slice a n c]] w (StrsP (slotStrs L) w) := by
  obtain ⟨i0, hi, hz0, hz1, hz2⟩ := info_parts infoStrc
  obtain ⟨W1, hW1, hcx, hR, hb1, hs1⟩ := box_new h 45
  have hrow := hR.row
  have hn : n ≤ 300 := by rw [h.len]; exact hL
  have HN := Lib.hid h.len
  clear h hR
  go_enter Try.func45, Try.ntmps45
  go_wp2
  go_loopw [4, 3] (fun i v wr => ∃ k : Nat, k ≤ n ∧ i = .int .i64 (k : Int) ∧ wr.ownsRow W1.heap.size 9 1 v (slotStrs (L.take k)).length (strV (slotStrs (L.take k))) ∧ Below W1.heap.size W1 wr)
    (fun i _ _ => n - (intOf i).toNat)
  case atStart => exact ⟨0, Nat.zero_le _, rfl, by rw [List.take_zero]; exact World.ownsRow_nil _ _ _ _, Below.refl _ _⟩
  case round =>
    obtain ⟨k, hk, rfl, ho, hbr⟩ := hrel
    have hbs := hbr.size
    have hdx := (hbr.cell (p := ⟨w.heap.size, 0, none⟩) (by show w.heap.size < _; omega)).trans hcx
    obtain ⟨a1, c1, rfl⟩ := own_slice ho
    by_cases hlt : k < n
    · have hkL : k < L.length := by rw [← HN.out]; exact hlt
      obtain ⟨b, off, rfl, hb, hc0, hc1⟩ := rv_at hrow k hkL
      have hd0 := (hbr.cell (p := ⟨b, off + k * 2, none⟩) hb).trans hc0
      have hd1 := (hbr.cell (p := ⟨b, off + k * 2 + 1, none⟩) hb).trans hc1
      have hsl := slotStrs_len (L.take k)
      have hsl2 := slotsL_len (L.take k)
      rw [List.length_take] at hsl2
      have hst : slotStrs (L.take (k + 1)) = slotStrs (L.take k) ++ (if (nth pd L k).1 = 0 then [] else [(nth pd L k).2]) := by rw [take_snoc L k hkL, slotStrs_snoc]
      obtain ⟨q, hq⟩ : ∃ q, q = (nth pd L k).1 := ⟨_, rfl⟩
      obtain ⟨s, hs⟩ : ∃ s, s = (nth pd L k).2 := ⟨_, rfl⟩
      obtain ⟨X, hX⟩ : ∃ X, X = slotStrs (L.take k) := ⟨_, rfl⟩
      rw [← hq] at hd0 hst
      rw [← hs] at hd1 hst
      rw [← hX] at ho hsl hst ⊢
      have hXl : X.length ≤ 300 := by omega
      have HST := Lib.hid hst
      have HNX := Lib.hid hX
      clear hq hs hX hst hc0 hc1 hkL hsl hsl2
      by_cases h0 : q = 0
      · rw [decide_eq_true h0, Bool.not_true] at hd0
        rw [if_pos h0, List.append_nil] at HST
        clear h0
        go_wp2
        go_roundw
        case rel => exact ⟨k + 1, by omega, by go_num, by rw [HST.out]; exact ho, hbr⟩
        case measure => simp [intOf]; omega
      · rw [decide_eq_false h0, Bool.not_false] at hd0
        rw [if_neg h0] at HST
        clear h0
        go_wp2_with (at_builtin; refine wpList_append_own _ rfl (.tmp 18) (.tmp 25) 23 rfl W1.heap.size 9 i0 (.string ⟨#[]⟩) 1 16 Try.underlying23 hi hz0 hz1 hz2 rfl (by decide) (.slice a1 X.length c1) X.length (strV X) rfl (ho.alloc _) ⟨wr.heap.size, 0, none⟩ 1 1 [.string (S s)] rfl rfl (int_one wr (.string (S s)) 9) (by intro u hu; rw [List.mem_singleton.1 hu]; rfl) (by unfold maxLen; omega) (by omega) (by simp; omega) ?_; intro v4 w4 ho4 hg4 _; obtain ⟨g4, c4, rfl⟩ := own_ne ho4 (by omega))
        have hb4 : Below W1.heap.size W1 w4 := (hbr.alloc hbs _).grown hg4 (by simp; omega) (fun k e => (own_row ho k e).1)
        go_roundw
        case rel => exact ⟨k + 1, by omega, by go_num, by rw [HST.out, strV_snoc, List.length_append]; exact ho4, hb4⟩
        case measure => simp [intOf]; omega
    · obtain rfl : k = n := by omega
      have hT : L.take k = L := List.take_of_length_le (by rw [HN.out]; omega)
      rw [hT] at ho ⊢
      clear hT
      go_wp2
      go_ret
      obtain ⟨hr, hnc, hcm⟩ := own_row_at ho
      exact ⟨a1, _, c1, rfl, hnc, hcm, rfl, hr, bnext hb1 hbr⟩
set_option maxRecDepth 100000 in
set_option maxHeartbeats 4000000 in
theorem refFits34_any {w : World} {a : Option Addr} {n c : Nat} {L : PL} (h : RefAt w a n c L) (hL : PLok L) (hS : slotsL L ≠ []) (f : List UInt8) (hf : f.length ≤ 1100000) : Calls Try.prog 47 #[.agg #[.slice a n c], .string (S f)] w fun e w' => e = .returned (.bool (fitsL L f)) ∧ Below w.heap.size w w' := by
  obtain ⟨W1, hW1, hcx, hR, hb1, hs1⟩ := box_new h 45
  have CS := Lib.hid (fun W hb => refSlots_any (w := W) (hR.below hb) hL.len)
  have CC := Lib.hid (fun W => refCut_any f hf W)
  have CF := Lib.hid (fun W => refFlat_any f hf W)
  have hzl := cutL_len f
  have hsl := slotsL_len L
  have hsl2 := slotStrs_len L
  have hLl := hL.len
  have hsort := slot_sort hL
  obtain ⟨Z, hZ⟩ : ∃ Z, Z = fitsL L f := ⟨_, rfl⟩
  rw [← hZ]
  unfold fitsL at hZ
  rw [decide_eq_false hS, Bool.not_false, Bool.true_and] at hZ
  have hcp := fun k => @cut_pos f k
  obtain ⟨K, hK⟩ : ∃ K, K = slotStrs L := ⟨_, rfl⟩
  obtain ⟨D, hD⟩ : ∃ D, D = cutL f := ⟨_, rfl⟩
  obtain ⟨F, hF⟩ : ∃ F, F = flatL f := ⟨_, rfl⟩
  rw [← hsl2] at hZ
  rw [hsort] at hZ
  rw [← hK] at CS hsl2 hZ
  rw [← hD] at CC hzl hcp hZ
  rw [← hF] at CF hZ
  have hKl : K.length ≤ 300 := by omega
  have HCP := Lib.hid hcp
  have hse := S_eq F f
  clear h hR hL hK hD hF hcp hsort hsl2 hsl hLl hS
  by_cases h3 : F = f
  · rw [decide_eq_true h3] at hse hZ
    rw [Bool.true_and] at hZ
    have hse2 : ((S F).toList != (S f).toList) = false := by simp [bne, hse]
    clear h3
    by_cases h2 : K.length < D.length
    · have hz0 : Z = false := by rw [hZ, decide_eq_true h2]; rfl
      subst hz0
      have h2' : (K.length : Int) < (D.length : Int) := by omega
      clear hZ h2
      go_enter Try.func47, Try.ntmps47
      go_wp2_with fail
      refine (CC.out _).mono ?_
      rintro e w2 ⟨a2, n2, c2, hn2, hnc2, hcm2, rfl, hrow2, hb2, _⟩
      have hdx := (hb2.cell (p := ⟨w.heap.size, 0, none⟩) (by show w.heap.size < _; omega)).trans hcx
      go_wp2_with (first
        | (go_at_call 45; refine (CS.out _ hb2).mono ?_; rintro e w3 ⟨a3, n3, c3, hn3, hnc3, hcm3, rfl, hrow3, hb3⟩)
        | (go_at_call 20; refine (CF.out _).mono ?_; rintro e w4 ⟨rfl, hb4⟩))
      go_ret
      exact ⟨rfl, bnext (bnext (bnext hb1 hb2) hb3) hb4⟩
    · have h2' : ¬ (K.length : Int) < (D.length : Int) := by omega
      rw [decide_eq_false h2, Bool.not_false, Bool.true_and] at hZ
      have HZ := Lib.hid hZ
      clear hZ
      go_enter Try.func47, Try.ntmps47
      go_wp2_with fail
      refine (CC.out _).mono ?_
      rintro e w2 ⟨a2, n2, c2, hn2, hnc2, hcm2, rfl, hrow2, hb2, _⟩
      have hdx := (hb2.cell (p := ⟨w.heap.size, 0, none⟩) (by show w.heap.size < _; omega)).trans hcx
      go_wp2_with (first
        | (go_at_call 45; refine (CS.out _ hb2).mono ?_; rintro e w3 ⟨a3, n3, c3, hn3, hnc3, hcm3, rfl, hrow3, hb3⟩)
        | (go_at_call 20; refine (CF.out _).mono ?_; rintro e w4 ⟨rfl, hb4⟩))
      replace hrow2 := (hrow2.below (bnext hb3 hb4)).more (bnext hb3 hb4).size
      replace hrow3 := (hrow3.below hb4).more hb4.size
      have hB4 := bnext (bnext (bnext hb1 hb2) hb3) hb4
      have hDK : D.length ≤ K.length := by omega
      clear hb1 hb2 hb3 hb4 hdx
      go_loopw [7] (fun i wr => ∃ k : Nat, k ≤ D.length ∧ i = .int .i64 (k : Int) ∧ Hid (allFit (K.map sortB) D = allFit ((K.map sortB).drop k) (D.drop k)) ∧ Below w4.heap.size w4 wr) (fun i _ => D.length - (intOf i).toNat)
      case atStart => exact ⟨0, Nat.zero_le _, rfl, Lib.hid rfl, Below.refl _ _⟩
      case round =>
        obtain ⟨k, hk, rfl, hst, hbr⟩ := hrel
        by_cases hlt : k < D.length
        · have hkK : k < K.length := by omega
          obtain ⟨b1, o1, rfl, hb1, hc1⟩ := strs_at hrow3 k hkK
          obtain ⟨b2, o2, rfl, hb2, hc2⟩ := strs_at hrow2 k hlt
          have hd1 := (hbr.cell (p := ⟨b1, o1 + k, none⟩) hb1).trans hc1
          have hd2 := (hbr.cell (p := ⟨b2, o2 + k, none⟩) hb2).trans hc2
          have hp := HCP.out k hlt
          have hs2 := allFit_step (K := K.map sortB) (D := D) (k := k) (by rw [List.length_map]; exact hkK) hlt
          have e0 : nth 0 (K.map sortB) k = sortB (nth [] K k) := by
            rw [nth_eq _ _ _ (by rw [List.length_map]; exact hkK), nth_eq _ _ _ hkK, List.getElem_map]
          rw [e0] at hs2
          obtain ⟨s, hs⟩ : ∃ s, s = nth [] K k := ⟨_, rfl⟩
          obtain ⟨x, hx⟩ : ∃ x, x = nth [] D k := ⟨_, rfl⟩
          rw [← hs] at hd1 hs2
          rw [← hx] at hd2 hp hs2
          have CR := Lib.hid (fun W => refFits_any s x hp.1 (by omega) W)
          clear hs hx hc1 hc2 e0
          cases hfb : fitsB (sortB s) x with
          | false =>
            rw [hfb] at CR hs2
            have hz0 : Z = false := by rw [HZ.out, hst.out, hs2]; rfl
            subst hz0
            clear hs2 hfb
            have CQ := Lib.hid (fun n => Calls.quiet_of_same ((CR.out (wr.drewN n)).mono fun e w' h => ⟨h.1, h.2.symm⟩))
            go_wp2
            go_quiet (exact CQ.out _)
            go_wp2
            go_ret
            exact ⟨rfl, bnext hB4 (below_drewN hbr nq)⟩
          | true =>
            rw [hfb] at CR hs2
            have HS2 := Lib.hid hs2
            clear hs2 hfb
            have CQ := Lib.hid (fun n => Calls.quiet_of_same ((CR.out (wr.drewN n)).mono fun e w' h => ⟨h.1, h.2.symm⟩))
            go_wp2
            go_quiet (exact CQ.out _)
            go_wp2
            go_roundw
            case rel => exact ⟨k + 1, by omega, by go_num, Lib.hid (by rw [hst.out, HS2.out, Bool.true_and]), below_drewN hbr nq⟩
            case measure => simp [intOf]; omega
        · obtain rfl : k = D.length := by omega
          have hz0 : Z = true := by rw [HZ.out, hst.out, allFit_end]
          subst hz0
          go_wp2
          go_ret
          exact ⟨rfl, bnext hB4 hbr⟩
  · have hz0 : Z = false := by
      rw [hZ, decide_eq_false h3]; simp
    subst hz0
    rw [decide_eq_false h3] at hse
    have hse2 : ((S F).toList != (S f).toList) = true := by simp [bne, hse]
    clear hZ h3
    go_enter Try.func47, Try.ntmps47
    go_wp2_with fail
    refine (CC.out _).mono ?_
    rintro e w2 ⟨a2, n2, c2, hn2, hnc2, hcm2, rfl, hrow2, hb2, _⟩
    have hdx := (hb2.cell (p := ⟨w.heap.size, 0, none⟩) (by show w.heap.size < _; omega)).trans hcx
    go_wp2_with (first
      | (go_at_call 45; refine (CS.out _ hb2).mono ?_; rintro e w3 ⟨a3, n3, c3, hn3, hnc3, hcm3, rfl, hrow3, hb3⟩)
      | (go_at_call 20; refine (CF.out _).mono ?_; rintro e w4 ⟨rfl, hb4⟩))
    go_ret
    exact ⟨rfl, bnext (bnext (bnext hb1 hb2) hb3) hb4⟩
end Go.Proofs.Ytmdpmjabjijjiaa
