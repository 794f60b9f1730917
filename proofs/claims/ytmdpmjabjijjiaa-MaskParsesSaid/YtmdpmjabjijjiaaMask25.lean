/- The reference mask: at, behind, print. No condition. -/
import Derived.Test.YtmdpmjabjijjiaaMask23
namespace Go.Proofs.Ytmdpmjabjijjiaa
set_option linter.unusedVariables false
set_option linter.unusedSimpArgs false
open Go.RowKit Go.Shelf Go.Maps
set_option maxRecDepth 100000 in
set_option maxHeartbeats 4000000 in
theorem refAt34_any {w : World} {a : Option Addr} {n c : Nat} {L : PL} (h : RefAt w a n c L) (hL : PLok L) (hS : slotsL L ≠ []) (f : List UInt8) (hf : f.length ≤ 1100000) : Calls Try.prog 66 #[.agg #[.slice a n c], .string (S f)] w fun e w' => e = .returned (.int .i64 (atL L f : Nat)) ∧ Below w.heap.size w w' := by
  obtain ⟨W1, hW1, hcx, hR, hb1, hs1⟩ := box_new h 45
  have CM := (fun W hb => refFits34_any (w := W) (hR.below hb) hL hS f hf)
  have CC := Lib.hid (fun W => refCut_any f hf W)
  have hrow := hR.row
  have hn : n ≤ 300 := by rw [h.len]; exact hL.len
  have HN := Lib.hid h.len
  have hzl := cutL_len f
  obtain ⟨Z, hZ⟩ : ∃ Z, Z = atL L f := ⟨_, rfl⟩
  rw [← hZ]
  unfold atL at hZ
  obtain ⟨D, hD⟩ : ∃ D, D = cutL f := ⟨_, rfl⟩
  rw [← hD] at hZ CC hzl
  clear h hL hD hS hR
  cases hfit : fitsL L f with
  | false =>
    rw [hfit] at CM hZ
    rw [if_neg (by simp)] at hZ
    subst hZ
    have CM := Lib.hid CM
    clear hfit
    go_enter Try.func66, Try.ntmps66
    go_wp2_with fail
    refine (CM.out _ (Below.refl _ _)).mono ?_
    rintro e w2 ⟨rfl, hb2⟩
    go_wp2
    go_ret
    exact ⟨rfl, bnext hb1 hb2⟩
  | true =>
    rw [hfit] at CM hZ
    rw [if_pos rfl] at hZ
    have CM := Lib.hid CM
    have HZ := Lib.hid hZ
    clear hfit hZ
    go_enter Try.func66, Try.ntmps66
    go_wp2_with fail
    refine (CM.out _ (Below.refl _ _)).mono ?_
    rintro e w2 ⟨rfl, hb2⟩
    go_wp2_with (go_at_call 22; refine (CC.out _).mono ?_; rintro e w3 ⟨a3, n3, c3, hn3, hnc3, hcm3, rfl, hrow3, hb3, _⟩; obtain rfl : n3 = D.length := hn3; have hB3 := bnext hb2 hb3)
    go_loopw [6, 5] (fun i v wr => ∃ k r : Nat, k ≤ n ∧ i = .int .i64 (k : Int) ∧ v = .int .i64 (r : Int) ∧ r ≤ 1100000 ∧ Hid (atN L D.length = k + atN (L.drop k) r) ∧ Below W1.heap.size W1 wr)
      (fun i _ _ => n - (intOf i).toNat)
    case atStart => exact ⟨0, D.length, Nat.zero_le _, rfl, rfl, by omega, Lib.hid (by simp), hB3⟩
    case round =>
      obtain ⟨k, r, hk, rfl, rfl, hr1, hst, hbr⟩ := hrel
      have hbs := hbr.size
      have hdx := (hbr.cell (p := ⟨w.heap.size, 0, none⟩) (by show w.heap.size < _; omega)).trans hcx
      by_cases hlt : k < n
      · have hkL : k < L.length := by rw [← HN.out]; exact hlt
        obtain ⟨b, off, rfl, hb, hc0, hc1⟩ := rv_at hrow k hkL
        have hd0 := (hbr.cell (p := ⟨b, off + k * 2, none⟩) hb).trans hc0
        have hst2 : atN (L.drop k) r = if (nth pd L k).1 = 0 then 1 + atN (L.drop (k + 1)) r else if r = 0 then 0 else 1 + atN (L.drop (k + 1)) (r - 1) := by rw [drop_piece hkL]; rfl
        obtain ⟨q, hq⟩ : ∃ q, q = (nth pd L k).1 := ⟨_, rfl⟩
        rw [← hq] at hd0 hst2
        by_cases h0 : q = 0
        · rw [decide_eq_true h0, Bool.not_true] at hd0
          rw [if_pos h0] at hst2
          have HST := Lib.hid hst2
          clear hst2 hc0 hc1 hkL hq h0
          go_wp2
          go_roundw
          case rel => exact ⟨k + 1, r, by omega, by go_num, rfl, hr1, Lib.hid (by rw [hst.out, HST.out]; omega), hbr⟩
          case measure => simp [intOf]; omega
        · rw [decide_eq_false h0, Bool.not_false] at hd0
          rw [if_neg h0] at hst2
          by_cases hr0 : r = 0
          · subst hr0
            rw [if_pos rfl] at hst2
            have HST := Lib.hid hst2
            clear hst2 hc0 hc1 hkL hq h0
            go_wp2
            go_ret
            exact ⟨by rw [HZ.out, hst.out, HST.out]; rfl, bnext hb1 hbr⟩
          · have hr2 : ((r : Int) == 0) = false := by simp; omega
            rw [if_neg hr0] at hst2
            have hr3 : 1 ≤ r := by omega
            have HST := Lib.hid hst2
            clear hst2 hc0 hc1 hkL hq h0 hr0
            go_wp2
            go_roundw
            case rel => exact ⟨k + 1, r - 1, by omega, by go_num, by go_num, by omega, Lib.hid (by rw [hst.out, HST.out]; omega), hbr⟩
            case measure => simp [intOf]; omega
      · obtain rfl : k = n := by omega
        have hZL : Z = k := by
          rw [HZ.out, hst.out, List.drop_of_length_le (by rw [HN.out]; omega)]; rfl
        have HZL := Lib.hid hZL
        clear hZL
        go_wp2
        go_ret
        exact ⟨by rw [HZL.out]; rfl, bnext hb1 hbr⟩
set_option maxRecDepth 100000 in
set_option maxHeartbeats 4000000 in
theorem refBehind_any {w : World} {a : Option Addr} {n c : Nat} {L : PL} (h : RefAt w a n c L) (hL : L.length ≤ 300) (m : Nat) (hm : m ≤ 1100000) : Calls Try.prog 108 #[.agg #[.slice a n c], .int .i64 m] w fun e w' => e = .returned (.int .i64 (behN L m : Nat)) ∧ Below w.heap.size w w' := by
  obtain ⟨W1, hW1, hcx, hR, hb1, hs1⟩ := box_new h 45
  have hrow := hR.row
  have hn : n ≤ 300 := by rw [h.len]; exact hL
  have HN := Lib.hid h.len
  obtain ⟨Z, hZ⟩ : ∃ Z, Z = behN L m := ⟨_, rfl⟩
  rw [← hZ]
  have HZ := Lib.hid hZ
  clear h hR hZ
  go_enter Try.func108, Try.ntmps108
  go_wp2
  go_loopw [5, 1] (fun i v wr => ∃ k r : Nat, k ≤ n ∧ i = .int .i64 (k : Int) ∧ v = .int .i64 (r : Int) ∧ r ≤ 1100000 ∧ Hid (behN L m = k + behN (L.drop k) r) ∧ Below W1.heap.size W1 wr)
    (fun i _ _ => n - (intOf i).toNat)
  case atStart => exact ⟨0, m, Nat.zero_le _, rfl, rfl, hm, Lib.hid (by simp), Below.refl _ _⟩
  case round =>
    obtain ⟨k, r, hk, rfl, rfl, hr1, hst, hbr⟩ := hrel
    have hbs := hbr.size
    have hdx := (hbr.cell (p := ⟨w.heap.size, 0, none⟩) (by show w.heap.size < _; omega)).trans hcx
    by_cases hr0 : r = 0
    · subst hr0
      have hZL : Z = k := by rw [HZ.out, hst.out, behN_zero]; omega
      have HZL := Lib.hid hZL
      clear hZL
      go_wp2
      go_ret
      exact ⟨by rw [HZL.out]; rfl, bnext hb1 hbr⟩
    · obtain ⟨r', rfl⟩ : ∃ r', r = r' + 1 := ⟨r - 1, by omega⟩
      have hr2 : (0 : Int) < ((r' + 1 : Nat) : Int) := by omega
      by_cases hlt : k < n
      · have hkL : k < L.length := by rw [← HN.out]; exact hlt
        obtain ⟨b, off, rfl, hb, hc0, hc1⟩ := rv_at hrow k hkL
        have hd0 := (hbr.cell (p := ⟨b, off + k * 2, none⟩) hb).trans hc0
        have hst2 : behN (L.drop k) (r' + 1) = 1 + behN (L.drop (k + 1)) (if (nth pd L k).1 = 0 then r' + 1 else r') := by rw [drop_piece hkL]; rfl
        obtain ⟨q, hq⟩ : ∃ q, q = (nth pd L k).1 := ⟨_, rfl⟩
        rw [← hq] at hd0 hst2
        by_cases h0 : q = 0
        · rw [decide_eq_true h0, Bool.not_true] at hd0
          rw [if_pos h0] at hst2
          have HST := Lib.hid hst2
          clear hst2 hc0 hc1 hkL hq h0 hr0
          go_wp2
          go_roundw
          case rel => exact ⟨k + 1, r' + 1, by omega, by go_num, rfl, hr1, Lib.hid (by rw [hst.out, HST.out]; omega), hbr⟩
          case measure => simp [intOf]; omega
        · rw [decide_eq_false h0, Bool.not_false] at hd0
          rw [if_neg h0] at hst2
          have HST := Lib.hid hst2
          clear hst2 hc0 hc1 hkL hq h0 hr0
          go_wp2
          go_roundw
          case rel => exact ⟨k + 1, r', by omega, by go_num, by go_num, by omega, Lib.hid (by rw [hst.out, HST.out]; omega), hbr⟩
          case measure => simp [intOf]; omega
      · obtain rfl : k = n := by omega
        have hZL : Z = k := by
          rw [HZ.out, hst.out, List.drop_of_length_le (by rw [HN.out]; omega)]; rfl
        have HZL := Lib.hid hZL
        clear hZL
        go_wp2
        go_ret
        exact ⟨by rw [HZL.out]; rfl, bnext hb1 hbr⟩
set_option maxRecDepth 100000 in
set_option maxHeartbeats 4000000 in
theorem refPrint_any {w : World} {a : Option Addr} {n c : Nat} {L : PL} (h : RefAt w a n c L) (hL : PLok L) : Calls Try.prog 43 #[.agg #[.slice a n c]] w fun e w' => e = .returned (.string (S (printL L))) ∧ Below w.heap.size w w' := by
  obtain ⟨W1, hW1, hcx, hR, hb1, hs1⟩ := box_new h 45
  have hrow := hR.row
  have hn : n ≤ 300 := by rw [h.len]; exact hL.len
  have HN := Lib.hid h.len
  have HL := Lib.hid hL
  clear h hR hL
  go_enter Try.func43, Try.ntmps43
  go_wp2
  go_loopw [4, 3] (fun i v wr => ∃ k : Nat, k ≤ n ∧ i = .int .i64 (k : Int) ∧ v = .string (S (printL (L.take k))) ∧ Below W1.heap.size W1 wr)
    (fun i _ _ => n - (intOf i).toNat)
  case atStart => exact ⟨0, Nat.zero_le _, rfl, rfl, Below.refl _ _⟩
  case round =>
    obtain ⟨k, hk, rfl, rfl, hbr⟩ := hrel
    have hbs := hbr.size
    have hdx := (hbr.cell (p := ⟨w.heap.size, 0, none⟩) (by show w.heap.size < _; omega)).trans hcx
    by_cases hlt : k < n
    · have hkL : k < L.length := by rw [← HN.out]; exact hlt
      obtain ⟨b, off, rfl, hb, hc0, hc1⟩ := rv_at hrow k hkL
      have hd0 := (hbr.cell (p := ⟨b, off + k * 2, none⟩) hb).trans hc0
      have hd1 := (hbr.cell (p := ⟨b, off + k * 2 + 1, none⟩) hb).trans hc1
      have hst : printL (L.take (k + 1)) = printL (L.take k) ++ printP (nth pd L k) := by rw [take_snoc L k hkL, printL_snoc]
      unfold printP at hst
      have hpl := printL_len (L.take k) (HL.out.take k).clu
      rw [List.length_take] at hpl
      have hcl := (HL.out.at_ hkL).1.len
      obtain ⟨q, hq⟩ : ∃ q, q = (nth pd L k).1 := ⟨_, rfl⟩
      obtain ⟨s, hs⟩ : ∃ s, s = (nth pd L k).2 := ⟨_, rfl⟩
      obtain ⟨X, hX⟩ : ∃ X, X = printL (L.take k) := ⟨_, rfl⟩
      rw [← hq] at hd0
      rw [← hs] at hd1 hcl
      rw [← hq, ← hs, ← hX] at hst
      rw [← hX] at hpl ⊢
      have hXl : X.length ≤ 20000 := by omega
      have hsX := S_size X
      have hsS := S_size s
      have CS := (fun W => letter_any s W)
      have hs92 := S_const s [92]
      have hap1 : S X ++ ({ data := #[92] } : ByteArray) = S (X ++ [92]) := S_append X [92]
      have hsX2 : (S (X ++ [92])).size = X.length + 1 := by rw [S_size]; simp
      have HAP2 := Lib.hid (S_append (X ++ [92]) s)
      have HAP := Lib.hid (S_append X s)
      clear hq hs hX hc0 hc1 hkL hpl
      by_cases h0 : q = 0
      · rw [decide_eq_true h0, Bool.not_true] at hd0
        by_cases hl : sortB s = 0
        · rw [decide_eq_true hl, Bool.not_true] at CS
          have CS := Lib.hid CS
          by_cases h1 : s = [92]
          · rw [decide_eq_true h1] at hs92
            rw [if_pos ⟨h0, .inl h1⟩] at hst
            have HST := Lib.hid hst
            clear h0 h1 hst hl
            go_wp2_with (go_at_call 95; refine (CS.out _).mono ?_; rintro e w5 ⟨rfl, rfl⟩)
            go_roundw
            case rel => exact ⟨k + 1, by omega, by go_num, by rw [HST.out, HAP2.out, List.append_assoc]; rfl, hbr.alloc hbs _⟩
            case measure => simp [intOf]; omega
          · rw [decide_eq_false h1] at hs92
            rw [if_neg (by simp [h1, hl])] at hst
            have HST := Lib.hid hst
            clear h0 h1 hst hl
            go_wp2_with (go_at_call 95; refine (CS.out _).mono ?_; rintro e w5 ⟨rfl, rfl⟩)
            go_roundw
            case rel => exact ⟨k + 1, by omega, by go_num, by rw [HST.out, HAP.out], hbr.alloc hbs _⟩
            case measure => simp [intOf]; omega
        · rw [decide_eq_false hl, Bool.not_false] at CS
          have CS := Lib.hid CS
          rw [if_pos ⟨h0, .inr hl⟩] at hst
          have HST := Lib.hid hst
          clear h0 hst hl
          go_wp2_with (go_at_call 95; refine (CS.out _).mono ?_; rintro e w5 ⟨rfl, rfl⟩)
          go_roundw
          case rel => exact ⟨k + 1, by omega, by go_num, by rw [HST.out, HAP2.out, List.append_assoc]; rfl, hbr.alloc hbs _⟩
          case measure => simp [intOf]; omega
      · rw [decide_eq_false h0, Bool.not_false] at hd0
        rw [if_neg (by simp [h0])] at hst
        have HST := Lib.hid hst
        clear h0 hst
        go_wp2
        go_roundw
        case rel => exact ⟨k + 1, by omega, by go_num, by rw [HST.out, HAP.out], hbr.alloc hbs _⟩
        case measure => simp [intOf]; omega
    · obtain rfl : k = n := by omega
      have hT : L.take k = L := List.take_of_length_le (by rw [HN.out]; omega)
      rw [hT]
      go_wp2
      go_ret
      exact ⟨rfl, bnext hb1 hbr⟩
end Go.Proofs.Ytmdpmjabjijjiaa
