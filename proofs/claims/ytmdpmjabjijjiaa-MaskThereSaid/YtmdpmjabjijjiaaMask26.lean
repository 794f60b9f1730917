/- The reference mask: show, read, feed. No condition. -/
import Derived.Test.YtmdpmjabjijjiaaMask23
namespace Go.Proofs.Ytmdpmjabjijjiaa
set_option linter.unusedVariables false
set_option linter.unusedSimpArgs false
open Go.RowKit Go.Shelf Go.Maps
theorem dropS {D : List (List UInt8)} {j : Nat} (h : j < D.length) : D.drop j = nth [] D j :: D.drop (j + 1) := by
  rw [List.drop_eq_getElem_cons h, nth_eq _ _ _ h]
set_option maxRecDepth 100000 in
set_option maxHeartbeats 4000000 in
theorem refShow_any {w : World} {a : Option Addr} {n c : Nat} {L : PL} (h : RefAt w a n c L) (hL : PLok L) (hS : slotsL L ≠ []) (f : List UInt8) (hf : f.length ≤ 1100000) : Calls Try.prog 65 #[.agg #[.slice a n c], .string (S f)] w fun e w' => e = .returned (.string (S (showL L f))) ∧ Below w.heap.size w w' := by
  obtain ⟨W1, hW1, hcx, hR, hb1, hs1⟩ := box_new h 45
  have CM := (fun W hb => refFits34_any (w := W) (hR.below hb) hL hS f hf)
  have CC := Lib.hid (fun W => refCut_any f hf W)
  have hrow := hR.row
  have hn : n ≤ 300 := by rw [h.len]; exact hL.len
  have HN := Lib.hid h.len
  have HL := Lib.hid hL
  have hzl := cutL_len f
  have hxl : ∀ x ∈ cutL f, x.length ≤ 64 := fun x hx => (clu_mem hx).len.2
  obtain ⟨Z, hZ⟩ : ∃ Z, Z = showL L f := ⟨_, rfl⟩
  rw [← hZ]
  unfold showL at hZ
  obtain ⟨D, hD⟩ : ∃ D, D = cutL f := ⟨_, rfl⟩
  rw [← hD] at hZ CC hzl hxl
  have HXL := Lib.hid hxl
  clear h hL hD hS hR hxl
  cases hfit : fitsL L f with
  | false =>
    rw [hfit] at CM hZ
    rw [if_neg (by simp)] at hZ
    subst hZ
    have CM := Lib.hid CM
    clear hfit
    go_enter Try.func65, Try.ntmps65
    go_wp2_with fail
    refine (CM.out _ (Below.refl _ _)).mono ?_
    rintro e w2 ⟨rfl, hb2⟩
    go_wp2
    go_ret
    exact ⟨rfl, bnext hb1 hb2⟩
  | true =>
    rw [hfit] at CM hZ
    rw [if_pos rfl] at hZ
    have CM := Lib.hid CM
    have HZ := Lib.hid hZ
    clear hfit hZ
    go_enter Try.func65, Try.ntmps65
    go_wp2_with fail
    refine (CM.out _ (Below.refl _ _)).mono ?_
    rintro e w2 ⟨rfl, hb2⟩
    go_wp2_with (go_at_call 22; refine (CC.out _).mono ?_; rintro e w3 ⟨a3, n3, c3, hn3, hnc3, hcm3, rfl, hrow3, hb3, _⟩; obtain rfl : n3 = D.length := hn3; have hB3 := bnext hb2 hb3)
    have hBs3 := hB3.size
    go_loopw [8, 6, 7] (fun i s v wr => ∃ (k j : Nat) (acc : List UInt8), k ≤ n ∧ i = .int .i64 (k : Int) ∧ v = .int .i64 (j : Int) ∧ j ≤ D.length ∧ s = .string (S acc) ∧ Hid ((L.take k).foldl showS (D, []) = (D.drop j, acc)) ∧ acc.length ≤ 64 * k ∧ Below w3.heap.size w3 wr)
      (fun i _ _ _ => n - (intOf i).toNat)
    case atStart => exact ⟨0, 0, [], Nat.zero_le _, rfl, rfl, Nat.zero_le _, rfl, Lib.hid rfl, by simp, Below.refl _ _⟩
    case round =>
      obtain ⟨k, j, acc, hk, rfl, rfl, hj, rfl, hst, hal, hbr⟩ := hrel
      have hbs := hbr.size
      have hbw := bnext hB3 hbr
      have hdx := (hbw.cell (p := ⟨w.heap.size, 0, none⟩) (by show w.heap.size < _; omega)).trans hcx
      by_cases hlt : k < n
      · have hkL : k < L.length := by rw [← HN.out]; exact hlt
        obtain ⟨b, off, rfl, hb, hc0, hc1⟩ := rv_at hrow k hkL
        have hd0 := (hbw.cell (p := ⟨b, off + k * 2, none⟩) hb).trans hc0
        have hd1 := (hbw.cell (p := ⟨b, off + k * 2 + 1, none⟩) hb).trans hc1
        have hst2 := showS_take L k hkL (D, [])
        rw [hst.out] at hst2
        unfold showS at hst2
        have hcl := (HL.out.at_ hkL).1.len
        obtain ⟨q, hq⟩ : ∃ q, q = (nth pd L k).1 := ⟨_, rfl⟩
        obtain ⟨s, hs⟩ : ∃ s, s = (nth pd L k).2 := ⟨_, rfl⟩
        rw [← hq] at hd0
        rw [← hs] at hd1 hcl
        rw [← hq, ← hs] at hst2
        have hsA := S_size acc
        have hsS := S_size s
        have HAP := Lib.hid (S_append acc s)
        have hal2 : acc.length ≤ 20000 := by omega
        by_cases h0 : q = 0
        · rw [decide_eq_true h0, Bool.not_true] at hd0
          rw [if_pos h0] at hst2
          have HST := Lib.hid hst2
          clear hst2 hc0 hc1 hkL hq hs h0
          go_wp2
          go_roundw
          case rel => exact ⟨k + 1, j, acc ++ s, by omega, by go_num, rfl, hj, by rw [HAP.out], Lib.hid HST.out, by rw [List.length_append]; omega, hbr⟩
          case measure => simp [intOf]; omega
        · rw [decide_eq_false h0, Bool.not_false] at hd0
          rw [if_neg h0] at hst2
          by_cases hjl : j < D.length
          · obtain ⟨b2, o2, rfl, hb2', hx1⟩ := strs_at hrow3 j hjl
            have hx2 := (hbr.cell (p := ⟨b2, o2 + j, none⟩) hb2').trans hx1
            have hx64 := HXL.out (nth [] D j) (by rw [nth_eq _ _ _ hjl]; exact List.getElem_mem hjl)
            rw [dropS hjl] at hst2
            obtain ⟨x, hx⟩ : ∃ x, x = nth [] D j := ⟨_, rfl⟩
            rw [← hx] at hx2 hx64 hst2
            have hsX := S_size x
            have HAX := Lib.hid (S_append acc x)
            have HST := Lib.hid hst2
            clear hst2 hc0 hc1 hkL hq hs h0 hx hx1
            go_wp2
            go_roundw
            case rel => exact ⟨k + 1, j + 1, acc ++ x, by omega, by go_num, by go_num, by omega, by rw [HAX.out], Lib.hid HST.out, by rw [List.length_append]; omega, hbr⟩
            case measure => simp [intOf]; omega
          · have hjl' : (D.length : Int) ≤ (j : Int) := by omega
            have hdr : D.drop j = [] := List.drop_of_length_le (by omega)
            rw [hdr] at hst2
            have hap1 : S acc ++ ({ data := #[95] } : ByteArray) = S (acc ++ [95]) := S_append acc [95]
            have HDR := Lib.hid hdr
            have HST := Lib.hid hst2
            clear hst2 hc0 hc1 hkL hq hs h0 hdr
            go_wp2
            go_roundw
            case rel => exact ⟨k + 1, j, acc ++ [95], by omega, by go_num, rfl, hj, rfl, Lib.hid (by rw [HDR.out]; exact HST.out), by rw [List.length_append]; simp; omega, hbr⟩
            case measure => simp [intOf]; omega
      · obtain rfl : k = n := by omega
        have hT : L.take k = L := List.take_of_length_le (by rw [HN.out]; omega)
        have hz : Z = acc := by
          rw [HZ.out]
          have := hst.out
          rw [hT] at this
          rw [this]
        subst hz
        go_wp2
        go_ret
        exact ⟨rfl, bnext hb1 hbw⟩
set_option maxRecDepth 100000 in
set_option maxHeartbeats 4000000 in
theorem refRead_any {w : World} {a : Option Addr} {n c : Nat} {L : PL} (h : RefAt w a n c L) (hL : PLok L) (hS : slotsL L ≠ []) (f : List UInt8) (hf : f.length ≤ 1100000) : Calls Try.prog 63 #[.agg #[.slice a n c], .string (S f)] w fun e w' => e = .returned (.tuple #[.string (S (readL L f).1), .bool (readL L f).2]) ∧ Below w.heap.size w w' := by
  obtain ⟨W1, hW1, hcx, hR, hb1, hs1⟩ := box_new h 45
  have CC := Lib.hid (fun W => refCut_any f hf W)
  have hrow := hR.row
  have hn : n ≤ 300 := by rw [h.len]; exact hL.len
  have HN := Lib.hid h.len
  have hzl := cutL_len f
  have hxl : ∀ x ∈ cutL f, x.length ≤ 64 := fun x hx => (clu_mem hx).len.2
  obtain ⟨Z, hZ⟩ : ∃ Z, Z = readL L f := ⟨_, rfl⟩
  rw [← hZ]
  unfold readL at hZ
  obtain ⟨D, hD⟩ : ∃ D, D = cutL f := ⟨_, rfl⟩
  rw [← hD] at hZ CC hzl hxl
  have hrl := readK_len (L := L) hxl L.length
  rw [readK_all L.length (Nat.le_refl _)] at hrl
  have hRl : (readT L D).length ≤ 1100000 := by have := hL.len; omega
  have CW := (fun W hb => refWhole_any (w := W) (hR.below hb) hL hS (readT L D) hRl)
  have CV := (fun W hb => refShow_any (w := W) (hR.below hb) hL hS (readT L D) hRl)
  have HKL := Lib.hid (readK_len (L := L) hxl)
  have hLn : 0 < L.length := List.length_pos_iff.2 (by rintro rfl; exact hS rfl)
  clear h hL hD hrl hS hR
  by_cases hDn : D.length = n
  · have hd1 : ((D.length : Int) != (n : Int)) = false := by rw [hDn]; simp
    have HDN := Lib.hid hDn
    have hxl2 := hxl
    clear hxl hDn
    obtain ⟨R, hR⟩ : ∃ R, R = readT L D := ⟨_, rfl⟩
    have HRK := Lib.hid (readK_all (L := L) (D := D) n (by rw [← HN.out]; omega))
    rw [← hR] at HRK CW CV hZ hRl
    obtain ⟨V, hV⟩ : ∃ V, V = showL L R := ⟨_, rfl⟩
    rw [← hV] at CV hZ
    have HXL := Lib.hid hxl2
    have hDL : D.length = L.length := by rw [HDN.out, HN.out]
    have HDL := Lib.hid hDL
    have hse := S_eq V f
    have CV := Lib.hid CV
    clear hR hV hxl2
    have CWH := Lib.hid CW
    have HZ := Lib.hid hZ
    have HLP := Lib.hid hLn
    clear CW hZ hDL hLn
    go_enter Try.func63, Try.ntmps63
    go_wp2_with fail
    refine (CC.out _).mono ?_
    rintro e w2 ⟨a2, n2, c2, hn2, hnc2, hcm2, rfl, hrow2, hb2, _⟩
    obtain rfl : n2 = D.length := hn2
    have hdx2 := (hb2.cell (p := ⟨w.heap.size, 0, none⟩) (by show w.heap.size < _; omega)).trans hcx
    go_wp2
    have hBs := hb2.size
    go_loopw [8, 7] (fun i s wr => ∃ k : Nat, k ≤ n ∧ i = .int .i64 (k : Int) ∧ s = .string (S (readK L D k)) ∧ Below w2.heap.size w2 wr)
      (fun i _ _ => n - (intOf i).toNat)
    case atStart => exact ⟨0, Nat.zero_le _, rfl, rfl, Below.refl _ _⟩
    case round =>
      obtain ⟨k, hk, rfl, rfl, hbr⟩ := hrel
      have hbs := hbr.size
      have hbw := bnext hb2 hbr
      have hdx := (hbw.cell (p := ⟨w.heap.size, 0, none⟩) (by show w.heap.size < _; omega)).trans hcx
      by_cases hlt : k < n
      · have hkL : k < L.length := by rw [← HN.out]; exact hlt
        have hkD : k < D.length := by rw [HDL.out]; exact hkL
        obtain ⟨b, off, rfl, hb, hc0, hc1⟩ := rv_at hrow k hkL
        have hd0 := (hbw.cell (p := ⟨b, off + k * 2, none⟩) hb).trans hc0
        obtain ⟨b2, o2, rfl, hb2', hx1⟩ := strs_at hrow2 k hkD
        have hx2 := (hbr.cell (p := ⟨b2, o2 + k, none⟩) hb2').trans hx1
        have hst := readK_step hkL hkD
        have hal := HKL.out k
        have hx64 := HXL.out (nth [] D k) (by rw [nth_eq _ _ _ hkD]; exact List.getElem_mem hkD)
        obtain ⟨q, hq⟩ : ∃ q, q = (nth pd L k).1 := ⟨_, rfl⟩
        obtain ⟨x, hx⟩ : ∃ x, x = nth [] D k := ⟨_, rfl⟩
        obtain ⟨acc, hacc⟩ : ∃ acc, acc = readK L D k := ⟨_, rfl⟩
        rw [← hq] at hd0
        rw [← hx] at hx2 hx64
        rw [← hq, ← hx, ← hacc] at hst
        rw [← hacc] at hal ⊢
        have hsA := S_size acc
        have hsX := S_size x
        have HAP := Lib.hid (S_append acc x)
        have hal2 : acc.length ≤ 20000 := by omega
        by_cases h0 : q = 0
        · rw [decide_eq_true h0, Bool.not_true] at hd0
          rw [if_pos h0, List.append_nil] at hst
          have HST := Lib.hid hst
          clear hst hc0 hc1 hkL hq hx h0 hx1 hacc
          go_wp2
          go_roundw
          case rel => exact ⟨k + 1, by omega, by go_num, by rw [HST.out], hbr⟩
          case measure => simp [intOf]; omega
        · rw [decide_eq_false h0, Bool.not_false] at hd0
          rw [if_neg h0] at hst
          have HST := Lib.hid hst
          clear hst hc0 hc1 hkL hq hx h0 hx1 hacc
          go_wp2
          go_roundw
          case rel => exact ⟨k + 1, by omega, by go_num, by rw [HST.out, HAP.out], hbr⟩
          case measure => simp [intOf]; omega
      · obtain rfl : k = n := by omega
        have hkD : ¬ k < D.length := by rw [HDN.out]; omega
        rw [HRK.out]
        have CWx := CWH.out wr hbw
        cases hw : wholeL L R with
        | false =>
          rw [hw] at CWx
          have hz : Z = ([], false) := by rw [HZ.out, if_neg]; rintro ⟨_, _, h, _⟩; rw [hw] at h; simp at h
          subst hz
          have CWx := Lib.hid CWx
          clear hw
          go_wp2_with (go_at_call 55; refine (CWx.out).mono ?_; rintro e w3 ⟨rfl, hb3⟩)
          refine bodyPost_ret (results_tmp2 rfl _ _ _) rfl ?_
          exact ⟨rfl, bnext hb1 (bnext hbw hb3)⟩
        | true =>
          rw [hw] at CWx
          have CWx := Lib.hid CWx
          by_cases hvf : V = f
          · rw [decide_eq_true hvf] at hse
            have hse2 : ((S V).toList != (S f).toList) = false := by simp [bne, hse]
            have hz : Z = (R, true) := by rw [HZ.out, if_pos ⟨HLP.out, HDL.out, hw, hvf⟩]
            subst hz
            clear hw hvf
            go_wp2_with (first
              | (go_at_call 55; refine (CWx.out).mono ?_; rintro e w3 ⟨rfl, hb3⟩; have hB3 := bnext hbw hb3; have hdx3 := (hb3.cell (p := ⟨w.heap.size, 0, none⟩) (World.block_lt_of_cell? _ _ hdx)).trans hdx)
              | (go_at_call 65; refine (CV.out _ hB3).mono ?_; rintro e w4 ⟨rfl, hb4⟩))
            refine bodyPost_ret (results_tmp2 rfl _ _ _) rfl ?_
            exact ⟨rfl, bnext hb1 (bnext hB3 hb4)⟩
          · rw [decide_eq_false hvf] at hse
            have hse2 : ((S V).toList != (S f).toList) = true := by simp [bne, hse]
            have hz : Z = ([], false) := by rw [HZ.out, if_neg]; rintro ⟨_, _, _, h⟩; exact hvf h
            subst hz
            clear hw hvf
            go_wp2_with (first
              | (go_at_call 55; refine (CWx.out).mono ?_; rintro e w3 ⟨rfl, hb3⟩; have hB3 := bnext hbw hb3; have hdx3 := (hb3.cell (p := ⟨w.heap.size, 0, none⟩) (World.block_lt_of_cell? _ _ hdx)).trans hdx)
              | (go_at_call 65; refine (CV.out _ hB3).mono ?_; rintro e w4 ⟨rfl, hb4⟩))
            refine bodyPost_ret (results_tmp2 rfl _ _ _) rfl ?_
            exact ⟨rfl, bnext hb1 (bnext hB3 hb4)⟩
  · have hd1 : ((D.length : Int) != (n : Int)) = true := by simp; omega
    have hz : Z = ([], false) := by rw [hZ, if_neg]; rintro ⟨_, h, _⟩; exact hDn (by rw [h, HN.out])
    subst hz
    clear hZ hDn CW CV HKL hxl hRl
    go_enter Try.func63, Try.ntmps63
    go_wp2_with fail
    refine (CC.out _).mono ?_
    rintro e w2 ⟨a2, n2, c2, hn2, hnc2, hcm2, rfl, hrow2, hb2, _⟩
    obtain rfl : n2 = D.length := hn2
    have hdx2 := (hb2.cell (p := ⟨w.heap.size, 0, none⟩) (by show w.heap.size < _; omega)).trans hcx
    go_wp2
    refine bodyPost_ret (results_tmp2 rfl _ _ _) rfl ?_
    exact ⟨rfl, bnext hb1 hb2⟩
end Go.Proofs.Ytmdpmjabjijjiaa
