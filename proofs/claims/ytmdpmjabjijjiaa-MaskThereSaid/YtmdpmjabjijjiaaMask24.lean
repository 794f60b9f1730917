/- The reference mask: push. No condition. -/
import Derived.Test.YtmdpmjabjijjiaaMask23
namespace Go.Proofs.Ytmdpmjabjijjiaa
set_option linter.unusedVariables false
set_option linter.unusedSimpArgs false
open Go.RowKit Go.Shelf Go.Maps
theorem low_fit (s : List UInt8) : fitsB 2 s = true ∧ 97 ≤ b0 s ↔ lowB s = true := by
  unfold fitsB lowB
  simp
  omega
set_option maxRecDepth 100000 in
set_option maxHeartbeats 8000000 in
theorem refPush_any {w : World} {a : Option Addr} {n c : Nat} {L : PL} (h : RefAt w a n c L) (hL : PLok L) (hS : slotsL L ≠ []) (f s : List UInt8) (hf : f.length ≤ 1100000) (hs : s.length ≤ 1100000) :
    Calls Try.prog 61 #[.agg #[.slice a n c], .string (S f), .string (S s)] w fun e w' => e = .returned (.tuple #[.string (S (pushL L f s).1), .bool (pushL L f s).2]) ∧ Below w.heap.size w w' := by
  obtain ⟨W1, hW1, hcx, hR, hb1, hs1⟩ := box_new h 45
  have CM := (fun W hb => refFits34_any (w := W) (hR.below hb) hL hS f hf)
  have CS := Lib.hid (fun W hb => refSlots_any (w := W) (hR.below hb) hL.len)
  have CC := Lib.hid (fun W => refCut_any f hf W)
  have CI := (fun W => refIs3_any s hs W)
  obtain ⟨Z, hZ⟩ : ∃ Z, Z = pushL L f s := ⟨_, rfl⟩
  rw [← hZ]
  unfold pushL at hZ
  have hLn : L ≠ [] := by rintro rfl; exact hS rfl
  rw [show sameL L f = f by unfold sameL; rw [if_neg hLn]] at hZ
  have hzl := cutL_len f
  have hsf := S_size f
  have hsl := slotsL_len L
  have hsl2 := slotStrs_len L
  have hLl := hL.len
  have hic := @isCl_clu s
  have htl := fun k => taken_len k s
  have hSS := fun j (hj : j < (slotsL L).length) => slots_sort hL hj
  obtain ⟨K, hK⟩ : ∃ K, K = slotStrs L := ⟨_, rfl⟩
  obtain ⟨D, hD⟩ : ∃ D, D = cutL f := ⟨_, rfl⟩
  rw [← hsl2] at hZ hSS
  rw [← hK] at CS hsl2 hZ hSS
  rw [← hD] at CC hzl hZ
  have hKl : K.length ≤ 300 := by omega
  clear h hR hK hD hsl2 hsl hLl hLn hS
  cases hfit : fitsL L f with
  | false =>
    rw [hfit] at CM hZ
    rw [if_neg (by simp)] at hZ
    subst hZ
    have CM := Lib.hid CM
    clear hfit hic htl CI hSS hL
    go_enter Try.func61, Try.ntmps61
    go_wp2_with fail
    refine (CC.out _).mono ?_
    rintro e w2 ⟨a2, n2, c2, hn2, hnc2, hcm2, rfl, hrow2, hb2, _⟩
    have hdx := (hb2.cell (p := ⟨w.heap.size, 0, none⟩) (by show w.heap.size < _; omega)).trans hcx
    go_wp2_with (go_at_call 47; refine (CM.out _ hb2).mono ?_; rintro e w3 ⟨rfl, hb3⟩)
    refine bodyPost_ret (results_tmp2 rfl _ _ _) rfl ?_
    exact ⟨rfl, bnext (bnext hb1 hb2) hb3⟩
  | true =>
    rw [hfit] at CM hZ
    have CM := Lib.hid CM
    clear hfit
    by_cases hmK : D.length < K.length
    · have hmK' : ¬ (K.length : Int) ≤ (D.length : Int) := by omega
      cases hi : isCl s with
      | false =>
        rw [hi] at CI hZ
        rw [if_neg (by simp)] at hZ
        subst hZ
        have CI := Lib.hid CI
        clear hi hic htl hSS hL
        go_enter Try.func61, Try.ntmps61
        go_wp2_with fail
        refine (CC.out _).mono ?_
        rintro e w2 ⟨a2, n2, c2, hn2, hnc2, hcm2, rfl, hrow2, hb2, _⟩
        have hdx := (hb2.cell (p := ⟨w.heap.size, 0, none⟩) (by show w.heap.size < _; omega)).trans hcx
        rw [show n2 = D.length from hn2]
        clear hn2
        go_wp2_with (first
          | (go_at_call 47; refine (CM.out _ hb2).mono ?_; rintro e w3 ⟨rfl, hb3⟩; have hB3 := bnext hb2 hb3; have hdx3 := (hb3.cell (p := ⟨w.heap.size, 0, none⟩) (World.block_lt_of_cell? _ _ hdx)).trans hdx)
          | (go_at_call 45; refine (CS.out _ hB3).mono ?_; rintro e w4 ⟨a4, n4, c4, hn4, hnc4, hcm4, rfl, hrow4, hb4⟩; obtain rfl : n4 = K.length := hn4)
          | (go_at_call 27; refine (CI.out _).mono ?_; rintro e w5 ⟨rfl, hb5⟩))
        refine bodyPost_ret (results_tmp2 rfl _ _ _) rfl ?_
        exact ⟨rfl, bnext hb1 (bnext (bnext hB3 hb4) hb5)⟩
      | true =>
        rw [hi] at CI hZ
        have CI := Lib.hid CI
        rw [if_pos ⟨rfl, hmK, rfl⟩] at hZ
        have hclu := hic hi
        have hsp := hclu.len
        rw [hSS _ hmK] at hZ
        obtain ⟨t, ht⟩ : ∃ t, t = nth [] K D.length := ⟨_, rfl⟩
        have HAT := Lib.hid (fun (W : World) (a : Option Addr) (h : RowAt W.heap.size W a (strV K)) => (by rw [ht]; exact strs_at h D.length hmK : ∃ b off, a = some ⟨b, off, none⟩ ∧ b < W.heap.size ∧ W.cell? ⟨b, off + D.length, none⟩ = some (.string (S t))))
        rw [← ht] at hZ
        have htk := htl (sortB t) hclu
        have CA := (fun W => refFits_any [97] s (by omega) hs W)
        rw [show sortB [97] = 2 by decide] at CA
        have e65 := S_const t [65]
        have hget := S_get s
        have hsz := S_size s
        have hbd := b0_bd s
        have hlow := low_fit s
        obtain ⟨v, hv⟩ : ∃ v, v = b0 s := ⟨_, rfl⟩
        have hv' : ((nth 0 s 0).toNat : Int) = v := hv.symm
        have htake : takenB (sortB t) s = if t = [65] ∧ lowB s = true then [byteB (v - 32).toNat] else s := by
          unfold takenB
          rw [hv]
          by_cases h65 : t = [65]
          · subst h65
            rw [show sortB [65] = 3 by decide]; simp
          · have : sortB t ≠ 3 := by
              unfold sortB
              (repeat' split) <;> simp_all
            simp [this, h65]
        rw [← hv] at hlow hbd
        clear hi hic htl hSS hL ht hclu hv
        by_cases h65 : t = [65]
        · rw [decide_eq_true h65] at e65
          cases h97 : fitsB 2 s with
          | false =>
            have htx : takenB (sortB t) s = s := by
              rw [htake, if_neg]; rintro ⟨_, h⟩; rw [← hlow, h97] at h; simp at h
            rw [h97] at CA
            have CA := Lib.hid CA
            clear h65 h97
            rw [htx] at hZ htk
            have CX := (fun W => refFits_any t s (by omega) (by omega) W)
            have HAP := Lib.hid (S_append f s)
            clear htake htx hlow
            cases hq : fitsB (sortB t) s with
            | false =>
              rw [hq] at CX hZ
              rw [if_neg (by simp)] at hZ
              subst hZ
              have CX := Lib.hid CX
              clear hq
              go_enter Try.func61, Try.ntmps61
              go_wp2_with fail
              refine (CC.out _).mono ?_
              rintro e w2 ⟨a2, n2, c2, hn2, hnc2, hcm2, rfl, hrow2, hb2, _⟩
              have hdx := (hb2.cell (p := ⟨w.heap.size, 0, none⟩) (by show w.heap.size < _; omega)).trans hcx
              rw [show n2 = D.length from hn2]
              clear hn2
              go_wp2_with (first
                | (go_at_call 47; refine (CM.out _ hb2).mono ?_; rintro e w3 ⟨rfl, hb3⟩; have hB3 := bnext hb2 hb3; have hdx3 := (hb3.cell (p := ⟨w.heap.size, 0, none⟩) (World.block_lt_of_cell? _ _ hdx)).trans hdx)
                | (go_at_call 45; refine (CS.out _ hB5).mono ?_; rintro e w6 ⟨a6, n6, c6, hn6, hnc6, hcm6, rfl, hrow6, hb6⟩; obtain rfl : n6 = K.length := hn6; obtain ⟨b0', o0', rfl, hb0', hc0'⟩ := HAT.out _ _ hrow6; have hB6 := bnext hB5 hb6)
                | (go_at_call 45; refine (CS.out _ hB3).mono ?_; rintro e w4 ⟨a4, n4, c4, hn4, hnc4, hcm4, rfl, hrow4, hb4⟩; obtain rfl : n4 = K.length := hn4; have hB4 := bnext hB3 hb4; have hdx4 := (hb4.cell (p := ⟨w.heap.size, 0, none⟩) (World.block_lt_of_cell? _ _ hdx3)).trans hdx3)
                | (go_at_call 27; refine (CI.out _).mono ?_; rintro e w5 ⟨rfl, hb5⟩; have hB5 := bnext hB4 hb5; have hdx5 := (hb5.cell (p := ⟨w.heap.size, 0, none⟩) (World.block_lt_of_cell? _ _ hdx4)).trans hdx4)
                | (go_at_call_of 101 (Value.string (S t)); refine (CX.out _).mono ?_; rintro e w7 ⟨rfl, rfl⟩)
                | (go_at_call 101; refine (CA.out _).mono ?_; rintro e w8 ⟨rfl, rfl⟩))
              refine bodyPost_ret (results_tmp2 rfl _ _ _) rfl ?_
              exact ⟨rfl, bnext hb1 hB6⟩
            | true =>
              rw [hq] at CX hZ
              rw [if_pos rfl] at hZ
              subst hZ
              have CX := Lib.hid CX
              clear hq
              go_enter Try.func61, Try.ntmps61
              go_wp2_with fail
              refine (CC.out _).mono ?_
              rintro e w2 ⟨a2, n2, c2, hn2, hnc2, hcm2, rfl, hrow2, hb2, _⟩
              have hdx := (hb2.cell (p := ⟨w.heap.size, 0, none⟩) (by show w.heap.size < _; omega)).trans hcx
              rw [show n2 = D.length from hn2]
              clear hn2
              go_wp2_with (first
                | (go_at_call 47; refine (CM.out _ hb2).mono ?_; rintro e w3 ⟨rfl, hb3⟩; have hB3 := bnext hb2 hb3; have hdx3 := (hb3.cell (p := ⟨w.heap.size, 0, none⟩) (World.block_lt_of_cell? _ _ hdx)).trans hdx)
                | (go_at_call 45; refine (CS.out _ hB5).mono ?_; rintro e w6 ⟨a6, n6, c6, hn6, hnc6, hcm6, rfl, hrow6, hb6⟩; obtain rfl : n6 = K.length := hn6; obtain ⟨b0', o0', rfl, hb0', hc0'⟩ := HAT.out _ _ hrow6; have hB6 := bnext hB5 hb6)
                | (go_at_call 45; refine (CS.out _ hB3).mono ?_; rintro e w4 ⟨a4, n4, c4, hn4, hnc4, hcm4, rfl, hrow4, hb4⟩; obtain rfl : n4 = K.length := hn4; have hB4 := bnext hB3 hb4; have hdx4 := (hb4.cell (p := ⟨w.heap.size, 0, none⟩) (World.block_lt_of_cell? _ _ hdx3)).trans hdx3)
                | (go_at_call 27; refine (CI.out _).mono ?_; rintro e w5 ⟨rfl, hb5⟩; have hB5 := bnext hB4 hb5; have hdx5 := (hb5.cell (p := ⟨w.heap.size, 0, none⟩) (World.block_lt_of_cell? _ _ hdx4)).trans hdx4)
                | (go_at_call_of 101 (Value.string (S t)); refine (CX.out _).mono ?_; rintro e w7 ⟨rfl, rfl⟩)
                | (go_at_call 101; refine (CA.out _).mono ?_; rintro e w8 ⟨rfl, rfl⟩))
              refine bodyPost_ret (results_tmp2 rfl _ _ _) rfl ?_
              exact ⟨by rw [← HAP.out]; rfl, bnext hb1 hB6⟩
          | true =>
            rw [h97] at CA hlow
            have CA := Lib.hid CA
            by_cases h9 : 97 ≤ v
            · have htx : takenB (sortB t) s = [byteB (v - 32).toNat] := by
                rw [htake, if_pos ⟨h65, hlow.1 ⟨rfl, h9⟩⟩]
              have h122 : v ≤ 122 := by
                have := hlow.1 ⟨rfl, h9⟩
                unfold lowB b0 at this
                rw [hv'] at this
                simp at this
                omega
              clear h65 h97
              rw [htx] at hZ htk
              have hu : u8v [byteB (v - 32).toNat] = [.int .u8 (v - 32)] := by
                unfold u8v byteB
                simp
                omega
              have hcv : ∀ W : World, (convert 83 9 (.slice (some ⟨W.heap.size, 0, none⟩) 1 1)).run Try.prog (W.alloc (.cells #[.int .u8 (v - 32)] 5)) = .ok (.string (S [byteB (v - 32).toNat])) (W.alloc (.cells #[.int .u8 (v - 32)] 5)) := by
                intro W
                have := conv_newB W [byteB (v - 32).toNat]
                rw [hu] at this
                exact this
              obtain ⟨U, hU⟩ : ∃ U, U = [byteB (v - 32).toNat] := ⟨_, rfl⟩
              rw [← hU] at hcv hZ htk
              have hUl : U.length = 1 := by rw [hU]; rfl
              have CX := (fun W => refFits_any t U (by omega) (by omega) W)
              have hsx := S_size U
              have HAP := Lib.hid (S_append f U)
              clear htake htx hlow hU hu
              cases hq : fitsB (sortB t) U with
              | false =>
                rw [hq] at CX hZ
                rw [if_neg (by simp)] at hZ
                subst hZ
                have CX := Lib.hid CX
                clear hq
                go_enter Try.func61, Try.ntmps61
                go_wp2_with fail
                refine (CC.out _).mono ?_
                rintro e w2 ⟨a2, n2, c2, hn2, hnc2, hcm2, rfl, hrow2, hb2, _⟩
                have hdx := (hb2.cell (p := ⟨w.heap.size, 0, none⟩) (by show w.heap.size < _; omega)).trans hcx
                rw [show n2 = D.length from hn2]
                clear hn2
                go_wp2_with (first
                  | (go_at_call 47; refine (CM.out _ hb2).mono ?_; rintro e w3 ⟨rfl, hb3⟩; have hB3 := bnext hb2 hb3; have hdx3 := (hb3.cell (p := ⟨w.heap.size, 0, none⟩) (World.block_lt_of_cell? _ _ hdx)).trans hdx)
                  | (go_at_call 45; refine (CS.out _ hB5).mono ?_; rintro e w6 ⟨a6, n6, c6, hn6, hnc6, hcm6, rfl, hrow6, hb6⟩; obtain rfl : n6 = K.length := hn6; obtain ⟨b0', o0', rfl, hb0', hc0'⟩ := HAT.out _ _ hrow6; have hB6 := bnext hB5 hb6)
                  | (go_at_call 45; refine (CS.out _ hB3).mono ?_; rintro e w4 ⟨a4, n4, c4, hn4, hnc4, hcm4, rfl, hrow4, hb4⟩; obtain rfl : n4 = K.length := hn4; have hB4 := bnext hB3 hb4; have hdx4 := (hb4.cell (p := ⟨w.heap.size, 0, none⟩) (World.block_lt_of_cell? _ _ hdx3)).trans hdx3)
                  | (go_at_call 27; refine (CI.out _).mono ?_; rintro e w5 ⟨rfl, hb5⟩; have hB5 := bnext hB4 hb5; have hdx5 := (hb5.cell (p := ⟨w.heap.size, 0, none⟩) (World.block_lt_of_cell? _ _ hdx4)).trans hdx4)
                  | (go_at_call_of 101 (Value.string (S t)); refine (CX.out _).mono ?_; rintro e w7 ⟨rfl, rfl⟩)
                  | (go_at_call 101; refine (CA.out _).mono ?_; rintro e w8 ⟨rfl, rfl⟩))
                refine bodyPost_ret (results_tmp2 rfl _ _ _) rfl ?_
                exact ⟨rfl, bnext hb1 (hB6.alloc hB6.size _)⟩
              | true =>
                rw [hq] at CX hZ
                rw [if_pos rfl] at hZ
                subst hZ
                have CX := Lib.hid CX
                clear hq
                go_enter Try.func61, Try.ntmps61
                go_wp2_with fail
                refine (CC.out _).mono ?_
                rintro e w2 ⟨a2, n2, c2, hn2, hnc2, hcm2, rfl, hrow2, hb2, _⟩
                have hdx := (hb2.cell (p := ⟨w.heap.size, 0, none⟩) (by show w.heap.size < _; omega)).trans hcx
                rw [show n2 = D.length from hn2]
                clear hn2
                go_wp2_with (first
                  | (go_at_call 47; refine (CM.out _ hb2).mono ?_; rintro e w3 ⟨rfl, hb3⟩; have hB3 := bnext hb2 hb3; have hdx3 := (hb3.cell (p := ⟨w.heap.size, 0, none⟩) (World.block_lt_of_cell? _ _ hdx)).trans hdx)
                  | (go_at_call 45; refine (CS.out _ hB5).mono ?_; rintro e w6 ⟨a6, n6, c6, hn6, hnc6, hcm6, rfl, hrow6, hb6⟩; obtain rfl : n6 = K.length := hn6; obtain ⟨b0', o0', rfl, hb0', hc0'⟩ := HAT.out _ _ hrow6; have hB6 := bnext hB5 hb6)
                  | (go_at_call 45; refine (CS.out _ hB3).mono ?_; rintro e w4 ⟨a4, n4, c4, hn4, hnc4, hcm4, rfl, hrow4, hb4⟩; obtain rfl : n4 = K.length := hn4; have hB4 := bnext hB3 hb4; have hdx4 := (hb4.cell (p := ⟨w.heap.size, 0, none⟩) (World.block_lt_of_cell? _ _ hdx3)).trans hdx3)
                  | (go_at_call 27; refine (CI.out _).mono ?_; rintro e w5 ⟨rfl, hb5⟩; have hB5 := bnext hB4 hb5; have hdx5 := (hb5.cell (p := ⟨w.heap.size, 0, none⟩) (World.block_lt_of_cell? _ _ hdx4)).trans hdx4)
                  | (go_at_call_of 101 (Value.string (S t)); refine (CX.out _).mono ?_; rintro e w7 ⟨rfl, rfl⟩)
                  | (go_at_call 101; refine (CA.out _).mono ?_; rintro e w8 ⟨rfl, rfl⟩))
                refine bodyPost_ret (results_tmp2 rfl _ _ _) rfl ?_
                exact ⟨by rw [← HAP.out]; rfl, bnext hb1 (hB6.alloc hB6.size _)⟩
            · have htx : takenB (sortB t) s = s := by
                rw [htake, if_neg]; rintro ⟨_, h⟩; exact h9 (hlow.2 h).2
              clear h65 h97
              rw [htx] at hZ htk
              have CX := (fun W => refFits_any t s (by omega) (by omega) W)
              have HAP := Lib.hid (S_append f s)
              clear htake htx hlow
              cases hq : fitsB (sortB t) s with
              | false =>
                rw [hq] at CX hZ
                rw [if_neg (by simp)] at hZ
                subst hZ
                have CX := Lib.hid CX
                clear hq
                go_enter Try.func61, Try.ntmps61
                go_wp2_with fail
                refine (CC.out _).mono ?_
                rintro e w2 ⟨a2, n2, c2, hn2, hnc2, hcm2, rfl, hrow2, hb2, _⟩
                have hdx := (hb2.cell (p := ⟨w.heap.size, 0, none⟩) (by show w.heap.size < _; omega)).trans hcx
                rw [show n2 = D.length from hn2]
                clear hn2
                go_wp2_with (first
                  | (go_at_call 47; refine (CM.out _ hb2).mono ?_; rintro e w3 ⟨rfl, hb3⟩; have hB3 := bnext hb2 hb3; have hdx3 := (hb3.cell (p := ⟨w.heap.size, 0, none⟩) (World.block_lt_of_cell? _ _ hdx)).trans hdx)
                  | (go_at_call 45; refine (CS.out _ hB5).mono ?_; rintro e w6 ⟨a6, n6, c6, hn6, hnc6, hcm6, rfl, hrow6, hb6⟩; obtain rfl : n6 = K.length := hn6; obtain ⟨b0', o0', rfl, hb0', hc0'⟩ := HAT.out _ _ hrow6; have hB6 := bnext hB5 hb6)
                  | (go_at_call 45; refine (CS.out _ hB3).mono ?_; rintro e w4 ⟨a4, n4, c4, hn4, hnc4, hcm4, rfl, hrow4, hb4⟩; obtain rfl : n4 = K.length := hn4; have hB4 := bnext hB3 hb4; have hdx4 := (hb4.cell (p := ⟨w.heap.size, 0, none⟩) (World.block_lt_of_cell? _ _ hdx3)).trans hdx3)
                  | (go_at_call 27; refine (CI.out _).mono ?_; rintro e w5 ⟨rfl, hb5⟩; have hB5 := bnext hB4 hb5; have hdx5 := (hb5.cell (p := ⟨w.heap.size, 0, none⟩) (World.block_lt_of_cell? _ _ hdx4)).trans hdx4)
                  | (go_at_call_of 101 (Value.string (S t)); refine (CX.out _).mono ?_; rintro e w7 ⟨rfl, rfl⟩)
                  | (go_at_call 101; refine (CA.out _).mono ?_; rintro e w8 ⟨rfl, rfl⟩))
                refine bodyPost_ret (results_tmp2 rfl _ _ _) rfl ?_
                exact ⟨rfl, bnext hb1 hB6⟩
              | true =>
                rw [hq] at CX hZ
                rw [if_pos rfl] at hZ
                subst hZ
                have CX := Lib.hid CX
                clear hq
                go_enter Try.func61, Try.ntmps61
                go_wp2_with fail
                refine (CC.out _).mono ?_
                rintro e w2 ⟨a2, n2, c2, hn2, hnc2, hcm2, rfl, hrow2, hb2, _⟩
                have hdx := (hb2.cell (p := ⟨w.heap.size, 0, none⟩) (by show w.heap.size < _; omega)).trans hcx
                rw [show n2 = D.length from hn2]
                clear hn2
                go_wp2_with (first
                  | (go_at_call 47; refine (CM.out _ hb2).mono ?_; rintro e w3 ⟨rfl, hb3⟩; have hB3 := bnext hb2 hb3; have hdx3 := (hb3.cell (p := ⟨w.heap.size, 0, none⟩) (World.block_lt_of_cell? _ _ hdx)).trans hdx)
                  | (go_at_call 45; refine (CS.out _ hB5).mono ?_; rintro e w6 ⟨a6, n6, c6, hn6, hnc6, hcm6, rfl, hrow6, hb6⟩; obtain rfl : n6 = K.length := hn6; obtain ⟨b0', o0', rfl, hb0', hc0'⟩ := HAT.out _ _ hrow6; have hB6 := bnext hB5 hb6)
                  | (go_at_call 45; refine (CS.out _ hB3).mono ?_; rintro e w4 ⟨a4, n4, c4, hn4, hnc4, hcm4, rfl, hrow4, hb4⟩; obtain rfl : n4 = K.length := hn4; have hB4 := bnext hB3 hb4; have hdx4 := (hb4.cell (p := ⟨w.heap.size, 0, none⟩) (World.block_lt_of_cell? _ _ hdx3)).trans hdx3)
                  | (go_at_call 27; refine (CI.out _).mono ?_; rintro e w5 ⟨rfl, hb5⟩; have hB5 := bnext hB4 hb5; have hdx5 := (hb5.cell (p := ⟨w.heap.size, 0, none⟩) (World.block_lt_of_cell? _ _ hdx4)).trans hdx4)
                  | (go_at_call_of 101 (Value.string (S t)); refine (CX.out _).mono ?_; rintro e w7 ⟨rfl, rfl⟩)
                  | (go_at_call 101; refine (CA.out _).mono ?_; rintro e w8 ⟨rfl, rfl⟩))
                refine bodyPost_ret (results_tmp2 rfl _ _ _) rfl ?_
                exact ⟨by rw [← HAP.out]; rfl, bnext hb1 hB6⟩
        · rw [decide_eq_false h65] at e65
          have htx : takenB (sortB t) s = s := by
            rw [htake, if_neg]; rintro ⟨h, _⟩; exact h65 h
          clear h65 CA
          rw [htx] at hZ htk
          have CX := (fun W => refFits_any t s (by omega) (by omega) W)
          have HAP := Lib.hid (S_append f s)
          clear htake htx hlow
          cases hq : fitsB (sortB t) s with
          | false =>
            rw [hq] at CX hZ
            rw [if_neg (by simp)] at hZ
            subst hZ
            have CX := Lib.hid CX
            clear hq
            go_enter Try.func61, Try.ntmps61
            go_wp2_with fail
            refine (CC.out _).mono ?_
            rintro e w2 ⟨a2, n2, c2, hn2, hnc2, hcm2, rfl, hrow2, hb2, _⟩
            have hdx := (hb2.cell (p := ⟨w.heap.size, 0, none⟩) (by show w.heap.size < _; omega)).trans hcx
            rw [show n2 = D.length from hn2]
            clear hn2
            go_wp2_with (first
              | (go_at_call 47; refine (CM.out _ hb2).mono ?_; rintro e w3 ⟨rfl, hb3⟩; have hB3 := bnext hb2 hb3; have hdx3 := (hb3.cell (p := ⟨w.heap.size, 0, none⟩) (World.block_lt_of_cell? _ _ hdx)).trans hdx)
              | (go_at_call 45; refine (CS.out _ hB5).mono ?_; rintro e w6 ⟨a6, n6, c6, hn6, hnc6, hcm6, rfl, hrow6, hb6⟩; obtain rfl : n6 = K.length := hn6; obtain ⟨b0', o0', rfl, hb0', hc0'⟩ := HAT.out _ _ hrow6; have hB6 := bnext hB5 hb6)
              | (go_at_call 45; refine (CS.out _ hB3).mono ?_; rintro e w4 ⟨a4, n4, c4, hn4, hnc4, hcm4, rfl, hrow4, hb4⟩; obtain rfl : n4 = K.length := hn4; have hB4 := bnext hB3 hb4; have hdx4 := (hb4.cell (p := ⟨w.heap.size, 0, none⟩) (World.block_lt_of_cell? _ _ hdx3)).trans hdx3)
              | (go_at_call 27; refine (CI.out _).mono ?_; rintro e w5 ⟨rfl, hb5⟩; have hB5 := bnext hB4 hb5; have hdx5 := (hb5.cell (p := ⟨w.heap.size, 0, none⟩) (World.block_lt_of_cell? _ _ hdx4)).trans hdx4)
              | (go_at_call_of 101 (Value.string (S t)); refine (CX.out _).mono ?_; rintro e w7 ⟨rfl, rfl⟩))
            refine bodyPost_ret (results_tmp2 rfl _ _ _) rfl ?_
            exact ⟨rfl, bnext hb1 hB6⟩
          | true =>
            rw [hq] at CX hZ
            rw [if_pos rfl] at hZ
            subst hZ
            have CX := Lib.hid CX
            clear hq
            go_enter Try.func61, Try.ntmps61
            go_wp2_with fail
            refine (CC.out _).mono ?_
            rintro e w2 ⟨a2, n2, c2, hn2, hnc2, hcm2, rfl, hrow2, hb2, _⟩
            have hdx := (hb2.cell (p := ⟨w.heap.size, 0, none⟩) (by show w.heap.size < _; omega)).trans hcx
            rw [show n2 = D.length from hn2]
            clear hn2
            go_wp2_with (first
              | (go_at_call 47; refine (CM.out _ hb2).mono ?_; rintro e w3 ⟨rfl, hb3⟩; have hB3 := bnext hb2 hb3; have hdx3 := (hb3.cell (p := ⟨w.heap.size, 0, none⟩) (World.block_lt_of_cell? _ _ hdx)).trans hdx)
              | (go_at_call 45; refine (CS.out _ hB5).mono ?_; rintro e w6 ⟨a6, n6, c6, hn6, hnc6, hcm6, rfl, hrow6, hb6⟩; obtain rfl : n6 = K.length := hn6; obtain ⟨b0', o0', rfl, hb0', hc0'⟩ := HAT.out _ _ hrow6; have hB6 := bnext hB5 hb6)
              | (go_at_call 45; refine (CS.out _ hB3).mono ?_; rintro e w4 ⟨a4, n4, c4, hn4, hnc4, hcm4, rfl, hrow4, hb4⟩; obtain rfl : n4 = K.length := hn4; have hB4 := bnext hB3 hb4; have hdx4 := (hb4.cell (p := ⟨w.heap.size, 0, none⟩) (World.block_lt_of_cell? _ _ hdx3)).trans hdx3)
              | (go_at_call 27; refine (CI.out _).mono ?_; rintro e w5 ⟨rfl, hb5⟩; have hB5 := bnext hB4 hb5; have hdx5 := (hb5.cell (p := ⟨w.heap.size, 0, none⟩) (World.block_lt_of_cell? _ _ hdx4)).trans hdx4)
              | (go_at_call_of 101 (Value.string (S t)); refine (CX.out _).mono ?_; rintro e w7 ⟨rfl, rfl⟩))
            refine bodyPost_ret (results_tmp2 rfl _ _ _) rfl ?_
            exact ⟨by rw [← HAP.out]; rfl, bnext hb1 hB6⟩
    · rw [if_neg (by simp [hmK])] at hZ
      subst hZ
      have hmK' : (K.length : Int) ≤ (D.length : Int) := by omega
      clear hic htl CI hmK hSS hL
      go_enter Try.func61, Try.ntmps61
      go_wp2_with fail
      refine (CC.out _).mono ?_
      rintro e w2 ⟨a2, n2, c2, hn2, hnc2, hcm2, rfl, hrow2, hb2, _⟩
      have hdx := (hb2.cell (p := ⟨w.heap.size, 0, none⟩) (by show w.heap.size < _; omega)).trans hcx
      rw [show n2 = D.length from hn2]
      clear hn2
      go_wp2_with (first
        | (go_at_call 47; refine (CM.out _ hb2).mono ?_; rintro e w3 ⟨rfl, hb3⟩; have hB3 := bnext hb2 hb3; have hdx3 := (hb3.cell (p := ⟨w.heap.size, 0, none⟩) (World.block_lt_of_cell? _ _ hdx)).trans hdx)
        | (go_at_call 45; refine (CS.out _ hB3).mono ?_; rintro e w4 ⟨a4, n4, c4, hn4, hnc4, hcm4, rfl, hrow4, hb4⟩; obtain rfl : n4 = K.length := hn4))
      refine bodyPost_ret (results_tmp2 rfl _ _ _) rfl ?_
      exact ⟨rfl, bnext hb1 (bnext hB3 hb4)⟩
end Go.Proofs.Ytmdpmjabjijjiaa
