/- The reference mask: whole, push, back, print. No condition. -/
import Derived.Test.YtmdpmjabjijjiaaMask22
import Derived.Deep.RegionHeld3
import Derived.Test.YtmdpmjabjijjiaaRegP
namespace Go.Proofs.Ytmdpmjabjijjiaa
set_option linter.unusedVariables false
set_option linter.unusedSimpArgs false
open Go.RowKit Go.Shelf Go.Maps
set_option maxRecDepth 100000 in
set_option maxHeartbeats 4000000 in
theorem refWhole_any {w : World} {a : Option Addr} {n c : Nat} {L : PL} (h : RefAt w a n c L) (hL : PLok L) (hS : slotsL L ≠ []) (f : List UInt8) (hf : f.length ≤ 1100000) : Calls Try.prog 55 #[.agg #[.slice a n c], .string (S f)] w fun e w' => e = .returned (.bool (wholeL L f)) ∧ Below w.heap.size w w' := by
  obtain ⟨W1, hW1, hcx, hR, hb1, hs1⟩ := box_new h 45
  have CM := (fun W hb => refFits34_any (w := W) (hR.below hb) hL hS f hf)
  have CS := Lib.hid (fun W hb => refSlots_any (w := W) (hR.below hb) hL.len)
  have CC := Lib.hid (fun W => refCut_any f hf W)
  have hzl := cutL_len f
  have hsl := slotsL_len L
  have hsl2 := slotStrs_len L
  have hLl := hL.len
  obtain ⟨Z, hZ⟩ : ∃ Z, Z = wholeL L f := ⟨_, rfl⟩
  rw [← hZ]
  unfold wholeL at hZ
  obtain ⟨K, hK⟩ : ∃ K, K = slotStrs L := ⟨_, rfl⟩
  obtain ⟨D, hD⟩ : ∃ D, D = cutL f := ⟨_, rfl⟩
  rw [← hsl2] at hZ
  rw [← hK] at CS hsl2 hZ
  rw [← hD] at CC hzl hZ
  have hKl : K.length ≤ 300 := by omega
  clear h hR hL hK hD hsl2 hsl hLl hS
  cases hfit : fitsL L f with
  | false =>
    rw [hfit] at CM hZ
    rw [Bool.false_and] at hZ
    subst hZ
    have CM := Lib.hid CM
    have hb11 := Below.refl W1.heap.size W1
    clear hfit CS CC
    go_enter Try.func55, Try.ntmps55
    go_wp2
    have hlt := World.block_lt_of_cell? _ _ hcx
    refine wp_region_mix [(true, 0), (true, 1), (false, 2), (false, 3), (true, 7), (true, 4), (true, 5), (true, 6), (true, 8), (true, 9), (true, 10), (false, 11), (false, 12)] (fun w' => w'.cell? ⟨w.heap.size, 0, none⟩ = some (.slice a n c)) (by kernel_rfl) (by kernel_rfl) (by rfl) (by kernel_rfl) (by kernel_rfl) (fun _ _ d _ _ h => by cases d <;> exact h) hcx ?_
    simp only [mixL, List.getElem?_cons_succ, List.getElem?_cons_zero]
    repeat (refine' wpMix_read (v := _) rfl ?_ ?_; rotate_left 1; (intro w' hw'; go_simp; try with_reducible rfl); try simp only [Act.put, List.setIfInBounds_toArray, List.set_cons_zero, List.set_cons_succ])
    refine wpMix_act (fun K hK => ?_)
    go_wp2_with (go_at_call 47; refine (CM.out _ hb11.drew).mono ?_; rintro e w2 ⟨rfl, hb2⟩)
    have hc2 := (hb2.cell (p := ⟨w.heap.size, 0, none⟩) hlt).trans hcx
    refine hK _ _ (fun _ => hc2) ?_
    clear hK K
    refine wpMix_act (fun K hK => ?_)
    go_wp2
    refine hK _ _ (fun _ => hc2) ?_
    clear hK K
    repeat (refine' wpMix_skip rfl ?_; try simp only [Act.put, List.setIfInBounds_toArray, List.set_cons_zero, List.set_cons_succ])
    refine wpMix_act (fun K hK => ?_)
    go_wp2
    refine hK _ _ (fun _ => hc2) ?_
    clear hK K
    refine wpMix_act (fun K hK => ?_)
    go_wp2
    refine hK _ _ (fun h => absurd rfl h) ?_
    clear hK K
    refine wpMix_nil ?_
    go_wp2
    go_ret
    exact ⟨rfl, bnext hb1 (show Below W1.heap.size W1 w2 from ⟨hb2.os, hb2.tape, hb2.output, hb2.size, hb2.block⟩)⟩
  | true =>
    rw [hfit] at CM hZ
    rw [Bool.true_and] at hZ
    have CM := Lib.hid CM
    have hb11 := Below.refl W1.heap.size W1
    have HZ := Lib.hid hZ
    clear hfit hZ
    go_enter Try.func55, Try.ntmps55
    go_wp2
    have hlt := World.block_lt_of_cell? _ _ hcx
    go_region_held3 (fun w' => w'.cell? ⟨w.heap.size, 0, none⟩ = some (.slice a n c)) (first | assumption | go_keep) (first
      | (go_at_call 47; refine (CM.out _ hb11.drew).mono ?_; rintro e w2 ⟨rfl, hb2⟩; have hc2 := (hb2.cell (p := ⟨w.heap.size, 0, none⟩) hlt).trans hcx; have hB2 : Below W1.heap.size W1 w2 := ⟨hb2.os, hb2.tape, hb2.output, hb2.size, hb2.block⟩)
      | (go_at_call 22; refine (CC.out _).mono ?_; rintro e w3 ⟨a3, n3, c3, hn3, hnc3, hcm3, rfl, hrow3, hb3, _⟩; have hc3 := (hb3.cell (p := ⟨w.heap.size, 0, none⟩) (World.block_lt_of_cell? _ _ hc2)).trans hc2; have hB3 := bnext hB2 hb3)
      | (go_at_call 45; refine (CS.out _ hB3).mono ?_; rintro e w4 ⟨a4, n4, c4, hn4, hnc4, hcm4, rfl, hrow4, hb4⟩; have hc4 := (hb4.cell (p := ⟨w.heap.size, 0, none⟩) (World.block_lt_of_cell? _ _ hc3)).trans hc3))
    go_wp2
    go_ret
    refine ⟨ret_bool ?_, bnext hb1 (bnext hB3 hb4)⟩
    rw [HZ.out, Bool.eq_iff_iff]; simp; omega
set_option maxRecDepth 100000 in
set_option maxHeartbeats 4000000 in
theorem refBack_any {w : World} {a : Option Addr} {n c : Nat} {L : PL} (h : RefAt w a n c L) (hL : PLok L) (hS : slotsL L ≠ []) (f : List UInt8) (hf : f.length ≤ 1100000) : Calls Try.prog 62 #[.agg #[.slice a n c], .string (S f)] w fun e w' => e = .returned (.string (S (backL L f))) ∧ Below w.heap.size w w' := by
  obtain ⟨W1, hW1, hcx, hR, hb1, hs1⟩ := box_new h 45
  have CM := (fun W hb => refFits34_any (w := W) (hR.below hb) hL hS f hf)
  have CC := Lib.hid (fun W => refCut_any f hf W)
  obtain ⟨Z, hZ⟩ : ∃ Z, Z = backL L f := ⟨_, rfl⟩
  rw [← hZ]
  unfold backL at hZ
  have hLn : L ≠ [] := by rintro rfl; exact hS rfl
  rw [show sameL L f = f by unfold sameL; rw [if_neg hLn]] at hZ
  have hzl := cutL_len f
  have hsf := S_size f
  cases hfit : fitsL L f with
  | false =>
    rw [hfit] at CM hZ
    rw [if_neg (by simp)] at hZ
    subst hZ
    have CM := Lib.hid CM
    clear h hL hR hfit hS hLn
    go_enter Try.func62, Try.ntmps62
    go_wp2_with fail
    refine (CC.out _).mono ?_
    rintro e w2 ⟨a2, n2, c2, hn2, hnc2, hcm2, rfl, hrow2, hb2, _⟩
    have hdx := (hb2.cell (p := ⟨w.heap.size, 0, none⟩) (by show w.heap.size < _; omega)).trans hcx
    go_wp2_with (go_at_call 47; refine (CM.out _ hb2).mono ?_; rintro e w3 ⟨rfl, hb3⟩)
    go_ret
    exact ⟨rfl, bnext (bnext hb1 hb2) hb3⟩
  | true =>
    have hfl := fits_flat hfit
    rw [hfit] at CM hZ
    have CM := Lib.hid CM
    have hfc := flat_cut hfl
    obtain ⟨D, hD⟩ : ∃ D, D = cutL f := ⟨_, rfl⟩
    rw [← hD] at hZ CC hzl hfc
    by_cases h0 : D.length = 0
    · rw [if_neg (by simp [h0])] at hZ
      subst hZ
      have H0 := Lib.hid h0
      clear h hL hR hfit hfl hfc h0 hS hLn
      go_enter Try.func62, Try.ntmps62
      go_wp2_with fail
      refine (CC.out _).mono ?_
      rintro e w2 ⟨a2, n2, c2, hn2, hnc2, hcm2, rfl, hrow2, hb2, _⟩
      rw [H0.out] at hn2
      subst hn2
      have hdx := (hb2.cell (p := ⟨w.heap.size, 0, none⟩) (by show w.heap.size < _; omega)).trans hcx
      go_wp2_with (go_at_call 47; refine (CM.out _ hb2).mono ?_; rintro e w3 ⟨rfl, hb3⟩)
      go_ret
      exact ⟨rfl, bnext (bnext hb1 hb2) hb3⟩
    · obtain ⟨d, hd⟩ : ∃ d, D.length = d + 1 := ⟨D.length - 1, by omega⟩
      rw [if_pos ⟨rfl, by omega⟩, hd, Nat.add_sub_cancel] at hZ
      have hdl : d < D.length := by omega
      have hxm : (nth [] D d).length ≤ f.length := by
        have := mem_flat_len (x := nth [] D d) (D := D) (by rw [nth_eq _ _ _ hdl]; exact List.getElem_mem hdl)
        rw [hfc] at this; exact this
      obtain ⟨x, hx⟩ : ∃ x, x = nth [] D d := ⟨_, rfl⟩
      have HAT := Lib.hid (fun (W : World) (a : Option Addr) (h : RowAt W.heap.size W a (strV D)) => (by rw [hx]; exact strs_at h d hdl : ∃ b off, a = some ⟨b, off, none⟩ ∧ b < W.heap.size ∧ W.cell? ⟨b, off + d, none⟩ = some (.string (S x))))
      rw [← hx] at hZ hxm
      have hsx := S_size x
      have hext : (S f).extract 0 (f.length - x.length) = S Z := by
        rw [S_extract, List.drop_zero, Nat.sub_zero, hZ]
      have HX := Lib.hid hext
      have HD := Lib.hid hd
      have hdb : d ≤ 1100000 := by omega
      have hxi : (x.length : Int) ≤ (f.length : Int) := by omega
      clear h hL hR hfit hfl hfc h0 hZ hx hext hdl hd hD hzl hS hLn
      go_enter Try.func62, Try.ntmps62
      go_wp2_with fail
      refine (CC.out _).mono ?_
      rintro e w2 ⟨a2, n2, c2, hn2, hnc2, hcm2, rfl, hrow2, hb2, _⟩
      rw [HD.out] at hn2
      subst hn2
      obtain ⟨b0, o0, rfl, hb0, hc0⟩ := HAT.out _ _ hrow2
      have hdx := (hb2.cell (p := ⟨w.heap.size, 0, none⟩) (by show w.heap.size < _; omega)).trans hcx
      go_wp2_with (go_at_call 47; refine (CM.out _ hb2).mono ?_; rintro e w3 ⟨rfl, hb3⟩; have hc2 := (hb3.cell (p := ⟨b0, o0 + d, none⟩) hb0).trans hc0)
      go_ret
      exact ⟨ret_str HX.out, bnext (bnext hb1 hb2) hb3⟩
end Go.Proofs.Ytmdpmjabjijjiaa
