/- The reference's clusters: the contracts of Is, Join, Fit, SameAll; the law's cut. -/
import Derived.Test.YtnakgjcmepimiaaRClus2
import Derived.Test.YtnakgjcmepimiaaClus6
namespace Go.Proofs.Ytnakgjcmepimiaa
set_option linter.unusedVariables false
set_option linter.unusedSimpArgs false
open Go.RowKit Go.Shelf Go.Maps
set_option maxRecDepth 100000 in
set_option maxHeartbeats 1000000 in
theorem refIs3_any (l : List UInt8) (hl : l.length ≤ 1100000) (w : World) : Calls Try.prog 89 #[.string (S l)] w fun e w' => e = .returned (.bool (isCl l)) ∧ Below w.heap.size w w' := by
  have CC := Lib.hid (fun W => refCut_any l hl W)
  obtain ⟨z, hz⟩ : ∃ z, z = isCl l := ⟨_, rfl⟩
  rw [← hz]
  unfold isCl at hz
  by_cases h1 : (cutL l).length = 1
  · obtain ⟨x, hx⟩ := List.length_eq_one_iff.1 h1
    rw [hx] at hz CC
    have HZ := Lib.hid hz
    clear hz h1 hx
    go_enter Try.func89, Try.ntmps89
    go_wp2_with (go_at_call 26; refine (CC.out _).mono ?_; rintro e w1 ⟨a, n, c, hn, hnc, hcm, rfl, hrow, hb1, _⟩; obtain ⟨b0, o0, rfl, hb0, hc0⟩ := hrow 0 (by simp [strV]); rw [Nat.add_zero] at hc0; obtain rfl : n = 1 := hn; replace hc0 : w1.cell? ⟨b0, o0, none⟩ = some (.string (S x)) := hc0)
    go_ret
    refine ⟨ret_bool ?_, hb1⟩
    rw [HZ.out, S_eq]
    simp
  · have hz0 : z = false := by
      rw [hz]
      refine decide_eq_false (fun e => h1 (by rw [e]; rfl))
    subst hz0
    obtain ⟨m, hm⟩ : ∃ m, m = (cutL l).length := ⟨_, rfl⟩
    have hne : ((m : Int) == 1) = false := by simp; omega
    have HM := Lib.hid hm
    clear hz h1 hm
    go_enter Try.func89, Try.ntmps89
    go_wp2_with (go_at_call 26; refine (CC.out _).mono ?_; rintro e w1 ⟨a, n, c, hn, hnc, hcm, rfl, hrow, hb1, _⟩; rw [← HM.out] at hn; subst hn)
    go_ret
    exact ⟨rfl, hb1⟩
set_option maxRecDepth 100000 in
set_option maxHeartbeats 4000000 in
theorem refFit_any (l : List UInt8) (most : Int) (hl : l.length ≤ 1100000) (hm : -9223372036854775808 ≤ most ∧ most ≤ 9223372036854775807) (w : World) : Calls Try.prog 8 #[.string (S l), .int .i64 most] w fun e w' => e = .returned (.tuple #[.string (S (fitT l most)), .int .i64 (fitN l most)]) ∧ Below w.heap.size w w' := by
  have CC := Lib.hid (fun W => refCut_any l hl W)
  have HT := Lib.hid (take_len64 l)
  have HF := Lib.hid (take_flat' (cutL l))
  have HFS := Lib.hid (sumC_take (cutL l))
  have HBD := Lib.hid (sumC_take_bd (cutL l))
  have HC := Lib.hid (fun k h => @nth_clu l k h)
  have HE := Lib.hid (fun (h : ∀ i, i < (cutL l).length → colsL (nth [] (cutL l) i) ≤ most - sumC ((cutL l).take i)) => fitK_end (cutL l) most (fun i hi => by have := h i hi; omega))
  have HSt := Lib.hid (fun k hk (h : ∀ i, i < k → colsL (nth [] (cutL l) i) ≤ most - sumC ((cutL l).take i)) hs => fitK_stop (cutL l) most k hk (fun i hi => by have := h i hi; omega) hs)
  obtain ⟨T, hT⟩ : ∃ T, T = fitT l most := ⟨_, rfl⟩
  obtain ⟨N, hN⟩ : ∃ N, N = fitN l most := ⟨_, rfl⟩
  rw [← hT, ← hN]
  unfold fitT at hT
  unfold fitN at hN
  obtain ⟨L, hL⟩ : ∃ L, L = cutL l := ⟨_, rfl⟩
  have hLl : L.length ≤ 1100000 := by rw [hL]; exact Nat.le_trans (cutL_len l) hl
  rw [← hL] at CC HT HF HFS HBD HC HE HSt hT hN
  have HTT := Lib.hid hT
  have HNN := Lib.hid hN
  clear hL hT hN
  go_enter Try.func8, Try.ntmps8
  go_wp2_with (go_at_call 26; refine (CC.out _).mono ?_; rintro e w1 ⟨a, n, c, hn, hnc, hcm, rfl, hrow, hb1, _⟩; have HN := Lib.hid hn; clear hn)
  have hnl : n ≤ 1100000 := by rw [HN.out]; exact hLl
  go_loopw [9, 7, 8] (fun i s q wr => ∃ k : Nat, k ≤ n ∧ i = .int .i64 (k : Int) ∧ s = .string (S (L.take k).flatten) ∧ q = .int .i64 (sumC (L.take k)) ∧ Hid ((k = 0 ∨ sumC (L.take k) ≤ most) ∧ ∀ i, i < k → colsL (nth [] L i) ≤ most - sumC (L.take i)) ∧ Below w1.heap.size w1 wr) (fun i _ _ _ => n - (intOf i).toNat)
  case atStart => exact ⟨0, Nat.zero_le _, rfl, rfl, rfl, Lib.hid ⟨.inl rfl, fun i hi => by omega⟩, Below.refl _ _⟩
  case round =>
    obtain ⟨k, hk, rfl, rfl, rfl, hinv, hbr⟩ := hrel
    by_cases hlt : k < n
    · have hkL : k < L.length := by rw [← HN.out]; exact hlt
      obtain ⟨b0, o0, rfl, hb0, hck⟩ := strs_at hrow k hkL
      have hckr := (hbr.cell (p := ⟨b0, o0 + k, none⟩) hb0).trans hck
      have hf := HF.out k hkL
      have hl1 := HT.out k
      have hfs := HFS.out k hkL
      have hbd := HBD.out k
      have hcl := HC.out k hkL
      have hwd := widthL_clu hcl
      have hlen := hcl.len
      have hcb := hcl.cols
      obtain ⟨A, hA⟩ : ∃ A, A = (L.take k).flatten := ⟨_, rfl⟩
      obtain ⟨s, hs⟩ : ∃ s, s = sumC (L.take k) := ⟨_, rfl⟩
      obtain ⟨C, hC⟩ : ∃ C, C = nth [] L k := ⟨_, rfl⟩
      rw [← hC] at hckr hf hwd hlen hcb hfs
      rw [← hA] at hf hl1 ⊢
      have CW := Lib.hid (fun W => refWidth_any C (by omega) W)
      obtain ⟨q, hq⟩ : ∃ q, q = colsL C := ⟨_, rfl⟩
      rw [hwd] at CW
      rw [← hq] at CW hcb hfs
      rw [← hs] at hbd hfs ⊢
      have hsb : 0 ≤ s ∧ s ≤ 2200000 := by omega
      have hle2 : s = 0 ∨ s ≤ most := by
        rcases hinv.out.1 with h | h
        · left; rw [hs, h]; rfl
        · right; rw [hs]; exact h
      have hwr : IntKind.i64.wrap (most - s) = most - s := IntWalk.i64_in _ (by omega)
      have hab : S A ++ S C = S (A ++ C) := S_append _ _
      have hs1 := S_size A
      have hs2 := S_size C
      have HA := Lib.hid hA
      have hCl : C.length ≤ 64 := hlen.2
      have HSS := Lib.hid hs
      have HQ := Lib.hid (show colsL (nth [] L k) = q by rw [hq, hC])
      have HFF := Lib.hid hf
      have HFS2 := Lib.hid hfs
      have HKL := Lib.hid hkL
      clear hf hA hC hkL hcl hwd hlen hq hck hbd hs hfs
      by_cases hc : most - s < q
      · have hfin : fitK L most = k := HSt.out k HKL.out (fun i hi => hinv.out.2 i hi) (by rw [HQ.out, ← HSS.out]; exact hc)
        have hT2 : T = A := by rw [HTT.out, hfin, HA.out]
        have hN2 : N = s := by rw [HNN.out, hfin, HSS.out]
        subst hT2
        subst hN2
        clear hfin
        go_wp2_with (go_at_call 28; refine (CW.out _).mono ?_; rintro e w3 ⟨rfl, hb3⟩)
        go_ret2
        exact ⟨rfl, bto hb1 (bto hbr hb3 hbr.size) hb1.size⟩
      · have hc' : q ≤ most - s := by omega
        go_wp2_with (go_at_call 28; refine (CW.out _).mono ?_; rintro e w3 ⟨rfl, hb3⟩; have hbr3 := bto hbr hb3 hbr.size; have hck3 := (hb3.cell (p := ⟨b0, o0 + k, none⟩) (World.block_lt_of_cell? _ _ hckr)).trans hckr)
        have hlt3 := World.block_lt_of_cell? _ _ hck3
        have hnb : ¬ 9223372036854775807 < A.length + C.length := by omega
        have hws : IntKind.i64.wrap (s + q) = s + q := IntWalk.i64_in _ (by omega)
        go_region_held3 (fun w' => w'.cell? ⟨b0, o0 + k, none⟩ = some (.string (S C))) (first | assumption | go_keep) ((go_at_call 28; refine (CW.out _).mono ?_; rintro e w5 ⟨rfl, hb5⟩; have hck5 := (hb5.cell (p := ⟨b0, o0 + k, none⟩) hlt3).trans hck3))
        clear hws hwr
        go_wp2
        go_roundw
        case rel => exact ⟨k + 1, by omega, by go_num, by rw [HFF.out], by rw [HFS2.out], Lib.hid ⟨.inr (by rw [HFS2.out]; omega), fun i hi => by
          by_cases e : i = k
          · rw [e, HQ.out, ← HSS.out]; exact hc'
          · exact hinv.out.2 i (by omega)⟩, bto hbr3 (show Below w3.heap.size w3 w5 from ⟨hb5.os, hb5.tape, hb5.output, hb5.size, hb5.block⟩) hbr3.size⟩
        case measure => simp [intOf]; omega
    · obtain rfl : k = n := by omega
      have hfin : fitK L most = L.length := HE.out (fun i hi => hinv.out.2 i (by rw [HN.out]; exact hi))
      have hT2 : T = (L.take k).flatten := by rw [HTT.out, hfin, HN.out]
      have hN2 : N = sumC (L.take k) := by rw [HNN.out, hfin, HN.out]
      subst hT2
      subst hN2
      clear hfin
      go_wp2
      go_ret2
      exact ⟨rfl, bto hb1 hbr hb1.size⟩
end Go.Proofs.Ytnakgjcmepimiaa
