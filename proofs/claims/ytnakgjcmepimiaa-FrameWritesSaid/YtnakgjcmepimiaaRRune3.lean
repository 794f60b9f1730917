/- The reference's runes: the contracts of Next and Runes. -/
import Derived.Test.YtnakgjcmepimiaaRRune2
import Derived.Test.YtnakgjcmepimiaaRune5
namespace Go.Proofs.Ytnakgjcmepimiaa
set_option linter.unusedVariables false
set_option linter.unusedSimpArgs false
open Go.RowKit Go.Shelf Go.Maps
theorem Bys.take {w : World} {b off : Nat} {l : List UInt8} (h : Bys w b off l) (k : Nat) : Bys w b off (l.take k) := ⟨h.lt, fun j hj => by
  rw [List.length_take] at hj
  rw [h.at_ j (by omega)]
  simp [nth, List.getD, List.getElem?_take, show j < k by omega]⟩
set_option maxRecDepth 100000 in
set_option maxHeartbeats 4000000 in
theorem refNext_any (c : UInt8) (t : List UInt8) (b off n cap : Nat) (w : World) (hn : n = t.length + 1) (hlen : n ≤ 2000000) (hcap : n ≤ cap) (hB : Bys w b off (c :: t)) :
    Calls Try.prog 94 #[.slice (some ⟨b, off, none⟩) n cap] w fun e w' => NextP (c :: t) e ∧ Below w.heap.size w w' := by
  have hm4 := manyL_le c.toNat
  have hcc := hB.at_ 0 (by simp)
  rw [Nat.add_zero] at hcc
  have e0 : nth 0 (c :: t) 0 = c := rfl
  rw [e0] at hcc
  clear e0
  have CL := Lib.hid (fun W => rlength_any c.toNat c.toNat_lt W)
  have H0 := Lib.hid (step_many0 c t)
  have H1 := Lib.hid (step_bad c t)
  have hne0 : ((n : Int) == 0) = false := by simp; omega
  have h0n : 0 < n := by omega
  have hbeg : ∀ k, k + 1 ≤ manyL c.toNat → k ≤ t.length → ∀ W, Bys W b off (c :: t.take k) → Calls Try.prog 118 #[.slice (some ⟨b, off, none⟩) (k + 1) cap] W fun e w' => e = .returned (.bool (begB c (t.take k))) ∧ Below W.heap.size W w' := fun k hk hkt W h => begins_any c (t.take k) b off (k + 1) cap W (by simp; omega) (by omega) h
  have hnum : ∀ k, k ≤ 3 → k ≤ t.length → ∀ W, Bys W b off (c :: t.take k) → Calls Try.prog 119 #[.slice (some ⟨b, off, none⟩) (k + 1) cap] W fun e w' => e = .returned (.int .i32 (numI c (t.take k))) ∧ Below W.heap.size W w' := fun k hk hkt W h => number_any c (t.take k) b off (k + 1) cap W (by simp; omega) (by simp; omega) h
  have hfull : ∀ k, k + 1 = manyL c.toNat → k ≤ t.length → (begB c (t.take k) = true → stepL (c :: t) = ((numI c (t.take k)).toNat, k + 1) ∧ 0 ≤ numI c (t.take k)) ∧ (begB c (t.take k) = false → stepL (c :: t) = (65533, 1)) := fun k hk hkt => by
    have := beg_full c (t.take k) (by omega) (by simp; omega) (t.drop k)
    rw [List.take_append_drop, ← hk] at this
    exact this
  have hbt : ∀ k W, Bys W b off (c :: t) → Bys W b off (c :: t.take k) := fun k W h => by have := h.take (k + 1); rwa [List.take_succ_cons] at this
  obtain ⟨M, hM⟩ : ∃ M, M = manyL c.toNat := ⟨_, rfl⟩
  rw [← hM] at CL hm4 H0 H1 hbeg hfull
  have HM := Lib.hid hM
  clear hM
  rcases Nat.lt_or_ge 0 M with hM0 | hM0
  · by_cases hnM : M ≤ n
    · obtain ⟨k, rfl⟩ : ∃ k, M = k + 1 := ⟨M - 1, by omega⟩
      have CB := Lib.hid (fun W h => hbeg k (by omega) (by omega) W h)
      have CN := Lib.hid (fun W h => hnum k (by omega) (by omega) W h)
      have HF := Lib.hid (hfull k rfl (by omega))
      have HBT := Lib.hid (hbt k)
      obtain ⟨z, hz⟩ : ∃ z, z = begB c (t.take k) := ⟨_, rfl⟩
      obtain ⟨v, hv⟩ : ∃ v, v = numI c (t.take k) := ⟨_, rfl⟩
      rw [← hz] at CB HF
      rw [← hv] at CN HF
      have hnMi : ((k : Int) + 1) ≤ (n : Int) := by omega
      have hkc : k + 1 ≤ cap := by omega
      have HN := Lib.hid hn
      clear hbeg hnum hfull hbt hz hv H0 H1 HM hnM hn
      cases z with
      | true =>
        obtain ⟨hst, hv0⟩ := HF.out.1 rfl
        obtain ⟨m, rfl⟩ := Int.eq_ofNat_of_zero_le hv0
        have HST := Lib.hid hst
        clear hst HF hv0
        go_enter Try.func94, Try.ntmps94
        go_wp2_with (first
          | (go_at_call 117; refine (CL.out _).mono ?_; rintro e w1 ⟨rfl, rfl⟩)
          | (go_at_call 118; refine (CB.out _ (HBT.out _ hB)).mono ?_; rintro e w2 ⟨rfl, hb2⟩)
          | (go_at_call 119; refine (CN.out _ (HBT.out _ (hB.below hb2))).mono ?_; rintro e w3 ⟨rfl, hb3⟩))
        refine bodyPost_ret (results_tmp3 rfl _ _ _) rfl ?_
        exact ⟨nextP_ok (n := k + 1) (by rw [HST.out]; simp), bnext hb2 hb3⟩
      | false =>
        have HST := Lib.hid (HF.out.2 rfl)
        clear HF
        go_enter Try.func94, Try.ntmps94
        go_wp2_with (first
          | (go_at_call 117; refine (CL.out _).mono ?_; rintro e w1 ⟨rfl, rfl⟩)
          | (go_at_call 118; refine (CB.out _ (HBT.out _ hB)).mono ?_; rintro e w2 ⟨rfl, hb2⟩))
        refine bodyPost_ret (results_tmp3 rfl _ _ _) rfl ?_
        exact ⟨nextP_bad HST.out, hb2⟩
    · have HST := Lib.hid (H1.out t.length (by omega) (fun h => by have := h.1; omega))
      have CB := Lib.hid (fun W h => hbeg t.length (by omega) (Nat.le_refl _) W h)
      have HBT := Lib.hid (hbt t.length)
      rw [← hn] at CB
      obtain ⟨z, hz⟩ : ∃ z, z = begB c (t.take t.length) := ⟨_, rfl⟩
      rw [← hz] at CB
      have hnMi : (n : Int) < (M : Int) := by omega
      have hMi : 0 < (M : Int) := by omega
      have HN := Lib.hid hn
      clear hbeg hnum hfull hbt hz H0 H1 HM hnM hn
      cases z with
      | true =>
        go_enter Try.func94, Try.ntmps94
        go_wp2_with (first
          | (go_at_call 117; refine (CL.out _).mono ?_; rintro e w1 ⟨rfl, rfl⟩)
          | (go_at_call 118; refine (CB.out _ (HBT.out _ hB)).mono ?_; rintro e w2 ⟨rfl, hb2⟩))
        refine bodyPost_ret (results_tmp3 rfl _ _ _) rfl ?_
        exact ⟨nextP_more HST.out, hb2⟩
      | false =>
        go_enter Try.func94, Try.ntmps94
        go_wp2_with (first
          | (go_at_call 117; refine (CL.out _).mono ?_; rintro e w1 ⟨rfl, rfl⟩)
          | (go_at_call 118; refine (CB.out _ (HBT.out _ hB)).mono ?_; rintro e w2 ⟨rfl, hb2⟩))
        refine bodyPost_ret (results_tmp3 rfl _ _ _) rfl ?_
        exact ⟨nextP_bad HST.out, hb2⟩
  · obtain rfl : M = 0 := by omega
    have HST := Lib.hid (H0.out rfl)
    have HN := Lib.hid hn
    clear hbeg hnum hfull hbt H0 H1 HM hn hM0
    go_enter Try.func94, Try.ntmps94
    go_wp2_with (go_at_call 117; refine (CL.out _).mono ?_; rintro e w1 ⟨rfl, rfl⟩)
    refine bodyPost_ret (results_tmp3 rfl _ _ _) rfl ?_
    exact ⟨nextP_bad HST.out, Below.refl _ _⟩
end Go.Proofs.Ytnakgjcmepimiaa
