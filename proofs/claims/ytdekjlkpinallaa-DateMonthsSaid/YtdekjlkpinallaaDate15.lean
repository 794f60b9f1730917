/- Months of the reference. -/
import Derived.Test.YtdekjlkpinallaaDate14
namespace Go.Proofs.Ytdekjlkpinallaa
open Go.RowKit Go.Maps
set_option maxRecDepth 100000 in
set_option maxHeartbeats 4000000 in
theorem refMonths_any (l : List UInt8) (n : Int) (hn : -9223372036854775808 ≤ n ∧ n ≤ 9223372036854775807) (w : World) : Calls Try.prog 30 #[.string (S l), .int .i64 n] w fun e w' => e = monV l n ∧ Below w.heap.size w w' := by
  have C := refRead_any l w
  have hm : monV l n = if readB l then monR (yOf l) (mOf l) (dOf l) n else .returned (.tuple #[.string ⟨#[]⟩, .int .i64 200]) := rfl
  cases h : readB l with
  | false =>
    rw [h] at hm
    rw [hm]
    go_enter Try.func30, Try.ntmps30
    go_wp2_with fail
    refine C.mono ?_
    rintro e w1 ⟨⟨y, m, d, rfl, _⟩, hb1⟩
    rw [h]
    clear h C
    go_wp2
    go_ret2
    exact ⟨rfl, hb1.alloc hb1.size _⟩
  | true =>
    rw [h, if_pos rfl] at hm
    rw [hm]
    have hd := readB_day h
    obtain ⟨y, hY⟩ : ∃ y : Int, y = yOf l := ⟨_, rfl⟩
    obtain ⟨m, hM⟩ : ∃ m : Int, m = mOf l := ⟨_, rfl⟩
    obtain ⟨d, hD⟩ : ∃ d : Int, d = dOf l := ⟨_, rfl⟩
    rw [← hY, ← hM, ← hD] at hd ⊢
    have C2 := C.mono (fun e w' hh => (⟨by
      obtain ⟨⟨y', m', d', he, hymd⟩, hb⟩ := hh
      obtain ⟨e1, e2, e3⟩ := hymd h
      rw [he, h, e1, e2, e3, ← hY, ← hM, ← hD], hh.2⟩ : e = .returned (.tuple #[.agg #[.int .i64 y, .int .i64 m, .int .i64 d], .bool true]) ∧ Below w.heap.size w w'))
    clear C hm h hY hM hD
    obtain ⟨a1, a2, a3, a4⟩ := hd.at
    have hd31 := hd.le
    have hd1 := hd.1
    clear hd
    obtain ⟨k, hk⟩ : ∃ k, k = 12 * (y - 1) + m - 1 := ⟨_, rfl⟩
    have hmr : monR y m d n = if k + n < 0 ∨ 119987 < k + n then .returned (.tuple #[.string ⟨#[]⟩, .int .i64 5]) else .returned (.tuple #[.string (S (textL ((k + n) / 12 + 1) ((k + n) % 12 + 1) (min d (daysI ((k + n) / 12 + 1) ((k + n) % 12 + 1))))), .int .i64 0]) := by rw [hk]; rfl
    have hk0 : 0 ≤ k ∧ k ≤ 119987 := by omega
    by_cases hout : k + n < 0 ∨ 119987 < k + n
    · rw [if_pos hout] at hmr
      rw [hmr]
      clear hmr
      have h4 : n < -120000 ∨ 120000 < n ∨ (-120000 ≤ n ∧ n ≤ 120000 ∧ y * 12 + m - 1 + n < 12) ∨ (-120000 ≤ n ∧ n ≤ 120000 ∧ 120000 ≤ y * 12 + m - 1 + n) := by omega
      clear hout
      rcases h4 with h4 | h4 | ⟨h4, h5, h6⟩ | ⟨h4, h5, h6⟩
      all_goals
        go_enter Try.func30, Try.ntmps30
        go_wp2_with fail
        refine C2.mono ?_
        rintro e w1 ⟨rfl, hb1⟩
        go_wp2
        go_ret2
        exact ⟨rfl, hb1.alloc hb1.size _⟩
    · rw [if_neg hout] at hmr
      have hK : y * 12 + m - 1 + n = k + n + 12 := by omega
      obtain ⟨K, hKK⟩ : ∃ K, K = y * 12 + m - 1 + n := ⟨_, rfl⟩
      rw [← hKK] at hK
      have hK0 : 12 ≤ K ∧ K < 120000 := by omega
      have e1 : (k + n) / 12 + 1 = K / 12 := by omega
      have e2 : (k + n) % 12 + 1 = K % 12 + 1 := by omega
      rw [e1, e2] at hmr
      have t1 : K.tdiv 12 = K / 12 := Int.tdiv_eq_ediv_of_nonneg (by omega)
      have t2 : K.tmod 12 = K % 12 := Int.tmod_eq_emod_of_nonneg (by omega)
      rw [hmr]
      have hz := @days_some (K / 12) (K % 12 + 1) (by omega)
      have hz2 := (days_le (K / 12) (K % 12 + 1)).2
      have CD := fun W => refDays_any (K / 12) (K % 12 + 1) W
      have CP := fun W => print_any (K / 12) (K % 12 + 1) (min d (daysI (K / 12) (K % 12 + 1))) (by omega) (by omega) (by omega) (by omega) (by omega) (by omega) W
      obtain ⟨z, hzz⟩ : ∃ z, z = daysI (K / 12) (K % 12 + 1) := ⟨_, rfl⟩
      rw [← hzz] at CD CP hz hz2 ⊢
      obtain ⟨v, hv⟩ : ∃ v, v = min d z := ⟨_, rfl⟩
      have hmin : (if z < d then z else d) = v := by rw [hv]; split <;> omega
      rw [← hv] at CP ⊢
      clear hv
      have CD := Lib.hid CD
      have CP := Lib.hid CP
      have hn1 : -120000 ≤ n ∧ n ≤ 120000 := by omega
      obtain ⟨hn1, hn2⟩ := hn1
      clear hzz hmr hout e1 e2 hK hk0 hk
      go_enter Try.func30, Try.ntmps30
      go_wp2_with fail
      refine C2.mono ?_
      rintro e w1 ⟨rfl, hb1⟩
      go_wp2_with fail
      rw [← hKK]
      clear hKK
      have b1 := DB.new w1 30 (K / 12) (K % 12 + 1) d
      have hB1 := hb1.alloc hb1.size (.cells #[.int .i64 (K / 12), .int .i64 (K % 12 + 1), .int .i64 d] 30)
      have hs1 := hb1.size
      generalize w1.alloc (.cells #[.int .i64 (K / 12), .int .i64 (K % 12 + 1), .int .i64 d] 30) = W1 at b1 hB1 ⊢
      obtain ⟨c0, c1, c2, f0, f1, f2⟩ := b1.cells
      have CD2 := Lib.hid (fun W => (CD.out W).mono fun e w' h => (⟨h.1, h.2.symm⟩ : e = .returned (.int .i64 z) ∧ w' = W))
      clear C2 t1 t2 CD hb1
      refine wp_region_still_tail 8 (by kernel_rfl) (by kernel_rfl) ?_
      simp only [List.take_succ_cons, List.take_zero, List.drop_succ_cons, List.drop_zero]
      repeat still_step
      still_call (CD2.out _)
      repeat still_step
      refine wpStill_nil ?_
      change wpList _ _ _ _ _ W1.drew
      obtain ⟨d0, d1, d2, _, _, _⟩ := (b1.set2 v).cells
      clear CD2
      go_wp2_with (go_at_call 15; refine (CP.out _).mono ?_; rintro e w4 ⟨rfl, hb4⟩)
      go_ret2
      have hB2 : Below w.heap.size w (W1.setCell ⟨w1.heap.size, 2, none⟩ (.int .i64 v)).drew := (hB1.setCell (p := ⟨w1.heap.size, 2, none⟩) hs1 _).drew
      exact ⟨rfl, bto hB2 hb4 hB2.size⟩
end Go.Proofs.Ytdekjlkpinallaa
