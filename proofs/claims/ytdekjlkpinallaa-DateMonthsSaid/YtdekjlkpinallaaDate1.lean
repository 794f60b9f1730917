/- The calendar's small functions: Leap, Days, before. -/
import Derived.Test.YtdekjlkpinallaaDate0
namespace Go.Proofs.Ytdekjlkpinallaa
open Go.RowKit Go.Maps
set_option maxRecDepth 100000 in
theorem leap_any (y : Int) (w : World) : Calls Try.prog 10 #[.int .i64 y] w fun e w' => e = .returned (.bool (leapI y)) ∧ w = w' := by
  obtain ⟨z, hz⟩ : ∃ z, z = leapI y := ⟨_, rfl⟩
  rw [← hz]
  have HZ := Lib.hid hz
  clear hz
  by_cases h1 : 1 ≤ y ∧ y ≤ 9999
  · obtain ⟨h1, h2⟩ := h1
    have t1 : y.tmod 4 = y % 4 := Int.tmod_eq_emod_of_nonneg (by omega)
    have t2 : y.tmod 100 = y % 100 := Int.tmod_eq_emod_of_nonneg (by omega)
    have t3 : y.tmod 400 = y % 400 := Int.tmod_eq_emod_of_nonneg (by omega)
    go_enter Try.func10, Try.ntmps10
    go_wp2
    all_goals go_ret
    all_goals refine ⟨ret_bool ?_, rfl⟩
    all_goals rw [HZ.out]
    all_goals unfold leapI
    all_goals clear HZ
    all_goals simp only [ne_eq, bne_iff_ne, bne_eq_false_iff_eq] at *
    all_goals first | exact (decide_eq_true (by omega)).symm | exact (decide_eq_false (by omega)).symm | (rw [Bool.eq_iff_iff]; simp only [beq_iff_eq, decide_eq_true_eq]; omega)
  · have h2 : y < 1 ∨ 9999 < y := by omega
    go_enter Try.func10, Try.ntmps10
    go_wp2
    all_goals go_ret
    all_goals exact ⟨ret_bool (by rw [HZ.out]; unfold leapI; symm; simp; omega), rfl⟩
set_option maxRecDepth 100000 in
theorem refLeap_any (y : Int) (w : World) : Calls Try.prog 11 #[.int .i64 y] w fun e w' => e = .returned (.bool (leapI y)) ∧ w = w' := by
  obtain ⟨z, hz⟩ : ∃ z, z = leapI y := ⟨_, rfl⟩
  rw [← hz]
  have HZ := Lib.hid hz
  clear hz
  by_cases h1 : 1 ≤ y ∧ y ≤ 9999
  · obtain ⟨h1, h2⟩ := h1
    have t1 : y.tmod 4 = y % 4 := Int.tmod_eq_emod_of_nonneg (by omega)
    have t2 : y.tmod 100 = y % 100 := Int.tmod_eq_emod_of_nonneg (by omega)
    have t3 : y.tmod 400 = y % 400 := Int.tmod_eq_emod_of_nonneg (by omega)
    go_enter Try.func11, Try.ntmps11
    go_wp2
    all_goals go_ret
    all_goals refine ⟨ret_bool ?_, rfl⟩
    all_goals rw [HZ.out]
    all_goals unfold leapI
    all_goals clear HZ
    all_goals simp only [ne_eq] at *
    all_goals first | exact (decide_eq_true (by omega)).symm | exact (decide_eq_false (by omega)).symm | (rw [Bool.eq_iff_iff]; simp only [beq_iff_eq, decide_eq_true_eq]; omega)
  · have h2 : y < 1 ∨ 9999 < y := by omega
    go_enter Try.func11, Try.ntmps11
    go_wp2
    all_goals go_ret
    all_goals exact ⟨ret_bool (by rw [HZ.out]; unfold leapI; symm; simp; omega), rfl⟩
theorem days_at (y m : Int) (h : 1 ≤ y ∧ y ≤ 9999 ∧ 1 ≤ m ∧ m ≤ 12) : daysI y m = if m = 2 then (if leapI y then 29 else 28) else if m = 4 ∨ m = 6 ∨ m = 9 ∨ m = 11 then 30 else 31 := by
  unfold daysI; rw [if_neg (by omega)]
theorem days_two (y : Int) (h : 1 ≤ y ∧ y ≤ 9999) : daysI y 2 = if leapI y then 29 else 28 := by rw [days_at y 2 (by omega), if_pos rfl]
theorem days_not (y m : Int) (h : 1 ≤ y ∧ y ≤ 9999 ∧ 1 ≤ m ∧ m ≤ 12) (h2 : m ≠ 2) : daysI y m = if m = 4 ∨ m = 6 ∨ m = 9 ∨ m = 11 then 30 else 31 := by rw [days_at y m h, if_neg h2]
theorem days_table (k : Nat) (h : k < 12) (h2 : k ≠ 1) : (#[.int .i64 31, .int .i64 28, .int .i64 31, .int .i64 30, .int .i64 31, .int .i64 30, .int .i64 31, .int .i64 31, .int .i64 30, .int .i64 31, .int .i64 30, .int .i64 31] : Array Value)[k]? =
    some (.int .i64 (if (k : Int) + 1 = 4 ∨ (k : Int) + 1 = 6 ∨ (k : Int) + 1 = 9 ∨ (k : Int) + 1 = 11 then 30 else 31)) := by
  have : k = 0 ∨ k = 2 ∨ k = 3 ∨ k = 4 ∨ k = 5 ∨ k = 6 ∨ k = 7 ∨ k = 8 ∨ k = 9 ∨ k = 10 ∨ k = 11 := by omega
  rcases this with rfl | rfl | rfl | rfl | rfl | rfl | rfl | rfl | rfl | rfl | rfl <;> rfl
set_option maxRecDepth 100000 in
set_option maxHeartbeats 1000000 in
theorem days_any (y m : Int) (w : World) : Calls Try.prog 12 #[.int .i64 y, .int .i64 m] w fun e w' => e = .returned (.int .i64 (daysI y m)) ∧ Below w.heap.size w w' := by
  by_cases h : 1 ≤ y ∧ y ≤ 9999 ∧ 1 ≤ m ∧ m ≤ 12
  · by_cases hm : m = 2
    · subst hm
      rw [days_two y ⟨h.1, h.2.1⟩]
      obtain ⟨h1, h2, _, _⟩ := h
      obtain ⟨b, hb⟩ : ∃ b, b = leapI y := ⟨_, rfl⟩
      rw [← hb]
      have HB := Lib.hid hb
      clear hb
      cases b
      all_goals
        go_enter Try.func12, Try.ntmps12
        go_wp2_with (go_at_call 10; refine (leap_any _ _).mono ?_; rw [← HB.out]; rintro e w1 ⟨rfl, rfl⟩)
        go_ret
        exact ⟨rfl, (Below.refl _ _).alloc (Nat.le_refl _) _⟩
    · rw [days_not y m h hm]
      obtain ⟨h1, h2, h3, h4⟩ := h
      obtain ⟨k, rfl⟩ : ∃ k : Nat, m = (k : Int) + 1 := ⟨(m - 1).toNat, by omega⟩
      have ht := days_table k (by omega) (by omega)
      obtain ⟨z, hz⟩ : ∃ z : Int, z = (if (k : Int) + 1 = 4 ∨ (k : Int) + 1 = 6 ∨ (k : Int) + 1 = 9 ∨ (k : Int) + 1 = 11 then 30 else 31) := ⟨_, rfl⟩
      rw [← hz] at ht ⊢
      have hc : (w.alloc (.cells #[.int .i64 31, .int .i64 28, .int .i64 31, .int .i64 30, .int .i64 31, .int .i64 30, .int .i64 31, .int .i64 31, .int .i64 30, .int .i64 31, .int .i64 30, .int .i64 31] 48)).cell? ⟨w.heap.size, k, none⟩ = some (.int .i64 z) := by
        rw [cell_of_row _ _ _ _ _ _ (World.alloc_heap_new w _)]; exact ht
      clear hz ht
      have hk : k < 12 := by omega
      go_enter Try.func12, Try.ntmps12
      go_wp2
      go_ret
      exact ⟨rfl, (Below.refl _ _).alloc (Nat.le_refl _) _⟩
  · have hd : daysI y m = 0 := by unfold daysI; rw [if_pos (by omega)]
    rw [hd]
    have h2 : y < 1 ∨ 9999 < y ∨ m < 1 ∨ 12 < m := by omega
    clear h hd
    go_enter Try.func12, Try.ntmps12
    go_wp2
    all_goals go_ret
    all_goals exact ⟨rfl, Below.refl _ _⟩
set_option maxRecDepth 100000 in
set_option maxHeartbeats 1000000 in
theorem refDays_any (y m : Int) (w : World) : Calls Try.prog 9 #[.int .i64 y, .int .i64 m] w fun e w' => e = .returned (.int .i64 (daysI y m)) ∧ w = w' := by
  by_cases h : 1 ≤ y ∧ y ≤ 9999 ∧ 1 ≤ m ∧ m ≤ 12
  · by_cases hm : m = 2
    · subst hm
      rw [days_two y ⟨h.1, h.2.1⟩]
      obtain ⟨h1, h2, _, _⟩ := h
      obtain ⟨b, hb⟩ : ∃ b, b = leapI y := ⟨_, rfl⟩
      rw [← hb]
      have HB := Lib.hid hb
      clear hb
      cases b
      all_goals
        go_enter Try.func9, Try.ntmps9
        go_wp2_with (go_at_call 11; refine (refLeap_any _ _).mono ?_; rw [← HB.out]; rintro e w1 ⟨rfl, rfl⟩)
        go_ret
        exact ⟨rfl, rfl⟩
    · have hd := days_not y m h hm
      obtain ⟨z, hz⟩ : ∃ z, z = daysI y m := ⟨_, rfl⟩
      rw [← hz] at hd ⊢
      clear hz
      obtain ⟨h1, h2, h3, h4⟩ := h
      have HD := Lib.hid hd
      clear hd
      have hm2 : (m == 2) = false := by simpa using hm
      clear hm
      go_enter Try.func9, Try.ntmps9
      go_wp2
      all_goals go_ret
      all_goals refine ⟨ret_int ?_, rfl⟩
      all_goals rw [HD.out]
      all_goals clear HD
      all_goals simp only [beq_iff_eq, beq_eq_false_iff_ne, ne_eq] at *
      all_goals first | rw [if_pos (by omega)] | rw [if_neg (by omega)]
  · have hd : daysI y m = 0 := by unfold daysI; rw [if_pos (by omega)]
    rw [hd]
    have h2 : y < 1 ∨ 9999 < y ∨ m < 1 ∨ 12 < m := by omega
    clear h hd
    go_enter Try.func9, Try.ntmps9
    go_wp2
    all_goals go_ret
    all_goals exact ⟨rfl, rfl⟩
set_option maxRecDepth 100000 in
theorem before_any (y : Int) (h1 : 1 ≤ y) (h2 : y ≤ 10000) (w : World) : Calls Try.prog 47 #[.int .i64 y] w fun e w' => e = .returned (.int .i64 (beforeI y)) ∧ w = w' := by
  have t0 : IntKind.i64.wrap (y - 1) = y - 1 := IntWalk.i64_in _ (by omega)
  obtain ⟨x, hx⟩ : ∃ x, x = y - 1 := ⟨_, rfl⟩
  rw [← hx] at t0
  have t1 : x.tdiv 4 = x / 4 := Int.tdiv_eq_ediv_of_nonneg (by omega)
  have t2 : x.tdiv 100 = x / 100 := Int.tdiv_eq_ediv_of_nonneg (by omega)
  have t3 : x.tdiv 400 = x / 400 := Int.tdiv_eq_ediv_of_nonneg (by omega)
  have hb : beforeI y = 365 * x + x / 4 - x / 100 + x / 400 := by unfold beforeI; rw [hx]
  rw [hb]
  clear hb
  have hx0 : 0 ≤ x ∧ x ≤ 9999 := by omega
  have hy : y = x + 1 := by omega
  subst hy
  clear hx h1 h2
  go_enter Try.func47, Try.ntmps47
  go_wp2
  go_ret
  exact ⟨ret_int (by omega), rfl⟩
end Go.Proofs.Ytdekjlkpinallaa
