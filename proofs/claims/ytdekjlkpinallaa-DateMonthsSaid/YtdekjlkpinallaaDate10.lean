/- What begins a date: Begins, of the program. -/
import Derived.Test.YtdekjlkpinallaaDate9
namespace Go.Proofs.Ytdekjlkpinallaa
open Go.RowKit Go.Maps
theorem number_dig (l : List UInt8) (hl : l.length ≤ 15) (hd : digs l = true) (w : World) : Calls Try.prog 41 #[.string (S l)] w fun e w' => e = .returned (.tuple #[.int .i64 (numL l), .bool true]) ∧ w = w' :=
  (number_any l (by omega) w).mono fun e w' ⟨⟨n, he, hn⟩, hw⟩ => ⟨by rw [he, hn hd hl, hd], hw⟩
theorem number_not (l : List UInt8) (hl : l.length ≤ 1000) (hd : digs l = false) (w : World) : Calls Try.prog 41 #[.string (S l)] w fun e w' => (∃ n : Int, e = .returned (.tuple #[.int .i64 n, .bool false])) ∧ w = w' :=
  (number_any l hl w).mono fun e w' ⟨⟨n, he, _⟩, hw⟩ => ⟨⟨n, by rw [he, hd]⟩, hw⟩
theorem begins_4 {l : List UInt8} (hd : digs l = true) (h : l.length = 4) : beginsB l = decide (1 ≤ (numL l : Int)) := by
  unfold beginsB; rw [hd, Bool.true_and, decide_eq_decide]; omega
theorem begins_5 {l : List UInt8} (hd : digs l = true) (h : l.length = 5) : beginsB l = decide (1 ≤ (numL l : Int) / 10 ∧ (numL l : Int) % 10 ≤ 1) := by
  unfold beginsB; rw [hd, Bool.true_and, decide_eq_decide]; omega
theorem begins_6 {l : List UInt8} (hd : digs l = true) (h : l.length = 6) : beginsB l = decide (0 < daysI (numL (l.take 4)) (numL ((l.drop 4).take 2))) := by
  unfold beginsB; rw [hd, Bool.true_and, decide_eq_decide]; omega
theorem begins_7 {l : List UInt8} (hd : digs l = true) (h : l.length = 7) : beginsB l = decide (0 < daysI (numL (l.take 4)) (numL ((l.drop 4).take 2)) ∧ 10 * ((numL l : Int) % 10) ≤ daysI (numL (l.take 4)) (numL ((l.drop 4).take 2))) := by
  unfold beginsB; rw [hd, Bool.true_and, decide_eq_decide]; omega
theorem begins_8 {l : List UInt8} (hd : digs l = true) (h : l.length = 8) : beginsB l = decide (1 ≤ (numL l : Int) % 100 ∧ (numL l : Int) % 100 ≤ daysI (numL (l.take 4)) (numL ((l.drop 4).take 2))) := by
  unfold beginsB; rw [hd, Bool.true_and, decide_eq_decide]; omega
theorem begins_not {l : List UInt8} (hd : digs l = false) : beginsB l = false := by unfold beginsB; rw [hd]; rfl
theorem digs_drop {l : List UInt8} (h : digs l = true) (k : Nat) : digs (l.drop k) = true := by
  unfold digs at *
  rw [List.all_eq_true] at *
  exact fun b hb => h b (List.mem_of_mem_drop hb)
set_option maxRecDepth 100000 in
set_option maxHeartbeats 4000000 in
theorem begins20_any (l : List UInt8) (hl : l.length ≤ 1000) (w : World) : Calls Try.prog 21 #[.string (S l)] w fun e w' => e = .returned (.bool (beginsB l)) ∧ Below w.heap.size w w' := by
  have hsz := S_size l
  cases hd : digs l with
  | false =>
    rw [begins_not hd]
    have C := Lib.hid (fun W => number_not l hl hd W)
    go_enter Try.func21, Try.ntmps21
    go_wp2_with (go_at_call 41; refine (C.out _).mono ?_; rintro e w1 ⟨⟨n, rfl⟩, rfl⟩)
    go_ret
    exact ⟨rfl, Below.refl _ _⟩
  | true =>
    by_cases h8 : 8 < l.length
    · rw [begins_far l h8]
      have C := Lib.hid (fun W => number_any l hl W)
      have h8i : (8 : Int) < (l.length : Int) := by omega
      go_enter Try.func21, Try.ntmps21
      go_wp2_with (go_at_call 41; refine (C.out _).mono ?_; rw [hd]; rintro e w1 ⟨⟨n, rfl, _⟩, rfl⟩)
      go_ret
      exact ⟨rfl, Below.refl _ _⟩
    · have C := Lib.hid (fun W => number_dig l (by omega) hd W)
      by_cases h4 : l.length < 4
      · rw [begins_few hd h4]
        have hlen : l.length = 0 ∨ l.length = 1 ∨ l.length = 2 ∨ l.length = 3 := by omega
        clear h4 h8 hl
        rcases hlen with h | h | h | h
        all_goals
          rw [h] at hsz
          go_enter Try.func21, Try.ntmps21
          go_wp2_with (go_at_call 41; refine (C.out _).mono ?_; rintro e w1 ⟨rfl, rfl⟩)
          go_ret
          exact ⟨rfl, Below.refl _ _⟩
      · have hlen : l.length = 4 ∨ l.length = 5 ∨ l.length = 6 ∨ l.length = 7 ∨ l.length = 8 := by omega
        have hN := numL_lt l.length l rfl hd
        have hN : numL l < 10 ^ 8 := Nat.lt_of_lt_of_le hN (Nat.pow_le_pow_right (by omega) (by omega))
        have e1 : (S l).extract 0 4 = S (l.take 4) := by rw [S_extract]; rfl
        have e2 : (S l).extract 4 6 = S ((l.drop 4).take 2) := by rw [S_extract]
        have C1 := Lib.hid (fun W => number_dig (l.take 4) (by simp; omega) (digs_take hd 4) W)
        have C2 := Lib.hid (fun W => number_dig ((l.drop 4).take 2) (by simp; omega) (digs_take (digs_drop hd 4) 2) W)
        have b4 := @begins_4 l hd
        have b5 := @begins_5 l hd
        have b6 := @begins_6 l hd
        have b7 := @begins_7 l hd
        have b8 := @begins_8 l hd
        obtain ⟨r, hr⟩ : ∃ r, r = beginsB l := ⟨_, rfl⟩
        obtain ⟨y, hy⟩ : ∃ y, y = numL (l.take 4) := ⟨_, rfl⟩
        obtain ⟨m, hm⟩ : ∃ m, m = numL ((l.drop 4).take 2) := ⟨_, rfl⟩
        obtain ⟨n, hn⟩ : ∃ n, n = numL l := ⟨_, rfl⟩
        rw [← hn] at C b4 b5 b7 b8 hN
        rw [← hy, ← hm] at b6 b7 b8
        rw [← hy] at C1
        rw [← hm] at C2
        rw [← hr] at b4 b5 b6 b7 b8 ⊢
        have CD := fun W => days_any (y : Int) (m : Int) W
        have hdl := days_le (y : Int) (m : Int)
        obtain ⟨z, hz⟩ : ∃ z, z = daysI (y : Int) (m : Int) := ⟨_, rfl⟩
        rw [← hz] at CD b6 b7 b8 hdl
        have CD := Lib.hid CD
        clear hr hy hm hn hz h4 h8 hl hd
        revert e1 e2 C1 C2
        generalize l.take 4 = L1
        generalize (l.drop 4).take 2 = L2
        intro e1 e2 C1 C2
        have t1 : (n : Int).tdiv 10 = (n : Int) / 10 := Int.tdiv_eq_ediv_of_nonneg (by omega)
        have t2 : (n : Int).tmod 10 = (n : Int) % 10 := Int.tmod_eq_emod_of_nonneg (by omega)
        have t3 : (n : Int).tmod 100 = (n : Int) % 100 := Int.tmod_eq_emod_of_nonneg (by omega)
        rcases hlen with h | h | h | h | h
        · have HB := Lib.hid (b4 h)
          rw [h] at hsz
          clear b4 b5 b6 b7 b8 e1 e2 C1 C2 CD h
          go_enter Try.func21, Try.ntmps21
          go_wp2_with (go_at_call 41; refine (C.out _).mono ?_; rintro e w1 ⟨rfl, rfl⟩)
          all_goals
            go_ret
            exact ⟨ret_bool (by rw [HB.out]), Below.refl _ _⟩
        · have HB := Lib.hid (b5 h)
          rw [h] at hsz
          clear b4 b5 b6 b7 b8 e1 e2 C1 C2 CD h
          go_enter Try.func21, Try.ntmps21
          go_wp2_with (go_at_call 41; refine (C.out _).mono ?_; rintro e w1 ⟨rfl, rfl⟩)
          all_goals
            go_ret
            refine ⟨ret_bool ?_, Below.refl _ _⟩
            rw [HB.out]
            all_goals first | exact (decide_eq_true (by omega)).symm | exact (decide_eq_false (by omega)).symm | (rw [Bool.eq_iff_iff]; simp only [decide_eq_true_eq]; omega)
        · have HB := Lib.hid (b6 h)
          rw [h] at hsz
          clear b4 b5 b6 b7 b8 h
          go_enter Try.func21, Try.ntmps21
          go_wp2_with (first
            | (go_at_call_of 41 (Value.string (S l)); refine (C.out _).mono ?_; rintro e w1 ⟨rfl, rfl⟩)
            | (go_at_call_of 41 (Value.string (S L1)); refine (C1.out _).mono ?_; rintro e w1 ⟨rfl, rfl⟩)
            | (go_at_call_of 41 (Value.string (S L2)); refine (C2.out _).mono ?_; rintro e w1 ⟨rfl, rfl⟩)
            | (go_at_call 12; first
                | (refine (CD.out w).mono ?_; rintro e w3 ⟨rfl, hb3⟩)
                | (refine (CD.out w3).mono ?_; rintro e w4 ⟨rfl, hb4⟩)))
          all_goals
            go_ret
            refine ⟨ret_bool ?_, hb3⟩
            rw [HB.out]
            all_goals first | exact (decide_eq_true (by omega)).symm | exact (decide_eq_false (by omega)).symm | (rw [Bool.eq_iff_iff]; simp only [decide_eq_true_eq]; omega)
        · have HB := Lib.hid (b7 h)
          rw [h] at hsz
          clear b4 b5 b6 b7 b8 h
          by_cases hz0 : 0 < z
          all_goals
            go_enter Try.func21, Try.ntmps21
            go_wp2_with (first
            | (go_at_call_of 41 (Value.string (S l)); refine (C.out _).mono ?_; rintro e w1 ⟨rfl, rfl⟩)
            | (go_at_call_of 41 (Value.string (S L1)); refine (C1.out _).mono ?_; rintro e w1 ⟨rfl, rfl⟩)
            | (go_at_call_of 41 (Value.string (S L2)); refine (C2.out _).mono ?_; rintro e w1 ⟨rfl, rfl⟩)
            | (go_at_call 12; first
                | (refine (CD.out w).mono ?_; rintro e w3 ⟨rfl, hb3⟩)
                | (refine (CD.out w3).mono ?_; rintro e w4 ⟨rfl, hb4⟩)))
            all_goals
              go_ret
              refine ⟨ret_bool ?_, by first | exact bto hb3 hb4 hb3.size | exact hb3⟩
              rw [HB.out]
              all_goals first | exact (decide_eq_true (by omega)).symm | exact (decide_eq_false (by omega)).symm | (rw [Bool.eq_iff_iff]; simp only [decide_eq_true_eq]; omega)
        · have HB := Lib.hid (b8 h)
          rw [h] at hsz
          clear b4 b5 b6 b7 b8 h
          go_enter Try.func21, Try.ntmps21
          go_wp2_with (first
            | (go_at_call_of 41 (Value.string (S l)); refine (C.out _).mono ?_; rintro e w1 ⟨rfl, rfl⟩)
            | (go_at_call_of 41 (Value.string (S L1)); refine (C1.out _).mono ?_; rintro e w1 ⟨rfl, rfl⟩)
            | (go_at_call_of 41 (Value.string (S L2)); refine (C2.out _).mono ?_; rintro e w1 ⟨rfl, rfl⟩)
            | (go_at_call 12; first
                | (refine (CD.out w).mono ?_; rintro e w3 ⟨rfl, hb3⟩)
                | (refine (CD.out w3).mono ?_; rintro e w4 ⟨rfl, hb4⟩)))
          all_goals
            go_ret
            refine ⟨ret_bool ?_, by first | exact hb3 | exact Below.refl _ _⟩
            rw [HB.out]
            all_goals first | exact (decide_eq_true (by omega)).symm | exact (decide_eq_false (by omega)).symm | (rw [Bool.eq_iff_iff]; simp only [decide_eq_true_eq]; omega)
end Go.Proofs.Ytdekjlkpinallaa
