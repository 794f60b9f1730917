/- The law DateMonths. -/
import Derived.Test.YtdekjlkpinallaaDate21
import Derived.Test.YtdekjlkpinallaaLexFast
namespace Go.Proofs.Ytdekjlkpinallaa
open Go.RowKit Go.Maps
theorem strs_get {y m : Int} {k most : Nat} (h : k < (daysI y m).toNat) (h2 : k < most) : (strsOf ((dayList y m).take most))[k]? = some (.string (S (textL y m ((k : Int) + 1)))) := by
  unfold strsOf
  rw [List.getElem?_map, List.getElem?_take_of_lt h2, dayList_get h]
  rfl
set_option maxRecDepth 100000 in
set_option maxHeartbeats 4000000 in
theorem dateMonths_law (y m c : Int) (w : World) (_ : (Lit.int .i64 y).wf = true) (_ : (Lit.int .i64 m).wf = true) (hc : (Lit.int .u8 c).wf = true) :
    Calls Try.prog 3 #[.int .i64 y, .int .i64 m, .int .u8 c] w fun e w' => e = .returned (.bool true) ∧ Below w.heap.size w w' := by
  have hc := bounds_u8 hc
  obtain ⟨s, rfl⟩ := Int.eq_ofNat_of_zero_le hc.1
  have hdl := days_le y m
  obtain ⟨z, hz⟩ : ∃ z : Nat, daysI y m = (z : Int) := ⟨(daysI y m).toNat, by omega⟩
  have hzn : (daysI y m).toNat = z := by omega
  have CD1 := fun W => days_any y m W
  have CD2 := fun W => refDays_any y m W
  rw [hz] at CD1 CD2 hdl
  have CD1 := Lib.hid CD1
  have CD2 := Lib.hid CD2
  have HZ := Lib.hid (And.intro hz hzn)
  clear hz hzn
  go_enter Try.func3, Try.ntmps3
  go_wp2_with (first
    | (go_at_call 9; refine (CD2.out _).mono ?_; rintro e w1 ⟨rfl, rfl⟩)
    | (go_at_call 10; refine (leap_any _ _).mono ?_; rintro e w2 ⟨rfl, rfl⟩)
    | (go_at_call 11; refine (refLeap_any _ _).mono ?_; rintro e w3 ⟨rfl, rfl⟩)
    | (go_at_call 12; refine (CD1.out _).mono ?_; rintro e w4 ⟨rfl, hb4⟩)
    | (go_at_call 13; refine (awake20_any _).mono ?_; rintro e w5 ⟨rfl, hb5⟩))
  have hB5 := bnext hb4 hb5
  clear hb4 hb5
  refine (told20_any y m 100 (by omega) w5).mono ?_
  rintro e w6 ⟨a1, c1, n1, rfl, hn1, hr1, hb6⟩
  rw [HZ.out.2] at hn1
  obtain rfl : n1 = z := by omega
  have hB6 := bnext hB5 hb6
  clear hB5 hb6 hn1
  go_wp2_with fail
  refine (told20_any y m s (by omega) w6).mono ?_
  rintro e w7 ⟨a2, c2, n2, rfl, hn2, hr2, hb7⟩
  rw [HZ.out.2] at hn2
  have hr1 := (hr1.below hb7).more hb7.size
  have hB7 := bnext hB6 hb7
  clear hB6 hb7
  have hmin : (if (s : Int) < (n1 : Int) then (s : Int) else (n1 : Int)) = (n2 : Int) := by split <;> omega
  have hn2s : n2 ≤ s := by omega
  have hn2z : n2 ≤ n1 := by omega
  have HN2 := Lib.hid hn2
  clear hn2
  go_wp2_with fail
  go_loopw [12] (fun i wr => ∃ k : Nat, k ≤ n1 ∧ i = .int .i64 k ∧ Below w7.heap.size w7 wr) (fun i _ => n1 - (intOf i).toNat)
  case atStart => exact ⟨0, Nat.zero_le _, rfl, Below.refl _ _⟩
  case round =>
    obtain ⟨k, hk, rfl, hb⟩ := hrel
    by_cases hlt : k < n1
    · have hday : IsDay y m ((k : Int) + 1) := ⟨by omega, by rw [HZ.out.1]; omega⟩
      obtain ⟨q1, q2, q3, q4⟩ := hday.at
      obtain ⟨b1, o1, rfl, hl1, x1⟩ := hr1 k _ (strs_get (by rw [HZ.out.2]; exact hlt) (by omega))
      have CP := fun W => print_any y m ((k : Int) + 1) (by omega) (by omega) (by omega) (by omega) (by omega) (by omega) W
      obtain ⟨T, hT⟩ : ∃ T, T = textL y m ((k : Int) + 1) := ⟨_, rfl⟩
      rw [← hT] at CP x1
      have X1 := fun p : BW wr.heap.size wr => p.cell (a := ⟨b1, o1 + k, none⟩) (by show b1 < _; have := hb.size; omega) ((hb.cell (p := ⟨b1, o1 + k, none⟩) hl1).trans x1)
      have CP := Lib.hid (fun p : BW wr.heap.size wr => CP p.W)
      have hki : (k : Int) < (n1 : Int) := by omega
      have hk0 : (0 : Int) ≤ (k : Int) := by omega
      have wk : IntKind.i64.wrap ((k : Int) + 1) = (k : Int) + 1 := IntWalk.i64_in _ (by omega)
      by_cases hk2 : k < n2
      · have hd2 : decide ((k : Int) < (n2 : Int)) = true := decide_eq_true (by omega)
        have hk2i : (k : Int) < (n2 : Int) := by omega
        obtain ⟨b2, o2, rfl, hl2, x2⟩ := hr2 k _ (strs_get (by rw [HZ.out.2]; exact hlt) (by have := HN2.out; omega))
        rw [← hT] at x2
        have X2 := fun p : BW wr.heap.size wr => p.cell (a := ⟨b2, o2 + k, none⟩) (by show b2 < _; have := hb.size; omega) ((hb.cell (p := ⟨b2, o2 + k, none⟩) hl2).trans x2)
        clear x1 x2 hday hT
        go_wp2_with fail
        refine wp_region_bw wr.heap.size (by kernel_rfl) (lexB_fast (by kernel_rfl)) ?_
        repeat (go_big_quiet_step ((apply Calls.bw_of (Nat.le_refl _); go_at_call 15; exact CP.out _)))
        refine wpQuiet_nil ?_
        intro wq hw'
        have hwq : Below wr.heap.size wr wq := by obtain ⟨p, rfl⟩ := hw'; exact p.h
        clear hw' CP
        go_wp2
        exact ⟨⟨k + 1, by omega, by go_num, bto hb hwq hb.size⟩, by simp [intOf]; omega⟩
      · have hd2 : decide ((k : Int) < (n2 : Int)) = false := decide_eq_false (by omega)
        clear x1 hday hT
        go_wp2_with fail
        refine wp_region_bw wr.heap.size (by kernel_rfl) (lexB_fast (by kernel_rfl)) ?_
        repeat (go_big_quiet_step ((apply Calls.bw_of (Nat.le_refl _); go_at_call 15; exact CP.out _)))
        refine wpQuiet_nil ?_
        intro wq hw'
        have hwq : Below wr.heap.size wr wq := by obtain ⟨p, rfl⟩ := hw'; exact p.h
        clear hw' CP
        go_wp2
        exact ⟨⟨k + 1, by omega, by go_num, bto hb hwq hb.size⟩, by simp [intOf]; omega⟩
    · obtain rfl : k = n1 := by omega
      go_wp2
      go_ret
      exact ⟨rfl, hB7.trans (hb.mono hB7.size)⟩
end Go.Proofs.Ytdekjlkpinallaa
