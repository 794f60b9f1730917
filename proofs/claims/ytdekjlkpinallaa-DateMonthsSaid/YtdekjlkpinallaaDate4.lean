/- Dates as texts: dashed, plain, text, Print, Digits, cut. -/
import Derived.Test.YtdekjlkpinallaaDate3
namespace Go.Proofs.Ytdekjlkpinallaa
open Go.RowKit Go.Maps
set_option maxRecDepth 100000 in
set_option maxHeartbeats 1000000 in
theorem dashed_any (l : List UInt8) (h6 : 6 ≤ l.length) (hl : l.length ≤ 1000) (w : World) : Calls Try.prog 40 #[.string (S l)] w fun e w' => e = .returned (.string (S (dashL l))) ∧ Below w.heap.size w w' := by
  have hsz := S_size l
  have e1 : (S l).extract 0 4 = S (l.take 4) := by rw [S_extract]; rfl
  have e2 : (S l).extract 4 6 = S ((l.drop 4).take 2) := by rw [S_extract]
  have e3 : (S l).extract 6 l.length = S (l.drop 6) := by rw [S_extract, List.take_of_length_le (by simp)]
  have s1 : (S (l.take 4)).size = 4 := by rw [S_size]; simp; omega
  have s2 : (S ((l.drop 4).take 2)).size = 2 := by rw [S_size]; simp; omega
  have s3 : (S (l.drop 6)).size ≤ 1000 := by rw [S_size]; simp; omega
  have i1 : (4 : Int) ≤ (l.length : Int) := by omega
  have i2 : (6 : Int) ≤ (l.length : Int) := by omega
  go_enter Try.func40, Try.ntmps40
  go_wp2
  go_quiet (fail)
  go_wp2
  go_ret
  refine ⟨ret_str ?_, ⟨rfl, rfl, rfl, Nat.le_refl _, fun _ _ => rfl⟩⟩
  show S _ ++ S [45] ++ S _ ++ S [45] ++ S _ = _
  rw [S_append, S_append, S_append, S_append]
  unfold dashL
  simp only [List.append_assoc]
theorem three_new (w : World) (a b c : Value) (t : TypeId) : (w.alloc (.cells #[a, b, c] t)).cell? ⟨w.heap.size, 0, none⟩ = some a ∧ (w.alloc (.cells #[a, b, c] t)).cell? ⟨w.heap.size, 1, none⟩ = some b ∧ (w.alloc (.cells #[a, b, c] t)).cell? ⟨w.heap.size, 2, none⟩ = some c ∧
    Below w.heap.size w (w.alloc (.cells #[a, b, c] t)) ∧ (w.alloc (.cells #[a, b, c] t)).heap.size = w.heap.size + 1 := by
  refine ⟨?_, ?_, ?_, (Below.refl _ _).alloc (Nat.le_refl _) _, by simp⟩
  all_goals rw [cell_of_row _ _ _ _ _ _ (World.alloc_heap_new w _)]; rfl
set_option maxRecDepth 100000 in
set_option maxHeartbeats 1000000 in
theorem plain_any (y m d : Int) (y0 : 0 ≤ y) (y1 : y ≤ 9999) (m0 : 0 ≤ m) (m1 : m ≤ 9999) (d0 : 0 ≤ d) (d1 : d ≤ 9999) (w : World) : Calls Try.prog 59 #[.agg #[.int .i64 y, .int .i64 m, .int .i64 d]] w fun e w' => e = .returned (.string (S (plainL y m d))) ∧ Below w.heap.size w w' := by
  obtain ⟨c0, c1, c2, hB, hs⟩ := three_new w (.int .i64 y) (.int .i64 m) (.int .i64 d) 61
  generalize hW : w.alloc (.cells #[.int .i64 y, .int .i64 m, .int .i64 d] 61) = W1 at c0 c1 c2 hB hs
  have K0 := fun p : BW W1.heap.size W1 => p.cell (by show w.heap.size < _; omega) c0
  have K1 := fun p : BW W1.heap.size W1 => p.cell (by show w.heap.size < _; omega) c1
  have K2 := fun p : BW W1.heap.size W1 => p.cell (by show w.heap.size < _; omega) c2
  have C0 := Lib.hid (fun p : BW W1.heap.size W1 => (digits_any y y0 y1 4 (by omega) p.W : Calls Try.prog 65 #[.int .i64 y, .int .i64 4] p.W fun e w' => e = .returned (.string (S (dig 4 y.toNat))) ∧ Below p.W.heap.size p.W w'))
  have C1 := Lib.hid (fun p : BW W1.heap.size W1 => (digits_any m m0 m1 2 (by omega) p.W : Calls Try.prog 65 #[.int .i64 m, .int .i64 2] p.W fun e w' => e = .returned (.string (S (dig 2 m.toNat))) ∧ Below p.W.heap.size p.W w'))
  have C2 := Lib.hid (fun p : BW W1.heap.size W1 => (digits_any d d0 d1 2 (by omega) p.W : Calls Try.prog 65 #[.int .i64 d, .int .i64 2] p.W fun e w' => e = .returned (.string (S (dig 2 d.toNat))) ∧ Below p.W.heap.size p.W w'))
  have s0 : (S (dig 4 y.toNat)).size = 4 := by rw [S_size, dig_len]
  have s1 : (S (dig 2 m.toNat)).size = 2 := by rw [S_size, dig_len]
  have s2 : (S (dig 2 d.toNat)).size = 2 := by rw [S_size, dig_len]
  clear c0 c1 c2
  go_enter Try.func59, Try.ntmps59
  go_wp2_with fail
  refine wp_region_bw W1.heap.size (by kernel_rfl) (by kernel_rfl) ?_
  repeat (quiet_step ((apply Calls.bw_of (Nat.le_refl _); first | (go_at_call_of 65 (Value.int IntKind.i64 y); exact C0.out _) | (go_at_call_of 65 (Value.int IntKind.i64 m); exact C1.out _) | (go_at_call_of 65 (Value.int IntKind.i64 d); exact C2.out _))))
  refine wpQuiet_nil ?_
  intro wq hw'
  have hwq : Below W1.heap.size W1 wq := by obtain ⟨p, rfl⟩ := hw'; exact p.h
  clear hw' C0 C1 C2 K0 K1 K2
  go_wp2_with fail
  go_ret
  refine ⟨ret_str ?_, bto hB hwq hB.size⟩
  rw [S_append, S_append]
  unfold plainL
  simp only [List.append_assoc]
set_option maxRecDepth 100000 in
set_option maxHeartbeats 1000000 in
theorem refDigitsDay_any (y m d : Int) (y0 : 0 ≤ y) (y1 : y ≤ 9999) (m0 : 0 ≤ m) (m1 : m ≤ 9999) (d0 : 0 ≤ d) (d1 : d ≤ 9999) (w : World) : Calls Try.prog 43 #[.agg #[.int .i64 y, .int .i64 m, .int .i64 d]] w fun e w' => e = .returned (.string (S (plainL y m d))) ∧ Below w.heap.size w w' := by
  obtain ⟨c0, c1, c2, hB, hs⟩ := three_new w (.int .i64 y) (.int .i64 m) (.int .i64 d) 30
  generalize hW : w.alloc (.cells #[.int .i64 y, .int .i64 m, .int .i64 d] 30) = W1 at c0 c1 c2 hB hs
  have K0 := fun p : BW W1.heap.size W1 => p.cell (by show w.heap.size < _; omega) c0
  have K1 := fun p : BW W1.heap.size W1 => p.cell (by show w.heap.size < _; omega) c1
  have K2 := fun p : BW W1.heap.size W1 => p.cell (by show w.heap.size < _; omega) c2
  have C0 := Lib.hid (fun p : BW W1.heap.size W1 => (refDigits_any y y0 y1 4 (by omega) p.W : Calls Try.prog 39 #[.int .i64 y, .int .i64 4] p.W fun e w' => e = .returned (.string (S (dig 4 y.toNat))) ∧ Below p.W.heap.size p.W w'))
  have C1 := Lib.hid (fun p : BW W1.heap.size W1 => (refDigits_any m m0 m1 2 (by omega) p.W : Calls Try.prog 39 #[.int .i64 m, .int .i64 2] p.W fun e w' => e = .returned (.string (S (dig 2 m.toNat))) ∧ Below p.W.heap.size p.W w'))
  have C2 := Lib.hid (fun p : BW W1.heap.size W1 => (refDigits_any d d0 d1 2 (by omega) p.W : Calls Try.prog 39 #[.int .i64 d, .int .i64 2] p.W fun e w' => e = .returned (.string (S (dig 2 d.toNat))) ∧ Below p.W.heap.size p.W w'))
  have s0 : (S (dig 4 y.toNat)).size = 4 := by rw [S_size, dig_len]
  have s1 : (S (dig 2 m.toNat)).size = 2 := by rw [S_size, dig_len]
  have s2 : (S (dig 2 d.toNat)).size = 2 := by rw [S_size, dig_len]
  clear c0 c1 c2
  go_enter Try.func43, Try.ntmps43
  go_wp2_with fail
  refine wp_region_bw W1.heap.size (by kernel_rfl) (by kernel_rfl) ?_
  repeat (quiet_step ((apply Calls.bw_of (Nat.le_refl _); first | (go_at_call_of 39 (Value.int IntKind.i64 y); exact C0.out _) | (go_at_call_of 39 (Value.int IntKind.i64 m); exact C1.out _) | (go_at_call_of 39 (Value.int IntKind.i64 d); exact C2.out _))))
  refine wpQuiet_nil ?_
  intro wq hw'
  have hwq : Below W1.heap.size W1 wq := by obtain ⟨p, rfl⟩ := hw'; exact p.h
  clear hw' C0 C1 C2 K0 K1 K2
  go_wp2_with fail
  go_ret
  refine ⟨ret_str ?_, bto hB hwq hB.size⟩
  rw [S_append, S_append]
  unfold plainL
  simp only [List.append_assoc]
set_option maxRecDepth 100000 in
set_option maxHeartbeats 1000000 in
theorem print_any (y m d : Int) (y0 : 0 ≤ y) (y1 : y ≤ 9999) (m0 : 0 ≤ m) (m1 : m ≤ 9999) (d0 : 0 ≤ d) (d1 : d ≤ 9999) (w : World) : Calls Try.prog 15 #[.agg #[.int .i64 y, .int .i64 m, .int .i64 d]] w fun e w' => e = .returned (.string (S (textL y m d))) ∧ Below w.heap.size w w' := by
  obtain ⟨c0, c1, c2, hB, hs⟩ := three_new w (.int .i64 y) (.int .i64 m) (.int .i64 d) 30
  generalize hW : w.alloc (.cells #[.int .i64 y, .int .i64 m, .int .i64 d] 30) = W1 at c0 c1 c2 hB hs
  have K0 := fun p : BW W1.heap.size W1 => p.cell (by show w.heap.size < _; omega) c0
  have K1 := fun p : BW W1.heap.size W1 => p.cell (by show w.heap.size < _; omega) c1
  have K2 := fun p : BW W1.heap.size W1 => p.cell (by show w.heap.size < _; omega) c2
  have C0 := Lib.hid (fun p : BW W1.heap.size W1 => (refDigits_any y y0 y1 4 (by omega) p.W : Calls Try.prog 39 #[.int .i64 y, .int .i64 4] p.W fun e w' => e = .returned (.string (S (dig 4 y.toNat))) ∧ Below p.W.heap.size p.W w'))
  have C1 := Lib.hid (fun p : BW W1.heap.size W1 => (refDigits_any m m0 m1 2 (by omega) p.W : Calls Try.prog 39 #[.int .i64 m, .int .i64 2] p.W fun e w' => e = .returned (.string (S (dig 2 m.toNat))) ∧ Below p.W.heap.size p.W w'))
  have C2 := Lib.hid (fun p : BW W1.heap.size W1 => (refDigits_any d d0 d1 2 (by omega) p.W : Calls Try.prog 39 #[.int .i64 d, .int .i64 2] p.W fun e w' => e = .returned (.string (S (dig 2 d.toNat))) ∧ Below p.W.heap.size p.W w'))
  have s0 : (S (dig 4 y.toNat)).size = 4 := by rw [S_size, dig_len]
  have s1 : (S (dig 2 m.toNat)).size = 2 := by rw [S_size, dig_len]
  have s2 : (S (dig 2 d.toNat)).size = 2 := by rw [S_size, dig_len]
  clear c0 c1 c2
  go_enter Try.func15, Try.ntmps15
  go_wp2_with fail
  refine wp_region_bw W1.heap.size (by kernel_rfl) (by kernel_rfl) ?_
  repeat (quiet_step ((apply Calls.bw_of (Nat.le_refl _); first | (go_at_call_of 39 (Value.int IntKind.i64 y); exact C0.out _) | (go_at_call_of 39 (Value.int IntKind.i64 m); exact C1.out _) | (go_at_call_of 39 (Value.int IntKind.i64 d); exact C2.out _))))
  refine wpQuiet_nil ?_
  intro wq hw'
  have hwq : Below W1.heap.size W1 wq := by obtain ⟨p, rfl⟩ := hw'; exact p.h
  clear hw' C0 C1 C2 K0 K1 K2
  go_wp2_with fail
  go_ret
  refine ⟨ret_str ?_, bto hB hwq hB.size⟩
  show S _ ++ S [45] ++ S _ ++ S [45] ++ S _ = _
  rw [S_append, S_append, S_append, S_append]
  unfold textL
  simp only [List.append_assoc]
set_option maxRecDepth 100000 in
theorem text_any (y m d : Int) (y0 : 0 ≤ y) (y1 : y ≤ 9999) (m0 : 0 ≤ m) (m1 : m ≤ 9999) (d0 : 0 ≤ d) (d1 : d ≤ 9999) (w : World) : Calls Try.prog 49 #[.agg #[.int .i64 y, .int .i64 m, .int .i64 d]] w fun e w' => e = .returned (.string (S (textL y m d))) ∧ Below w.heap.size w w' := by
  have hb0 : Below w.heap.size w (w.alloc (.cells #[.int .i64 y, .int .i64 m, .int .i64 d] 61)) := (Below.refl _ _).alloc (Nat.le_refl _) _
  go_enter Try.func49, Try.ntmps49
  go_wp2_with (first
    | (go_at_call 59; refine (plain_any y m d y0 y1 m0 m1 d0 d1 _).mono ?_; rintro e w1 ⟨rfl, hb1⟩)
    | (go_at_call 40; refine (dashed_any (plainL y m d) (by rw [plain_len]; omega) (by rw [plain_len]; omega) _).mono ?_; rw [dash_plain]; rintro e w2 ⟨rfl, hb2⟩))
  go_ret
  exact ⟨rfl, bto (bto hb0 hb1 hb0.size) hb2 (bto hb0 hb1 hb0.size).size⟩
set_option maxRecDepth 100000 in
theorem cut_any (s : ByteArray) (w : World) : Calls Try.prog 16 #[.string s] w fun e w' => (∃ l : List UInt8, l.length ≤ 40 ∧ e = .returned (.string (S l))) ∧ w = w' := by
  by_cases h : (40 : Int) < s.size
  · obtain ⟨l, hl⟩ := S_back (s.extract 0 40)
    have hs := S_size l
    rw [← hl, ByteArray.size_extract] at hs
    go_enter Try.func16, Try.ntmps16
    go_wp2
    go_ret
    exact ⟨⟨l, by omega, rfl⟩, rfl⟩
  · obtain ⟨l, rfl⟩ := S_back s
    have hs := S_size l
    go_enter Try.func16, Try.ntmps16
    go_wp2
    go_ret
    exact ⟨⟨l, by omega, rfl⟩, rfl⟩
end Go.Proofs.Ytdekjlkpinallaa
