/- The law FrameNobody. No condition. -/
import Derived.Test.YtnakgjcmepimiaaFrame9
namespace Go.Proofs.Ytnakgjcmepimiaa
set_option linter.unusedVariables false
set_option linter.unusedSimpArgs false
open Go.RowKit Go.Shelf Go.Maps
set_option maxRecDepth 100000 in
set_option maxHeartbeats 2000000 in
theorem fill_no {W : World} {v : Value} (h : NoB W v) (rr a b : Int) (y : Sy) : Calls Try.prog 22 #[v, .int .i64 rr, .int .i64 a, .int .i64 b, .agg #[.bool y.b, .bool y.u, .bool y.i, .int .i64 y.f, .int .i64 y.g]] W fun e w' =>
    e = .returned (.int .i64 4) ∧ Below W.heap.size W w' := by
  have CM := Lib.hid (fun W' (o : Only [] W W') => bmade_no (h.below o.nil))
  have hv : ∃ a, v = .pointer a := by rcases h with rfl | ⟨z, rfl, _⟩ <;> exact ⟨_, rfl⟩
  obtain ⟨x, rfl⟩ := hv
  clear h
  go_enter Try.func22, Try.ntmps22
  go_wp2_with (go_at_call 45; refine (CM.out _ ((Only.refl _ _).alloc _)).mono ?_; rintro e X ⟨rfl, rfl⟩)
  go_ret
  exact ⟨rfl, (Below.refl _ _).alloc (Nat.le_refl _) _⟩
set_option maxRecDepth 100000 in
set_option maxHeartbeats 2000000 in
theorem cursor_no {W : World} {v : Value} (h : NoB W v) (rr cc : Int) (s : Bool) : Calls Try.prog 23 #[v, .int .i64 rr, .int .i64 cc, .bool s] W fun e w' =>
    e = .returned (.int .i64 4) ∧ Below W.heap.size W w' := by
  have CM := Lib.hid (bmade_no h)
  have hv : ∃ a, v = .pointer a := by rcases h with rfl | ⟨z, rfl, _⟩ <;> exact ⟨_, rfl⟩
  obtain ⟨x, rfl⟩ := hv
  clear h
  go_enter Try.func23, Try.ntmps23
  go_wp2_with (go_at_call 45; refine (CM.out).mono ?_; rintro e X ⟨rfl, rfl⟩)
  go_ret
  exact ⟨rfl, Below.refl _ _⟩
set_option maxRecDepth 100000 in
set_option maxHeartbeats 2000000 in
theorem frame_no {W : World} {v : Value} (h : NoB W v) : Calls Try.prog 12 #[v] W fun e w' =>
    e = .returned (.agg #[.slice none 0 0, .int .i64 0, .int .i64 0, .bool false]) ∧ Below W.heap.size W w' := by
  have CM := Lib.hid (fun W' (o : Only [] W W') => bmade_no (h.below o.nil))
  have hv : ∃ a, v = .pointer a := by rcases h with rfl | ⟨z, rfl, _⟩ <;> exact ⟨_, rfl⟩
  obtain ⟨x, rfl⟩ := hv
  clear h
  go_enter Try.func12, Try.ntmps12
  go_wp2_with (go_at_call 45; refine (CM.out _ ((Only.refl _ _).alloc _)).mono ?_; rintro e X ⟨rfl, rfl⟩)
  have z0 : FBox (W.alloc (.cells #[.slice none 0 0, .int .i64 0, .int .i64 0, .bool false] 35)) W.heap.size (.slice none 0 0) 0 0 false := World.alloc_heap_new W _
  refine bodyPost_ret (results_cell_row rfl _ _ W.heap.size 35 _ (0, 0) _ rfl z0 Try.underlying35 rfl (by kernel_rfl)) rfl ?_
  exact ⟨rfl, (Below.refl _ _).alloc (Nat.le_refl _) _⟩
set_option maxRecDepth 100000 in
set_option maxHeartbeats 8000000 in
theorem frameNobody_law (s : ByteArray) (w : World) (hs : s.size ≤ maxLen) : Calls Try.prog 5 #[.string s] w fun e w' => e = .returned (.bool true) ∧ Below w.heap.size w w' := by
  have zb : (w.alloc (.cells #[.pointer none, .int .i64 0, .int .i64 0, .bool false] 53)).heap[w.heap.size]? = some (.cells #[.pointer none, .int .i64 0, .int .i64 0, .bool false] 53 (0, 0)) := World.alloc_heap_new w _
  obtain ⟨X1, hX1⟩ : ∃ X, w.alloc (.cells #[.pointer none, .int .i64 0, .int .i64 0, .bool false] 53) = X := ⟨_, rfl⟩
  rw [hX1] at zb
  have b1 : Below w.heap.size w X1 := by rw [← hX1]; exact (Below.refl _ _).alloc (Nat.le_refl _) _
  have s1 : X1.heap.size = w.heap.size + 1 := by rw [← hX1]; simp
  have zc : (X1.alloc (.cells #[.pointer none, .pointer (some ⟨w.heap.size, 0, none⟩)] 25)).heap[X1.heap.size]? = some (.cells #[.pointer none, .pointer (some ⟨w.heap.size, 0, none⟩)] 25 (0, 0)) := World.alloc_heap_new X1 _
  have nb : NoB (X1.alloc (.cells #[.pointer none, .pointer (some ⟨w.heap.size, 0, none⟩)] 25)) (.pointer (some ⟨w.heap.size, 0, none⟩)) :=
    NoB.below (W := X1) (.inr ⟨_, rfl, zb⟩) ((Below.refl _ _).alloc (Nat.le_refl _) _)
  obtain ⟨X, hX⟩ : ∃ X, X1.alloc (.cells #[.pointer none, .pointer (some ⟨w.heap.size, 0, none⟩)] 25) = X := ⟨_, rfl⟩
  have b2 : Below w.heap.size w X := by rw [← hX]; exact b1.alloc b1.size _
  rw [hX, s1] at zc
  rw [hX] at nb
  have d0 : X.cell? ⟨w.heap.size + 1, 0, none⟩ = some (.pointer none) := by rw [cell_of_row X _ 0 _ _ _ zc]; rfl
  have d1 : X.cell? ⟨w.heap.size + 1, 1, none⟩ = some (.pointer (some ⟨w.heap.size, 0, none⟩)) := by rw [cell_of_row X _ 1 _ _ _ zc]; rfl
  have sX : w.heap.size + 1 < X.heap.size := (Array.getElem?_eq_some_iff.1 zc).1
  rw [← hX1] at hX
  have HX := Lib.hid hX
  have NB := Lib.hid nb
  clear hX hX1 zb zc nb b1 s1
  have hF0 : ∀ W, (Instr.field 35 (.agg #[.slice none 0 0, .int .i64 0, .int .i64 0, .bool false]) 0).run Try.prog W = .ok (.slice none 0 0) W := fun _ => by kernel_rfl
  have hF3 : ∀ W, (Instr.field 35 (.agg #[.slice none 0 0, .int .i64 0, .int .i64 0, .bool false]) 3).run Try.prog W = .ok (.bool false) W := fun _ => by kernel_rfl
  go_enter Try.func5, Try.ntmps5
  go_wp2
  rw [HX.out]
  go_loopw [15] (fun i wr => ∃ k : Nat, k ≤ 2 ∧ i = .int .i64 (k : Int) ∧ Below X.heap.size X wr) (fun i _ => 2 - (intOf i).toNat)
  case atStart => exact ⟨0, Nat.zero_le _, rfl, Below.refl _ _⟩
  case round =>
    obtain ⟨k, hk, rfl, hb⟩ := hrel
    by_cases hlt : k < 2
    · have hv : ∃ v, X.cell? ⟨w.heap.size + 1, k, none⟩ = some (.pointer v) ∧ NoB X (.pointer v) := by
        rcases (by omega : k = 0 ∨ k = 1) with rfl | rfl
        · exact ⟨_, d0, .inl rfl⟩
        · exact ⟨_, d1, NB.out⟩
      obtain ⟨v, hd, hn⟩ := hv
      have hdr := (hb.cell (p := ⟨w.heap.size + 1, k, none⟩) sX).trans hd
      have hN := Lib.hid (fun W' (h : Below X.heap.size X W') => hn.below h)
      have hk2 : (k : Int) < 2 := by omega
      clear hn hd d0 d1
      go_wp2_with (first
        | (go_at_call 11; refine (text_no (hN.out _ hb) _ _ _ Sy.zero).mono ?_; rintro e w1 ⟨rfl, h1⟩; have B1 := bto hb h1 hb.size)
        | (go_at_call 21; refine (bsize_no (hN.out _ B1)).mono ?_; rintro e w2 ⟨rfl, rfl⟩)
        | (go_at_call 22; refine (fill_no (hN.out _ B1) _ _ _ Sy.zero).mono ?_; rintro e w3 ⟨rfl, h3⟩; have B3 := bto B1 h3 B1.size)
        | (go_at_call 23; refine (cursor_no (hN.out _ B3) _ _ _).mono ?_; rintro e w4 ⟨rfl, h4⟩; have B4 := bto B3 h4 B3.size)
        | (go_at_call 12; refine (frame_no (hN.out _ B5)).mono ?_; rintro e w6 ⟨rfl, h6⟩; have B6 := bto B5 h6 B5.size)
        | (go_at_call 12; refine (frame_no (hN.out _ B4)).mono ?_; rintro e w5 ⟨rfl, h5⟩; have B5 := bto B4 h5 B4.size))
      go_roundw
      case rel => exact ⟨k + 1, by omega, by go_num, B6⟩
      case measure => simp [intOf]; omega
    · obtain rfl : k = 2 := by omega
      go_wp2_with (go_at_call 14; refine (awake09_any _).mono ?_; rintro e w8 ⟨rfl, hb8⟩)
      go_ret
      exact ⟨rfl, bto (bto b2 hb b2.size) hb8 (bto b2 hb b2.size).size⟩
end Go.Proofs.Ytnakgjcmepimiaa
