/- The frame's small functions: colours, made, New, Size. No condition. -/
import Derived.Test.YtnakgjcmepimiaaGRows
import Derived.Test.YtnakgjcmepimiaaGridE
import Derived.Test.YtnakgjcmepimiaaGridQ
import Derived.Test.YtnakgjcmepimiaaClus5
import Derived.Test.YtnakgjcmepimiaaRegR
import Derived.Test.YtnakgjcmepimiaaQuietBelow
namespace Go.Proofs.Ytnakgjcmepimiaa
set_option linter.unusedVariables false
set_option linter.unusedSimpArgs false
open Go.RowKit Go.Maps
/-- Colours that may be. -/
def mayF (y : Sy) : Bool := decide (0 ≤ y.f ∧ y.f ≤ 8 ∧ 0 ≤ y.g ∧ y.g ≤ 8)
set_option maxRecDepth 100000 in
theorem colours_any (y : Sy) (w : World) : Calls Try.prog 47 #[.agg #[.bool y.b, .bool y.u, .bool y.i, .int .i64 y.f, .int .i64 y.g]] w fun e w' => e = .returned (.bool (mayF y)) ∧ Below w.heap.size w w' := by
  obtain ⟨b, u, i, f, g⟩ := y
  go_enter Try.func47, Try.ntmps47
  go_wp2
  all_goals
    go_ret
    refine ⟨ret_bool ?_, (Below.refl _ _).alloc (Nat.le_refl _) _⟩
    rw [Bool.eq_iff_iff]; simp [mayF]; omega
/-- A builder of a frame: its grid, the cursor's place, whether it is seen. -/
structure BAt (W : World) (b p q w h : Nat) (L : List GC) (r c : Nat) (s : Bool) : Prop where
  blk : W.heap[b]? = some (.cells #[.pointer (some ⟨p, 0, none⟩), .int .i64 r, .int .i64 c, .bool s] 53 (0, 0))
  g : GridAt W p q w h L
  bp : b ≠ p
  bq : b ≠ q
theorem BAt.only {W W' : World} {b p q w h : Nat} {L : List GC} {r c : Nat} {s : Bool} {S : List Nat} (a : BAt W b p q w h L r c s) (ho : Only S W W') (h1 : b ∉ S) (h2 : p ∉ S) (h3 : q ∉ S) : BAt W' b p q w h L r c s :=
  ⟨ho.heap a.blk h1, a.g.only ho h2 h3, a.bp, a.bq⟩
theorem BAt.below {W W' : World} {b p q w h : Nat} {L : List GC} {r c : Nat} {s : Bool} (a : BAt W b p q w h L r c s) (hb : Below W.heap.size W W') : BAt W' b p q w h L r c s :=
  a.only (Only.of_below (S := []) hb) (by simp) (by simp) (by simp)
theorem BAt.cells {W : World} {b p q w h : Nat} {L : List GC} {r c : Nat} {s : Bool} (a : BAt W b p q w h L r c s) :
    W.cell? ⟨b, 0, none⟩ = some (.pointer (some ⟨p, 0, none⟩)) ∧ W.cell? ⟨b, 1, none⟩ = some (.int .i64 r) ∧ W.cell? ⟨b, 2, none⟩ = some (.int .i64 c) ∧ W.cell? ⟨b, 3, none⟩ = some (.bool s) := by
  refine ⟨?_, ?_, ?_, ?_⟩ <;> rw [cell_of_row W b _ _ _ _ a.blk] <;> rfl
theorem BAt.lt {W : World} {b p q w h : Nat} {L : List GC} {r c : Nat} {s : Bool} (a : BAt W b p q w h L r c s) : b < W.heap.size ∧ p < W.heap.size ∧ q < W.heap.size :=
  ⟨(Array.getElem?_eq_some_iff.1 a.blk).1, (Array.getElem?_eq_some_iff.1 a.g.head).1, a.g.blk.lt⟩
/-- No builder: nil, or one of zeros. -/
def NoB (W : World) (v : Value) : Prop := v = .pointer none ∨ ∃ z, v = .pointer (some ⟨z, 0, none⟩) ∧ W.heap[z]? = some (.cells #[.pointer none, .int .i64 0, .int .i64 0, .bool false] 53 (0, 0))
theorem NoB.below {W W' : World} {v : Value} (h : NoB W v) (hb : Below W.heap.size W W') : NoB W' v := by
  rcases h with h | ⟨z, rfl, h⟩
  · exact .inl h
  · exact .inr ⟨z, rfl, (hb.block z (Array.getElem?_eq_some_iff.1 h).1).trans h⟩
set_option maxRecDepth 100000 in
theorem bmade_any {W : World} {b p q w h : Nat} {L : List GC} {r c : Nat} {s : Bool} (a : BAt W b p q w h L r c s) : Calls Try.prog 45 #[.pointer (some ⟨b, 0, none⟩)] W fun e w' => e = .returned (.bool true) ∧ W = w' := by
  obtain ⟨c0, _, _, _⟩ := a.cells
  clear a
  go_enter Try.func45, Try.ntmps45
  go_wp2
  go_ret
  exact ⟨rfl, rfl⟩
set_option maxRecDepth 100000 in
theorem bmade_no {W : World} {v : Value} (h : NoB W v) : Calls Try.prog 45 #[v] W fun e w' => e = .returned (.bool false) ∧ W = w' := by
  rcases h with rfl | ⟨z, rfl, h⟩
  · go_enter Try.func45, Try.ntmps45
    go_wp2
    go_ret
    exact ⟨rfl, rfl⟩
  · have c0 : W.cell? ⟨z, 0, none⟩ = some (.pointer none) := by rw [cell_of_row W z _ _ _ _ h]; rfl
    clear h
    go_enter Try.func45, Try.ntmps45
    go_wp2
    go_ret
    exact ⟨rfl, rfl⟩
set_option maxRecDepth 100000 in
set_option maxHeartbeats 2000000 in
theorem fnew_ok (a b : Nat) (h : 1 ≤ a ∧ a ≤ 500 ∧ 1 ≤ b ∧ b ≤ 60) (W : World) :
    Calls Try.prog 10 #[.int .i64 a, .int .i64 b] W fun e w' => ∃ z p q, e = .returned (.tuple #[.pointer (some ⟨z, 0, none⟩), .int .i64 0]) ∧ BAt w' z p q a b (List.replicate (a * b) GC.blank) 0 0 false ∧ (W.heap.size ≤ z ∧ W.heap.size ≤ p ∧ W.heap.size ≤ q) ∧ Below W.heap.size W w' := by
  have CN := new_ok (a : Int) (b : Int) (by omega) W
  simp only [Int.toNat_natCast] at CN
  have CN := Lib.hid CN
  obtain ⟨h1, h2, h3, h4⟩ := h
  go_enter Try.func10, Try.ntmps10
  go_wp2_with (go_at_call 44; refine (CN.out).mono ?_; rintro e w1 ⟨p, rfl, hp, g1, hb1⟩)
  go_ret2
  have o1 : Only [] w1 (w1.alloc (.cells #[.pointer (some ⟨p, 0, none⟩), .int .i64 0, .int .i64 0, .bool false] 53)) := (Only.refl _ _).alloc _
  have hpl : p < w1.heap.size := (Array.getElem?_eq_some_iff.1 g1.head).1
  have hql := g1.blk.lt
  exact ⟨w1.heap.size, p, W.heap.size, rfl, ⟨World.alloc_heap_new w1 _, g1.only o1 (by simp) (by simp), by omega, by omega⟩, ⟨hb1.size, hp, Nat.le_refl _⟩, hb1.alloc hb1.size _⟩
set_option maxRecDepth 100000 in
set_option maxHeartbeats 2000000 in
theorem fnew_bad (a b : Int) (h : ¬ (1 ≤ a ∧ a ≤ 500 ∧ 1 ≤ b ∧ b ≤ 60)) (W : World) :
    Calls Try.prog 10 #[.int .i64 a, .int .i64 b] W fun e w' => e = .returned (.tuple #[.pointer none, .int .i64 90]) ∧ W = w' := by
  go_enter Try.func10, Try.ntmps10
  go_wp2
  all_goals first
    | (exfalso; omega)
    | (go_ret2; exact ⟨rfl, rfl⟩)
set_option maxRecDepth 100000 in
theorem bsize_any {W : World} {b p q w h : Nat} {L : List GC} {r c : Nat} {s : Bool} (a : BAt W b p q w h L r c s) : Calls Try.prog 21 #[.pointer (some ⟨b, 0, none⟩)] W fun e w' => e = .returned (.tuple #[.int .i64 w, .int .i64 h]) ∧ Below W.heap.size W w' := by
  obtain ⟨c0, _, _, _⟩ := a.cells
  have CM := Lib.hid (bmade_any a)
  have CS := Lib.hid (gsize_any a.g)
  clear a
  go_enter Try.func21, Try.ntmps21
  go_wp2_with (first
    | (go_at_call 45; refine (CM.out).mono ?_; rintro e w1 ⟨rfl, rfl⟩)
    | (go_at_call 46; refine (CS.out).mono ?_; rintro e w2 ⟨rfl, hb2⟩))
  go_ret2
  exact ⟨rfl, hb2⟩
set_option maxRecDepth 100000 in
theorem bsize_no {W : World} {v : Value} (h : NoB W v) : Calls Try.prog 21 #[v] W fun e w' => e = .returned (.tuple #[.int .i64 0, .int .i64 0]) ∧ W = w' := by
  have CM := Lib.hid (bmade_no h)
  clear h
  go_enter Try.func21, Try.ntmps21
  go_wp2_with (go_at_call 45; refine (CM.out).mono ?_; rintro e w1 ⟨rfl, rfl⟩)
  go_ret2
  exact ⟨rfl, rfl⟩
end Go.Proofs.Ytnakgjcmepimiaa
