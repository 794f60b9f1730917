/- Same, where one of the two is no grid. -/
import Derived.Test.YtcihcjlaamfjfaaGNob1
import Derived.Test.YtcihcjlaamfjfaaQuietBelow
namespace Go.Proofs.Ytcihcjlaamfjfaa
open Go.RowKit Go.Maps
theorem NoG.drewN {W : World} {v : Value} (h : NoG W v) (n : Nat) : NoG (W.drewN n) v := h
theorem made_no_quiet {W : World} {v : Value} (h : NoG W v) (n : Nat) : Calls Try.prog 96 #[v] (W.drewN n) fun e w'' => e = .returned (.bool false) ∧ ∃ m, w'' = W.drewN m :=
  (made_no (h.drewN n)).mono fun e w' h => ⟨h.1, n, h.2.symm⟩
set_option maxRecDepth 100000 in
set_option maxHeartbeats 1000000 in
theorem same_no1 {W : World} {x : Option Addr} (h : NoG W (.pointer x)) : Calls Try.prog 62 #[.pointer x, .pointer x] W fun e w' => e = .returned (.bool false) ∧ Below W.heap.size W w' := by
  have o2 : Only [] W ((W.alloc (.cells #[.pointer x] 57)).alloc (.cells #[.bool false] 4)) := ((Only.refl [] _).alloc _).alloc _
  have b4 : Boxed ((W.alloc (.cells #[.pointer x] 57)).alloc (.cells #[.bool false] 4)) (W.heap.size + 1) 4 (.bool false) := by
    have := Boxed.new (W.alloc (.cells #[.pointer x] 57)) 4 (.bool false)
    simpa using this
  have h2 := h.only o2
  have hB := o2.nil
  go_enter Try.func62, Try.ntmps62
  go_wp2
  generalize (W.alloc (.cells #[.pointer x] 57)).alloc (.cells #[.bool false] 4) = W2 at o2 b4 h2 hB ⊢
  have k4 := b4.cell
  have f4 := b4.frozen
  have M1 := Lib.hid (made_no_quiet h2)
  clear h o2
  go_quiet (exact M1.out _)
  have bb : Boxed (W2.drewN nq) (W.heap.size + 1) 4 (.bool false) := b4
  go_wp2
  refine bodyPost_ret (results_box rfl _ _ (W.heap.size + 1) (.bool false) rfl (bb.set (.bool false))) rfl ?_
  exact ⟨rfl, Below.setCell (show Below W.heap.size W (W2.drewN nq) from ⟨hB.os, hB.tape, hB.output, hB.size, hB.block⟩) (by simp) _⟩
set_option maxRecDepth 100000 in
set_option maxHeartbeats 1000000 in
theorem same_no2 {W : World} {p q w h : Nat} {L : List GC} (g : GridAt W p q w h L) {x : Option Addr} (hx : NoG W (.pointer x)) : Calls Try.prog 62 #[.pointer (some ⟨p, 0, none⟩), .pointer x] W fun e w' => e = .returned (.bool false) ∧ Below W.heap.size W w' := by
  have o2 : Only [] W ((W.alloc (.cells #[.pointer x] 57)).alloc (.cells #[.bool false] 4)) := ((Only.refl [] _).alloc _).alloc _
  have b3 : Boxed ((W.alloc (.cells #[.pointer x] 57)).alloc (.cells #[.bool false] 4)) W.heap.size 57 (.pointer x) := (Boxed.new W _ _).alloc _
  have b4 : Boxed ((W.alloc (.cells #[.pointer x] 57)).alloc (.cells #[.bool false] 4)) (W.heap.size + 1) 4 (.bool false) := by
    have := Boxed.new (W.alloc (.cells #[.pointer x] 57)) 4 (.bool false)
    simpa using this
  have h2 := hx.only o2
  have g2 := g.only o2 (by simp) (by simp)
  have hB := o2.nil
  have hne : x ≠ some ⟨p, 0, none⟩ := by
    rintro rfl
    rcases hx with h | ⟨z, h, hz⟩
    · cases h
    · simp only [Value.pointer.injEq, Option.some.injEq, Addr.mk.injEq, and_true] at h
      subst h
      have := g.head
      rw [hz] at this
      have hw1 := g.w1
      exact absurd this (by simp)
  go_enter Try.func62, Try.ntmps62
  go_wp2
  generalize (W.alloc (.cells #[.pointer x] 57)).alloc (.cells #[.bool false] 4) = W2 at o2 b3 b4 h2 hB g2 ⊢
  have k3 := b3.cell
  have M1 := Lib.hid (made_no_quiet h2)
  have M2 := Lib.hid (made_quiet g2)
  clear hx g o2 hne
  go_quiet (first | (go_at_call_of 96 (Value.pointer x); exact M1.out _) | (go_at_call_of 96 (Value.pointer (some (⟨p, 0, none⟩ : Addr))); exact M2.out _))
  have bb : Boxed (W2.drewN nq) (W.heap.size + 1) 4 (.bool false) := b4
  have k4 := bb.cell
  have f4 := bb.frozen
  go_wp2
  refine bodyPost_ret (results_box rfl _ _ (W.heap.size + 1) (.bool false) rfl (bb.set (.bool false))) rfl ?_
  exact ⟨rfl, Below.setCell (show Below W.heap.size W (W2.drewN nq) from ⟨hB.os, hB.tape, hB.output, hB.size, hB.block⟩) (by simp) _⟩
end Go.Proofs.Ytcihcjlaamfjfaa
