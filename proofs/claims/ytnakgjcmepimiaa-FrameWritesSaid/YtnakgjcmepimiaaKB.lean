/- What an iterator needs of the worlds between two rounds: its blocks abide. No condition. -/
import Derived.Test.YtnakgjcmepimiaaBase
import Derived.RangeFuncFrom
import Derived.RangeFuncWrites
namespace Go.Proofs.Ytnakgjcmepimiaa
set_option linter.unusedVariables false
set_option linter.unusedSimpArgs false
open Go.RowKit Go.Shelf Go.Maps
theorem grown_of_below {W W' : World} (h : Below W.heap.size W W') : W.grownBy W' none := ⟨h.os, h.tape, h.output, h.size, fun k hk _ => h.block k hk⟩
/-- Two blocks abide. -/
structure KB (A B : Nat) (W W' : World) : Prop where
  a : W'.heap[A]? = W.heap[A]?
  b : W'.heap[B]? = W.heap[B]?
  size : W.heap.size ≤ W'.heap.size
theorem KB.refl (A B : Nat) (W : World) : KB A B W W := ⟨rfl, rfl, Nat.le_refl _⟩
theorem KB.trans {A B : Nat} {u v w : World} (h : KB A B u v) (k : KB A B v w) : KB A B u w := ⟨k.a.trans h.a, k.b.trans h.b, Nat.le_trans h.size k.size⟩
theorem KB.of_below {A B n : Nat} {W W' : World} (h : Below n W W') (ha : A < n) (hb : B < n) : KB A B W W' := ⟨h.block A ha, h.block B hb, h.size⟩
theorem KB.put {A B : Nat} {w : World} (ha : A < w.heap.size) (hb : B < w.heap.size) (W : World) (l : Nat) (o o' : Obj) (hl : w.heap.size ≤ l) (h : W.heap[l]? = some o) (h1 : o.isCells = false) (h2 : o.isWalk = false) : KB A B W (W.putObj l o') :=
  KB.of_below (belowK_b (Nat.le_refl _) W l o o' hl h h1 h2) ha hb
theorem KB.setCell {A B : Nat} (W : World) (b : Nat) (v : Value) (off : Nat) (ha : A ≠ b) (hb : B ≠ b) : KB A B W (W.setCell ⟨b, off, none⟩ v) :=
  ⟨Below.heap_setCell _ _ _ _ (by exact ha), Below.heap_setCell _ _ _ _ (by exact hb), by simp [World.setCell]⟩
theorem cell_block {W W' : World} {b o : Nat} (h : W'.heap[b]? = W.heap[b]?) : W'.cell? ⟨b, o, none⟩ = W.cell? ⟨b, o, none⟩ := by unfold World.cell?; dsimp only; rw [h]
theorem frozen_block {W W' : World} {b o : Nat} (h : W'.heap[b]? = W.heap[b]?) : W'.frozen? ⟨b, o, none⟩ = W.frozen? ⟨b, o, none⟩ := by unfold World.frozen?; dsimp only; rw [h]
end Go.Proofs.Ytnakgjcmepimiaa
