/- The grid's iterator Rows, beside which three blocks must abide: the grid's two and the closure's box. No condition. -/
import Derived.Test.YtekodpcedjpnjaaGreatGridE
import Derived.Test.YtekodpcedjpnjaaGreatRangeX
namespace Go.Proofs.YtekodpcedjpnjaaGreat
set_option linter.unusedVariables false
set_option linter.unusedSimpArgs false
open Go.RowKit Go.Maps
attribute [local go_sem] Oper.semAt_some
/-- Three blocks abide. -/
structure KP (A B C : Nat) (W W' : World) : Prop where
  a : W'.heap[A]? = W.heap[A]?
  b : W'.heap[B]? = W.heap[B]?
  c : W'.heap[C]? = W.heap[C]?
  size : W.heap.size ≤ W'.heap.size
theorem KP.refl (A B C : Nat) (W : World) : KP A B C W W := ⟨rfl, rfl, rfl, Nat.le_refl _⟩
theorem KP.trans {A B C : Nat} {u v w : World} (h : KP A B C u v) (k : KP A B C v w) : KP A B C u w := ⟨k.a.trans h.a, k.b.trans h.b, k.c.trans h.c, Nat.le_trans h.size k.size⟩
theorem KP.of_below {A B C n : Nat} {W W' : World} (h : Below n W W') (ha : A < n) (hb : B < n) (hc : C < n) : KP A B C W W' := ⟨h.block A ha, h.block B hb, h.block C hc, h.size⟩
theorem KP.put {A B C : Nat} {w : World} (ha : A < w.heap.size) (hb : B < w.heap.size) (hc : C < w.heap.size) (W : World) (l : Nat) (o o' : Obj) (hl : w.heap.size ≤ l) (h : W.heap[l]? = some o) (h1 : o.isCells = false) (h2 : o.isWalk = false) : KP A B C W (W.putObj l o') :=
  KP.of_below (belowK_b (Nat.le_refl _) W l o o' hl h h1 h2) ha hb hc
end Go.Proofs.YtekodpcedjpnjaaGreat
