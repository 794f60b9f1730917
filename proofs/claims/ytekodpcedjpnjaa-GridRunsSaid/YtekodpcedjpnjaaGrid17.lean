/- The law GridYields. -/
import Derived.Test.YtekodpcedjpnjaaGrid14
import Derived.Test.YtekodpcedjpnjaaGrid15
import Derived.Test.YtekodpcedjpnjaaGrid16
namespace Go.Proofs.Ytekodpcedjpnjaa
set_option linter.unusedVariables false
set_option linter.unusedSimpArgs false
open Go.RowKit Go.Maps
attribute [local go_sem] Oper.semAt_some
/-- What stands between two rounds of the law's loop. -/
structure YI (w : World) (b3 b5 b7 b8 p q most : Nat) (L : List GC) (n : Nat) (W : World) : Prop where
  m : Boxed W b3 5 (.int .u8 most)
  g5 : Boxed W b5 23 (.pointer (some ⟨p, 0, none⟩))
  n7 : Boxed W b7 3 (.int .i64 n)
  ok : Boxed W b8 4 (.bool true)
  g : GridAt W p q 12 4 L
  b : Below w.heap.size w W
theorem GridAt.own {W W' : World} {p q w h B : Nat} {L : List GC} {row : Option Nat} (g : GridAt W p q w h L) (hg : W.grownBy W' row) (hr : ∀ r, row = some r → B ≤ r ∧ ∃ o : Obj, W.heap[r]? = some o ∧ o.isCells = false) : GridAt W' p q w h L :=
  { g with head := own_heap g.head rfl hg hr, blk := own_heap g.blk rfl hg hr }
theorem boxed_stay {W W' : World} {b B : Nat} {t : TypeId} {v : Value} {row : Option Nat} (h : Boxed W b t v) (hg : W.grownBy W' row) (hr : ∀ r, row = some r → B ≤ r ∧ ∃ o : Obj, W.heap[r]? = some o ∧ o.isCells = false) : Boxed W' b t v := own_heap h rfl hg hr
theorem YI.own {w : World} {b3 b5 b7 b8 p q most : Nat} {L : List GC} {n B : Nat} {W W' : World} {row : Option Nat} (h : YI w b3 b5 b7 b8 p q most L n W) (hB : w.heap.size ≤ B) (hg : W.grownBy W' row) (hr : ∀ r, row = some r → B ≤ r ∧ ∃ o : Obj, W.heap[r]? = some o ∧ o.isCells = false) :
    YI w b3 b5 b7 b8 p q most L n W' :=
  ⟨boxed_stay h.m hg hr, boxed_stay h.g5 hg hr, boxed_stay h.n7 hg hr, boxed_stay h.ok hg hr, h.g.own hg hr, h.b.grown hg h.b.size (fun k e => Nat.le_trans hB (hr k e).1)⟩
theorem keepsFrom_below {B : Nat} {W W' : World} (h : Below W.heap.size W W') : KeepsFrom B W W' := ⟨h.size, fun k o _ hk _ => (h.block k (Array.getElem?_eq_some_iff.1 hk).1).trans hk⟩
theorem boxed_below {W W' : World} {b : Nat} {t : TypeId} {v : Value} (h : Boxed W b t v) (hb : Below W.heap.size W W') : Boxed W' b t v := (hb.block b h.lt).trans h
end Go.Proofs.Ytekodpcedjpnjaa
