/- A loop over an iterator whose elements are told something of the world that they come in (a slice that the iterator has just made). No condition. -/
import Derived.Test.YtekodpcedjpnjaaGreatBase
import Derived.RangeFuncNested
import Derived.RangeFuncFrom
namespace Go.Proofs.YtekodpcedjpnjaaGreat
set_option linter.unusedVariables false
set_option linter.unusedSimpArgs false
open Go.RowKit
section
variable {F : Fence} {n : Nat} {P : Program}
end
/-- What is said of one block of cells abides. -/
theorem own_heap {B : Nat} {W W' : World} {row : Option Nat} {k : Nat} {o : Obj} (hk : W.heap[k]? = some o) (ho : o.isCells = true) (hg : W.grownBy W' row) (hr : ∀ r, row = some r → B ≤ r ∧ ∃ o : Obj, W.heap[r]? = some o ∧ o.isCells = false) : W'.heap[k]? = some o :=
  (grownBy_keeps_cells hg (fun r e => (hr r e).2) hk ho).trans hk
end Go.Proofs.YtekodpcedjpnjaaGreat
