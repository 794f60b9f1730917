/- The columns of a cluster; the iterator over a text's clusters. The contracts of Count, Is, Width, Columns, Join, Clean and Flat. The contract of Fit: the first clusters that have room. -/
import Derived.Deep.RegionHeld3
import Derived.RangeFuncNested
import Derived.RangeFuncFrom
import Derived.Lib.Builder
import Derived.Lib.AppendStr
import Derived.Lib.UnsafeStr
import Derived.RegionTactic
import Derived.Test.YtekodpcedjpnjaaGreatRN01
import Derived.Test.YtekodpcedjpnjaaGreatRN02
import Derived.Test.YtekodpcedjpnjaaGreatRN16
import Derived.Test.YtekodpcedjpnjaaGreatRN17
set_option linter.unusedVariables false
set_option linter.unusedSimpArgs false
namespace Go.Proofs.YtekodpcedjpnjaaGreat
open Go.RowKit Go.Shelf Go.Maps
attribute [local go_sem] Oper.semAt_some
end Go.Proofs.YtekodpcedjpnjaaGreat
namespace Go.Proofs.YtekodpcedjpnjaaGreat
open Go.RowKit Go.Shelf Go.Maps
attribute [local go_sem] Oper.semAt_some
def isCl (l : List UInt8) : Bool := decide (cutL l = [l])
def widthL (l : List UInt8) : Int := match cutL l with | c :: _ => colsL c | [] => 0
theorem conv_newB (W : World) (l : List UInt8) : (convert 61 9 (.slice (some ⟨W.heap.size, 0, none⟩) l.length l.length)).run Tryz.prog (W.alloc (.cells (u8v l).toArray 5)) = .ok (.string (S l)) (W.alloc (.cells (u8v l).toArray 5)) := by
  have := run_convert_bytes_arg (P := Tryz.prog) (W.alloc (.cells (u8v l).toArray 5)) 61 5 Tryz.underlying61 Tryz.underlying5 W.heap.size 0 l.length l.length (l.map fun b => (b.toNat : Int)) (by simp)
    (fun i hi => ?_) 9 Tryz.underlying9
  · rw [strOfNums_Sc] at this; exact this
  · have h0 : (W.alloc (.cells (u8v l).toArray 5)).heap[W.heap.size]? = some (.cells (u8v l).toArray 5) := World.alloc_heap_new W _
    unfold World.cell?
    dsimp only
    rw [h0]
    simp [u8v, hi]
end Go.Proofs.YtekodpcedjpnjaaGreat
namespace Go.Proofs.YtekodpcedjpnjaaGreat
open Go.RowKit Go.Shelf Go.Maps
attribute [local go_sem] Oper.semAt_some
end Go.Proofs.YtekodpcedjpnjaaGreat
