/- The program's builder of frames: Cursor. No condition. The program's builder of frames: Fill. No condition. The program's builder of frames: Fill that lays blanks. No condition. The program's builder of frames: Text out of the frame, or with colours that may not be. No condition. -/
import Derived.Test.YtekodpcedjpnjaaGreatBw01
import Derived.Test.YtekodpcedjpnjaaGreatBw13
namespace Go.Proofs.YtekodpcedjpnjaaGreat
set_option linter.unusedVariables false
set_option linter.unusedSimpArgs false
open Go.RowKit Go.Shelf Go.Maps
end Go.Proofs.YtekodpcedjpnjaaGreat
namespace Go.Proofs.YtekodpcedjpnjaaGreat
set_option linter.unusedVariables false
set_option linter.unusedSimpArgs false
open Go.RowKit Go.Shelf Go.Maps
/-- Blanks laid from a column on, k rounds. -/
def fillG (w h : Nat) (r from_ : Int) (y : Sy) (L : List GC) : Nat → List GC
  | 0 => L
  | k + 1 => putG w h (fillG w h r from_ y L k) r (from_ + k) ⟨#[32]⟩ 1 y
end Go.Proofs.YtekodpcedjpnjaaGreat
namespace Go.Proofs.YtekodpcedjpnjaaGreat
set_option linter.unusedVariables false
set_option linter.unusedSimpArgs false
open Go.RowKit Go.Shelf Go.Maps
end Go.Proofs.YtekodpcedjpnjaaGreat
namespace Go.Proofs.YtekodpcedjpnjaaGreat
set_option linter.unusedVariables false
set_option linter.unusedSimpArgs false
open Go.RowKit Go.Shelf Go.Maps
/-- The world in which Text begins. -/
structure TxW (W : World) (b : Nat) (rr cc : Int) (y : Sy) (X : World) : Prop where
  k5 : Boxed X W.heap.size 23 (.pointer (some ⟨b, 0, none⟩))
  k6 : Boxed X (W.heap.size + 1) 3 (.int .i64 rr)
  k7 : Boxed X (W.heap.size + 1 + 1) 3 (.int .i64 cc)
  k9 : StyBox X (W.heap.size + 1 + 1 + 1) y.b y.u y.i y.f y.g
  o : Below W.heap.size W X
theorem TxW.below {W X Y : World} {b : Nat} {rr cc : Int} {y : Sy} (h : TxW W b rr cc y X) (hb : Below X.heap.size X Y) : TxW W b rr cc y Y :=
  ⟨boxed_nx h.k5 hb, boxed_nx h.k6 hb, boxed_nx h.k7 hb, styBox_old h.k9 hb (Array.getElem?_eq_some_iff.1 h.k9).1, bto h.o hb h.o.size⟩
end Go.Proofs.YtekodpcedjpnjaaGreat
