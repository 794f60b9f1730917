/- Frames of any cells: the program's and the reference's Same. No condition but on the rows' number and lengths. -/
import Derived.Test.YtjkajojjehgmdaaGreatRE15
set_option linter.unusedVariables false
set_option linter.unusedSimpArgs false
namespace Go.Proofs.YtjkajojjehgmdaaGreat
open Go.RowKit Go.Shelf Go.Maps
def FBI (W : World) (F : Nat) (v : Value) (r c : Int) (s : Bool) : Prop := W.heap[F]? = some (.cells #[v, .int .i64 r, .int .i64 c, .bool s] 42 (0, 0))
theorem FBI.lt {W : World} {F : Nat} {v : Value} {r c : Int} {s : Bool} (h : FBI W F v r c s) : F < W.heap.size := (Array.getElem?_eq_some_iff.1 h).1
theorem FBI.cells {W : World} {F : Nat} {v : Value} {r c : Int} {s : Bool} (h : FBI W F v r c s) :
    W.cell? ⟨F, 0, none⟩ = some v ∧ W.cell? ⟨F, 1, none⟩ = some (.int .i64 r) ∧ W.cell? ⟨F, 2, none⟩ = some (.int .i64 c) ∧ W.cell? ⟨F, 3, none⟩ = some (.bool s) := by
 refine ⟨?_, ?_, ?_, ?_⟩ <;> rw [cell_of_row W F _ _ _ _ h] <;> rfl
theorem FBI.below {W W' : World} {F : Nat} {v : Value} {r c : Int} {s : Bool} (h : FBI W F v r c s) (hb : Below W.heap.size W W') : FBI W' F v r c s := (hb.block F h.lt).trans h
end Go.Proofs.YtjkajojjehgmdaaGreat
