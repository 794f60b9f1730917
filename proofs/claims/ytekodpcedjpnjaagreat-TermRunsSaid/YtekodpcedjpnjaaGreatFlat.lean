/- Values of types that hold no pointer (numbers, bools, strings, structs of them): what a reading of their cells tells. -/
import Derived.Deep.Slices
import Derived.ChangeArms
import Derived.RowKit
namespace Go.Proofs.YtekodpcedjpnjaaGreat
set_option linter.unusedVariables false
set_option linter.unusedSimpArgs false
open Go.ChangeShapes Go.WideShapes Go.Deep
inductive Flat where
  | int (k : IntKind)
  | bool
  | str
def Flat.ok : Flat → Value → Prop
  | .int k, v => ∃ n, v = .int k n ∧ (Lit.int k n).wf = true
  | .bool, v => ∃ b, v = .bool b
  | .str, v => ∃ s : ByteArray, v = .string s ∧ s.size ≤ maxLen
def FlatAll : List Flat → List Value → Prop
  | [], [] => True
  | f :: fs, v :: vs => f.ok v ∧ FlatAll fs vs
  | _, _ => False
theorem FlatAll.append {a b : List Flat} {x y : List Value} (h : FlatAll a x) (h' : FlatAll b y) : FlatAll (a ++ b) (x ++ y) := by
  induction a generalizing x with
  | nil => cases x with
    | nil => exact h'
    | cons => exact h.elim
  | cons f fs ih => cases x with
    | nil => exact h.elim
    | cons v vs => exact ⟨h.1, ih h.2⟩
theorem FlatAll.length {a : List Flat} {x : List Value} (h : FlatAll a x) : x.length = a.length := by
  induction a generalizing x with
  | nil => cases x with
    | nil => rfl
    | cons => exact h.elim
  | cons f fs ih => cases x with
    | nil => exact h.elim
    | cons v vs => simp [ih h.2]
section
variable {H : Type} {enc : TypeId × Value → H} {P : Program} {w : World} {base : Nat} {spare : Nat → Bool} {held : Bool}
end
end Go.Proofs.YtekodpcedjpnjaaGreat
