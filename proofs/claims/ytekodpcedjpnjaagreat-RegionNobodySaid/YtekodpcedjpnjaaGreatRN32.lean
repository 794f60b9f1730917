/- The program: Check of any frame. No condition but that the strings are not too long for a cut. -/
import Derived.Still
import Derived.Deep.QuietTactic
import Derived.Shelf.RegionOpenPlain
import Derived.BigQuiet
import Derived.Test.YtekodpcedjpnjaaGreatRN01
import Derived.Test.YtekodpcedjpnjaaGreatRN21
import Derived.Test.YtekodpcedjpnjaaGreatRN29
import Derived.Test.YtekodpcedjpnjaaGreatRN31
set_option linter.unusedVariables false
set_option linter.unusedSimpArgs false
namespace Go.Proofs.YtekodpcedjpnjaaGreat
open Go.RowKit Go.Shelf Go.Maps
def rowsOkB (w : Nat) (R : List (List GC)) : Bool := R.all (fun M => decide (M.length = w) && wholeB M)
def okF (R : List (List GC)) (r c : Int) : Bool :=
  decide (1 ≤ R.length ∧ R.length ≤ 60 ∧ 1 ≤ (nth [] R 0).length ∧ (nth [] R 0).length ≤ 500 ∧ 0 ≤ r ∧ r < R.length ∧ 0 ≤ c ∧ c < (nth [] R 0).length) && rowsOkB (nth [] R 0).length R
end Go.Proofs.YtekodpcedjpnjaaGreat
