/- A loop over an iterator that reads, behind each round, a block that it has made itself: the block goes by a ghost number, and the body keeps it. No condition. -/
import Derived.Test.YtekodpcedjpnjaaGreatBase
import Derived.RangeFuncNested
import Derived.RangeFuncFrom
namespace Go.Proofs.YtekodpcedjpnjaaGreat
set_option linter.unusedVariables false
set_option linter.unusedSimpArgs false
open Go.RowKit
section
variable {F : Fence} {n : Nat} {P : Program}
end
end Go.Proofs.YtekodpcedjpnjaaGreat
