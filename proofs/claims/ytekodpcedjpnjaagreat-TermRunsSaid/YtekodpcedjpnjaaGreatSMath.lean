/- The plain law of a text without what is obeyed. No program in sight. No condition. -/
import Derived.Test.YtekodpcedjpnjaaGreatEMath
namespace Go.Proofs.YtekodpcedjpnjaaGreat
set_option linter.unusedVariables false
set_option linter.unusedSimpArgs false

end Go.Proofs.YtekodpcedjpnjaaGreat
