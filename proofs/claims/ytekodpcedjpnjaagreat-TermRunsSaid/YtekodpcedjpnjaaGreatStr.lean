/- Strings and their lists of bytes: equality, emptiness. No condition. -/
import Derived.Test.YtekodpcedjpnjaaGreatEMath
namespace Go.Proofs.YtekodpcedjpnjaaGreat
set_option linter.unusedVariables false
set_option linter.unusedSimpArgs false
theorem S_toList (a : List UInt8) : (S a).toList = a := by rw [ByteArray.toList_eq]; simp [S]
end Go.Proofs.YtekodpcedjpnjaaGreat
