/- The plain law of control sequences: numbers in decimal, moves, columns. No program in sight. No condition. -/
import Derived.Test.YtekodpcedjpnjaaGreatBase
namespace Go.Proofs.YtekodpcedjpnjaaGreat
set_option linter.unusedVariables false
set_option linter.unusedSimpArgs false

/-- Bytes as a string. -/
def S (l : List UInt8) : ByteArray := ⟨l.toArray⟩
theorem S_append (a b : List UInt8) : S a ++ S b = S (a ++ b) := ByteArray.mk_append_mk a b
theorem S_size (l : List UInt8) : (S l).size = l.length := by simp [S, ByteArray.size]


end Go.Proofs.YtekodpcedjpnjaaGreat
