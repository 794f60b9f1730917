/- Text. -/
import Derived.Lib.AppendStr
import Derived.Deep.RegionHeldLaw
import Derived.Deep.DeepCutAuto
import Derived.Test.YtekodpcedjpnjaaGreatRN04
import Derived.Test.YtekodpcedjpnjaaGreatRN05
set_option linter.unusedVariables false
set_option linter.unusedSimpArgs false
namespace Go.Proofs.YtekodpcedjpnjaaGreat
open Go.RowKit
def textL (M : List GC) : List UInt8 := M.flatMap fun c => c.s.data.toList
def trimN (l : List UInt8) : Nat → Nat
  | 0 => 0
  | n + 1 => if nth 0 l n = 32 then trimN l n else n + 1
def trimL (l : List UInt8) : List UInt8 := l.take (trimN l l.length)
end Go.Proofs.YtekodpcedjpnjaaGreat
