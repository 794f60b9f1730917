/- A terminal as plain data: what sequences make that move its cursor, turn its style and show its cursor. No condition. -/
import Derived.Deep.DeepCutAuto
import Derived.Test.YtekodpcedjpnjaaGreatRN02
import Derived.Test.YtekodpcedjpnjaaGreatRN04
import Derived.Test.YtekodpcedjpnjaaGreatRN18
import Derived.Test.YtekodpcedjpnjaaGreatRN21
import Derived.Test.YtekodpcedjpnjaaGreatRN27
set_option linter.unusedVariables false
set_option linter.unusedSimpArgs false
namespace Go.Proofs.YtekodpcedjpnjaaGreat
open Go.RowKit Go.Maps
def TS.at_ (t : TS) (r c : Nat) : TS := { t with row := r, col := c, pend := false, last := false }
def seenB (on : Bool) : List UInt8 := [27, 91, 63, 50, 53, if on then 104 else 108]
def pasteB (on : Bool) : List UInt8 := [27, 91, 63, 50, 48, 48, 52, if on then 104 else 108]
end Go.Proofs.YtekodpcedjpnjaaGreat
