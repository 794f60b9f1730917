/- The program's paint: the bytes from a frame to another one. No condition but that the strings are not too long for a cut. -/
import Derived.Lib.Builder
import Derived.Lib.AppendStr
import Derived.Lib.UnsafeStr
import Derived.RegionTactic
import Derived.Laws.AppendOwnNone
import Derived.Still
import Derived.Deep.QuietTactic
import Derived.Shelf.RegionOpenPlain
import Derived.BigQuiet
import Derived.Deep.DeepCutAuto
import Derived.Test.YtekodpcedjpnjaaGreatRN01
import Derived.Test.YtekodpcedjpnjaaGreatRN03
import Derived.Test.YtekodpcedjpnjaaGreatRN04
import Derived.Test.YtekodpcedjpnjaaGreatRN07
import Derived.Test.YtekodpcedjpnjaaGreatRN16
import Derived.Test.YtekodpcedjpnjaaGreatRN18
import Derived.Test.YtekodpcedjpnjaaGreatRN20
import Derived.Test.YtekodpcedjpnjaaGreatRN21
import Derived.Test.YtekodpcedjpnjaaGreatRN24
import Derived.Test.YtekodpcedjpnjaaGreatRN27
import Derived.Test.YtekodpcedjpnjaaGreatRN28
import Derived.Test.YtekodpcedjpnjaaGreatRN29
import Derived.Test.YtekodpcedjpnjaaGreatRN31
import Derived.Test.YtekodpcedjpnjaaGreatRN32
set_option linter.unusedVariables false
set_option linter.unusedSimpArgs false
namespace Go.Proofs.YtekodpcedjpnjaaGreat
open Go.RowKit Go.Shelf Go.Maps
theorem seenB_mode (on : Bool) : modeL [50, 53] on = seenB on := by cases on <;> rfl
end Go.Proofs.YtekodpcedjpnjaaGreat
