/- The facts of the program alone that each claim's row asks. No condition. -/
import Derived.Test.YtekodpcedjpnjaaJoined
import Derived.Test.YtekodpcedjpnjaaProg
import Derived.Test.YtekodpcedjpnjaaRows
namespace Go.Proofs.Ytekodpcedjpnjaa
set_option linter.unusedVariables false
set_option linter.unusedSimpArgs false
open Go
theorem jpLaid : laidOutB Try.prog = true := by kernel_rfl
theorem jpMaps : mapsRowed Try.prog = true := by kernel_rfl
theorem jpStops : (Try.prog.stops == []) = true := by kernel_rfl
theorem jpKnobs : (Try.prog.stopKnobs == []) = true := by kernel_rfl
theorem jpKeys : (Rows.frameChecksRow.plainKeys == Try.prog.plainKeys) = true := by kernel_rfl
theorem jpHeard : Try.prog.stopsHeard = true := by kernel_rfl
theorem jpEnter : Try.prog.mayEnter = true := by kernel_rfl
theorem jpLifts : (Rows.frameChecksRow.lifted == Try.prog.liftsFinal) = true := by kernel_rfl
theorem jpMake : (Try.prog.make == some Rows.frameChecksRow.make) = true := by kernel_rfl
end Go.Proofs.Ytekodpcedjpnjaa
