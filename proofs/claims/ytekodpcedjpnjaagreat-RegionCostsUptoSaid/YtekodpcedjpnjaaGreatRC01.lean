/- The facts of the program alone that each claim's row asks. No condition. -/
import Derived.Test.YtekodpcedjpnjaaGreatProg
import Derived.Test.YtekodpcedjpnjaaGreatRows
import Derived.Test.YtekodpcedjpnjaaGreatRC00
set_option linter.unusedVariables false
set_option linter.unusedSimpArgs false
namespace Go.Proofs.YtekodpcedjpnjaaGreat
open Go
theorem jpLaid : laidOutB Tryz.prog = true := by kernel_rfl
theorem jpMaps : mapsRowed Tryz.prog = true := by kernel_rfl
theorem jpStops : (Tryz.prog.stops == []) = true := by kernel_rfl
theorem jpKnobs : (Tryz.prog.stopKnobs == []) = true := by kernel_rfl
theorem jpKeys : (Rows.frameBuildsRow.plainKeys == Tryz.prog.plainKeys) = true := by kernel_rfl
theorem jpHeard : Tryz.prog.stopsHeard = true := by kernel_rfl
theorem jpEnter : Tryz.prog.mayEnter = true := by kernel_rfl
theorem jpLifts : (Rows.frameBuildsRow.lifted == Tryz.prog.liftsFinal) = true := by kernel_rfl
theorem jpMake : (Tryz.prog.make == some Rows.frameBuildsRow.make) = true := by kernel_rfl
end Go.Proofs.YtekodpcedjpnjaaGreat
