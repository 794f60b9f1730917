/- Plain: a text of clusters is flat. No condition. -/
import Derived.Test.YtekodpcedjpnjaaGreatClus6
namespace Go.Proofs.YtekodpcedjpnjaaGreat
set_option linter.unusedVariables false
set_option linter.unusedSimpArgs false
open Go.RowKit Go.Shelf Go.Maps
end Go.Proofs.YtekodpcedjpnjaaGreat
