/- What a region's bytes make of a terminal: rows laid one behind the other, lines, a band reserved. Plain. No condition. What the bytes of a region's Start, Resize, Above and End make of a terminal: rows laid from the band's first on. Plain. No condition. -/
import Derived.Test.YtekodpcedjpnjaaGreatRC08
import Derived.Test.YtekodpcedjpnjaaGreatRC13
import Derived.Test.YtekodpcedjpnjaaGreatRC14
import Derived.Test.YtekodpcedjpnjaaGreatRC15
import Derived.Test.YtekodpcedjpnjaaGreatRC17
import Derived.Test.YtekodpcedjpnjaaGreatRC24
import Derived.Test.YtekodpcedjpnjaaGreatRC25
import Derived.Test.YtekodpcedjpnjaaGreatRC35
set_option linter.unusedVariables false
set_option linter.unusedSimpArgs false
namespace Go.Proofs.YtekodpcedjpnjaaGreat
open Go.RowKit Go.Maps
def linesB (L : List (List (List UInt8))) : List UInt8 := L.flatMap fun C => C.flatten ++ [13, 10]
def belowB : List UInt8 := [27, 91, 74]
end Go.Proofs.YtekodpcedjpnjaaGreat
namespace Go.Proofs.YtekodpcedjpnjaaGreat
open Go.RowKit Go.Maps
def reserveB (n : Nat) : List UInt8 := [13] ++ (belowB ++ (List.replicate (n - 1) 10 ++ byL ((n : Int) - 1) 65))
def usualB : List UInt8 := [27, 91, 48, 109]
end Go.Proofs.YtekodpcedjpnjaaGreat
