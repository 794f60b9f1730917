/- What the bytes of a region's Start, Resize, Above and End make of a terminal: rows laid from the band's first on. Plain. No condition. What the bytes of a region's Start, Resize, Above, End and Draw make of a terminal. Plain. No condition. -/
import Derived.Test.YtekodpcedjpnjaaGreatRN34
set_option linter.unusedVariables false
set_option linter.unusedSimpArgs false
namespace Go.Proofs.YtekodpcedjpnjaaGreat
open Go.RowKit Go.Maps
def reserveB (n : Nat) : List UInt8 := [13] ++ (belowB ++ (List.replicate (n - 1) 10 ++ byL ((n : Int) - 1) 65))
def usualB : List UInt8 := [27, 91, 48, 109]
end Go.Proofs.YtekodpcedjpnjaaGreat
namespace Go.Proofs.YtekodpcedjpnjaaGreat
open Go.RowKit Go.Maps
def startB (n : Nat) : List UInt8 := usualB ++ (reserveB n ++ (seenB true ++ pasteB true))
end Go.Proofs.YtekodpcedjpnjaaGreat
