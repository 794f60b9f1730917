/- The law DiffTurns, as its statement hands it the frames. No condition but that the strings are not too long for a cut. -/
import Derived.Test.YtekodpcedjpnjaaGreatBt49
set_option linter.unusedVariables false
set_option linter.unusedSimpArgs false
namespace Go.Proofs.YtekodpcedjpnjaaGreat
open Go.RowKit Go.Shelf Go.Maps
theorem diffTurns_law (a : Option Addr) (n cap : Nat) (r c : Int) (s : Bool) (R : List (List GC)) (a2 : Option Addr) (n2 cap2 : Nat) (r2 c2 : Int) (s2 : Bool) (R2 : List (List GC)) (W : World)
    (h : RowsAt W a n R) (hn : n ≤ maxLen) (_ : n ≤ cap) (_ : cap ≤ maxLen) (hs : ∀ M ∈ R, ∀ c ∈ M, c.s.size ≤ 1100000)
    (h2 : RowsAt W a2 n2 R2) (hn2 : n2 ≤ maxLen) (_ : n2 ≤ cap2) (_ : cap2 ≤ maxLen) (hs2 : ∀ M ∈ R2, ∀ c ∈ M, c.s.size ≤ 1100000) :
    Calls Tryz.prog 5 #[.agg #[.slice a n cap, .int .i64 r, .int .i64 c, .bool s], .agg #[.slice a2 n2 cap2, .int .i64 r2, .int .i64 c2, .bool s2]] W fun e w' => e = .returned (.bool true) ∧ Below W.heap.size W w' := diffTurns_any h h2 hn hn2 hs hs2 r c r2 c2 s s2
end Go.Proofs.YtekodpcedjpnjaaGreat
