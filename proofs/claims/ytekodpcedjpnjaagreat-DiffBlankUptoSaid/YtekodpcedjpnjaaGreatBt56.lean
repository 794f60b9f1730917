/- The law DiffBlank, as its statement hands it the sizes and the frame. No condition but that the strings are not too long for a cut. -/
import Derived.Test.YtekodpcedjpnjaaGreatBt55
set_option linter.unusedVariables false
set_option linter.unusedSimpArgs false
namespace Go.Proofs.YtekodpcedjpnjaaGreat
open Go.RowKit Go.Shelf Go.Maps
theorem diffBlank_law (w h : Int) (a : Option Addr) (n cap : Nat) (r c : Int) (s : Bool) (R : List (List GC)) (W : World) (_ : (Lit.int .i64 w).wf = true) (_ : (Lit.int .i64 h).wf = true)
    (hR : RowsAt W a n R) (hn : n ≤ maxLen) (_ : n ≤ cap) (_ : cap ≤ maxLen) (hs : ∀ M ∈ R, ∀ c ∈ M, c.s.size ≤ 1100000) :
    Calls Tryz.prog 6 #[.int .i64 w, .int .i64 h, .agg #[.slice a n cap, .int .i64 r, .int .i64 c, .bool s]] W fun e w' => e = .returned (.bool true) ∧ Below W.heap.size W w' := diffBlank_any w h hR hn hs r c s
end Go.Proofs.YtekodpcedjpnjaaGreat
