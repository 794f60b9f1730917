/- The law RegionKeeps, as its statement hands it what it reads. No condition but on the lengths of strings. -/
import Derived.Test.YtjkajojjehgmdaaGreatRE47
import Derived.Test.YtjkajojjehgmdaaGreatRE48
set_option linter.unusedVariables false
set_option linter.unusedSimpArgs false
namespace Go.Proofs.YtjkajojjehgmdaaGreat
open Go.RowKit Go.Shelf Go.Maps
theorem regionKeeps_law (w h rows : Int) (fa : Option Addr) (fn fc : Nat) (zs : List Int) (a : Option Addr) (len cap : Nat) (W : World) (hw : (Lit.int .u8 w).wf = true) (hh : (Lit.int .u8 h).wf = true) (hr : (Lit.int .u8 rows).wf = true) (hz : IsRow .u8 W fa fn fc zs) (hF : FrsAt W a len cap) :
    Calls Tryz.prog 3 #[.int .u8 w, .int .u8 h, .int .u8 rows, .slice fa fn fc, .slice a len cap] W fun e w' => e = .returned (.bool true) ∧ Below W.heap.size W w' := by
 obtain ⟨w, rfl, hw1⟩ := u8_arg hw
 obtain ⟨h, rfl, hh1⟩ := u8_arg hh
 obtain ⟨rows, rfl, hr1⟩ := u8_arg hr
 obtain ⟨⟨l, hl⟩, hc⟩ := isRow_arg hz
 exact regionKeeps_any w h rows hw1 hh1 hr1 hl hc hF
end Go.Proofs.YtjkajojjehgmdaaGreat
