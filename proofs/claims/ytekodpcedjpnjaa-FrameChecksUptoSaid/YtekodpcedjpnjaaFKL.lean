/- The law FrameChecks, as its statement hands it the frames and the number. No condition but that the rows' texts are not too long. -/
import Derived.Test.YtekodpcedjpnjaaFK5
namespace Go.Proofs.Ytekodpcedjpnjaa
set_option linter.unusedVariables false
set_option linter.unusedSimpArgs false
open Go.RowKit Go.Shelf Go.Maps
theorem frameChecks_law (a : Option Addr) (n cap : Nat) (r c : Int) (s : Bool) (R : List (List GC)) (a2 : Option Addr) (n2 cap2 : Nat) (r2 c2 : Int) (s2 : Bool) (R2 : List (List GC)) (most : Int) (W : World)
    (h : RowsAt W a n R) (_ : n ≤ maxLen) (hc : n ≤ cap) (hm : cap ≤ maxLen) (hs : ∀ M ∈ R, (lineT M).length ≤ 1100000)
    (h2 : RowsAt W a2 n2 R2) (_ : n2 ≤ maxLen) (hc2 : n2 ≤ cap2) (hm2 : cap2 ≤ maxLen) (hs2 : ∀ M ∈ R2, (lineT M).length ≤ 1100000) (w : (Lit.int .u8 most).wf = true) :
    Calls Try.prog 4 #[.agg #[.slice a n cap, .int .i64 r, .int .i64 c, .bool s], .agg #[.slice a2 n2 cap2, .int .i64 r2, .int .i64 c2, .bool s2], .int .u8 most] W fun e w' => e = .returned (.bool true) ∧ Below W.heap.size W w' := by
  have h0 : 0 ≤ most ∧ most ≤ 255 := by simpa [Lit.wf, IntKind.min, IntKind.max, IntKind.signed, IntKind.bits] using w
  obtain ⟨k, rfl⟩ := Int.eq_ofNat_of_zero_le h0.1
  exact frameChecks_any h h2 hc hc2 hm hm2 hs hs2 r c r2 c2 s s2 k (by omega)
end Go.Proofs.Ytekodpcedjpnjaa
