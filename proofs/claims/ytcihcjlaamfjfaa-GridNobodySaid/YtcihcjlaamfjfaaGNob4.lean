/- The law GridNobody, as its statement hands it its input. -/
import Derived.Test.YtcihcjlaamfjfaaGNob3
namespace Go.Proofs.Ytcihcjlaamfjfaa
open Go.RowKit Go.Maps
theorem gridNobody_law2 (d r c : Int) (s : ByteArray) (k : Int) (b u i : Bool) (f g t n : Int) (w : World) (hd : (Lit.int .u8 d).wf = true) :
    Calls Try.prog 14 #[.agg #[.int .u8 d, .int .i64 r, .int .i64 c, .string s, .int .i64 k, .bool b, .bool u, .bool i, .int .i64 f, .int .i64 g, .int .i64 t, .int .i64 n]] w fun e w' => e = .returned (.bool true) ∧ Below w.heap.size w w' :=
  gridNobody_law ⟨d, r, c, s, k, ⟨b, u, i, f, g⟩, t, n⟩ ⟨(wf_u8 hd).1, (wf_u8 hd).2⟩ w
end Go.Proofs.Ytcihcjlaamfjfaa
