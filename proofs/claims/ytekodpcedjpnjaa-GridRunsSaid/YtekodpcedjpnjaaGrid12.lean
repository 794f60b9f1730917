/- filled. -/
import Derived.Test.YtekodpcedjpnjaaGrid11
namespace Go.Proofs.Ytekodpcedjpnjaa
set_option linter.unusedVariables false
set_option linter.unusedSimpArgs false
open Go.RowKit Go.Maps
theorem few_any2 (o o' : OpV) (ho : o.Ok) (h' : o' = fewO o) (w : World) : Calls Try.prog 10 #[o.v] w
    fun e w' => e = .returned (.agg #[.int .u8 o'.d, .int .i64 o'.r, .int .i64 o'.c, .string o'.s, .int .i64 o'.k, .bool o'.y.b, .bool o'.y.u, .bool o'.y.i, .int .i64 o'.y.f, .int .i64 o'.y.g, .int .i64 o'.t, .int .i64 o'.n]) ∧ Below w.heap.size w w' := by
  subst h'
  exact few_any o ho w
end Go.Proofs.Ytekodpcedjpnjaa
