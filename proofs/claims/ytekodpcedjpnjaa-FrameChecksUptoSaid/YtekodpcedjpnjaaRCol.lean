/- The reference's Colours. No condition. -/
import Derived.Test.YtekodpcedjpnjaaFrame2
namespace Go.Proofs.Ytekodpcedjpnjaa
set_option linter.unusedVariables false
set_option linter.unusedSimpArgs false
open Go.RowKit Go.Shelf Go.Maps
set_option maxRecDepth 100000 in
theorem rcolours_any (y : Sy) (w : World) : Calls Try.prog 101 #[.agg #[.bool y.b, .bool y.u, .bool y.i, .int .i64 y.f, .int .i64 y.g]] w fun e w' => e = .returned (.bool (mayF y)) ∧ Below w.heap.size w w' := by
  obtain ⟨b, u, i, f, g⟩ := y
  go_enter Try.func101, Try.ntmps101
  go_wp2
  all_goals
    go_ret
    refine ⟨ret_bool ?_, (Below.refl _ _).alloc (Nat.le_refl _) _⟩
    rw [Bool.eq_iff_iff]; simp [mayF]; omega
end Go.Proofs.Ytekodpcedjpnjaa
