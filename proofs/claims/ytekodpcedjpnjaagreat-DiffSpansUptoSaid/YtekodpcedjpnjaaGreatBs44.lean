/- The fixed sequences: their contracts; what Strip leaves of sequences. -/
import Derived.Test.YtekodpcedjpnjaaGreatBs41
set_option linter.unusedVariables false
set_option linter.unusedSimpArgs false
namespace Go.Proofs.YtekodpcedjpnjaaGreat
open Go.RowKit Go.Maps
def modeL (num : List UInt8) (on : Bool) : List UInt8 := [27, 91, 63] ++ num ++ [if on then 104 else 108]
theorem mode_any (num : List UInt8) (on : Bool) (w : World) (hn : num.length ≤ 10) : Calls Tryz.prog 193 #[.string (S num), .bool on] w fun r w' => r = .returned (.string (S (modeL num on))) ∧ w = w' := by
  have hz := S_le num 10 hn
  cases on with
  | false =>
    go_enter Tryz.func193, Tryz.ntmps193
    go_wp2
    go_ret
    exact ⟨ret_str (by show S [27, 91, 63] ++ S num ++ S [108] = _; rw [S_append, S_append]; rfl), rfl⟩
  | true =>
    go_enter Tryz.func193, Tryz.ntmps193
    go_wp2
    go_ret
    exact ⟨ret_str (by show S [27, 91, 63] ++ S num ++ S [104] = _; rw [S_append, S_append]; rfl), rfl⟩
theorem seen_any (on : Bool) (w : World) : Calls Tryz.prog 131 #[.bool on] w fun r w' => r = .returned (.string (S (modeL [50, 53] on))) ∧ w = w' := by
  go_enter Tryz.func131, Tryz.ntmps131
  go_wp2_with (go_at_call 193; refine (mode_any [50, 53] _ _ (by simp)).mono ?_; rintro e w' ⟨rfl, rfl⟩)
  go_ret
  exact ⟨rfl, rfl⟩
end Go.Proofs.YtekodpcedjpnjaaGreat
