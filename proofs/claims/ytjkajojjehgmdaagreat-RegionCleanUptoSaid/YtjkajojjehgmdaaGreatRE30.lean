/- The fixed sequences: their contracts; what Strip leaves of sequences. -/
import Derived.Test.YtjkajojjehgmdaaGreatRE27
set_option linter.unusedVariables false
set_option linter.unusedSimpArgs false
namespace Go.Proofs.YtjkajojjehgmdaaGreat
open Go.RowKit Go.Maps
def modeL (num : List UInt8) (on : Bool) : List UInt8 := [27, 91, 63] ++ num ++ [if on then 104 else 108]
theorem eraseBelow_any (w : World) : Calls Tryz.prog 42 #[] w fun r w' => r = .returned (.string (S [27, 91, 74])) ∧ w = w' := by
 go_enter Tryz.func42, Tryz.ntmps42
 go_wp2
 go_ret
 exact ⟨rfl, rfl⟩
theorem mode_any (num : List UInt8) (on : Bool) (w : World) (hn : num.length ≤ 10) : Calls Tryz.prog 58 #[.string (S num), .bool on] w fun r w' => r = .returned (.string (S (modeL num on))) ∧ w = w' := by
 have hz := S_le num 10 hn
 cases on with
 | false =>
  go_enter Tryz.func58, Tryz.ntmps58
  go_wp2
  go_ret
  exact ⟨ret_str (by show S [27, 91, 63] ++ S num ++ S [108] = _; rw [S_append, S_append]; rfl), rfl⟩
 | true =>
  go_enter Tryz.func58, Tryz.ntmps58
  go_wp2
  go_ret
  exact ⟨ret_str (by show S [27, 91, 63] ++ S num ++ S [104] = _; rw [S_append, S_append]; rfl), rfl⟩
theorem seen_any (on : Bool) (w : World) : Calls Tryz.prog 34 #[.bool on] w fun r w' => r = .returned (.string (S (modeL [50, 53] on))) ∧ w = w' := by
 go_enter Tryz.func34, Tryz.ntmps34
 go_wp2_with (go_at_call 58; refine (mode_any [50, 53] _ _ (by simp)).mono ?_; rintro e w' ⟨rfl, rfl⟩)
 go_ret
 exact ⟨rfl, rfl⟩
theorem paste_any (on : Bool) (w : World) : Calls Tryz.prog 35 #[.bool on] w fun r w' => r = .returned (.string (S (modeL [50, 48, 48, 52] on))) ∧ w = w' := by
 go_enter Tryz.func35, Tryz.ntmps35
 go_wp2_with (go_at_call 58; refine (mode_any [50, 48, 48, 52] _ _ (by simp)).mono ?_; rintro e w' ⟨rfl, rfl⟩)
 go_ret
 exact ⟨rfl, rfl⟩
end Go.Proofs.YtjkajojjehgmdaaGreat
