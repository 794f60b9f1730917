/- The contracts of the functions of package width and of its reference that ask for what a rune is. Each is proved for every rune. -/
import Derived.Test.YtnakgjcmepimiaaWMath
import Derived.Test.YtnakgjcmepimiaaProg
import Derived.KernelRfl
namespace Go.Proofs.Ytnakgjcmepimiaa
set_option linter.unusedVariables false
set_option linter.unusedSimpArgs false
open Go.RowKit
attribute [local go_sem] Oper.semAt_some

theorem control_any (r : Int) (w : World) : Calls Try.prog 105 #[.int .i32 r] w fun e w' => e = .returned (.bool (ctrlB r)) ∧ w = w' := by
  go_enter Try.func105, Try.ntmps105
  go_wp2
  all_goals (go_ret; refine ⟨ret_bool ?_, rfl⟩; rw [Bool.eq_iff_iff]; simp [ctrlB]; omega)
theorem refControl_any (r : Int) (w : World) : Calls Try.prog 98 #[.int .i32 r] w fun e w' => e = .returned (.bool (ctrlB r)) ∧ w = w' := by
  go_enter Try.func98, Try.ntmps98
  go_wp2
  all_goals (go_ret; refine ⟨ret_bool ?_, rfl⟩; rw [Bool.eq_iff_iff]; simp [ctrlB]; omega)
theorem is_any (r : Int) (w : World) : Calls Try.prog 126 #[.int .i32 r] w fun e w' => e = .returned (.bool (isB r)) ∧ w = w' := by
  go_enter Try.func126, Try.ntmps126
  go_wp2
  all_goals (go_ret; refine ⟨ret_bool ?_, rfl⟩; rw [Bool.eq_iff_iff]; simp [isB]; omega)
theorem refIs_any (r : Int) (w : World) : Calls Try.prog 97 #[.int .i32 r] w fun e w' => e = .returned (.bool (isB r)) ∧ w = w' := by
  go_enter Try.func97, Try.ntmps97
  go_wp2
  all_goals (go_ret; refine ⟨ret_bool ?_, rfl⟩; rw [Bool.eq_iff_iff]; simp [isB]; omega)

def i32s (L : List Int) : List Value := L.map (Value.int .i32)
theorem i32s_length (L : List Int) : (i32s L).length = L.length := by simp [i32s]
theorem i32s_nth (L : List Int) (j : Nat) (h : j < L.length) : nth undef (i32s L) j = .int .i32 (nth 0 L j) := nth_map _ _ _ _ h

theorem marks_any (w : World) : Calls Try.prog 152 #[] w fun e w' => e = .returned (.slice (some ⟨w.heap.size, 0, none⟩) 56 56) ∧ w.alloc (.cells (i32s marksL).toArray 21) = w' := calls_of_run Try.func152 (.slice (some ⟨w.heap.size, 0, none⟩) 56 56) (w.alloc (.cells (i32s marksL).toArray 21)) (by kernel_rfl) (results_keep rfl) ⟨rfl, rfl⟩
theorem wides_any (w : World) : Calls Try.prog 142 #[] w fun e w' => e = .returned (.slice (some ⟨w.heap.size, 0, none⟩) 102 102) ∧ w.alloc (.cells (i32s widesL).toArray 21) = w' := calls_of_run Try.func142 (.slice (some ⟨w.heap.size, 0, none⟩) 102 102) (w.alloc (.cells (i32s widesL).toArray 21)) (by kernel_rfl) (results_keep rfl) ⟨rfl, rfl⟩
theorem refMarks_any (w : World) : Calls Try.prog 121 #[] w fun e w' => e = .returned (.slice (some ⟨w.heap.size, 0, none⟩) 28 28) ∧ w.alloc (.cells (i32s marksL).toArray 169) = w' := calls_of_run Try.func121 (.slice (some ⟨w.heap.size, 0, none⟩) 28 28) (w.alloc (.cells (i32s marksL).toArray 169)) (by kernel_rfl) (results_keep rfl) ⟨rfl, rfl⟩
theorem refWides_any (w : World) : Calls Try.prog 122 #[] w fun e w' => e = .returned (.slice (some ⟨w.heap.size, 0, none⟩) 51 51) ∧ w.alloc (.cells (i32s widesL).toArray 169) = w' := calls_of_run Try.func122 (.slice (some ⟨w.heap.size, 0, none⟩) 51 51) (w.alloc (.cells (i32s widesL).toArray 169)) (by kernel_rfl) (results_keep rfl) ⟨rfl, rfl⟩
end Go.Proofs.Ytnakgjcmepimiaa
