/- The contracts of the functions of package width and of its reference that ask for what a rune is. Each is proved for every rune. -/
import Derived.Test.YtcihcjlaamfjfaaWMath
import Derived.Test.YtcihcjlaamfjfaaProg
import Derived.KernelRfl
namespace Go.Proofs.Ytcihcjlaamfjfaa
open Go.RowKit
attribute [local go_sem] Oper.semAt_some

theorem control_any (r : Int) (w : World) : Calls Try.prog 20 #[.int .i32 r] w fun e w' => e = .returned (.bool (ctrlB r)) ∧ w = w' := by
  go_enter Try.func20, Try.ntmps20
  go_wp2
  all_goals (go_ret; refine ⟨ret_bool ?_, rfl⟩; rw [Bool.eq_iff_iff]; simp [ctrlB]; omega)
theorem refControl_any (r : Int) (w : World) : Calls Try.prog 21 #[.int .i32 r] w fun e w' => e = .returned (.bool (ctrlB r)) ∧ w = w' := by
  go_enter Try.func21, Try.ntmps21
  go_wp2
  all_goals (go_ret; refine ⟨ret_bool ?_, rfl⟩; rw [Bool.eq_iff_iff]; simp [ctrlB]; omega)
theorem is_any (r : Int) (w : World) : Calls Try.prog 78 #[.int .i32 r] w fun e w' => e = .returned (.bool (isB r)) ∧ w = w' := by
  go_enter Try.func78, Try.ntmps78
  go_wp2
  all_goals (go_ret; refine ⟨ret_bool ?_, rfl⟩; rw [Bool.eq_iff_iff]; simp [isB]; omega)
theorem refIs_any (r : Int) (w : World) : Calls Try.prog 81 #[.int .i32 r] w fun e w' => e = .returned (.bool (isB r)) ∧ w = w' := by
  go_enter Try.func81, Try.ntmps81
  go_wp2
  all_goals (go_ret; refine ⟨ret_bool ?_, rfl⟩; rw [Bool.eq_iff_iff]; simp [isB]; omega)

def i32s (L : List Int) : List Value := L.map (Value.int .i32)
theorem i32s_length (L : List Int) : (i32s L).length = L.length := by simp [i32s]
theorem i32s_nth (L : List Int) (j : Nat) (h : j < L.length) : nth undef (i32s L) j = .int .i32 (nth 0 L j) := nth_map _ _ _ _ h

theorem marks_any (w : World) : Calls Try.prog 116 #[] w fun e w' => e = .returned (.slice (some ⟨w.heap.size, 0, none⟩) 56 56) ∧ w.alloc (.cells (i32s marksL).toArray 21) = w' := calls_of_run Try.func116 (.slice (some ⟨w.heap.size, 0, none⟩) 56 56) (w.alloc (.cells (i32s marksL).toArray 21)) (by kernel_rfl) (results_keep rfl) ⟨rfl, rfl⟩
theorem wides_any (w : World) : Calls Try.prog 115 #[] w fun e w' => e = .returned (.slice (some ⟨w.heap.size, 0, none⟩) 102 102) ∧ w.alloc (.cells (i32s widesL).toArray 21) = w' := calls_of_run Try.func115 (.slice (some ⟨w.heap.size, 0, none⟩) 102 102) (w.alloc (.cells (i32s widesL).toArray 21)) (by kernel_rfl) (results_keep rfl) ⟨rfl, rfl⟩
theorem refMarks_any (w : World) : Calls Try.prog 15 #[] w fun e w' => e = .returned (.slice (some ⟨w.heap.size, 0, none⟩) 28 28) ∧ w.alloc (.cells (i32s marksL).toArray 26) = w' := calls_of_run Try.func15 (.slice (some ⟨w.heap.size, 0, none⟩) 28 28) (w.alloc (.cells (i32s marksL).toArray 26)) (by kernel_rfl) (results_keep rfl) ⟨rfl, rfl⟩
theorem refWides_any (w : World) : Calls Try.prog 16 #[] w fun e w' => e = .returned (.slice (some ⟨w.heap.size, 0, none⟩) 51 51) ∧ w.alloc (.cells (i32s widesL).toArray 26) = w' := calls_of_run Try.func16 (.slice (some ⟨w.heap.size, 0, none⟩) 51 51) (w.alloc (.cells (i32s widesL).toArray 26)) (by kernel_rfl) (results_keep rfl) ⟨rfl, rfl⟩
end Go.Proofs.Ytcihcjlaamfjfaa
