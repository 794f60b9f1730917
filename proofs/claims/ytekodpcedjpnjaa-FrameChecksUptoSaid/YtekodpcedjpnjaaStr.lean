/- Strings and their lists of bytes: equality, emptiness. No condition. -/
import Derived.Test.YtekodpcedjpnjaaEMath
namespace Go.Proofs.Ytekodpcedjpnjaa
set_option linter.unusedVariables false
set_option linter.unusedSimpArgs false
theorem S_toList (a : List UInt8) : (S a).toList = a := by rw [ByteArray.toList_eq]; simp [S]
theorem S_eq (a b : List UInt8) : ((S a).toList == (S b).toList) = decide (a = b) := by
  rw [S_toList, S_toList, Bool.eq_iff_iff, beq_iff_eq, decide_eq_true_eq]
theorem S_back (s : ByteArray) : ∃ l, s = S l := ⟨s.data.toList, by simp [S]⟩
theorem S_isEmpty (a : List UInt8) : (S a).toList.isEmpty = decide (a = []) := by
  rw [S_toList, Bool.eq_iff_iff, List.isEmpty_iff, decide_eq_true_eq]
end Go.Proofs.Ytekodpcedjpnjaa
