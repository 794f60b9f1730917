/- The plain law of sums of columns, and of how many runes fit. No program in sight. No condition. -/
import Derived.Test.YtcihcjlaamfjfaaWMath
namespace Go.Proofs.Ytcihcjlaamfjfaa

/-- The columns of the first k runes. -/
def sumTo (l : List Int) (k : Nat) : Int := ((l.take k).map colsB).sum
theorem sumTo_zero (l : List Int) : sumTo l 0 = 0 := by simp [sumTo]
theorem sumTo_succ (l : List Int) (k : Nat) (hk : k < l.length) : sumTo l (k + 1) = sumTo l k + colsB (nth 0 l k) := by
  unfold sumTo
  rw [List.take_succ_eq_append_getElem hk, nth_eq _ _ _ hk]
  simp only [List.map_append, List.map_cons, List.map_nil, List.sum_append, List.sum_cons, List.sum_nil, Int.add_zero]
theorem sumTo_bd (l : List Int) (k : Nat) (hk : k ≤ l.length) : 0 ≤ sumTo l k ∧ sumTo l k ≤ 2 * k := by
  induction k with
  | zero => simp [sumTo_zero]
  | succ k ih =>
    have := ih (by omega)
    rw [sumTo_succ l k (by omega)]
    have := cols_bd (nth 0 l k)
    omega
theorem sumTo_le (l : List Int) (j k : Nat) (hjk : j ≤ k) (hk : k ≤ l.length) : sumTo l j ≤ sumTo l k := by
  induction k with
  | zero => simp [show j = 0 by omega]
  | succ k ih =>
    by_cases e : j = k + 1
    · rw [e]; exact Int.le_refl _
    · have := ih (by omega) (by omega)
      rw [sumTo_succ l k (by omega)]
      have := cols_bd (nth 0 l k)
      omega
theorem sumTo_take (l : List Int) (m k : Nat) (hk : k ≤ m) : sumTo (l.take m) k = sumTo l k := by
  unfold sumTo; rw [List.take_take]; congr 3; omega
/-- n is how many of the first runes fit. -/
def IsFit (most : Int) (l : List Int) (n : Nat) : Prop := if most < 0 then n = 0 else n ≤ l.length ∧ sumTo l n ≤ most ∧ (n = l.length ∨ most < sumTo l (n + 1))
instance (most : Int) (l : List Int) (n : Nat) : Decidable (IsFit most l n) := by unfold IsFit; exact inferInstance
theorem isFit_one {most : Int} {l : List Int} {n m : Nat} (hn : IsFit most l n) (hm : IsFit most l m) : n = m := by
  unfold IsFit at hn hm
  split at hn
  · rename_i h; rw [if_pos h] at hm; omega
  · rename_i h
    rw [if_neg h] at hm
    obtain ⟨a1, a2, a3⟩ := hn
    obtain ⟨b1, b2, b3⟩ := hm
    by_cases h1 : n < m
    · have := sumTo_le l (n + 1) m (by omega) b1
      omega
    · by_cases h2 : m < n
      · have := sumTo_le l (m + 1) n (by omega) a1
        omega
      · omega
theorem isFit_le {most : Int} {l : List Int} {n : Nat} (hn : IsFit most l n) : n ≤ l.length := by
  unfold IsFit at hn; split at hn
  · omega
  · exact hn.1
theorem cols_65 : colsB 65 = 1 := by decide +kernel
theorem cols_769 : colsB 769 = 0 := by decide +kernel
theorem cols_28450 : colsB 28450 = 2 := by decide +kernel
theorem cols_10 : colsB 10 = 0 := by decide +kernel
theorem fit_awake : IsFit 3 [65, 769, 28450, 66] 3 ∧ sumTo [65, 769, 28450, 66] 3 = 3 := by decide +kernel
end Go.Proofs.Ytcihcjlaamfjfaa
