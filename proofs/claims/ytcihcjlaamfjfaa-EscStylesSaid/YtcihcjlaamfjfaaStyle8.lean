/- Plain: the numbers of a sequence, obeyed in order. -/
import Derived.Test.YtcihcjlaamfjfaaStyle7
namespace Go.Proofs.Ytcihcjlaamfjfaa
theorem turnL_sep (sep : UInt8) (h : ¬ (48 ≤ sep.toNat ∧ sep.toNat ≤ 57)) (y : Sy) (m : Int) : turnL [sep] (y, m) = (obey y m, 0) := by
  unfold turnL turn1
  rw [List.foldl_cons, List.foldl_nil, if_neg h]
theorem turn_sepTo (L : List Int) (h0 : ∀ k, k < L.length → 0 ≤ nth 0 L k) (h1 : ∀ k, k < L.length → nth 0 L k ≤ 9999) (y : Sy) : ∀ k, k < L.length → ∀ sep : UInt8, ¬ (48 ≤ sep.toNat ∧ sep.toNat ≤ 57) →
    turnL (sepTo L (k + 1) ++ [sep]) (y, 0) = ((L.take (k + 1)).foldl obey y, 0) := by
  intro k
  induction k with
  | zero =>
    intro hk sep hs
    have a := h0 0 hk
    have b := h1 0 hk
    rw [show sepTo L 1 = decL (min (nth 0 L 0) 9999).toNat from by simp [sepTo], show min (nth 0 L 0) 9999 = nth 0 L 0 by omega, turnL_app, turn_dec _ _ (by omega), turnL_sep sep hs, Int.toNat_of_nonneg a]
    rw [List.take_add_one, List.getElem?_eq_getElem hk, nth_eq _ _ _ hk]
    simp
  | succ k ih =>
    intro hk sep hs
    have a := h0 (k + 1) hk
    have b := h1 (k + 1) hk
    have hi := ih (by omega) 59 (by decide)
    rw [show sepTo L (k + 1 + 1) = (sepTo L (k + 1) ++ [59]) ++ decL (min (nth 0 L (k + 1)) 9999).toNat from by simp [sepTo], show min (nth 0 L (k + 1)) 9999 = nth 0 L (k + 1) by omega, turnL_app, turnL_app, hi, turn_dec _ _ (by omega), turnL_sep sep hs, Int.toNat_of_nonneg a]
    rw [List.take_add_one (i := k + 1), List.getElem?_eq_getElem hk, nth_eq _ _ _ hk]
    rw [List.foldl_append]
    rfl
end Go.Proofs.Ytcihcjlaamfjfaa
