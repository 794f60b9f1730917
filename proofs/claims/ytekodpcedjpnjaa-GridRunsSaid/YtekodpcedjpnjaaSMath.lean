/- The plain law of a text without what is obeyed. No program in sight. No condition. -/
import Derived.Test.YtekodpcedjpnjaaEMath
namespace Go.Proofs.Ytekodpcedjpnjaa
set_option linter.unusedVariables false
set_option linter.unusedSimpArgs false

/-- Behind the beginning of a sequence: what stands behind its end. -/
def skipL : List UInt8 → List UInt8
  | [] => []
  | c :: t => if 64 ≤ c.toNat ∧ c.toNat ≤ 126 then t else skipL t
theorem skipL_len : ∀ l, (skipL l).length ≤ l.length
  | [] => by simp [skipL]
  | c :: t => by
    unfold skipL; split
    · simp
    · have := skipL_len t; simp; omega
def stripF : Nat → List UInt8 → List UInt8
  | 0, _ => []
  | _ + 1, [] => []
  | n + 1, c :: t => if c.toNat = 27 ∧ (nth 0 t 0).toNat = 91 ∧ 0 < t.length then stripF n (skipL (t.drop 1)) else (if c.toNat < 32 then [] else [c]) ++ stripF n t
/-- A text without what is obeyed. -/
def stripL (l : List UInt8) : List UInt8 := stripF l.length l
theorem stripF_more : ∀ (n m : Nat) (l : List UInt8), l.length ≤ n → l.length ≤ m → stripF n l = stripF m l
  | 0, 0, _, _, _ => rfl
  | 0, m + 1, [], _, _ => rfl
  | 0, m + 1, _ :: _, h, _ => by simp at h
  | n + 1, 0, [], _, _ => rfl
  | n + 1, 0, _ :: _, _, h => by simp at h
  | n + 1, m + 1, [], _, _ => rfl
  | n + 1, m + 1, c :: t, h1, h2 => by
    simp only [List.length_cons] at h1 h2
    unfold stripF
    have hs := skipL_len (t.drop 1)
    simp only [List.length_drop] at hs
    rw [stripF_more n m (skipL (t.drop 1)) (by omega) (by omega), stripF_more n m t (by omega) (by omega)]
theorem stripL_esc (c d : UInt8) (t : List UInt8) (h1 : c.toNat = 27) (h2 : d.toNat = 91) : stripL (c :: d :: t) = stripL (skipL t) := by
  unfold stripL
  have hs := skipL_len t
  show stripF (t.length + 1 + 1) (c :: d :: t) = _
  rw [stripF, if_pos ⟨h1, h2, by simp⟩]
  exact stripF_more _ _ _ (by simp; omega) (Nat.le_refl _)
theorem stripL_one (c : UInt8) (t : List UInt8) (h : ¬ (c.toNat = 27 ∧ (nth 0 t 0).toNat = 91 ∧ 0 < t.length)) : stripL (c :: t) = (if c.toNat < 32 then [] else [c]) ++ stripL t := by
  unfold stripL
  show stripF (t.length + 1) (c :: t) = _
  rw [stripF, if_neg h]
theorem stripL_nil : stripL [] = [] := rfl
theorem stripL_len (l : List UInt8) : (stripL l).length ≤ l.length := by
  have : ∀ (n : Nat) (l : List UInt8), (stripF n l).length ≤ l.length := by
    intro n
    induction n with
    | zero => intro l; simp [stripF]
    | succ n ih =>
      intro l
      cases l with
      | nil => simp [stripF]
      | cons c t =>
        unfold stripF
        split
        · have h1 := ih (skipL (t.drop 1))
          have h2 := skipL_len (t.drop 1)
          simp only [List.length_drop] at h2; simp only [List.length_cons]; omega
        · have := ih t
          split <;> simp <;> omega
  exact this _ l
/-- What is left behind place i. -/
def restL (l : List UInt8) (i : Nat) : List UInt8 := stripL (l.drop i)
theorem drop_cons (l : List UInt8) (i : Nat) (h : i < l.length) : l.drop i = nth 0 l i :: l.drop (i + 1) := by
  rw [List.drop_eq_getElem_cons h, nth_eq _ _ _ h]
theorem nth_drop (l : List UInt8) (i j : Nat) : nth 0 (l.drop i) j = nth 0 l (i + j) := by simp [nth, List.getElem?_drop]
theorem restL_esc (l : List UInt8) (i : Nat) (h : i + 1 < l.length) (h1 : (nth 0 l i).toNat = 27) (h2 : (nth 0 l (i + 1)).toNat = 91) : restL l i = stripL (skipL (l.drop (i + 2))) := by
  unfold restL
  rw [drop_cons l i (by omega), drop_cons l (i + 1) h]
  exact stripL_esc _ _ _ h1 h2
theorem restL_one (l : List UInt8) (i : Nat) (h : i < l.length) (hn : ¬ ((nth 0 l i).toNat = 27 ∧ i + 1 < l.length ∧ (nth 0 l (i + 1)).toNat = 91)) : restL l i = (if (nth 0 l i).toNat < 32 then [] else [nth 0 l i]) ++ restL l (i + 1) := by
  unfold restL
  rw [drop_cons l i h]
  refine stripL_one _ _ ?_
  rw [nth_drop]
  intro hh
  exact hn ⟨hh.1, by have := hh.2.2; simp at this; omega, hh.2.1⟩
theorem restL_end (l : List UInt8) (i : Nat) (h : l.length ≤ i) : restL l i = [] := by unfold restL; rw [List.drop_of_length_le h]; rfl
/-- The skip at place j. -/
theorem skip_stop (l : List UInt8) (j : Nat) (h : j < l.length) (he : 64 ≤ (nth 0 l j).toNat ∧ (nth 0 l j).toNat ≤ 126) : stripL (skipL (l.drop j)) = restL l (j + 1) := by
  rw [drop_cons l j h]; unfold skipL restL; rw [if_pos he]
theorem skip_go (l : List UInt8) (j : Nat) (h : j < l.length) (he : ¬ (64 ≤ (nth 0 l j).toNat ∧ (nth 0 l j).toNat ≤ 126)) : skipL (l.drop j) = skipL (l.drop (j + 1)) := by
  rw [drop_cons l j h, skipL, if_neg he]
theorem skip_end (l : List UInt8) (j : Nat) (h : l.length ≤ j) : stripL (skipL (l.drop j)) = restL l (j + 1) := by
  rw [List.drop_of_length_le h, restL_end l (j + 1) (by omega)]; rfl
end Go.Proofs.Ytekodpcedjpnjaa
