/- The plain law of a text's first rune, byte by byte. No program in sight. No condition. -/
import Derived.Test.YtnakgjcmepimiaaRMath
import Derived.Test.YtnakgjcmepimiaaBase
namespace Go.Proofs.Ytnakgjcmepimiaa
set_option linter.unusedVariables false
set_option linter.unusedSimpArgs false
open Go.RowKit
def manyL (c : Nat) : Nat := if c < 128 then 1 else if c < 194 then 0 else if c < 224 then 2 else if c < 240 then 3 else if c < 245 then 4 else 0
def bitsL (c : Nat) : Nat := if c < 128 then c else if c < 224 then c % 32 else if c < 240 then c % 16 else c % 8
def okAt (c : Nat) (t : List UInt8) (j : Nat) : Prop := j < t.length ∧ (if j = 0 then lo1 c else 128) ≤ (nth 0 t j).toNat ∧ (nth 0 t j).toNat ≤ (if j = 0 then hi1 c else 191)
def accN (c : Nat) (t : List UInt8) : Nat → Nat
  | 0 => bitsL c
  | k + 1 => accN c t k * 64 + (nth 0 t k).toNat % 64
theorem bitsL_le (c : Nat) (h : 2 ≤ manyL c) : bitsL c < 32 := by
  unfold bitsL
  unfold manyL at h
  repeat' split
  all_goals first | omega | (rw [if_pos (by omega)] at h; omega)
theorem manyL_le (c : Nat) : manyL c ≤ 4 := by unfold manyL; (repeat' split) <;> omega
theorem accN_0 (c : Nat) (t : List UInt8) (h : 2 ≤ manyL c) : accN c t 0 < 32 := bitsL_le c h
theorem accN_lt (c : Nat) (t : List UInt8) (h : 2 ≤ manyL c) : ∀ k, k ≤ 3 → accN c t k < 2 ^ (5 + 6 * k)
  | 0, _ => by have := bitsL_le c h; simpa [accN] using this
  | k + 1, hk => by
    have ih := accN_lt c t h k (by omega)
    unfold accN
    have : 2 ^ (5 + 6 * (k + 1)) = 2 ^ (5 + 6 * k) * 64 := by rw [show 5 + 6 * (k + 1) = 5 + 6 * k + 6 by omega, Nat.pow_add]
    omega
theorem step_many0 (c : UInt8) (t : List UInt8) (h : manyL c.toNat = 0) : stepL (c :: t) = (65533, 1) := by
  unfold manyL at h
  unfold stepL
  dsimp only
  have h1 : ¬ c.toNat < 128 := fun q => by rw [if_pos q] at h; omega
  rw [if_neg h1] at h ⊢
  by_cases h2 : c.toNat < 194
  · rw [if_pos h2]
  · rw [if_neg h2] at h ⊢
    have h3 : ¬ c.toNat < 224 := fun q => by rw [if_pos q] at h; omega
    rw [if_neg h3] at h ⊢
    have h4 : ¬ c.toNat < 240 := fun q => by rw [if_pos q] at h; omega
    rw [if_neg h4] at h ⊢
    have h5 : ¬ c.toNat < 245 := fun q => by rw [if_pos q] at h; omega
    rw [if_neg h5]
theorem step_bad (c : UInt8) (t : List UInt8) (j : Nat) (h : j + 1 < manyL c.toNat) (hb : ¬ okAt c.toNat t j) : stepL (c :: t) = (65533, 1) := by
  unfold manyL at h
  unfold okAt lo1 hi1 at hb
  unfold stepL tail1 lo1 hi1
  dsimp only
  by_cases h1 : c.toNat < 128
  · rw [if_pos h1] at h; omega
  · rw [if_neg h1] at h ⊢
    by_cases h2 : c.toNat < 194
    · rw [if_pos h2] at h; omega
    · rw [if_neg h2] at h ⊢
      by_cases h3 : c.toNat < 224
      · rw [if_pos h3] at h ⊢
        obtain rfl : j = 0 := by omega
        match t with
        | [] => rfl
        | b :: _ =>
          simp only [nth, List.getD_cons_zero, List.length_cons, if_true, Nat.zero_lt_succ, true_and] at hb ⊢
          rw [if_neg]
          rw [decide_eq_true_eq]
          rw [if_neg (by omega), if_neg (by omega), if_neg (by omega), if_neg (by omega)] at hb
          exact hb
      · rw [if_neg h3] at h ⊢
        by_cases h4 : c.toNat < 240
        · rw [if_pos h4] at h ⊢
          match t with
          | [] => rfl
          | [_] => rfl
          | b :: d :: _ =>
            dsimp only
            rw [if_neg]
            rw [Bool.and_eq_true, decide_eq_true_eq, decide_eq_true_eq]
            have hj : j = 0 ∨ j = 1 := by omega
            rcases hj with rfl | rfl
            · simp [nth] at hb
              intro hx; exact absurd (hb hx.1.1) (by omega)
            · simp [nth] at hb
              intro hx; exact absurd (hb hx.2.1) (by omega)
        · rw [if_neg h4] at h ⊢
          by_cases h5 : c.toNat < 245
          · rw [if_pos h5] at h ⊢
            match t with
            | [] => rfl
            | [_] => rfl
            | [_, _] => rfl
            | b :: d :: e :: _ =>
              dsimp only
              rw [if_neg]
              rw [Bool.and_eq_true, Bool.and_eq_true, decide_eq_true_eq, decide_eq_true_eq, decide_eq_true_eq]
              have hj : j = 0 ∨ j = 1 ∨ j = 2 := by omega
              rcases hj with rfl | rfl | rfl
              · simp [nth] at hb
                intro hx; exact absurd (hb hx.1.1) (by omega)
              · simp [nth] at hb
                intro hx; exact absurd (hb hx.2.1.1) (by omega)
              · simp [nth] at hb
                intro hx; exact absurd (hb hx.2.2.1) (by omega)
          · rw [if_neg h5] at h; omega
theorem step_ok (c : UInt8) (t : List UInt8) (h : 1 ≤ manyL c.toNat) (hb : ∀ j, j + 1 < manyL c.toNat → okAt c.toNat t j) : stepL (c :: t) = (accN c.toNat t (manyL c.toNat - 1), manyL c.toNat) := by
  unfold manyL at h hb ⊢
  unfold okAt lo1 hi1 at hb
  unfold stepL tail1 lo1 hi1
  dsimp only
  by_cases h1 : c.toNat < 128
  · rw [if_pos h1, if_pos h1]; simp [accN, bitsL, h1]
  · rw [if_neg h1] at h hb ⊢
    rw [if_neg h1]
    by_cases h2 : c.toNat < 194
    · rw [if_pos h2] at h; omega
    · rw [if_neg h2] at h hb ⊢
      rw [if_neg h2]
      by_cases h3 : c.toNat < 224
      · rw [if_pos h3] at h hb ⊢
        rw [if_pos h3]
        have hb0 := hb 0 (by omega)
        match t with
        | [] => simp at hb0
        | b :: _ =>
          simp only [nth, List.getD_cons_zero, List.length_cons, if_true, Nat.zero_lt_succ, true_and] at hb0 ⊢
          rw [if_neg (by omega), if_neg (by omega), if_neg (by omega), if_neg (by omega)] at hb0
          rw [if_pos (by rw [decide_eq_true_eq]; exact hb0)]
          simp [accN, bitsL, h1, h3, nth]
      · rw [if_neg h3] at h hb ⊢
        rw [if_neg h3]
        by_cases h4 : c.toNat < 240
        · rw [if_pos h4] at h hb ⊢
          rw [if_pos h4]
          have hb0 := hb 0 (by omega)
          have hb1 := hb 1 (by omega)
          match t with
          | [] => simp at hb0
          | [_] => simp at hb1
          | b :: d :: _ =>
            simp [nth] at hb0 hb1
            dsimp only
            rw [if_pos (by rw [Bool.and_eq_true, decide_eq_true_eq, decide_eq_true_eq]; exact ⟨hb0, hb1⟩)]
            simp [accN, bitsL, h1, h3, h4, nth]
        · rw [if_neg h4] at h hb ⊢
          rw [if_neg h4]
          by_cases h5 : c.toNat < 245
          · rw [if_pos h5] at h hb ⊢
            rw [if_pos h5]
            have hb0 := hb 0 (by omega)
            have hb1 := hb 1 (by omega)
            have hb2 := hb 2 (by omega)
            match t with
            | [] => simp at hb0
            | [_] => simp at hb1
            | [_, _] => simp at hb2
            | b :: d :: e :: _ =>
              simp [nth] at hb0 hb1 hb2
              dsimp only
              rw [if_pos (by rw [Bool.and_eq_true, Bool.and_eq_true, decide_eq_true_eq, decide_eq_true_eq, decide_eq_true_eq]; exact ⟨hb0, hb1, hb2⟩)]
              simp [accN, bitsL, h1, h3, h4, nth]
          · rw [if_neg h5] at h; omega
end Go.Proofs.Ytnakgjcmepimiaa
