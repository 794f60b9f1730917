/- The plain law of runes in bytes: bits as arithmetic; the rune at a text's beginning; a rune's bytes. No program in sight. No condition. The plain law of a text's first rune, byte by byte. No program in sight. No condition. -/
import Derived.Test.YtekodpcedjpnjaaEMath
import Derived.Test.YtekodpcedjpnjaaBase
namespace Go.Proofs.Ytekodpcedjpnjaa
set_option linter.unusedVariables false
set_option linter.unusedSimpArgs false
open Go.RowKit
/-! ### bits -/
theorem and_u8 : ∀ c : Fin 256, bits .and .u8 (c.val : Int) 31 = ((c.val % 32 : Nat) : Int) ∧ bits .and .u8 (c.val : Int) 15 = ((c.val % 16 : Nat) : Int) ∧ bits .and .u8 (c.val : Int) 7 = ((c.val % 8 : Nat) : Int) ∧ bits .and .u8 (c.val : Int) 63 = ((c.val % 64 : Nat) : Int) := by
  decide +kernel
theorem or_u8 : ∀ c : Fin 64, bits .or .u8 128 (c.val : Int) = 128 + (c.val : Int) ∧ (c.val < 32 → bits .or .u8 192 (c.val : Int) = 192 + (c.val : Int)) ∧ (c.val < 16 → bits .or .u8 224 (c.val : Int) = 224 + (c.val : Int)) ∧ (c.val < 8 → bits .or .u8 240 (c.val : Int) = 240 + (c.val : Int)) := by
  decide +kernel
theorem and31 (c : Nat) (h : c < 256) : bits .and .u8 (c : Int) 31 = ((c % 32 : Nat) : Int) := (and_u8 ⟨c, h⟩).1
theorem and15 (c : Nat) (h : c < 256) : bits .and .u8 (c : Int) 15 = ((c % 16 : Nat) : Int) := (and_u8 ⟨c, h⟩).2.1
theorem and7 (c : Nat) (h : c < 256) : bits .and .u8 (c : Int) 7 = ((c % 8 : Nat) : Int) := (and_u8 ⟨c, h⟩).2.2.1
theorem and63 (c : Nat) (h : c < 256) : bits .and .u8 (c : Int) 63 = ((c % 64 : Nat) : Int) := (and_u8 ⟨c, h⟩).2.2.2
theorem or128 (c : Nat) (h : c < 64) : bits .or .u8 128 (c : Int) = 128 + (c : Int) := (or_u8 ⟨c, h⟩).1
theorem or192 (c : Nat) (h : c < 32) : bits .or .u8 192 (c : Int) = 192 + (c : Int) := (or_u8 ⟨c, by omega⟩).2.1 h
theorem or224 (c : Nat) (h : c < 16) : bits .or .u8 224 (c : Int) = 224 + (c : Int) := (or_u8 ⟨c, by omega⟩).2.2.1 h
theorem or240 (c : Nat) (h : c < 8) : bits .or .u8 240 (c : Int) = 240 + (c : Int) := (or_u8 ⟨c, by omega⟩).2.2.2 h
/-- A number shifted by six, and six bits more. -/
theorem or_i32 (a x : Nat) (ha : a < 2 ^ 24) (hx : x < 64) : bits .or .i32 ((a * 64 : Nat) : Int) (x : Int) = ((a * 64 + x : Nat) : Int) := by
  unfold bits
  have h1 : (BitVec.ofInt 32 ((a * 64 : Nat) : Int)).toNat = a * 64 := by
    rw [BitVec.ofInt_natCast, BitVec.toNat_ofNat]
    exact Nat.mod_eq_of_lt (by omega)
  have h2 : (BitVec.ofInt 32 ((x : Nat) : Int)).toNat = x := by
    rw [BitVec.ofInt_natCast, BitVec.toNat_ofNat]
    exact Nat.mod_eq_of_lt (by omega)
  have h3 : a * 64 ||| x = a * 64 + x := by
    have := Nat.shiftLeft_add_eq_or_of_lt (i := 6) (b := x) (by omega) a
    rw [Nat.shiftLeft_eq] at this
    exact this.symm
  show IntKind.i32.wrap ((BitVec.ofInt 32 ((a * 64 : Nat) : Int) ||| BitVec.ofInt 32 ((x : Nat) : Int)).toNat : Int) = _
  rw [BitVec.toNat_or, h1, h2, h3]
  exact IntWalk.i32_in _ (by omega)
/-! ### the rune at a text's beginning -/
def lo1 (c : Nat) : Nat := if c = 224 then 160 else if c = 240 then 144 else 128
def hi1 (c : Nat) : Nat := if c = 237 then 159 else if c = 244 then 143 else 191
def tail1 (b : UInt8) (lo hi : Nat) : Bool := decide (lo ≤ b.toNat ∧ b.toNat ≤ hi)
/-- The first rune of bytes, and how many bytes it has. -/
def stepL : List UInt8 → Nat × Nat
  | [] => (65533, 1)
  | c :: t =>
    if c.toNat < 128 then (c.toNat, 1)
    else if c.toNat < 194 then (65533, 1)
    else if c.toNat < 224 then
      match t with
      | b :: _ => if tail1 b 128 191 then (c.toNat % 32 * 64 + b.toNat % 64, 2) else (65533, 1)
      | _ => (65533, 1)
    else if c.toNat < 240 then
      match t with
      | b :: d :: _ => if tail1 b (lo1 c.toNat) (hi1 c.toNat) && tail1 d 128 191 then ((c.toNat % 16 * 64 + b.toNat % 64) * 64 + d.toNat % 64, 3) else (65533, 1)
      | _ => (65533, 1)
    else if c.toNat < 245 then
      match t with
      | b :: d :: e :: _ => if tail1 b (lo1 c.toNat) (hi1 c.toNat) && (tail1 d 128 191 && tail1 e 128 191) then (((c.toNat % 8 * 64 + b.toNat % 64) * 64 + d.toNat % 64) * 64 + e.toNat % 64, 4) else (65533, 1)
      | _ => (65533, 1)
    else (65533, 1)
theorem stepL_pos (l : List UInt8) : 1 ≤ (stepL l).2 := by
  unfold stepL
  repeat' split
  all_goals simp
/-- A rune's bytes. -/
def isR (r : Int) : Bool := decide (0 ≤ r ∧ r ≤ 1114111 ∧ (r < 55296 ∨ 57343 < r))
def runeN (r : Int) : Nat := if isR r then r.toNat else 65533
def byteB (n : Nat) : UInt8 := UInt8.ofNat n
def bytesN (n : Nat) : List UInt8 :=
  if n < 128 then [byteB n] else if n < 2048 then [byteB (192 + n / 64), byteB (128 + n % 64)] else if n < 65536 then [byteB (224 + n / 4096), byteB (128 + n / 64 % 64), byteB (128 + n % 64)]
  else [byteB (240 + n / 262144), byteB (128 + n / 4096 % 64), byteB (128 + n / 64 % 64), byteB (128 + n % 64)]
def bytesR (r : Int) : List UInt8 := bytesN (runeN r)
theorem bytesN_len (n : Nat) : 1 ≤ (bytesN n).length ∧ (bytesN n).length ≤ 4 := by
  unfold bytesN
  repeat' split
  all_goals simp
/-- The runes of bytes, each as it stands. -/
def runesF : Nat → List UInt8 → List Nat
  | 0, _ => []
  | _ + 1, [] => []
  | n + 1, c :: t => (stepL (c :: t)).1 :: runesF n ((c :: t).drop (stepL (c :: t)).2)
def runesL (l : List UInt8) : List Nat := runesF l.length l
theorem runesF_more : ∀ (n m : Nat) (l : List UInt8), l.length ≤ n → l.length ≤ m → runesF n l = runesF m l
  | 0, 0, _, _, _ => rfl
  | 0, m + 1, [], _, _ => rfl
  | 0, m + 1, _ :: _, h, _ => by simp at h
  | n + 1, 0, [], _, _ => rfl
  | n + 1, 0, _ :: _, _, h => by simp at h
  | n + 1, m + 1, [], _, _ => rfl
  | n + 1, m + 1, c :: t, h1, h2 => by
    simp only [List.length_cons] at h1 h2
    unfold runesF
    have hp := stepL_pos (c :: t)
    have hl : ((c :: t).drop (stepL (c :: t)).2).length ≤ t.length := by rw [List.length_drop, List.length_cons]; omega
    rw [runesF_more n m _ (by omega) (by omega)]
theorem runesL_nil : runesL [] = [] := rfl
theorem runesL_step (l : List UInt8) (h : l ≠ []) : runesL l = (stepL l).1 :: runesL (l.drop (stepL l).2) := by
  match l, h with
  | c :: t, _ =>
    unfold runesL
    have hp := stepL_pos (c :: t)
    have hl : ((c :: t).drop (stepL (c :: t)).2).length ≤ t.length := by rw [List.length_drop, List.length_cons]; omega
    show runesF (t.length + 1) (c :: t) = _
    rw [runesF]
    rw [runesF_more t.length _ _ hl (Nat.le_refl _)]
end Go.Proofs.Ytekodpcedjpnjaa
namespace Go.Proofs.Ytekodpcedjpnjaa
set_option linter.unusedVariables false
set_option linter.unusedSimpArgs false
open Go.RowKit
def manyL (c : Nat) : Nat := if c < 128 then 1 else if c < 194 then 0 else if c < 224 then 2 else if c < 240 then 3 else if c < 245 then 4 else 0
def bitsL (c : Nat) : Nat := if c < 128 then c else if c < 224 then c % 32 else if c < 240 then c % 16 else c % 8
def okAt (c : Nat) (t : List UInt8) (j : Nat) : Prop := j < t.length ∧ (if j = 0 then lo1 c else 128) ≤ (nth 0 t j).toNat ∧ (nth 0 t j).toNat ≤ (if j = 0 then hi1 c else 191)
def accN (c : Nat) (t : List UInt8) : Nat → Nat
  | 0 => bitsL c
  | k + 1 => accN c t k * 64 + (nth 0 t k).toNat % 64
theorem bitsL_le (c : Nat) (h : 2 ≤ manyL c) : bitsL c < 32 := by
  unfold bitsL
  unfold manyL at h
  repeat' split
  all_goals first | omega | (rw [if_pos (by omega)] at h; omega)
theorem manyL_le (c : Nat) : manyL c ≤ 4 := by unfold manyL; (repeat' split) <;> omega
theorem accN_0 (c : Nat) (t : List UInt8) (h : 2 ≤ manyL c) : accN c t 0 < 32 := bitsL_le c h
theorem accN_lt (c : Nat) (t : List UInt8) (h : 2 ≤ manyL c) : ∀ k, k ≤ 3 → accN c t k < 2 ^ (5 + 6 * k)
  | 0, _ => by have := bitsL_le c h; simpa [accN] using this
  | k + 1, hk => by
    have ih := accN_lt c t h k (by omega)
    unfold accN
    have : 2 ^ (5 + 6 * (k + 1)) = 2 ^ (5 + 6 * k) * 64 := by rw [show 5 + 6 * (k + 1) = 5 + 6 * k + 6 by omega, Nat.pow_add]
    omega
theorem step_many0 (c : UInt8) (t : List UInt8) (h : manyL c.toNat = 0) : stepL (c :: t) = (65533, 1) := by
  unfold manyL at h
  unfold stepL
  dsimp only
  have h1 : ¬ c.toNat < 128 := fun q => by rw [if_pos q] at h; omega
  rw [if_neg h1] at h ⊢
  by_cases h2 : c.toNat < 194
  · rw [if_pos h2]
  · rw [if_neg h2] at h ⊢
    have h3 : ¬ c.toNat < 224 := fun q => by rw [if_pos q] at h; omega
    rw [if_neg h3] at h ⊢
    have h4 : ¬ c.toNat < 240 := fun q => by rw [if_pos q] at h; omega
    rw [if_neg h4] at h ⊢
    have h5 : ¬ c.toNat < 245 := fun q => by rw [if_pos q] at h; omega
    rw [if_neg h5]
theorem step_bad (c : UInt8) (t : List UInt8) (j : Nat) (h : j + 1 < manyL c.toNat) (hb : ¬ okAt c.toNat t j) : stepL (c :: t) = (65533, 1) := by
  unfold manyL at h
  unfold okAt lo1 hi1 at hb
  unfold stepL tail1 lo1 hi1
  dsimp only
  by_cases h1 : c.toNat < 128
  · rw [if_pos h1] at h; omega
  · rw [if_neg h1] at h ⊢
    by_cases h2 : c.toNat < 194
    · rw [if_pos h2] at h; omega
    · rw [if_neg h2] at h ⊢
      by_cases h3 : c.toNat < 224
      · rw [if_pos h3] at h ⊢
        obtain rfl : j = 0 := by omega
        match t with
        | [] => rfl
        | b :: _ =>
          simp only [nth, List.getD_cons_zero, List.length_cons, if_true, Nat.zero_lt_succ, true_and] at hb ⊢
          rw [if_neg]
          rw [decide_eq_true_eq]
          rw [if_neg (by omega), if_neg (by omega), if_neg (by omega), if_neg (by omega)] at hb
          exact hb
      · rw [if_neg h3] at h ⊢
        by_cases h4 : c.toNat < 240
        · rw [if_pos h4] at h ⊢
          match t with
          | [] => rfl
          | [_] => rfl
          | b :: d :: _ =>
            dsimp only
            rw [if_neg]
            rw [Bool.and_eq_true, decide_eq_true_eq, decide_eq_true_eq]
            have hj : j = 0 ∨ j = 1 := by omega
            rcases hj with rfl | rfl
            · simp [nth] at hb
              intro hx; exact absurd (hb hx.1.1) (by omega)
            · simp [nth] at hb
              intro hx; exact absurd (hb hx.2.1) (by omega)
        · rw [if_neg h4] at h ⊢
          by_cases h5 : c.toNat < 245
          · rw [if_pos h5] at h ⊢
            match t with
            | [] => rfl
            | [_] => rfl
            | [_, _] => rfl
            | b :: d :: e :: _ =>
              dsimp only
              rw [if_neg]
              rw [Bool.and_eq_true, Bool.and_eq_true, decide_eq_true_eq, decide_eq_true_eq, decide_eq_true_eq]
              have hj : j = 0 ∨ j = 1 ∨ j = 2 := by omega
              rcases hj with rfl | rfl | rfl
              · simp [nth] at hb
                intro hx; exact absurd (hb hx.1.1) (by omega)
              · simp [nth] at hb
                intro hx; exact absurd (hb hx.2.1.1) (by omega)
              · simp [nth] at hb
                intro hx; exact absurd (hb hx.2.2.1) (by omega)
          · rw [if_neg h5] at h; omega
theorem step_ok (c : UInt8) (t : List UInt8) (h : 1 ≤ manyL c.toNat) (hb : ∀ j, j + 1 < manyL c.toNat → okAt c.toNat t j) : stepL (c :: t) = (accN c.toNat t (manyL c.toNat - 1), manyL c.toNat) := by
  unfold manyL at h hb ⊢
  unfold okAt lo1 hi1 at hb
  unfold stepL tail1 lo1 hi1
  dsimp only
  by_cases h1 : c.toNat < 128
  · rw [if_pos h1, if_pos h1]; simp [accN, bitsL, h1]
  · rw [if_neg h1] at h hb ⊢
    rw [if_neg h1]
    by_cases h2 : c.toNat < 194
    · rw [if_pos h2] at h; omega
    · rw [if_neg h2] at h hb ⊢
      rw [if_neg h2]
      by_cases h3 : c.toNat < 224
      · rw [if_pos h3] at h hb ⊢
        rw [if_pos h3]
        have hb0 := hb 0 (by omega)
        match t with
        | [] => simp at hb0
        | b :: _ =>
          simp only [nth, List.getD_cons_zero, List.length_cons, if_true, Nat.zero_lt_succ, true_and] at hb0 ⊢
          rw [if_neg (by omega), if_neg (by omega), if_neg (by omega), if_neg (by omega)] at hb0
          rw [if_pos (by rw [decide_eq_true_eq]; exact hb0)]
          simp [accN, bitsL, h1, h3, nth]
      · rw [if_neg h3] at h hb ⊢
        rw [if_neg h3]
        by_cases h4 : c.toNat < 240
        · rw [if_pos h4] at h hb ⊢
          rw [if_pos h4]
          have hb0 := hb 0 (by omega)
          have hb1 := hb 1 (by omega)
          match t with
          | [] => simp at hb0
          | [_] => simp at hb1
          | b :: d :: _ =>
            simp [nth] at hb0 hb1
            dsimp only
            rw [if_pos (by rw [Bool.and_eq_true, decide_eq_true_eq, decide_eq_true_eq]; exact ⟨hb0, hb1⟩)]
            simp [accN, bitsL, h1, h3, h4, nth]
        · rw [if_neg h4] at h hb ⊢
          rw [if_neg h4]
          by_cases h5 : c.toNat < 245
          · rw [if_pos h5] at h hb ⊢
            rw [if_pos h5]
            have hb0 := hb 0 (by omega)
            have hb1 := hb 1 (by omega)
            have hb2 := hb 2 (by omega)
            match t with
            | [] => simp at hb0
            | [_] => simp at hb1
            | [_, _] => simp at hb2
            | b :: d :: e :: _ =>
              simp [nth] at hb0 hb1 hb2
              dsimp only
              rw [if_pos (by rw [Bool.and_eq_true, Bool.and_eq_true, decide_eq_true_eq, decide_eq_true_eq, decide_eq_true_eq]; exact ⟨hb0, hb1, hb2⟩)]
              simp [accN, bitsL, h1, h3, h4, nth]
          · rw [if_neg h5] at h; omega
instance decOkAt (c : Nat) (t : List UInt8) (j : Nat) : Decidable (okAt c t j) := by unfold okAt; infer_instance
/-- Bytes with which a rune begins whose end is not there yet. -/
def moreL : List UInt8 → Bool
  | [] => true
  | c :: t => decide (t.length + 1 < manyL c.toNat ∧ ∀ j, j < t.length → okAt c.toNat t j)
theorem more_no {c : UInt8} {t : List UInt8} (h : manyL c.toNat ≤ t.length + 1) : moreL (c :: t) = false := by unfold moreL; exact decide_eq_false (fun h2 => by omega)
theorem more_bad {c : UInt8} {t : List UInt8} {j : Nat} (h1 : j < t.length) (h : ¬ okAt c.toNat t j) : moreL (c :: t) = false := by unfold moreL; exact decide_eq_false (fun h2 => h (h2.2 j h1))
theorem more_yes {c : UInt8} {t : List UInt8} (h1 : t.length + 1 < manyL c.toNat) (h : ∀ j, j < t.length → okAt c.toNat t j) : moreL (c :: t) = true := by unfold moreL; exact decide_eq_true ⟨h1, h⟩
end Go.Proofs.Ytekodpcedjpnjaa
