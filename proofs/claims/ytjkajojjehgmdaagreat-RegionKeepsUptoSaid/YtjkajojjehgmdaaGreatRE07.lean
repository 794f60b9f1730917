/- The plain law of runes in bytes: bits as arithmetic; the rune at a text's beginning; a rune's bytes. No program in sight. No condition. The plain law of a text's first rune, byte by byte. No program in sight. No condition. The plain law of clusters: runes written and read again; a text's clusters; cleaning twice is cleaning once. No program in sight. No condition. Rows of cells: what the grid's methods make of them, row by row, and that the cells of a grid in one list are these rows laid behind each other. No condition. Rows of cells: what another size makes of them. No condition. A terminal as plain data, and what bytes make of it. No condition. A terminal as plain data: what stays true of it whatever comes; how many bytes are taken; that what is taken does not depend on the bytes behind it. No condition. -/
import Derived.Deep.RegionHeldLaw
import Derived.Deep.DeepCutAuto
import Derived.Test.YtjkajojjehgmdaaGreatRE02
import Derived.Test.YtjkajojjehgmdaaGreatRE03
import Derived.Test.YtjkajojjehgmdaaGreatRE06
set_option linter.unusedVariables false
set_option linter.unusedSimpArgs false
namespace Go.Proofs.YtjkajojjehgmdaaGreat
open Go.RowKit
theorem and_u8 : ∀ c : Fin 256, bits .and .u8 (c.val : Int) 31 = ((c.val % 32 : Nat) : Int) ∧ bits .and .u8 (c.val : Int) 15 = ((c.val % 16 : Nat) : Int) ∧ bits .and .u8 (c.val : Int) 7 = ((c.val % 8 : Nat) : Int) ∧ bits .and .u8 (c.val : Int) 63 = ((c.val % 64 : Nat) : Int) := by
 decide +kernel
theorem or_u8 : ∀ c : Fin 64, bits .or .u8 128 (c.val : Int) = 128 + (c.val : Int) ∧ (c.val < 32 → bits .or .u8 192 (c.val : Int) = 192 + (c.val : Int)) ∧ (c.val < 16 → bits .or .u8 224 (c.val : Int) = 224 + (c.val : Int)) ∧ (c.val < 8 → bits .or .u8 240 (c.val : Int) = 240 + (c.val : Int)) := by
 decide +kernel
theorem and31 (c : Nat) (h : c < 256) : bits .and .u8 (c : Int) 31 = ((c % 32 : Nat) : Int) := (and_u8 ⟨c, h⟩).1
theorem and15 (c : Nat) (h : c < 256) : bits .and .u8 (c : Int) 15 = ((c % 16 : Nat) : Int) := (and_u8 ⟨c, h⟩).2.1
theorem and7 (c : Nat) (h : c < 256) : bits .and .u8 (c : Int) 7 = ((c % 8 : Nat) : Int) := (and_u8 ⟨c, h⟩).2.2.1
theorem and63 (c : Nat) (h : c < 256) : bits .and .u8 (c : Int) 63 = ((c % 64 : Nat) : Int) := (and_u8 ⟨c, h⟩).2.2.2
theorem or128 (c : Nat) (h : c < 64) : bits .or .u8 128 (c : Int) = 128 + (c : Int) := (or_u8 ⟨c, h⟩).1
theorem or192 (c : Nat) (h : c < 32) : bits .or .u8 192 (c : Int) = 192 + (c : Int) := (or_u8 ⟨c, by omega⟩).2.1 h
theorem or224 (c : Nat) (h : c < 16) : bits .or .u8 224 (c : Int) = 224 + (c : Int) := (or_u8 ⟨c, by omega⟩).2.2.1 h
theorem or240 (c : Nat) (h : c < 8) : bits .or .u8 240 (c : Int) = 240 + (c : Int) := (or_u8 ⟨c, by omega⟩).2.2.2 h
theorem or_i32 (a x : Nat) (ha : a < 2 ^ 24) (hx : x < 64) : bits .or .i32 ((a * 64 : Nat) : Int) (x : Int) = ((a * 64 + x : Nat) : Int) := by
 unfold bits
 have h1 : (BitVec.ofInt 32 ((a * 64 : Nat) : Int)).toNat = a * 64 := by
  rw [BitVec.ofInt_natCast, BitVec.toNat_ofNat]
  exact Nat.mod_eq_of_lt (by omega)
 have h2 : (BitVec.ofInt 32 ((x : Nat) : Int)).toNat = x := by
  rw [BitVec.ofInt_natCast, BitVec.toNat_ofNat]
  exact Nat.mod_eq_of_lt (by omega)
 have h3 : a * 64 ||| x = a * 64 + x := by
  have := Nat.shiftLeft_add_eq_or_of_lt (i := 6) (b := x) (by omega) a
  rw [Nat.shiftLeft_eq] at this
  exact this.symm
 show IntKind.i32.wrap ((BitVec.ofInt 32 ((a * 64 : Nat) : Int) ||| BitVec.ofInt 32 ((x : Nat) : Int)).toNat : Int) = _
 rw [BitVec.toNat_or, h1, h2, h3]
 exact IntWalk.i32_in _ (by omega)
def lo1 (c : Nat) : Nat := if c = 224 then 160 else if c = 240 then 144 else 128
def hi1 (c : Nat) : Nat := if c = 237 then 159 else if c = 244 then 143 else 191
def tail1 (b : UInt8) (lo hi : Nat) : Bool := decide (lo ≤ b.toNat ∧ b.toNat ≤ hi)
def stepL : List UInt8 → Nat × Nat
 | [] => (65533, 1)
 | c :: t =>
  if c.toNat < 128 then (c.toNat, 1)
  else if c.toNat < 194 then (65533, 1)
  else if c.toNat < 224 then
   match t with
   | b :: _ => if tail1 b 128 191 then (c.toNat % 32 * 64 + b.toNat % 64, 2) else (65533, 1)
   | _ => (65533, 1)
  else if c.toNat < 240 then
   match t with
   | b :: d :: _ => if tail1 b (lo1 c.toNat) (hi1 c.toNat) && tail1 d 128 191 then ((c.toNat % 16 * 64 + b.toNat % 64) * 64 + d.toNat % 64, 3) else (65533, 1)
   | _ => (65533, 1)
  else if c.toNat < 245 then
   match t with
   | b :: d :: e :: _ => if tail1 b (lo1 c.toNat) (hi1 c.toNat) && (tail1 d 128 191 && tail1 e 128 191) then (((c.toNat % 8 * 64 + b.toNat % 64) * 64 + d.toNat % 64) * 64 + e.toNat % 64, 4) else (65533, 1)
   | _ => (65533, 1)
  else (65533, 1)
theorem stepL_pos (l : List UInt8) : 1 ≤ (stepL l).2 := by
 unfold stepL
 repeat' split
 all_goals simp
def isR (r : Int) : Bool := decide (0 ≤ r ∧ r ≤ 1114111 ∧ (r < 55296 ∨ 57343 < r))
def runeN (r : Int) : Nat := if isR r then r.toNat else 65533
def byteB (n : Nat) : UInt8 := UInt8.ofNat n
def bytesN (n : Nat) : List UInt8 :=
 if n < 128 then [byteB n] else if n < 2048 then [byteB (192 + n / 64), byteB (128 + n % 64)] else if n < 65536 then [byteB (224 + n / 4096), byteB (128 + n / 64 % 64), byteB (128 + n % 64)]
 else [byteB (240 + n / 262144), byteB (128 + n / 4096 % 64), byteB (128 + n / 64 % 64), byteB (128 + n % 64)]
def bytesR (r : Int) : List UInt8 := bytesN (runeN r)
theorem bytesN_len (n : Nat) : 1 ≤ (bytesN n).length ∧ (bytesN n).length ≤ 4 := by
 unfold bytesN
 repeat' split
 all_goals simp
def runesF : Nat → List UInt8 → List Nat
 | 0, _ => []
 | _ + 1, [] => []
 | n + 1, c :: t => (stepL (c :: t)).1 :: runesF n ((c :: t).drop (stepL (c :: t)).2)
def runesL (l : List UInt8) : List Nat := runesF l.length l
theorem runesF_more : ∀ (n m : Nat) (l : List UInt8), l.length ≤ n → l.length ≤ m → runesF n l = runesF m l
 | 0, 0, _, _, _ => rfl
 | 0, m + 1, [], _, _ => rfl
 | 0, m + 1, _ :: _, h, _ => by simp at h
 | n + 1, 0, [], _, _ => rfl
 | n + 1, 0, _ :: _, _, h => by simp at h
 | n + 1, m + 1, [], _, _ => rfl
 | n + 1, m + 1, c :: t, h1, h2 => by
  simp only [List.length_cons] at h1 h2
  unfold runesF
  have hp := stepL_pos (c :: t)
  have hl : ((c :: t).drop (stepL (c :: t)).2).length ≤ t.length := by rw [List.length_drop, List.length_cons]; omega
  rw [runesF_more n m _ (by omega) (by omega)]
theorem runesL_nil : runesL [] = [] := rfl
theorem runesL_step (l : List UInt8) (h : l ≠ []) : runesL l = (stepL l).1 :: runesL (l.drop (stepL l).2) := by
 match l, h with
 | c :: t, _ =>
  unfold runesL
  have hp := stepL_pos (c :: t)
  have hl : ((c :: t).drop (stepL (c :: t)).2).length ≤ t.length := by rw [List.length_drop, List.length_cons]; omega
  show runesF (t.length + 1) (c :: t) = _
  rw [runesF]
  rw [runesF_more t.length _ _ hl (Nat.le_refl _)]
def manyL (c : Nat) : Nat := if c < 128 then 1 else if c < 194 then 0 else if c < 224 then 2 else if c < 240 then 3 else if c < 245 then 4 else 0
def bitsL (c : Nat) : Nat := if c < 128 then c else if c < 224 then c % 32 else if c < 240 then c % 16 else c % 8
def okAt (c : Nat) (t : List UInt8) (j : Nat) : Prop := j < t.length ∧ (if j = 0 then lo1 c else 128) ≤ (nth 0 t j).toNat ∧ (nth 0 t j).toNat ≤ (if j = 0 then hi1 c else 191)
def accN (c : Nat) (t : List UInt8) : Nat → Nat
 | 0 => bitsL c
 | k + 1 => accN c t k * 64 + (nth 0 t k).toNat % 64
theorem bitsL_le (c : Nat) (h : 2 ≤ manyL c) : bitsL c < 32 := by
 unfold bitsL
 unfold manyL at h
 repeat' split
 all_goals first | omega | (rw [if_pos (by omega)] at h; omega)
theorem manyL_le (c : Nat) : manyL c ≤ 4 := by unfold manyL; (repeat' split) <;> omega
theorem accN_lt (c : Nat) (t : List UInt8) (h : 2 ≤ manyL c) : ∀ k, k ≤ 3 → accN c t k < 2 ^ (5 + 6 * k)
 | 0, _ => by have := bitsL_le c h; simpa [accN] using this
 | k + 1, hk => by
  have ih := accN_lt c t h k (by omega)
  unfold accN
  have : 2 ^ (5 + 6 * (k + 1)) = 2 ^ (5 + 6 * k) * 64 := by rw [show 5 + 6 * (k + 1) = 5 + 6 * k + 6 by omega, Nat.pow_add]
  omega
theorem step_many0 (c : UInt8) (t : List UInt8) (h : manyL c.toNat = 0) : stepL (c :: t) = (65533, 1) := by
 unfold manyL at h
 unfold stepL
 dsimp only
 have h1 : ¬ c.toNat < 128 := fun q => by rw [if_pos q] at h; omega
 rw [if_neg h1] at h ⊢
 by_cases h2 : c.toNat < 194
 ·rw [if_pos h2]
 ·rw [if_neg h2] at h ⊢
  have h3 : ¬ c.toNat < 224 := fun q => by rw [if_pos q] at h; omega
  rw [if_neg h3] at h ⊢
  have h4 : ¬ c.toNat < 240 := fun q => by rw [if_pos q] at h; omega
  rw [if_neg h4] at h ⊢
  have h5 : ¬ c.toNat < 245 := fun q => by rw [if_pos q] at h; omega
  rw [if_neg h5]
theorem step_bad (c : UInt8) (t : List UInt8) (j : Nat) (h : j + 1 < manyL c.toNat) (hb : ¬ okAt c.toNat t j) : stepL (c :: t) = (65533, 1) := by
 unfold manyL at h
 unfold okAt lo1 hi1 at hb
 unfold stepL tail1 lo1 hi1
 dsimp only
 by_cases h1 : c.toNat < 128
 ·rw [if_pos h1] at h; omega
 ·rw [if_neg h1] at h ⊢
  by_cases h2 : c.toNat < 194
  ·rw [if_pos h2] at h; omega
  ·rw [if_neg h2] at h ⊢
   by_cases h3 : c.toNat < 224
   ·rw [if_pos h3] at h ⊢
    obtain rfl : j = 0 := by omega
    match t with
    | [] => rfl
    | b :: _ =>
     simp only [nth, List.getD_cons_zero, List.length_cons, if_true, Nat.zero_lt_succ, true_and] at hb ⊢
     rw [if_neg]
     rw [decide_eq_true_eq]
     rw [if_neg (by omega), if_neg (by omega), if_neg (by omega), if_neg (by omega)] at hb
     exact hb
   ·rw [if_neg h3] at h ⊢
    by_cases h4 : c.toNat < 240
    ·rw [if_pos h4] at h ⊢
     match t with
     | [] => rfl
     | [_] => rfl
     | b :: d :: _ =>
      dsimp only
      rw [if_neg]
      rw [Bool.and_eq_true, decide_eq_true_eq, decide_eq_true_eq]
      have hj : j = 0 ∨ j = 1 := by omega
      rcases hj with rfl | rfl
      ·simp [nth] at hb
       intro hx; exact absurd (hb hx.1.1) (by omega)
      ·simp [nth] at hb
       intro hx; exact absurd (hb hx.2.1) (by omega)
    ·rw [if_neg h4] at h ⊢
     by_cases h5 : c.toNat < 245
     ·rw [if_pos h5] at h ⊢
      match t with
      | [] => rfl
      | [_] => rfl
      | [_, _] => rfl
      | b :: d :: e :: _ =>
       dsimp only
       rw [if_neg]
       rw [Bool.and_eq_true, Bool.and_eq_true, decide_eq_true_eq, decide_eq_true_eq, decide_eq_true_eq]
       have hj : j = 0 ∨ j = 1 ∨ j = 2 := by omega
       rcases hj with rfl | rfl | rfl
       ·simp [nth] at hb
        intro hx; exact absurd (hb hx.1.1) (by omega)
       ·simp [nth] at hb
        intro hx; exact absurd (hb hx.2.1.1) (by omega)
       ·simp [nth] at hb
        intro hx; exact absurd (hb hx.2.2.1) (by omega)
     ·rw [if_neg h5] at h; omega
theorem step_ok (c : UInt8) (t : List UInt8) (h : 1 ≤ manyL c.toNat) (hb : ∀ j, j + 1 < manyL c.toNat → okAt c.toNat t j) : stepL (c :: t) = (accN c.toNat t (manyL c.toNat - 1), manyL c.toNat) := by
 unfold manyL at h hb ⊢
 unfold okAt lo1 hi1 at hb
 unfold stepL tail1 lo1 hi1
 dsimp only
 by_cases h1 : c.toNat < 128
 ·rw [if_pos h1, if_pos h1]; simp [accN, bitsL, h1]
 ·rw [if_neg h1] at h hb ⊢
  rw [if_neg h1]
  by_cases h2 : c.toNat < 194
  ·rw [if_pos h2] at h; omega
  ·rw [if_neg h2] at h hb ⊢
   rw [if_neg h2]
   by_cases h3 : c.toNat < 224
   ·rw [if_pos h3] at h hb ⊢
    rw [if_pos h3]
    have hb0 := hb 0 (by omega)
    match t with
    | [] => simp at hb0
    | b :: _ =>
     simp only [nth, List.getD_cons_zero, List.length_cons, if_true, Nat.zero_lt_succ, true_and] at hb0 ⊢
     rw [if_neg (by omega), if_neg (by omega), if_neg (by omega), if_neg (by omega)] at hb0
     rw [if_pos (by rw [decide_eq_true_eq]; exact hb0)]
     simp [accN, bitsL, h1, h3, nth]
   ·rw [if_neg h3] at h hb ⊢
    rw [if_neg h3]
    by_cases h4 : c.toNat < 240
    ·rw [if_pos h4] at h hb ⊢
     rw [if_pos h4]
     have hb0 := hb 0 (by omega)
     have hb1 := hb 1 (by omega)
     match t with
     | [] => simp at hb0
     | [_] => simp at hb1
     | b :: d :: _ =>
      simp [nth] at hb0 hb1
      dsimp only
      rw [if_pos (by rw [Bool.and_eq_true, decide_eq_true_eq, decide_eq_true_eq]; exact ⟨hb0, hb1⟩)]
      simp [accN, bitsL, h1, h3, h4, nth]
    ·rw [if_neg h4] at h hb ⊢
     rw [if_neg h4]
     by_cases h5 : c.toNat < 245
     ·rw [if_pos h5] at h hb ⊢
      rw [if_pos h5]
      have hb0 := hb 0 (by omega)
      have hb1 := hb 1 (by omega)
      have hb2 := hb 2 (by omega)
      match t with
      | [] => simp at hb0
      | [_] => simp at hb1
      | [_, _] => simp at hb2
      | b :: d :: e :: _ =>
       simp [nth] at hb0 hb1 hb2
       dsimp only
       rw [if_pos (by rw [Bool.and_eq_true, Bool.and_eq_true, decide_eq_true_eq, decide_eq_true_eq, decide_eq_true_eq]; exact ⟨hb0, hb1, hb2⟩)]
       simp [accN, bitsL, h1, h3, h4, nth]
     ·rw [if_neg h5] at h; omega
instance decOkAt (c : Nat) (t : List UInt8) (j : Nat) : Decidable (okAt c t j) := by unfold okAt; infer_instance
def moreL : List UInt8 → Bool
 | [] => true
 | c :: t => decide (t.length + 1 < manyL c.toNat ∧ ∀ j, j < t.length → okAt c.toNat t j)
theorem more_no {c : UInt8} {t : List UInt8} (h : manyL c.toNat ≤ t.length + 1) : moreL (c :: t) = false := by unfold moreL; exact decide_eq_false (fun h2 => by omega)
theorem more_bad {c : UInt8} {t : List UInt8} {j : Nat} (h1 : j < t.length) (h : ¬ okAt c.toNat t j) : moreL (c :: t) = false := by unfold moreL; exact decide_eq_false (fun h2 => h (h2.2 j h1))
theorem more_yes {c : UInt8} {t : List UInt8} (h1 : t.length + 1 < manyL c.toNat) (h : ∀ j, j < t.length → okAt c.toNat t j) : moreL (c :: t) = true := by unfold moreL; exact decide_eq_true ⟨h1, h⟩
end Go.Proofs.YtjkajojjehgmdaaGreat
namespace Go.Proofs.YtjkajojjehgmdaaGreat
theorem byteB_nat' (n : Nat) (h : n < 256) : (byteB n).toNat = n := by simp [byteB]; omega
theorem isR_iff (n : Nat) : isR n = true ↔ n ≤ 1114111 ∧ (n < 55296 ∨ 57343 < n) := by
 unfold isR; rw [decide_eq_true_eq]; omega
theorem step_bytes (n : Nat) (h : isR n = true) (t : List UInt8) : stepL (bytesN n ++ t) = (n, (bytesN n).length) := by
 rw [isR_iff] at h
 unfold bytesN
 by_cases h1 : n < 128
 ·rw [if_pos h1]
  simp only [List.cons_append, List.nil_append, stepL, byteB_nat' n (by omega), if_pos h1, List.length_cons, List.length_nil]
 ·rw [if_neg h1]
  by_cases h2 : n < 2048
  ·rw [if_pos h2]
   have e1 := byteB_nat' (192 + n / 64) (by omega)
   have e2 := byteB_nat' (128 + n % 64) (by omega)
   simp only [List.cons_append, List.nil_append, stepL, e1, e2, tail1, List.length_cons, List.length_nil]
   rw [if_neg (by omega), if_neg (by omega), if_pos (by omega), if_pos (by rw [decide_eq_true_eq]; omega)]
   rw [Prod.mk.injEq]; exact ⟨by omega, rfl⟩
  ·rw [if_neg h2]
   by_cases h3 : n < 65536
   ·rw [if_pos h3]
    have e1 := byteB_nat' (224 + n / 4096) (by omega)
    have e2 := byteB_nat' (128 + n / 64 % 64) (by omega)
    have e3 := byteB_nat' (128 + n % 64) (by omega)
    simp only [List.cons_append, List.nil_append, stepL, e1, e2, e3, tail1, List.length_cons, List.length_nil]
    rw [if_neg (by omega), if_neg (by omega), if_neg (by omega), if_pos (by omega), if_pos (by
     rw [Bool.and_eq_true, decide_eq_true_eq, decide_eq_true_eq]
     unfold lo1 hi1
     (repeat' split) <;> omega)]
    rw [Prod.mk.injEq]; exact ⟨by omega, rfl⟩
   ·rw [if_neg h3]
    have e1 := byteB_nat' (240 + n / 262144) (by omega)
    have e2 := byteB_nat' (128 + n / 4096 % 64) (by omega)
    have e3 := byteB_nat' (128 + n / 64 % 64) (by omega)
    have e4 := byteB_nat' (128 + n % 64) (by omega)
    simp only [List.cons_append, List.nil_append, stepL, e1, e2, e3, e4, tail1, List.length_cons, List.length_nil]
    rw [if_neg (by omega), if_neg (by omega), if_neg (by omega), if_neg (by omega), if_pos (by omega), if_pos (by
     rw [Bool.and_eq_true, Bool.and_eq_true, decide_eq_true_eq, decide_eq_true_eq, decide_eq_true_eq]
     unfold lo1 hi1
     (repeat' split) <;> omega)]
    rw [Prod.mk.injEq]; exact ⟨by omega, rfl⟩
theorem stepL_isR (l : List UInt8) : isR (stepL l).1 = true := by
 rw [isR_iff]
 have hb : ∀ c : UInt8, c.toNat < 256 := fun c => c.toNat_lt
 match l with
 | [] => simp [stepL]
 | c :: t =>
  unfold stepL
  dsimp only
  by_cases h1 : c.toNat < 128
  ·rw [if_pos h1]; dsimp only; omega
  ·rw [if_neg h1]
   by_cases h2 : c.toNat < 194
   ·rw [if_pos h2]; omega
   ·rw [if_neg h2]
    by_cases h3 : c.toNat < 224
    ·rw [if_pos h3]
     match t with
     | [] => simp
     | b :: _ =>
      dsimp only
      split
      ·dsimp only; omega
      ·simp
    ·rw [if_neg h3]
     by_cases h4 : c.toNat < 240
     ·rw [if_pos h4]
      match t with
      | [] => simp
      | [_] => simp
      | b :: d :: _ =>
       dsimp only
       split
       ·rename_i h
        rw [Bool.and_eq_true] at h
        unfold tail1 at h
        simp only [decide_eq_true_eq] at h
        obtain ⟨⟨k1, k2⟩, k3, k4⟩ := h
        unfold lo1 at k1
        unfold hi1 at k2
        dsimp only
        have hb' := hb b
        by_cases q : c.toNat = 237
        ·rw [if_pos q] at k2
         rw [if_neg (by omega), if_neg (by omega)] at k1
         omega
        ·clear k1 k2
         omega
       ·simp
     ·rw [if_neg h4]
      by_cases h5 : c.toNat < 245
      ·rw [if_pos h5]
       match t with
       | [] => simp
       | [_] => simp
       | [_, _] => simp
       | b :: d :: e :: _ =>
        dsimp only
        split
        ·rename_i h
         rw [Bool.and_eq_true, Bool.and_eq_true] at h
         unfold tail1 at h
         simp only [decide_eq_true_eq] at h
         obtain ⟨⟨k1, k2⟩, ⟨k3, k4⟩, k5, k6⟩ := h
         unfold lo1 at k1
         unfold hi1 at k2
         dsimp only
         rw [if_neg (by omega)] at k1
         rw [if_neg (by omega)] at k2
         have hb' := hb b
         by_cases q : c.toNat = 240
         ·rw [if_pos q] at k1
          rw [if_neg (by omega)] at k2
          omega
         ·rw [if_neg q] at k1
          by_cases q2 : c.toNat = 244
          ·rw [if_pos q2] at k2; omega
          ·rw [if_neg q2] at k2; omega
        ·simp
      ·rw [if_neg h5]; omega
theorem runesF_isR : ∀ (n : Nat) (l : List UInt8), ∀ r ∈ runesF n l, isR r = true
 | 0, _, r, h => by simp [runesF] at h
 | _ + 1, [], r, h => by simp [runesF] at h
 | n + 1, c :: t, r, h => by
  unfold runesF at h
  rcases List.mem_cons.1 h with rfl | h
  ·exact stepL_isR _
  ·exact runesF_isR n _ r h
theorem runesL_isR (l : List UInt8) : ∀ r ∈ runesL l, isR r = true := runesF_isR _ _
def encL (rs : List Nat) : List UInt8 := rs.flatMap bytesN
theorem encL_nil : encL [] = [] := rfl
theorem encL_cons (r : Nat) (rs : List Nat) : encL (r :: rs) = bytesN r ++ encL rs := rfl
theorem encL_append (a b : List Nat) : encL (a ++ b) = encL a ++ encL b := by simp [encL]
theorem encL_one (r : Nat) : encL [r] = bytesN r := by simp [encL]
theorem runes_enc (rs : List Nat) (h : ∀ r ∈ rs, isR r = true) (t : List UInt8) : runesL (encL rs ++ t) = rs ++ runesL t := by
 induction rs with
 | nil => rfl
 | cons r rs ih =>
  have hl := bytesN_len r
  have hne : encL (r :: rs) ++ t ≠ [] := by
   rw [encL_cons]; intro e
   have := congrArg List.length e
   simp only [encL_cons, List.length_append, List.length_nil] at this; omega
  rw [runesL_step _ hne, encL_cons, List.append_assoc, step_bytes r (h r (by simp))]
  simp only [List.drop_left, List.cons_append]
  rw [ih (fun x hx => h x (by simp [hx]))]
theorem runes_enc0 (rs : List Nat) (h : ∀ r ∈ rs, isR r = true) : runesL (encL rs) = rs := by
 have := runes_enc rs h []
 rw [List.append_nil, runesL_nil, List.append_nil] at this
 exact this
def joinB (r : Int) : Bool := decide (colsB r = 0) && (isR r && !ctrlB r)
def stepG (out : List (List Nat)) (r : Nat) : List (List Nat) :=
 if 0 < colsB r then out ++ [[r]]
 else if joinB r && (!out.isEmpty && decide ((encL (out.getLastD [])).length + (bytesN r).length ≤ 64)) then out.dropLast ++ [out.getLastD [] ++ [r]]
 else out
def cutG (rs : List Nat) : List (List Nat) := rs.foldl stepG []
def cutL (l : List UInt8) : List (List UInt8) := (cutG (runesL l)).map encL
theorem cutG_snoc (rs : List Nat) (r : Nat) : cutG (rs ++ [r]) = stepG (cutG rs) r := by simp [cutG]
theorem stepG_two (out : List (List Nat)) (r : Nat) : stepG out r = out ∨ (stepG out r = out ++ [[r]] ∧ 0 < colsB r) ∨ (∃ o c, out = o ++ [c] ∧ stepG out r = o ++ [c ++ [r]] ∧ joinB r = true ∧ (encL c).length + (bytesN r).length ≤ 64) := by
 unfold stepG
 split
 ·rename_i h; exact .inr (.inl ⟨rfl, h⟩)
 ·split
  ·rename_i h
   rw [Bool.and_eq_true, Bool.and_eq_true] at h
   obtain ⟨h1, h2, h3⟩ := h
   have hne : out ≠ [] := by intro e; subst e; simp at h2
   obtain ⟨o, c, rfl⟩ : ∃ o c, out = o ++ [c] := ⟨out.dropLast, out.getLast hne, (List.dropLast_concat_getLast hne).symm⟩
   refine .inr (.inr ⟨o, c, rfl, by simp, h1, ?_⟩)
   have := of_decide_eq_true h3
   simpa using this
  ·exact .inl rfl
structure Cl (c : List Nat) : Prop where
 base : ∃ r t, c = r :: t ∧ 0 < colsB r
 rune : ∀ r ∈ c, isR r = true
 len : (encL c).length ≤ 64
 one : cutG c = [c]
theorem stepG_behind (o X : List (List Nat)) (r : Nat) (hX : X ≠ []) : stepG (o ++ X) r = o ++ stepG X r := by
 obtain ⟨Y, c, rfl⟩ : ∃ Y c, X = Y ++ [c] := ⟨X.dropLast, X.getLast hX, (List.dropLast_concat_getLast hX).symm⟩
 unfold stepG
 rw [← List.append_assoc]
 simp only [List.getLastD_concat, List.dropLast_concat, List.isEmpty_iff, List.append_eq_nil_iff, List.cons_ne_self, and_false, Bool.not_eq_true', decide_eq_false_iff_not, not_false_eq_true]
 split
 ·simp
 ·split
  ·rename_i h1 h2
   rw [if_pos (by simpa using h2)]; simp
  ·rename_i h1 h2
   rw [if_neg (by simpa using h2)]; simp
theorem stepG_ne (X : List (List Nat)) (r : Nat) (hX : X ≠ []) : stepG X r ≠ [] := by
 rcases stepG_two X r with e | ⟨e, _⟩ | ⟨o, c, _, e, _⟩ <;> rw [e]
 ·exact hX
 ·simp
 ·simp
theorem foldG_behind (o : List (List Nat)) : ∀ (rs : List Nat) (X : List (List Nat)), X ≠ [] → rs.foldl stepG (o ++ X) = o ++ rs.foldl stepG X
 | [], _, _ => rfl
 | r :: rs, X, hX => by
  rw [List.foldl_cons, List.foldl_cons, stepG_behind o X r hX, foldG_behind o rs _ (stepG_ne X r hX)]
theorem stepG_base (o : List (List Nat)) (r : Nat) (h : 0 < colsB r) : stepG o r = o ++ [[r]] := by unfold stepG; rw [if_pos h]
theorem Cl.fold {c : List Nat} (h : Cl c) (o : List (List Nat)) : c.foldl stepG o = o ++ [c] := by
 obtain ⟨r, t, e, hb⟩ := h.base
 have h1 := h.one
 unfold cutG at h1
 rw [e, List.foldl_cons, stepG_base _ _ hb, List.nil_append] at h1
 rw [e, List.foldl_cons, stepG_base _ _ hb, foldG_behind o t _ (by simp), h1]
theorem fold_flat : ∀ (out o : List (List Nat)), (∀ c ∈ out, Cl c) → out.flatten.foldl stepG o = o ++ out
 | [], o, _ => by simp
 | c :: out, o, h => by
  rw [List.flatten_cons, List.foldl_append, (h c (by simp)).fold, fold_flat out _ (fun x hx => h x (by simp [hx]))]
  simp
theorem cut_flat {out : List (List Nat)} (h : ∀ c ∈ out, Cl c) : cutG out.flatten = out := by
 have := fold_flat out [] h
 rwa [List.nil_append] at this
theorem Cl.step {out : List (List Nat)} (h : ∀ c ∈ out, Cl c) {r : Nat} (hr : isR r = true) : ∀ c ∈ stepG out r, Cl c := by
 rcases stepG_two out r with e | ⟨e, hc⟩ | ⟨o, c, eo, e, hj, hl⟩
 ·rw [e]; exact h
 ·rw [e]; intro c' hc'
  rcases List.mem_append.1 hc' with h1 | h1
  ·exact h c' h1
  ·rw [List.mem_singleton.1 h1]
   have := bytesN_len r
   refine ⟨⟨r, [], rfl, hc⟩, fun x hx => by rw [List.mem_singleton.1 hx]; exact hr, by rw [encL_one]; omega, ?_⟩
   show [r].foldl stepG [] = _
   rw [List.foldl_cons, List.foldl_nil, stepG_base _ _ hc]; rfl
 ·subst eo
  rw [e]; intro c' hc'
  rcases List.mem_append.1 hc' with h1 | h1
  ·exact h c' (by simp [h1])
  ·rw [List.mem_singleton.1 h1]
   have hcl := h c (by simp)
   refine ⟨?_, ?_, by rw [encL_append, encL_one, List.length_append]; exact hl, ?_⟩
   ·obtain ⟨b, t, rfl, hb⟩ := hcl.base
    exact ⟨b, t ++ [r], rfl, hb⟩
   ·intro x hx
    rcases List.mem_append.1 hx with h2 | h2
    ·exact hcl.rune x h2
    ·rw [List.mem_singleton.1 h2]; exact hr
   ·rw [cutG_snoc, hcl.one]
    have := stepG_behind o [c] r (by simp)
    rw [e] at this
    exact (List.append_cancel_left this).symm
theorem foldl_clus : ∀ (rs : List Nat) (out : List (List Nat)), (∀ r ∈ rs, isR r = true) → (∀ c ∈ out, Cl c) → ∀ c ∈ rs.foldl stepG out, Cl c
 | [], _, _, h => h
 | r :: rs, _, hr, h => foldl_clus rs _ (fun x hx => hr x (by simp [hx])) (Cl.step h (hr r (by simp)))
theorem cutG_clus (rs : List Nat) (h : ∀ r ∈ rs, isR r = true) : ∀ c ∈ cutG rs, Cl c := foldl_clus rs [] h (by simp)
theorem cut_clus (l : List UInt8) : ∀ c ∈ cutG (runesL l), Cl c := cutG_clus _ (runesL_isR l)
theorem map_flat (out : List (List Nat)) : (out.map encL).flatten = encL out.flatten := by
 induction out with
 | nil => rfl
 | cons c out ih => rw [List.map_cons, List.flatten_cons, List.flatten_cons, encL_append, ih]
def Clu (c : List UInt8) : Prop := ∃ g, Cl g ∧ c = encL g
theorem clu_mem {l c : List UInt8} (h : c ∈ cutL l) : Clu c := by
 obtain ⟨g, hg, rfl⟩ := List.mem_map.1 h
 exact ⟨g, cut_clus l g hg, rfl⟩
theorem clus_map : ∀ (out : List (List UInt8)), (∀ c ∈ out, Clu c) → ∃ gs : List (List Nat), (∀ g ∈ gs, Cl g) ∧ out = gs.map encL
 | [], _ => ⟨[], by simp, rfl⟩
 | c :: out, h => by
  obtain ⟨g, hg, rfl⟩ := h c (by simp)
  obtain ⟨gs, hgs, rfl⟩ := clus_map out (fun x hx => h x (by simp [hx]))
  exact ⟨g :: gs, by
   intro x hx
   rcases List.mem_cons.1 hx with rfl | hx
   ·exact hg
   ·exact hgs x hx, rfl⟩
theorem flat_isR {gs : List (List Nat)} (h : ∀ g ∈ gs, Cl g) : ∀ r ∈ gs.flatten, isR r = true := by
 intro r hr
 obtain ⟨c, hc, hrc⟩ := List.mem_flatten.1 hr
 exact (h c hc).rune r hrc
theorem cutL_flat {out : List (List UInt8)} (h : ∀ c ∈ out, Clu c) : cutL out.flatten = out := by
 obtain ⟨gs, hgs, rfl⟩ := clus_map out h
 unfold cutL
 rw [map_flat, runes_enc0 _ (flat_isR hgs), cut_flat hgs]
def cleanL (l : List UInt8) : List UInt8 := (cutL l).flatten
def colsL (l : List UInt8) : Int := match runesL l with | r :: _ => colsB r | [] => 0
theorem colsL_bd (l : List UInt8) : 0 ≤ colsL l ∧ colsL l ≤ 2 := by
 unfold colsL; split
 ·exact cols_bd _
 ·omega
theorem Clu.cols {c : List UInt8} (h : Clu c) : 1 ≤ colsL c ∧ colsL c ≤ 2 := by
 obtain ⟨g, hg, rfl⟩ := h
 obtain ⟨r, t, e, hb⟩ := hg.base
 unfold colsL
 rw [runes_enc0 _ hg.rune, e]
 have := cols_bd r
 dsimp only; omega
theorem Clu.len {c : List UInt8} (h : Clu c) : 1 ≤ c.length ∧ c.length ≤ 64 := by
 obtain ⟨g, hg, rfl⟩ := h
 obtain ⟨r, t, e, hb⟩ := hg.base
 refine ⟨?_, hg.len⟩
 rw [e, encL_cons, List.length_append]; have := bytesN_len r; omega
theorem Clu.cut {c : List UInt8} (h : Clu c) : cutL c = [c] := by
 have := cutL_flat (out := [c]) (by intro x hx; rw [List.mem_singleton.1 hx]; exact h)
 simpa using this
def sumC (l : List (List UInt8)) : Int := l.foldr (fun c n => colsL c + n) 0
theorem sumC_cons (c : List UInt8) (l : List (List UInt8)) : sumC (c :: l) = colsL c + sumC l := rfl
theorem sumC_append (a b : List (List UInt8)) : sumC (a ++ b) = sumC a + sumC b := by
 induction a with
 | nil => simp [sumC]
 | cons c a ih => rw [List.cons_append, sumC_cons, sumC_cons, ih]; omega
theorem sumC_bd (l : List (List UInt8)) : 0 ≤ sumC l ∧ sumC l ≤ 2 * l.length := by
 induction l with
 | nil => simp [sumC]
 | cons c l ih => rw [sumC_cons, List.length_cons]; have := colsL_bd c; omega
def fitK : List (List UInt8) → Int → Nat
 | [], _ => 0
 | c :: l, n => if n < colsL c then 0 else fitK l (n - colsL c) + 1
theorem stepL_le (l : List UInt8) (h : l ≠ []) : (stepL l).2 ≤ l.length := by
 match l, h with
 | c :: t, _ =>
  unfold stepL
  repeat' split
  all_goals first | (simp; done) | (rename_i e _; rw [e]; simp)
theorem runesF_len : ∀ (n : Nat) (l : List UInt8), (runesF n l).length ≤ n
 | 0, _ => by simp [runesF]
 | _ + 1, [] => by simp [runesF]
 | n + 1, c :: t => by unfold runesF; have := runesF_len n ((c :: t).drop (stepL (c :: t)).2); simp; omega
theorem runesL_len (l : List UInt8) : (runesL l).length ≤ l.length := runesF_len _ _
theorem stepG_len (out : List (List Nat)) (r : Nat) : (stepG out r).length ≤ out.length + 1 := by
 rcases stepG_two out r with e | ⟨e, _⟩ | ⟨o, c, eo, e, _⟩ <;> rw [e]
 ·omega
 ·simp
 ·subst eo; simp
theorem cutG_len (rs : List Nat) : (cutG rs).length ≤ rs.length := by
 have : ∀ (rs : List Nat) (o : List (List Nat)), (rs.foldl stepG o).length ≤ o.length + rs.length := by
  intro rs
  induction rs with
  | nil => intro o; simp
  | cons r rs ih => intro o; rw [List.foldl_cons]; have := ih (stepG o r); have := stepG_len o r; simp; omega
 simpa [cutG] using this rs []
theorem cutL_len (l : List UInt8) : (cutL l).length ≤ l.length := by
 unfold cutL; rw [List.length_map]; exact Nat.le_trans (cutG_len _) (runesL_len l)
end Go.Proofs.YtjkajojjehgmdaaGreat
namespace Go.Proofs.YtjkajojjehgmdaaGreat
open Go.RowKit Go.Maps
theorem nth_mid {α : Type} (d : α) (A M B : List α) (c : Nat) (h : c < M.length) : nth d (A ++ M ++ B) (A.length + c) = nth d M c := by
 rw [nth_eq _ _ _ (by simp; omega), nth_eq _ _ _ h]
 rw [List.getElem_append_left (by simp; omega), List.getElem_append_right (by omega)]
 congr 1; omega
theorem set_mid {α : Type} (A M B : List α) (c : Nat) (x : α) (h : c < M.length) : (A ++ M ++ B).set (A.length + c) x = A ++ M.set c x ++ B := by
 rw [List.set_append_left _ _ (by simp; omega), List.set_append_right _ _ (by omega)]
 congr 3; omega
theorem wipe_mid (A M B : List GC) (c : Nat) (h : c < M.length) : wipeL (A ++ M ++ B) A.length M.length c = A ++ wipeL M 0 M.length c ++ B := by
 unfold wipeL
 dsimp only
 rw [nth_mid _ _ _ _ _ h, set_mid _ _ _ _ _ h]
 simp only [Nat.zero_add]
 split
 ·rename_i h2
  exact set_mid A (M.set c GC.blank) B (c + 1) GC.blank (by rw [List.length_set]; exact h2.2)
 ·split
  ·exact set_mid A (M.set c GC.blank) B (c - 1) GC.blank (by rw [List.length_set]; omega)
  ·rfl
theorem put_mid (A M B : List GC) (c : Nat) (s : ByteArray) (wd : Int) (y : Sy) (h : c < M.length) (h2 : wd = 2 → c + 1 < M.length) :
    putL (A ++ M ++ B) M.length A.length c s wd y = A ++ putL M M.length 0 c s wd y ++ B := by
 unfold putL
 by_cases hw : wd = 2
 ·have hc := h2 hw
  rw [if_pos hw, if_pos hw, wipe_mid _ _ _ _ h]
  have e := wipe_mid A (wipeL M 0 M.length c) B (c + 1) (by rw [wipeL_length]; exact hc)
  rw [wipeL_length] at e
  rw [e, set_mid _ _ _ _ _ (by rw [wipeL_length, wipeL_length]; exact hc), set_mid _ _ _ _ _ (by rw [List.length_set, wipeL_length, wipeL_length]; exact h)]
  simp only [Nat.zero_add]
 ·rw [if_neg hw, if_neg hw, wipe_mid _ _ _ _ h, set_mid _ _ _ _ _ (by rw [wipeL_length]; exact h)]
  simp only [Nat.zero_add]
theorem wipes_mid (A B : List GC) : ∀ (n i : Nat) (M : List GC), i + n ≤ M.length → wipes A.length M.length i n (A ++ M ++ B) = A ++ wipes 0 M.length i n M ++ B
 | 0, _, _, _ => rfl
 | n + 1, i, M, h => by
  unfold wipes
  rw [wipe_mid _ _ _ _ (by omega)]
  have := wipes_mid A B n (i + 1) (wipeL M 0 M.length i) (by rw [wipeL_length]; omega)
  rw [wipeL_length] at this
  exact this
theorem joinAt_mid (A M B : List GC) (c : Nat) (h : c < M.length) : joinAt (A ++ M ++ B) A.length c = joinAt M 0 c := by
 unfold joinAt
 rw [nth_mid _ _ _ _ _ h, Nat.zero_add]
theorem joinAt_le (M : List GC) (k c : Nat) : joinAt M k c ≤ c := by unfold joinAt; split <;> omega
theorem join_mid (A M B : List GC) (c : Nat) (s : ByteArray) (h : c < M.length) : joinL (A ++ M ++ B) A.length c s = A ++ joinL M 0 c s ++ B := by
 have hle := joinAt_le M 0 c
 unfold joinL
 rw [joinAt_mid _ _ _ _ h, nth_mid _ _ _ _ _ (by omega), set_mid _ _ _ _ _ (by omega), Nat.zero_add]
structure RowsOk (w h : Nat) (R : List (List GC)) : Prop where
 n : R.length = h
 w : ∀ M ∈ R, M.length = w
theorem RowsOk.at {w h : Nat} {R : List (List GC)} (k : RowsOk w h R) {r : Nat} (hr : r < h) : (nth [] R r).length = w := by
 rw [nth_eq _ _ _ (by rw [k.n]; exact hr)]; exact k.w _ (List.getElem_mem _)
theorem RowsOk.set {w h : Nat} {R : List (List GC)} (k : RowsOk w h R) (r : Nat) (M : List GC) (hM : M.length = w) : RowsOk w h (R.set r M) :=
 ⟨by rw [List.length_set, k.n], fun N hN => by
  rcases List.mem_or_eq_of_mem_set hN with h1 | h1
  ·exact k.w N h1
  ·rw [h1]; exact hM⟩
theorem flat_len_of {w : Nat} : ∀ (R : List (List GC)), (∀ M ∈ R, M.length = w) → R.flatten.length = w * R.length
 | [], _ => rfl
 | M :: R, h => by
  rw [List.flatten_cons, List.length_append, h M (List.mem_cons_self ..), flat_len_of R (fun N hN => h N (List.mem_cons_of_mem _ hN)), List.length_cons, Nat.mul_succ]
  omega
theorem RowsOk.flat {w h : Nat} {R : List (List GC)} (k : RowsOk w h R) : R.flatten.length = w * h := by rw [flat_len_of R k.w, k.n]
theorem RowsOk.take {w h : Nat} {R : List (List GC)} (k : RowsOk w h R) {r : Nat} (hr : r ≤ h) : (R.take r).flatten.length = w * r := by
 rw [flat_len_of _ (fun M hM => k.w M (List.mem_of_mem_take hM)), List.length_take, k.n, Nat.min_eq_left hr]
theorem flat_split {R : List (List GC)} {r : Nat} (h : r < R.length) : R.flatten = (R.take r).flatten ++ nth [] R r ++ (R.drop (r + 1)).flatten := by
 have : R = R.take r ++ (nth [] R r :: R.drop (r + 1)) := by rw [nth_eq _ _ _ h, List.getElem_cons_drop, List.take_append_drop]
 conv => lhs; rw [this]
 rw [List.flatten_append, List.flatten_cons, List.append_assoc]
theorem flat_set {R : List (List GC)} {r : Nat} (h : r < R.length) (M : List GC) : (R.set r M).flatten = (R.take r).flatten ++ M ++ (R.drop (r + 1)).flatten := by
 rw [List.set_eq_take_append_cons_drop, if_pos h, List.flatten_append, List.flatten_cons, List.append_assoc]
theorem RowsOk.line {w h : Nat} {R : List (List GC)} (k : RowsOk w h R) {r : Nat} (hr : r < h) : lineL R.flatten w r = nth [] R r := by
 have hl := k.take (Nat.le_of_lt hr)
 have hm := k.at hr
 rw [flat_split (by rw [k.n]; exact hr)]
 unfold lineL
 rw [← hl, List.append_assoc, List.drop_left, ← hm, List.take_left]
theorem RowsOk.rows {w h : Nat} {R : List (List GC)} (k : RowsOk w h R) : (List.range h).map (lineL R.flatten w) = R := by
 apply List.ext_getElem
 ·simp [k.n]
 ·intro i h1 h2
  simp only [List.length_map, List.length_range] at h1
  rw [List.getElem_map, List.getElem_range, k.line h1, nth_eq _ _ _ h2]
theorem RowsOk.blank (w h : Nat) : RowsOk w h (List.replicate h (List.replicate w GC.blank)) :=
 ⟨by simp, fun M hM => by rw [List.eq_of_mem_replicate hM]; simp⟩
def putR (w h : Nat) (R : List (List GC)) (r c : Int) (s : ByteArray) (wd : Int) (y : Sy) : List (List GC) :=
 if putErr w h r c s wd = 0 then R.set r.toNat (putL (nth [] R r.toNat) w 0 c.toNat s wd y) else R
theorem putErr_0 {w h : Nat} {r c : Int} {s : ByteArray} {wd : Int} (h0 : putErr w h r c s wd = 0) :
    s ≠ ⟨#[]⟩ ∧ s.size ≤ 64 ∧ (wd = 1 ∨ wd = 2) ∧ 0 ≤ r ∧ r < h ∧ 0 ≤ c ∧ c < w ∧ (wd = 2 → c + 1 < w) := by
 unfold putErr at h0
 split at h0
 ·cases h0
 ·split at h0
  ·cases h0
  ·rename_i h1 h2
   refine ⟨fun e => h1 (.inl e), Nat.le_of_not_lt (fun e => h1 (.inr (.inl e))), ?_, ?_⟩
   ·by_cases a : wd = 1; exact .inl a; by_cases b : wd = 2; exact .inr b; exact absurd (.inr (.inr ⟨a, b⟩)) h1
   ·have h3 : 0 ≤ r ∧ r < h ∧ 0 ≤ c ∧ c < w := Classical.byContradiction fun e => h2 (.inl e)
    exact ⟨h3.1, h3.2.1, h3.2.2.1, h3.2.2.2, fun e => Classical.byContradiction fun e' => h2 (.inr ⟨e, e'⟩)⟩
theorem RowsOk.put {w h : Nat} {R : List (List GC)} (k : RowsOk w h R) (r c : Int) (s : ByteArray) (wd : Int) (y : Sy) : RowsOk w h (putR w h R r c s wd y) := by
 unfold putR
 split
 ·rename_i h0
  obtain ⟨_, _, _, h1, h2, _⟩ := putErr_0 h0
  exact k.set _ _ (by rw [putL_length]; exact k.at (by omega))
 ·exact k
theorem RowsOk.put_flat {w h : Nat} {R : List (List GC)} (k : RowsOk w h R) (r c : Int) (s : ByteArray) (wd : Int) (y : Sy) : (putR w h R r c s wd y).flatten = putG w h R.flatten r c s wd y := by
 unfold putR putG
 split
 ·rename_i h0
  obtain ⟨_, _, _, h1, h2, h3, h4, h5⟩ := putErr_0 h0
  have hr : r.toNat < h := by omega
  have hm := k.at hr
  rw [flat_set (by rw [k.n]; exact hr), flat_split (R := R) (r := r.toNat) (by rw [k.n]; exact hr)]
  have e := put_mid (R.take r.toNat).flatten (nth [] R r.toNat) (R.drop (r.toNat + 1)).flatten c.toNat s wd y (by omega) (by intro e; have := h5 e; omega)
  rw [hm, k.take (Nat.le_of_lt hr)] at e
  exact e.symm
 ·rfl
def joinOkR (w h : Nat) (R : List (List GC)) (r c : Int) (s : ByteArray) : Bool :=
 inG w h r c && decide ((s.size : Int) ≤ 64 - (nth GC.zero (nth [] R r.toNat) (joinAt (nth [] R r.toNat) 0 c.toNat)).s.size)
def joinR (w h : Nat) (R : List (List GC)) (r c : Int) (s : ByteArray) : List (List GC) := if joinOkR w h R r c s then R.set r.toNat (joinL (nth [] R r.toNat) 0 c.toNat s) else R
theorem inG_iff {w h : Nat} {r c : Int} : inG w h r c = true ↔ 0 ≤ r ∧ r < h ∧ 0 ≤ c ∧ c < w := by simp [inG]
theorem RowsOk.join_ok {w h : Nat} {R : List (List GC)} (k : RowsOk w h R) (r c : Int) (s : ByteArray) : joinOk w h R.flatten r c s = joinOkR w h R r c s := by
 unfold joinOk joinOkR
 cases hi : inG w h r c with
 | false => rfl
 | true =>
  obtain ⟨h1, h2, h3, h4⟩ := inG_iff.1 hi
  have hr : r.toNat < h := by omega
  have hm := k.at hr
  have hle := joinAt_le (nth [] R r.toNat) 0 c.toNat
  rw [flat_split (R := R) (r := r.toNat) (by rw [k.n]; exact hr)]
  have e := joinAt_mid (R.take r.toNat).flatten (nth [] R r.toNat) (R.drop (r.toNat + 1)).flatten c.toNat (by omega)
  rw [k.take (Nat.le_of_lt hr)] at e
  rw [e]
  have e2 := nth_mid GC.zero (R.take r.toNat).flatten (nth [] R r.toNat) (R.drop (r.toNat + 1)).flatten (joinAt (nth [] R r.toNat) 0 c.toNat) (by omega)
  rw [k.take (Nat.le_of_lt hr)] at e2
  rw [e2]
theorem RowsOk.join {w h : Nat} {R : List (List GC)} (k : RowsOk w h R) (r c : Int) (s : ByteArray) : RowsOk w h (joinR w h R r c s) := by
 unfold joinR
 split
 ·rename_i h0
  unfold joinOkR at h0
  rw [Bool.and_eq_true] at h0
  obtain ⟨h1, h2, _⟩ := inG_iff.1 h0.1
  exact k.set _ _ (by rw [joinL_length]; exact k.at (by omega))
 ·exact k
theorem RowsOk.join_flat {w h : Nat} {R : List (List GC)} (k : RowsOk w h R) (r c : Int) (s : ByteArray) : (joinR w h R r c s).flatten = joinG w h R.flatten r c s := by
 unfold joinR joinG
 rw [k.join_ok]
 split
 ·rename_i h0
  unfold joinOkR at h0
  rw [Bool.and_eq_true] at h0
  obtain ⟨h1, h2, h3, h4⟩ := inG_iff.1 h0.1
  have hr : r.toNat < h := by omega
  have hm := k.at hr
  rw [flat_set (by rw [k.n]; exact hr), flat_split (R := R) (r := r.toNat) (by rw [k.n]; exact hr)]
  have e := join_mid (R.take r.toNat).flatten (nth [] R r.toNat) (R.drop (r.toNat + 1)).flatten c.toNat s (by omega)
  rw [k.take (Nat.le_of_lt hr)] at e
  exact e.symm
 ·rfl
def eraseR (w h : Nat) (R : List (List GC)) (r a b : Int) : List (List GC) := if 0 ≤ r ∧ r < h then R.set r.toNat (eraseL (nth [] R r.toNat) 0 w a b) else R
theorem RowsOk.erase {w h : Nat} {R : List (List GC)} (k : RowsOk w h R) (r a b : Int) : RowsOk w h (eraseR w h R r a b) := by
 unfold eraseR
 split
 ·exact k.set _ _ (by rw [eraseL_length]; exact k.at (by omega))
 ·exact k
theorem RowsOk.erase_flat {w h : Nat} {R : List (List GC)} (k : RowsOk w h R) (r a b : Int) : (eraseR w h R r a b).flatten = eraseG w h R.flatten r a b := by
 unfold eraseR eraseG
 split
 ·rename_i h0
  have hr : r.toNat < h := by omega
  have hm := k.at hr
  rw [flat_set (by rw [k.n]; exact hr), flat_split (R := R) (r := r.toNat) (by rw [k.n]; exact hr)]
  unfold eraseL
  by_cases hz : (min b w).toNat - (max 0 a).toNat = 0
  ·rw [hz]; rfl
  ·have e := wipes_mid (R.take r.toNat).flatten (R.drop (r.toNat + 1)).flatten ((min b w).toNat - (max 0 a).toNat) (max 0 a).toNat (nth [] R r.toNat) (by omega)
   rw [k.take (Nat.le_of_lt hr), hm] at e
   exact e.symm
 ·rfl
def scrollR (w : Nat) (R : List (List GC)) (m : Nat) : List (List GC) := R.drop m ++ List.replicate m (List.replicate w GC.blank)
theorem RowsOk.scroll {w h : Nat} {R : List (List GC)} (k : RowsOk w h R) {m : Nat} (hm : m ≤ h) : RowsOk w h (scrollR w R m) :=
 ⟨by simp [scrollR, k.n]; omega, fun M hM => by
  rcases List.mem_append.1 hM with h1 | h1
  ·exact k.w M (List.mem_of_mem_drop h1)
  ·rw [List.eq_of_mem_replicate h1]; simp⟩
def ROk (R : List (List GC)) : Prop := ∀ M ∈ R, GOk M
theorem ROk.flat {R : List (List GC)} (h : ROk R) : GOk R.flatten := fun c hc => by
 obtain ⟨M, hM, hcM⟩ := List.mem_flatten.1 hc
 exact h M hM c hcM
theorem ROk.of_flat {R : List (List GC)} (h : GOk R.flatten) : ROk R := fun M hM c hc => h c (List.mem_flatten.2 ⟨M, hM, hc⟩)
theorem ROk.at {R : List (List GC)} (h : ROk R) (r : Nat) : GOk (nth [] R r) := by
 unfold nth
 rcases Nat.lt_or_ge r R.length with h1 | h1
 ·rw [List.getD_eq_getElem?_getD, List.getElem?_eq_getElem h1]; exact h _ (List.getElem_mem _)
 ·rw [List.getD_eq_getElem?_getD, List.getElem?_eq_none h1]; intro c hc; cases hc
def fitL (M : List GC) (w : Nat) : List GC :=
 (if (nth GC.zero (M.take w) ((M.take w).length - 1)).w = 2 then (M.take w).set ((M.take w).length - 1) GC.blank else M.take w) ++ List.replicate (w - (M.take w).length) GC.blank
theorem GOk.fit {M : List GC} (h : GOk M) (w : Nat) : GOk (fitL M w) := by
 have ht : GOk (M.take w) := fun c hc => h c (List.mem_of_mem_take hc)
 intro c hc
 rcases List.mem_append.1 hc with h1 | h1
 ·split at h1
  ·exact ht.set _ _ GC.blank_ok c h1
  ·exact ht c h1
 ·rw [List.eq_of_mem_replicate h1]; exact GC.blank_ok
structure TS where
 W : Nat
 H : Nat
 R : List (List GC)
 row : Nat
 col : Nat
 y : Sy
 pend : Bool
 seen : Bool
 marked : Bool
 last : Bool
 bells : Nat
 gone : Nat
 lrow : Nat
 lcol : Nat
def TS.new (w h : Nat) : TS := ⟨w, h, List.replicate h (List.replicate w GC.blank), 0, 0, Sy.zero, false, true, false, false, 0, 0, 0, 0⟩
def TS.off (t : TS) : TS := { t with last := false }
def TS.feed (t : TS) : TS := if t.row + 1 < t.H then { t with pend := false, row := t.row + 1 } else { t with pend := false, R := scrollR t.W t.R 1, gone := t.gone + 1 }
def TS.room (t : TS) (w : Int) : TS := if t.pend || decide ((t.W : Int) < t.col + w) then TS.feed { t with col := 0 } else t
def TS.lay (t : TS) (r : Nat) (w : Int) : TS :=
 { t with
   R := putR t.W t.H t.R t.row t.col (S (bytesN r)) w t.y
   last := true
   lrow := t.row
   lcol := t.col
   col := if (t.W : Int) ≤ t.col + w then t.W - 1 else t.col + w.toNat
   pend := decide ((t.W : Int) ≤ t.col + w) || t.pend }
def TS.print (t : TS) (r : Nat) : TS := if (t.W : Int) < colsB r then t.off else (t.room (colsB r)).lay r (colsB r)
def TS.rune (t : TS) (r : Nat) : TS :=
 if 0 < colsB r then t.print r else if joinB r then (if t.last then { t with R := joinR t.W t.H t.R t.lrow t.lcol (S (bytesN r)) } else t) else t.off
def TS.control (t : TS) (c : Nat) : TS :=
 if c = 7 then { t.off with bells := t.bells + 1 }
 else if c = 8 then { t.off with col := t.col - 1, pend := false }
 else if c = 9 then { t.off with col := min (t.W - 1) (t.col / 8 * 8 + 8), pend := false }
 else if c = 10 then t.off.feed
 else if c = 13 then { t.off with col := 0, pend := false }
 else t.off
def numsT : Nat → List UInt8 → List Nat
 | acc, [] => [acc]
 | acc, c :: t => if c = 59 then acc :: numsT 0 t else numsT (min 9999 (10 * acc + (c.toNat - 48))) t
def plainB (b : List UInt8) : Bool := b.all fun c => decide (c = 59) || decide (48 ≤ c.toNat ∧ c.toNat ≤ 57)
def eraseRowsR (w h : Nat) : Nat → Nat → List (List GC) → List (List GC)
 | _, 0, R => R
 | i, n + 1, R => eraseRowsR w h (i + 1) n (eraseR w h R i 0 w)
def TS.erased (t : TS) (n : Nat) (line : Bool) : TS :=
 if n = 0 then { t with R := if line then eraseR t.W t.H t.R t.row t.col t.W else eraseRowsR t.W t.H (t.row + 1) (t.H - (t.row + 1)) (eraseR t.W t.H t.R t.row t.col t.W) }
 else if n = 1 then { t with R := if line then eraseR t.W t.H t.R t.row 0 (t.col + 1) else eraseR t.W t.H (eraseRowsR t.W t.H 0 t.row t.R) t.row 0 (t.col + 1) }
 else if n = 2 then { t with R := if line then eraseR t.W t.H t.R t.row 0 t.W else eraseRowsR t.W t.H 0 t.H t.R }
 else t
def styT (y : Sy) (n : Nat) : Sy :=
 if n = 0 then Sy.zero
 else if n = 1 ∨ n = 22 then { y with b := decide (n = 1) }
 else if n = 4 ∨ n = 24 then { y with u := decide (n = 4) }
 else if n = 7 ∨ n = 27 then { y with i := decide (n = 7) }
 else if 30 ≤ n ∧ n ≤ 37 then { y with f := (n : Int) - 29 }
 else if n = 39 then { y with f := 0 }
 else if 40 ≤ n ∧ n ≤ 47 then { y with g := (n : Int) - 39 }
 else if n = 49 then { y with g := 0 }
 else y
def TS.moved (t : TS) (r c : Int) : TS := { t with row := (max 0 (min r ((t.H : Int) - 1))).toNat, col := (max 0 (min c ((t.W : Int) - 1))).toNat, pend := false }
def TS.plain (t : TS) (l : List Nat) (e : Nat) : TS :=
 let n : Int := max 1 ((nth 0 l 0 : Nat) : Int)
 if e = 65 then t.moved (t.row - n) t.col
 else if e = 66 then t.moved (t.row + n) t.col
 else if e = 67 then t.moved t.row (t.col + n)
 else if e = 68 then t.moved t.row (t.col - n)
 else if e = 71 then t.moved t.row (n - 1)
 else if e = 72 then t.moved (n - 1) (max 1 ((nth 0 l 1 : Nat) : Int) - 1)
 else if e = 74 then t.erased (nth 0 l 0) false
 else if e = 75 then t.erased (nth 0 l 0) true
 else if e = 109 then { t with y := l.foldl styT t.y }
 else t
def TS.mode (t : TS) (on : Bool) (n : Nat) : TS := if n = 25 then { t with seen := on } else if n = 2004 then { t with marked := on } else t
def TS.modes (t : TS) (l : List Nat) (e : Nat) : TS := if e = 104 ∨ e = 108 then l.foldl (fun t n => t.mode (decide (e = 104)) n) t else t
def TS.obey (t : TS) (b : List UInt8) (e : Nat) : TS :=
 match b with
 | [] => t.plain (numsT 0 []) e
 | c :: r => if c = 63 then (if plainB r then t.modes (numsT 0 r) e else t) else (if plainB (c :: r) then t.plain (numsT 0 (c :: r)) e else t)
def parB (c : UInt8) : Bool := decide (48 ≤ c.toNat ∧ c.toNat ≤ 63)
def midB (c : UInt8) : Bool := decide (32 ≤ c.toNat ∧ c.toNat ≤ 47)
def endB (c : UInt8) : Bool := decide (64 ≤ c.toNat ∧ c.toNat ≤ 126)
def spanN (p : UInt8 → Bool) : List UInt8 → Nat
 | [] => 0
 | c :: t => if p c then spanN p t + 1 else 0
def TS.seq (t : TS) (r : List UInt8) : TS × Nat :=
 let p := spanN parB r
 let q := spanN midB (r.drop p)
 let i := 2 + p + q
 if 32 ≤ i then (t.off, 32)
 else if i = r.length + 2 then (t, 0)
 else if endB (nth 0 r (p + q)) then (if q = 0 then t.off.obey (r.take p) (nth 0 r p).toNat else t.off, i + 1)
 else (t.off, i)
def TS.first (t : TS) : List UInt8 → TS × Nat
 | [] => (t, 0)
 | c :: r =>
  if c.toNat = 27 then
   match r with
   | [] => (t, 0)
   | d :: r' => if d.toNat = 91 then t.seq r' else (t.off, if 32 ≤ d.toNat ∧ d.toNat ≤ 126 then 2 else 1)
  else if c.toNat < 32 ∨ c.toNat = 127 then (t.control c.toNat, 1)
  else if moreL (c :: r) then (t, 0)
  else (t.rune (stepL (c :: r)).1, (stepL (c :: r)).2)
def runF : Nat → TS → List UInt8 → TS × List UInt8
 | 0, t, b => (t, b)
 | n + 1, t, b => if (t.first b).2 = 0 then (t, b) else runF n (t.first b).1 (b.drop (t.first b).2)
def runT (t : TS) (b : List UInt8) : TS × List UInt8 := runF b.length t b
structure TO0 (t : TS) : Prop where
 w1 : 1 ≤ t.W
 w2 : t.W ≤ 500
 h1 : 1 ≤ t.H
 h2 : t.H ≤ 500
 ok : RowsOk t.W t.H t.R
 ro : ROk t.R
 row : t.row < t.H
 col : t.col < t.W
structure TOk (t : TS) : Prop extends TO0 t where
 pe : t.pend = true → t.col + 1 = t.W
theorem ROk.blank (w h : Nat) : ROk (List.replicate h (List.replicate w GC.blank)) := fun M hM c hc => by
 rw [List.eq_of_mem_replicate hM] at hc
 rw [List.eq_of_mem_replicate hc]; decide
theorem ROk.put {w h : Nat} {R : List (List GC)} (k : RowsOk w h R) (o : ROk R) (r c : Int) (s : ByteArray) (wd : Int) (y : Sy) : ROk (putR w h R r c s wd y) :=
 ROk.of_flat (by rw [k.put_flat]; exact o.flat.put _ _ _ _ _ _ _)
theorem ROk.join {w h : Nat} {R : List (List GC)} (k : RowsOk w h R) (o : ROk R) (r c : Int) (s : ByteArray) : ROk (joinR w h R r c s) :=
 ROk.of_flat (by rw [k.join_flat]; exact o.flat.join _ _ _ _ _)
theorem ROk.erase {w h : Nat} {R : List (List GC)} (k : RowsOk w h R) (o : ROk R) (r a b : Int) : ROk (eraseR w h R r a b) :=
 ROk.of_flat (by rw [k.erase_flat]; exact o.flat.erase _ _ _ _ _)
theorem ROk.scroll {w : Nat} {R : List (List GC)} (o : ROk R) (m : Nat) : ROk (scrollR w R m) := fun M hM => by
 rcases List.mem_append.1 hM with h1 | h1
 ·exact o M (List.mem_of_mem_drop h1)
 ·exact ROk.blank w m M h1
theorem TOk.new {w h : Nat} (w1 : 1 ≤ w) (w2 : w ≤ 500) (h1 : 1 ≤ h) (h2 : h ≤ 500) : TOk (TS.new w h) :=
 { w1 := w1, w2 := w2, h1 := h1, h2 := h2, ok := RowsOk.blank w h, ro := ROk.blank w h, row := h1, col := w1, pe := fun e => by cases e }
theorem TOk.off {t : TS} (k : TOk t) : TOk t.off := { w1 := k.w1, w2 := k.w2, h1 := k.h1, h2 := k.h2, ok := k.ok, ro := k.ro, row := k.row, col := k.col, pe := k.pe }
theorem TO0.feed {t : TS} (k : TO0 t) : TOk t.feed ∧ t.feed.pend = false := by
 unfold TS.feed
 split
 ·rename_i h
  exact ⟨{ w1 := k.w1, w2 := k.w2, h1 := k.h1, h2 := k.h2, ok := k.ok, ro := k.ro, row := h, col := k.col, pe := fun e => by cases e }, rfl⟩
 ·exact ⟨{ w1 := k.w1, w2 := k.w2, h1 := k.h1, h2 := k.h2, ok := k.ok.scroll k.h1, ro := k.ro.scroll 1, row := k.row, col := k.col, pe := fun e => by cases e }, rfl⟩
theorem TS.feed_dims (t : TS) : t.feed.W = t.W ∧ t.feed.H = t.H ∧ t.feed.y = t.y ∧ t.feed.col = t.col ∧ t.feed.bells = t.bells ∧ t.feed.gone ≤ t.gone + 1 := by
 unfold TS.feed; split <;> exact ⟨rfl, rfl, rfl, rfl, rfl, by dsimp only; omega⟩
theorem TOk.room {t : TS} (k : TOk t) {w : Int} (hw : 1 ≤ w) (hw2 : w ≤ t.W) : TOk (t.room w) ∧ (t.room w).pend = false ∧ (t.room w).W = t.W ∧ (t.room w).H = t.H ∧ ((t.room w).col : Int) + w ≤ t.W ∧ (t.room w).bells = t.bells ∧ (t.room w).gone ≤ t.gone + 1 := by
 unfold TS.room
 split
 ·have k0 : TO0 { t with col := 0 } := { w1 := k.w1, w2 := k.w2, h1 := k.h1, h2 := k.h2, ok := k.ok, ro := k.ro, row := k.row, col := k.w1 }
  obtain ⟨h1, h2⟩ := k0.feed
  obtain ⟨e1, e2, e3, e4, e5, e6⟩ := TS.feed_dims { t with col := 0 }
  refine ⟨h1, h2, e1, e2, ?_, e5, e6⟩
  rw [e4]; simpa using hw2
 ·rename_i h
  simp only [Bool.or_eq_true, decide_eq_true_eq, not_or, Bool.not_eq_true] at h
  exact ⟨k, h.1, rfl, rfl, by omega, rfl, by omega⟩
theorem TOk.lay {t : TS} (k : TOk t) (hp : t.pend = false) (r : Nat) {w : Int} (hw : 1 ≤ w) (hw2 : (t.col : Int) + w ≤ t.W) : TOk (t.lay r w) := by
 have hc := k.col
 refine { w1 := k.w1, w2 := k.w2, h1 := k.h1, h2 := k.h2, ok := k.ok.put _ _ _ _ _, ro := k.ro.put k.ok _ _ _ _ _, row := k.row, col := ?_, pe := ?_ }
 ·show (if (t.W : Int) ≤ t.col + w then t.W - 1 else t.col + w.toNat) < t.W
  split <;> omega
 ·show (decide ((t.W : Int) ≤ t.col + w) || t.pend) = true → (if (t.W : Int) ≤ t.col + w then t.W - 1 else t.col + w.toNat) + 1 = t.W
  rw [hp, Bool.or_false, decide_eq_true_eq]
  intro h
  rw [if_pos h]; omega
theorem TOk.print {t : TS} (k : TOk t) (r : Nat) (hr : 0 < colsB r) : TOk (t.print r) := by
 unfold TS.print
 split
 ·exact k.off
 ·rename_i h
  obtain ⟨h1, h2, h3, _, h4, _⟩ := k.room (w := colsB r) (by omega) (by omega)
  exact h1.lay h2 r (by omega) (by rw [h3]; exact h4)
theorem TOk.rune {t : TS} (k : TOk t) (r : Nat) : TOk (t.rune r) := by
 unfold TS.rune
 split
 ·rename_i h; exact k.print r h
 ·split
  ·split
   ·exact { w1 := k.w1, w2 := k.w2, h1 := k.h1, h2 := k.h2, ok := k.ok.join _ _ _, ro := k.ro.join k.ok _ _ _, row := k.row, col := k.col, pe := k.pe }
   ·exact k
  ·exact k.off
theorem TOk.control {t : TS} (k : TOk t) (c : Nat) : TOk (t.control c) := by
 have hw1 := k.w1
 have hc := k.col
 unfold TS.control
 split
 ·exact { w1 := k.w1, w2 := k.w2, h1 := k.h1, h2 := k.h2, ok := k.ok, ro := k.ro, row := k.row, col := k.col, pe := k.pe }
 split
 ·exact { w1 := k.w1, w2 := k.w2, h1 := k.h1, h2 := k.h2, ok := k.ok, ro := k.ro, row := k.row, col := (by show t.col - 1 < t.W; omega), pe := fun e => by cases e }
 split
 ·exact { w1 := k.w1, w2 := k.w2, h1 := k.h1, h2 := k.h2, ok := k.ok, ro := k.ro, row := k.row, col := (by show min (t.W - 1) (t.col / 8 * 8 + 8) < t.W; omega), pe := fun e => by cases e }
 split
 ·exact (k.off.toTO0.feed).1
 split
 ·exact { w1 := k.w1, w2 := k.w2, h1 := k.h1, h2 := k.h2, ok := k.ok, ro := k.ro, row := k.row, col := (by show 0 < t.W; omega), pe := fun e => by cases e }
 ·exact k.off
theorem RowsOk.eraseRows {w h : Nat} : ∀ (n i : Nat) (R : List (List GC)), RowsOk w h R → RowsOk w h (eraseRowsR w h i n R)
 | 0, _, _, k => k
 | n + 1, i, R, k => RowsOk.eraseRows n (i + 1) _ (k.erase _ _ _)
theorem ROk.eraseRows {w h : Nat} : ∀ (n i : Nat) (R : List (List GC)), RowsOk w h R → ROk R → ROk (eraseRowsR w h i n R)
 | 0, _, _, _, o => o
 | n + 1, i, R, k, o => ROk.eraseRows n (i + 1) _ (k.erase _ _ _) (o.erase k _ _ _)
theorem TOk.rows {t : TS} (k : TOk t) {R : List (List GC)} (h1 : RowsOk t.W t.H R) (h2 : ROk R) : TOk { t with R := R } :=
 { w1 := k.w1, w2 := k.w2, h1 := k.h1, h2 := k.h2, ok := h1, ro := h2, row := k.row, col := k.col, pe := k.pe }
theorem TOk.erased {t : TS} (k : TOk t) (n : Nat) (line : Bool) : TOk (t.erased n line) := by
 unfold TS.erased
 split
 ·cases line
  ·exact k.rows ((k.ok.erase _ _ _).eraseRows _ _ _) ((k.ro.erase k.ok _ _ _).eraseRows _ _ _ (k.ok.erase _ _ _))
  ·exact k.rows (k.ok.erase _ _ _) (k.ro.erase k.ok _ _ _)
 split
 ·cases line
  ·exact k.rows ((k.ok.eraseRows _ _ _).erase _ _ _) ((k.ro.eraseRows _ _ _ k.ok).erase (k.ok.eraseRows _ _ _) _ _ _)
  ·exact k.rows (k.ok.erase _ _ _) (k.ro.erase k.ok _ _ _)
 split
 ·cases line
  ·exact k.rows (k.ok.eraseRows _ _ _) (k.ro.eraseRows _ _ _ k.ok)
  ·exact k.rows (k.ok.erase _ _ _) (k.ro.erase k.ok _ _ _)
 ·exact k
theorem TOk.moved {t : TS} (k : TOk t) (r c : Int) : TOk (t.moved r c) := by
 have hw := k.w1
 have hh := k.h1
 exact { w1 := k.w1, w2 := k.w2, h1 := k.h1, h2 := k.h2, ok := k.ok, ro := k.ro, row := (by show (max 0 (min r ((t.H : Int) - 1))).toNat < t.H; omega), col := (by show (max 0 (min c ((t.W : Int) - 1))).toNat < t.W; omega), pe := fun e => by cases e }
theorem TOk.plain {t : TS} (k : TOk t) (l : List Nat) (e : Nat) : TOk (t.plain l e) := by
 unfold TS.plain
 dsimp only
 repeat' split
 all_goals first
  | exact k.moved _ _
  | exact k.erased _ _
  | exact k
  | exact { w1 := k.w1, w2 := k.w2, h1 := k.h1, h2 := k.h2, ok := k.ok, ro := k.ro, row := k.row, col := k.col, pe := k.pe }
theorem TOk.mode {t : TS} (k : TOk t) (on : Bool) (n : Nat) : TOk (t.mode on n) := by
 unfold TS.mode
 repeat' split
 all_goals exact { w1 := k.w1, w2 := k.w2, h1 := k.h1, h2 := k.h2, ok := k.ok, ro := k.ro, row := k.row, col := k.col, pe := k.pe }
theorem TOk.modes {t : TS} (k : TOk t) (l : List Nat) (e : Nat) : TOk (t.modes l e) := by
 unfold TS.modes
 split
 ·have : ∀ (l : List Nat) (t : TS), TOk t → TOk (l.foldl (fun t n => t.mode (decide (e = 104)) n) t) := by
   intro l
   induction l with
   | nil => intro t k; exact k
   | cons n l ih => intro t k; exact ih _ (k.mode _ _)
  exact this l t k
 ·exact k
theorem TOk.obey {t : TS} (k : TOk t) (b : List UInt8) (e : Nat) : TOk (t.obey b e) := by
 unfold TS.obey
 split
 ·exact k.plain _ _
 ·repeat' split
  all_goals first
   | exact k.modes _ _
   | exact k.plain _ _
   | exact k
theorem TOk.seq {t : TS} (k : TOk t) (r : List UInt8) : TOk (t.seq r).1 := by
 unfold TS.seq
 dsimp only
 repeat' split
 all_goals first
  | exact k.off.obey _ _
  | exact k.off
  | exact k
theorem TOk.first {t : TS} (k : TOk t) (b : List UInt8) : TOk (t.first b).1 := by
 unfold TS.first
 repeat' split
 all_goals first
  | exact k.seq _
  | exact k.off
  | exact k.control _
  | exact k.rune _
  | exact k
theorem TOk.runF : ∀ (n : Nat) (t : TS) (b : List UInt8), TOk t → TOk (runF n t b).1
 | 0, _, _, k => k
 | n + 1, t, b, k => by
  unfold Go.Proofs.YtjkajojjehgmdaaGreat.runF
  split
  ·exact k
  ·exact TOk.runF n _ _ (k.first b)
theorem TOk.run {t : TS} (k : TOk t) (b : List UInt8) : TOk (runT t b).1 := TOk.runF _ _ _ k
theorem TS.first_cnt (t : TS) (b : List UInt8) : (t.first b).1.bells ≤ t.bells + 1 ∧ (t.first b).1.gone ≤ t.gone + 1 := by
 have hfeed : ∀ t : TS, t.feed.bells ≤ t.bells + 1 ∧ t.feed.gone ≤ t.gone + 1 := fun t => by have := t.feed_dims; omega
 have hroom : ∀ (t : TS) w, (t.room w).bells ≤ t.bells + 1 ∧ (t.room w).gone ≤ t.gone + 1 := fun t w => by
  unfold TS.room; split
  ·exact hfeed { t with col := 0 }
  ·omega
 have hrune : ∀ (t : TS) r, (t.rune r).bells ≤ t.bells + 1 ∧ (t.rune r).gone ≤ t.gone + 1 := fun t r => by
  unfold TS.rune
  split
  ·unfold TS.print
   split
   ·exact ⟨Nat.le_succ _, Nat.le_succ _⟩
   ·exact hroom t _
  ·split
   ·split <;> exact ⟨Nat.le_succ _, Nat.le_succ _⟩
   ·exact ⟨Nat.le_succ _, Nat.le_succ _⟩
 have hctl : ∀ (t : TS) c, (t.control c).bells ≤ t.bells + 1 ∧ (t.control c).gone ≤ t.gone + 1 := fun t c => by
  unfold TS.control
  split; · exact ⟨Nat.le_refl _, Nat.le_succ _⟩
  split; · exact ⟨Nat.le_succ _, Nat.le_succ _⟩
  split; · exact ⟨Nat.le_succ _, Nat.le_succ _⟩
  split; · exact hfeed t.off
  split <;> exact ⟨Nat.le_succ _, Nat.le_succ _⟩
 have her : ∀ (t : TS) n l, (t.erased n l).bells = t.bells ∧ (t.erased n l).gone = t.gone := fun t n l => by
  unfold TS.erased; repeat' split
  all_goals exact ⟨rfl, rfl⟩
 have hpl : ∀ (t : TS) l e, (t.plain l e).bells = t.bells ∧ (t.plain l e).gone = t.gone := fun t l e => by
  unfold TS.plain; dsimp only; repeat' split
  all_goals first | exact her _ _ _ | exact ⟨rfl, rfl⟩
 have hmo : ∀ (l : List Nat) (e : Nat) (t : TS), (l.foldl (fun t n => t.mode (decide (e = 104)) n) t).bells = t.bells ∧ (l.foldl (fun t n => t.mode (decide (e = 104)) n) t).gone = t.gone := fun l e => by
  induction l with
  | nil => intro t; exact ⟨rfl, rfl⟩
  | cons n l ih =>
   intro t
   have h := ih (t.mode (decide (e = 104)) n)
   have h2 : (t.mode (decide (e = 104)) n).bells = t.bells ∧ (t.mode (decide (e = 104)) n).gone = t.gone := by unfold TS.mode; repeat' split
                                                                                                               all_goals exact ⟨rfl, rfl⟩
   exact ⟨h.1.trans h2.1, h.2.trans h2.2⟩
 have hmod : ∀ (t : TS) l e, (t.modes l e).bells = t.bells ∧ (t.modes l e).gone = t.gone := fun t l e => by
  unfold TS.modes; split
  ·exact hmo l e t
  ·exact ⟨rfl, rfl⟩
 have hob : ∀ (t : TS) b e, (t.obey b e).bells = t.bells ∧ (t.obey b e).gone = t.gone := fun t b e => by
  unfold TS.obey; repeat' split
  all_goals first | exact hpl _ _ _ | exact hmod _ _ _ | exact ⟨rfl, rfl⟩
 have hseq : ∀ (t : TS) r, (t.seq r).1.bells = t.bells ∧ (t.seq r).1.gone = t.gone := fun t r => by
  unfold TS.seq; dsimp only; repeat' split
  all_goals first | exact hob t.off _ _ | exact ⟨rfl, rfl⟩
 unfold TS.first
 repeat' split
 all_goals first
  | (have := hseq t; rename_i r' _; have := this r'; omega)
  | exact hctl _ _
  | exact hrune _ _
  | exact ⟨Nat.le_succ _, Nat.le_succ _⟩
theorem spanN_le (p : UInt8 → Bool) : ∀ l : List UInt8, spanN p l ≤ l.length
 | [] => Nat.le_refl _
 | c :: t => by unfold spanN; have := spanN_le p t; split <;> simp only [List.length_cons] <;> omega
theorem spanN_app (p : UInt8 → Bool) : ∀ (l m : List UInt8), spanN p l < l.length → spanN p (l ++ m) = spanN p l
 | [], _, h => by simp [spanN] at h
 | c :: t, m, h => by
  rw [List.cons_append]
  unfold spanN at h ⊢
  split
  ·rename_i hc
   rw [if_pos hc] at h
   simp only [List.length_cons] at h
   rw [spanN_app p t m (by omega)]
  ·rfl
theorem spanN_all (p : UInt8 → Bool) : ∀ (l m : List UInt8), spanN p l = l.length → spanN p (l ++ m) = l.length + spanN p m
 | [], _, _ => by simp
 | c :: t, m, h => by
  rw [List.cons_append]
  unfold spanN at h
  split at h
  ·rename_i hc
   have h2 : spanN p t = t.length := by simpa using h
   rw [show spanN p (c :: (t ++ m)) = spanN p (t ++ m) + 1 by rw [spanN, if_pos hc], spanN_all p t m h2, List.length_cons]
   omega
  ·simp at h
theorem moreL_len {l : List UInt8} (h : moreL l = true) : l.length < 4 := by
 cases l with
 | nil => simp
 | cons c t =>
  unfold moreL at h
  have h := (of_decide_eq_true h).1
  have := manyL_le c.toNat
  simp only [List.length_cons]
  omega
theorem many_pos {c : UInt8} {t : List UInt8} (h : moreL (c :: t) = false) (h1 : 1 ≤ manyL c.toNat) : (∀ j, j + 1 < manyL c.toNat → okAt c.toNat t j) ∨ ∃ j, j + 1 < manyL c.toNat ∧ j < t.length ∧ ¬ okAt c.toNat t j := by
 by_cases hb : ∃ j, j + 1 < manyL c.toNat ∧ j < t.length ∧ ¬ okAt c.toNat t j
 ·exact .inr hb
 ·left
  have hb2 : ∀ j, j + 1 < manyL c.toNat → j < t.length → okAt c.toNat t j := fun j h2 h3 => Classical.byContradiction fun h4 => hb ⟨j, h2, h3, h4⟩
  unfold moreL at h
  have h := of_decide_eq_false h
  intro j hj
  refine hb2 j hj (Classical.byContradiction fun hlt => h ⟨by omega, fun i hi => hb2 i (by omega) hi⟩)
theorem okAt_app {c : Nat} {t : List UInt8} {j : Nat} (hj : j < t.length) (m : List UInt8) : okAt c (t ++ m) j ↔ okAt c t j := by
 unfold okAt
 have : nth 0 (t ++ m) j = nth 0 t j := by rw [nth_eq _ _ _ (by simp; omega), nth_eq _ _ _ hj, List.getElem_append_left hj]
 rw [this]
 constructor
 ·exact fun h => ⟨hj, h.2⟩
 ·exact fun h => ⟨by rw [List.length_append]; omega, h.2⟩
theorem step_app {l : List UInt8} (h : moreL l = false) (m : List UInt8) : stepL (l ++ m) = stepL l ∧ moreL (l ++ m) = false ∧ (stepL l).2 ≤ l.length := by
 cases l with
 | nil => simp [moreL] at h
 | cons c t =>
  rw [List.cons_append]
  by_cases h0 : manyL c.toNat = 0
  ·rw [step_many0 _ _ h0, step_many0 _ _ h0]
   exact ⟨rfl, more_no (by omega), by simp⟩
  ·rcases many_pos h (by omega) with hok | ⟨j, hj1, hj2, hj3⟩
   ·have hlen : manyL c.toNat ≤ t.length + 1 := by
     rcases Nat.lt_or_ge (t.length + 1) (manyL c.toNat) with hl | hl
     ·exact absurd (hok t.length hl).1 (Nat.lt_irrefl _)
     ·exact hl
    have hok2 : ∀ j, j + 1 < manyL c.toNat → okAt c.toNat (t ++ m) j := fun j hj => (okAt_app (by omega) m).2 (hok j hj)
    have e1 := step_ok c t (by omega) hok
    have e2 := step_ok c (t ++ m) (by omega) hok2
    have hacc : ∀ k, k ≤ t.length → accN c.toNat (t ++ m) k = accN c.toNat t k := by
     intro k
     induction k with
     | zero => intro _; rfl
     | succ k ih =>
      intro hk
      unfold accN
      rw [ih (by omega)]
      have : nth 0 (t ++ m) k = nth 0 t k := by rw [nth_eq _ _ _ (by simp; omega), nth_eq _ _ _ (by omega), List.getElem_append_left (by omega)]
      rw [this]
    rw [hacc _ (by omega)] at e2
    refine ⟨e2.trans e1.symm, ?_, by rw [e1]; simpa using hlen⟩
    unfold moreL
    refine decide_eq_false fun h2 => ?_
    simp only [List.length_append] at h2
    omega
   ·have hbad := step_bad c t j hj1 hj3
    have hbad2 := step_bad c (t ++ m) j hj1 (fun h2 => hj3 ((okAt_app hj2 m).1 h2))
    refine ⟨hbad2.trans hbad.symm, ?_, by rw [hbad]; simp⟩
    unfold moreL
    refine decide_eq_false fun h2 => hj3 ((okAt_app hj2 m).1 (h2.2 j (by simp; omega)))
theorem TS.seq_le (t : TS) (r : List UInt8) : (t.seq r).2 ≤ r.length + 2 ∧ ((t.seq r).2 = 0 → (t.seq r).1 = t ∧ r.length + 2 < 32) := by
 have h1 := spanN_le parB r
 have h2 := spanN_le midB (r.drop (spanN parB r))
 rw [List.length_drop] at h2
 unfold TS.seq
 dsimp only
 split
 ·exact ⟨by dsimp only; omega, fun e => by cases e⟩
 split
 ·exact ⟨Nat.zero_le _, fun _ => ⟨rfl, by omega⟩⟩
 split
 ·exact ⟨by dsimp only; omega, fun e => by dsimp only at e; omega⟩
 ·exact ⟨by dsimp only; omega, fun e => by dsimp only at e; omega⟩
theorem TS.first_le (t : TS) (b : List UInt8) : (t.first b).2 ≤ b.length ∧ ((t.first b).2 = 0 → (t.first b).1 = t ∧ b.length < 32) := by
 unfold TS.first
 split
 ·exact ⟨Nat.le_refl _, fun _ => ⟨rfl, by simp⟩⟩
 rename_i c r
 split
 ·split
  ·exact ⟨Nat.zero_le _, fun _ => ⟨rfl, by simp⟩⟩
  ·rename_i d r'
   split
   ·have h := t.seq_le r'
    simp only [List.length_cons]
    exact ⟨h.1, h.2⟩
   ·refine ⟨?_, fun e => ?_⟩
    ·dsimp only; simp only [List.length_cons]; split <;> omega
    ·dsimp only at e; split at e <;> cases e
 split
 ·exact ⟨by simp, fun e => by cases e⟩
 split
 ·rename_i hm
  have := moreL_len hm
  exact ⟨Nat.zero_le _, fun _ => ⟨rfl, by omega⟩⟩
 ·rename_i hm
  have hm : moreL (c :: r) = false := by simpa using hm
  have h := step_app hm []
  have hp := stepL_pos (c :: r)
  exact ⟨h.2.2, fun e => by dsimp only at e; omega⟩
theorem TS.seq_app (t : TS) (r m : List UInt8) (h : (t.seq r).2 ≠ 0) : t.seq (r ++ m) = t.seq r := by
 have h1 := spanN_le parB r
 have h2 := spanN_le midB (r.drop (spanN parB r))
 rw [List.length_drop] at h2
 obtain ⟨p, hp⟩ : ∃ p, p = spanN parB r := ⟨_, rfl⟩
 obtain ⟨q, hq⟩ : ∃ q, q = spanN midB (r.drop p) := ⟨_, rfl⟩
 rw [← hp] at h1 h2
 rw [← hq] at h2
 by_cases hpl : p < r.length
 ·have e1 : spanN parB (r ++ m) = p := by rw [spanN_app _ _ _ (by omega), hp]
  have ed : (r ++ m).drop p = r.drop p ++ m := by rw [List.drop_append_of_le_length (by omega)]
  by_cases hql : p + q < r.length
  ·have e2 : spanN midB ((r ++ m).drop p) = q := by rw [ed, spanN_app _ _ _ (by rw [← hq, List.length_drop]; omega), hq]
   have e3 : nth 0 (r ++ m) (p + q) = nth 0 r (p + q) := by rw [nth_eq _ _ _ (by simp; omega), nth_eq _ _ _ hql, List.getElem_append_left hql]
   have e4 : nth 0 (r ++ m) p = nth 0 r p := by rw [nth_eq _ _ _ (by simp; omega), nth_eq _ _ _ hpl, List.getElem_append_left hpl]
   have e5 : (r ++ m).take p = r.take p := by rw [List.take_append_of_le_length (by omega)]
   unfold TS.seq
   dsimp only
   rw [e1, e2, ← hp, ← hq, e3, e4, e5]
   rw [if_neg (show ¬ 2 + p + q = (r ++ m).length + 2 by simp; omega), if_neg (show ¬ 2 + p + q = r.length + 2 by omega)]
  ·have hq2 : q = (r.drop p).length := by rw [List.length_drop]; omega
   have e2 : spanN midB ((r ++ m).drop p) = q + spanN midB m := by rw [ed, spanN_all _ _ _ (by rw [← hq]; exact hq2), ← hq2]
   have h32 : 32 ≤ 2 + p + q := by
    apply Classical.byContradiction
    intro hlt
    apply h
    unfold TS.seq
    dsimp only
    rw [← hp, ← hq, if_neg hlt, if_pos (by omega)]
   unfold TS.seq
   dsimp only
   rw [e1, e2, ← hp, ← hq, if_pos h32, if_pos (by omega)]
 ·have hpe : p = r.length := by omega
  have hq0 : q = 0 := by omega
  have h32 : 32 ≤ 2 + p + q := by
   apply Classical.byContradiction
   intro hlt
   apply h
   unfold TS.seq
   dsimp only
   rw [← hp, ← hq, if_neg hlt, if_pos (by omega)]
  have e1 : spanN parB (r ++ m) = p + spanN parB m := by rw [spanN_all _ _ _ (by omega), hpe]
  unfold TS.seq
  dsimp only
  rw [e1, ← hp, ← hq, if_pos h32, if_pos (by omega)]
theorem TS.first_app (t : TS) (b m : List UInt8) (h : (t.first b).2 ≠ 0) : t.first (b ++ m) = t.first b := by
 cases b with
 | nil => exact absurd rfl h
 | cons c r =>
  rw [List.cons_append]
  unfold TS.first at h ⊢
  dsimp only at h ⊢
  by_cases h27 : c.toNat = 27
  ·rw [if_pos h27] at h ⊢
   rw [if_pos h27]
   cases r with
   | nil => exact absurd rfl h
   | cons d r' =>
    rw [List.cons_append]
    dsimp only at h ⊢
    by_cases h91 : d.toNat = 91
    ·rw [if_pos h91] at h ⊢
     rw [if_pos h91]
     exact t.seq_app r' m h
    ·rw [if_neg h91, if_neg h91]
  ·rw [if_neg h27] at h ⊢
   rw [if_neg h27]
   by_cases hc : c.toNat < 32 ∨ c.toNat = 127
   ·rw [if_pos hc, if_pos hc]
   ·rw [if_neg hc] at h ⊢
    rw [if_neg hc]
    cases hm : moreL (c :: r) with
    | true => rw [hm] at h; exact absurd rfl h
    | false =>
     obtain ⟨e1, e2, _⟩ := step_app hm m
     rw [List.cons_append] at e1 e2
     rw [e2, e1]
theorem runF_more : ∀ (n k : Nat) (t : TS) (b : List UInt8), b.length ≤ n → b.length ≤ k → runF n t b = runF k t b
 | 0, 0, _, _, _, _ => rfl
 | 0, k + 1, t, b, h, _ => by
  have : b = [] := List.eq_nil_of_length_eq_zero (by omega)
  subst this
  unfold runF
  rfl
 | n + 1, 0, t, b, _, h => by
  have : b = [] := List.eq_nil_of_length_eq_zero (by omega)
  subst this
  unfold runF
  rfl
 | n + 1, k + 1, t, b, h1, h2 => by
  unfold runF
  split
  ·rfl
  ·rename_i h
   exact runF_more n k _ _ (by rw [List.length_drop]; omega) (by rw [List.length_drop]; omega)
theorem run_step (t : TS) (b : List UInt8) (h : (t.first b).2 ≠ 0) : runT t b = runT (t.first b).1 (b.drop (t.first b).2) := by
 unfold runT
 have hl := (t.first_le b).1
 have hne : b.length ≠ 0 := by omega
 obtain ⟨n, hn⟩ := Nat.exists_eq_succ_of_ne_zero hne
 rw [hn]
 show runF (n + 1) t b = _
 rw [show runF (n + 1) t b = if (t.first b).2 = 0 then (t, b) else runF n (t.first b).1 (b.drop (t.first b).2) from rfl, if_neg h]
 exact runF_more _ _ _ _ (by rw [List.length_drop]; omega) (by rw [List.length_drop]; omega)
theorem run_wait (t : TS) (b : List UInt8) (h : (t.first b).2 = 0) : runT t b = (t, b) := by
 unfold runT
 cases b with
 | nil => rfl
 | cons c r =>
  show runF (r.length + 1) t (c :: r) = _
  rw [show runF (r.length + 1) t (c :: r) = if (t.first (c :: r)).2 = 0 then (t, (c :: r)) else runF r.length (t.first (c :: r)).1 ((c :: r).drop (t.first (c :: r)).2) from rfl, if_pos h]
theorem run_app : ∀ (n : Nat) (t : TS) (b m : List UInt8), b.length ≤ n → runT t (b ++ m) = runT (runT t b).1 ((runT t b).2 ++ m)
 | n, t, b, m, hn => by
  by_cases h : (t.first b).2 = 0
  ·rw [run_wait t b h]
  ·have hl := (t.first_le b).1
   have e := t.first_app b m h
   cases n with
   | zero => omega
   | succ n =>
    rw [run_step t (b ++ m) (by rw [e]; exact h), e, run_step t b h, List.drop_append_of_le_length hl]
    exact run_app n _ _ m (by rw [List.length_drop]; omega)
theorem run_pieces (t : TS) (b m : List UInt8) : runT t (b ++ m) = runT (runT t b).1 ((runT t b).2 ++ m) := run_app _ t b m (Nat.le_refl _)
theorem run_waits : ∀ (n : Nat) (t : TS) (b : List UInt8), b.length ≤ n → (runT t b).2.length < 32
 | n, t, b, hn => by
  by_cases h : (t.first b).2 = 0
  ·rw [run_wait t b h]; exact ((t.first_le b).2 h).2
  ·have hl := (t.first_le b).1
   cases n with
   | zero => omega
   | succ n =>
    rw [run_step t b h]
    exact run_waits n _ _ (by rw [List.length_drop]; omega)
end Go.Proofs.YtjkajojjehgmdaaGreat
