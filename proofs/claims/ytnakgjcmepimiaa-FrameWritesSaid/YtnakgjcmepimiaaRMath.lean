/- The plain law of runes in bytes: bits as arithmetic; the rune at a text's beginning; a rune's bytes. No program in sight. No condition. -/
import Derived.Test.YtnakgjcmepimiaaEMath
namespace Go.Proofs.Ytnakgjcmepimiaa
set_option linter.unusedVariables false
set_option linter.unusedSimpArgs false
open Go.RowKit
/-! ### bits -/
theorem and_u8 : ∀ c : Fin 256, bits .and .u8 (c.val : Int) 31 = ((c.val % 32 : Nat) : Int) ∧ bits .and .u8 (c.val : Int) 15 = ((c.val % 16 : Nat) : Int) ∧ bits .and .u8 (c.val : Int) 7 = ((c.val % 8 : Nat) : Int) ∧ bits .and .u8 (c.val : Int) 63 = ((c.val % 64 : Nat) : Int) := by
  decide +kernel
theorem or_u8 : ∀ c : Fin 64, bits .or .u8 128 (c.val : Int) = 128 + (c.val : Int) ∧ (c.val < 32 → bits .or .u8 192 (c.val : Int) = 192 + (c.val : Int)) ∧ (c.val < 16 → bits .or .u8 224 (c.val : Int) = 224 + (c.val : Int)) ∧ (c.val < 8 → bits .or .u8 240 (c.val : Int) = 240 + (c.val : Int)) := by
  decide +kernel
theorem and31 (c : Nat) (h : c < 256) : bits .and .u8 (c : Int) 31 = ((c % 32 : Nat) : Int) := (and_u8 ⟨c, h⟩).1
theorem and15 (c : Nat) (h : c < 256) : bits .and .u8 (c : Int) 15 = ((c % 16 : Nat) : Int) := (and_u8 ⟨c, h⟩).2.1
theorem and7 (c : Nat) (h : c < 256) : bits .and .u8 (c : Int) 7 = ((c % 8 : Nat) : Int) := (and_u8 ⟨c, h⟩).2.2.1
theorem and63 (c : Nat) (h : c < 256) : bits .and .u8 (c : Int) 63 = ((c % 64 : Nat) : Int) := (and_u8 ⟨c, h⟩).2.2.2
theorem or128 (c : Nat) (h : c < 64) : bits .or .u8 128 (c : Int) = 128 + (c : Int) := (or_u8 ⟨c, h⟩).1
theorem or192 (c : Nat) (h : c < 32) : bits .or .u8 192 (c : Int) = 192 + (c : Int) := (or_u8 ⟨c, by omega⟩).2.1 h
theorem or224 (c : Nat) (h : c < 16) : bits .or .u8 224 (c : Int) = 224 + (c : Int) := (or_u8 ⟨c, by omega⟩).2.2.1 h
theorem or240 (c : Nat) (h : c < 8) : bits .or .u8 240 (c : Int) = 240 + (c : Int) := (or_u8 ⟨c, by omega⟩).2.2.2 h
/-- A number shifted by six, and six bits more. -/
theorem or_i32 (a x : Nat) (ha : a < 2 ^ 24) (hx : x < 64) : bits .or .i32 ((a * 64 : Nat) : Int) (x : Int) = ((a * 64 + x : Nat) : Int) := by
  unfold bits
  have h1 : (BitVec.ofInt 32 ((a * 64 : Nat) : Int)).toNat = a * 64 := by
    rw [BitVec.ofInt_natCast, BitVec.toNat_ofNat]
    exact Nat.mod_eq_of_lt (by omega)
  have h2 : (BitVec.ofInt 32 ((x : Nat) : Int)).toNat = x := by
    rw [BitVec.ofInt_natCast, BitVec.toNat_ofNat]
    exact Nat.mod_eq_of_lt (by omega)
  have h3 : a * 64 ||| x = a * 64 + x := by
    have := Nat.shiftLeft_add_eq_or_of_lt (i := 6) (b := x) (by omega) a
    rw [Nat.shiftLeft_eq] at this
    exact this.symm
  show IntKind.i32.wrap ((BitVec.ofInt 32 ((a * 64 : Nat) : Int) ||| BitVec.ofInt 32 ((x : Nat) : Int)).toNat : Int) = _
  rw [BitVec.toNat_or, h1, h2, h3]
  exact IntWalk.i32_in _ (by omega)
/-! ### the rune at a text's beginning -/
def lo1 (c : Nat) : Nat := if c = 224 then 160 else if c = 240 then 144 else 128
def hi1 (c : Nat) : Nat := if c = 237 then 159 else if c = 244 then 143 else 191
def tail1 (b : UInt8) (lo hi : Nat) : Bool := decide (lo ≤ b.toNat ∧ b.toNat ≤ hi)
/-- The first rune of bytes, and how many bytes it has. -/
def stepL : List UInt8 → Nat × Nat
  | [] => (65533, 1)
  | c :: t =>
    if c.toNat < 128 then (c.toNat, 1)
    else if c.toNat < 194 then (65533, 1)
    else if c.toNat < 224 then
      match t with
      | b :: _ => if tail1 b 128 191 then (c.toNat % 32 * 64 + b.toNat % 64, 2) else (65533, 1)
      | _ => (65533, 1)
    else if c.toNat < 240 then
      match t with
      | b :: d :: _ => if tail1 b (lo1 c.toNat) (hi1 c.toNat) && tail1 d 128 191 then ((c.toNat % 16 * 64 + b.toNat % 64) * 64 + d.toNat % 64, 3) else (65533, 1)
      | _ => (65533, 1)
    else if c.toNat < 245 then
      match t with
      | b :: d :: e :: _ => if tail1 b (lo1 c.toNat) (hi1 c.toNat) && (tail1 d 128 191 && tail1 e 128 191) then (((c.toNat % 8 * 64 + b.toNat % 64) * 64 + d.toNat % 64) * 64 + e.toNat % 64, 4) else (65533, 1)
      | _ => (65533, 1)
    else (65533, 1)
theorem stepL_pos (l : List UInt8) : 1 ≤ (stepL l).2 := by
  unfold stepL
  repeat' split
  all_goals simp
/-- A rune's bytes. -/
def isR (r : Int) : Bool := decide (0 ≤ r ∧ r ≤ 1114111 ∧ (r < 55296 ∨ 57343 < r))
def runeN (r : Int) : Nat := if isR r then r.toNat else 65533
def byteB (n : Nat) : UInt8 := UInt8.ofNat n
def bytesN (n : Nat) : List UInt8 :=
  if n < 128 then [byteB n] else if n < 2048 then [byteB (192 + n / 64), byteB (128 + n % 64)] else if n < 65536 then [byteB (224 + n / 4096), byteB (128 + n / 64 % 64), byteB (128 + n % 64)]
  else [byteB (240 + n / 262144), byteB (128 + n / 4096 % 64), byteB (128 + n / 64 % 64), byteB (128 + n % 64)]
def bytesR (r : Int) : List UInt8 := bytesN (runeN r)
theorem bytesN_len (n : Nat) : 1 ≤ (bytesN n).length ∧ (bytesN n).length ≤ 4 := by
  unfold bytesN
  repeat' split
  all_goals simp
/-- The runes of bytes, each as it stands. -/
def runesF : Nat → List UInt8 → List Nat
  | 0, _ => []
  | _ + 1, [] => []
  | n + 1, c :: t => (stepL (c :: t)).1 :: runesF n ((c :: t).drop (stepL (c :: t)).2)
def runesL (l : List UInt8) : List Nat := runesF l.length l
theorem runesF_more : ∀ (n m : Nat) (l : List UInt8), l.length ≤ n → l.length ≤ m → runesF n l = runesF m l
  | 0, 0, _, _, _ => rfl
  | 0, m + 1, [], _, _ => rfl
  | 0, m + 1, _ :: _, h, _ => by simp at h
  | n + 1, 0, [], _, _ => rfl
  | n + 1, 0, _ :: _, _, h => by simp at h
  | n + 1, m + 1, [], _, _ => rfl
  | n + 1, m + 1, c :: t, h1, h2 => by
    simp only [List.length_cons] at h1 h2
    unfold runesF
    have hp := stepL_pos (c :: t)
    have hl : ((c :: t).drop (stepL (c :: t)).2).length ≤ t.length := by rw [List.length_drop, List.length_cons]; omega
    rw [runesF_more n m _ (by omega) (by omega)]
theorem runesL_nil : runesL [] = [] := rfl
theorem runesL_step (l : List UInt8) (h : l ≠ []) : runesL l = (stepL l).1 :: runesL (l.drop (stepL l).2) := by
  match l, h with
  | c :: t, _ =>
    unfold runesL
    have hp := stepL_pos (c :: t)
    have hl : ((c :: t).drop (stepL (c :: t)).2).length ≤ t.length := by rw [List.length_drop, List.length_cons]; omega
    show runesF (t.length + 1) (c :: t) = _
    rw [runesF]
    rw [runesF_more t.length _ _ hl (Nat.le_refl _)]
end Go.Proofs.Ytnakgjcmepimiaa
