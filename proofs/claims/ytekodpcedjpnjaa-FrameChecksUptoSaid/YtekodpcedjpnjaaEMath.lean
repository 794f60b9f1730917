/- The plain law of control sequences: numbers in decimal, moves, columns. No program in sight. No condition. -/
import Derived.Test.YtekodpcedjpnjaaBase
namespace Go.Proofs.Ytekodpcedjpnjaa
set_option linter.unusedVariables false
set_option linter.unusedSimpArgs false

/-- Bytes as a string. -/
def S (l : List UInt8) : ByteArray := ⟨l.toArray⟩
theorem S_append (a b : List UInt8) : S a ++ S b = S (a ++ b) := ByteArray.mk_append_mk a b
theorem S_size (l : List UInt8) : (S l).size = l.length := by simp [S, ByteArray.size]
theorem S_inj {a b : List UInt8} (h : S a = S b) : a = b := by
  have := congrArg (fun s : ByteArray => s.data.toList) h
  simpa [S] using this

/-- A digit's byte. -/
def digB (n : Nat) : UInt8 := UInt8.ofNat (48 + n)
theorem digB_nat (n : Nat) (h : n < 10) : (digB n).toNat = 48 + n := by simp [digB]; omega
/-- A number from 0 on in decimal. -/
def decL (n : Nat) : List UInt8 := if n < 10 then [digB n] else decL (n / 10) ++ [digB (n % 10)]
theorem decL_small {n : Nat} (h : n < 10) : decL n = [digB n] := by rw [decL, if_pos h]
theorem decL_big {n : Nat} (h : ¬ n < 10) : decL n = decL (n / 10) ++ [digB (n % 10)] := by rw [decL, if_neg h]
theorem decL_len (k : Nat) : ∀ n, n < 10 ^ (k + 1) → (decL n).length ≤ k + 1 := by
  induction k with
  | zero => intro n h; rw [decL_small (by simpa using h)]; simp
  | succ k ih =>
    intro n h
    by_cases h1 : n < 10
    · rw [decL_small h1]; simp
    · rw [decL_big h1]
      have := ih (n / 10) (by rw [Nat.pow_succ] at h; omega)
      simp; omega
theorem decL_le (n : Nat) (h : n ≤ 9999) : (decL n).length ≤ 4 := decL_len 3 n (by omega)
theorem decL_pos (n : Nat) : 1 ≤ (decL n).length := by
  by_cases h : n < 10
  · rw [decL_small h]; simp
  · rw [decL_big h]; simp
/-- A move by n. -/
def byL (n : Int) (e : UInt8) : List UInt8 := if n < 1 then [] else [27, 91] ++ decL (min n 9999).toNat ++ [e]
theorem byL_len (n : Int) (e : UInt8) : (byL n e).length ≤ 7 := by
  unfold byL; split
  · simp
  · have := decL_le (min n 9999).toNat (by omega)
    simp; omega
/-- To a column. -/
def colL (n : Int) : List UInt8 := if n < 0 then [] else [27, 91] ++ decL (min n 9998 + 1).toNat ++ [71]
theorem colL_len (n : Int) : (colL n).length ≤ 7 := by
  unfold colL; split
  · simp
  · have := decL_le (min n 9998 + 1).toNat (by omega)
    simp; omega
theorem colL_by (n : Int) (h : 0 ≤ n) : byL (min n 9998 + 1) 71 = colL n := by
  unfold byL colL
  rw [if_neg (by omega), if_neg (by omega)]
  congr 4; omega
def heldI (n : Int) : Int := max 0 (min n 9998)
/-- From a place to another one. -/
def moveL (row col toRow toCol : Int) : List UInt8 :=
  let s := byL (row - toRow) 65 ++ byL (toRow - row) 66
  if col = toCol then s else if toCol = 0 then s ++ [13] else
  let step := byL (toCol - col) 67 ++ byL (col - toCol) 68
  if (colL toCol).length < step.length then s ++ colL toCol else s ++ step

/-- The first k numbers in decimal, with a semicolon between two. -/
def sepTo (l : List Int) : Nat → List UInt8
  | 0 => []
  | k + 1 => sepTo l k ++ (if k = 0 then [] else [59]) ++ decL (min (nth 0 l k) 9999).toNat
theorem sepTo_len (l : List Int) (k : Nat) : (sepTo l k).length ≤ 5 * k := by
  induction k with
  | zero => simp [sepTo]
  | succ k ih =>
    have h := decL_le (min (nth 0 l k) 9999).toNat (by omega)
    simp only [sepTo, List.length_append]
    split
    · simp; omega
    · simp; omega
/-- A sequence of numbers, with its end. -/
def seqL (l : List Int) (e : List UInt8) : List UInt8 := [27, 91] ++ sepTo l l.length ++ e
theorem seqL_one (n : Int) (e : UInt8) (h : 1 ≤ n) : seqL [n] [e] = byL n e := by
  unfold seqL byL
  rw [if_neg (by omega)]
  simp [sepTo, nth]
end Go.Proofs.Ytekodpcedjpnjaa
