/- What a terminal makes of a sequence of styles: Turned. -/
import Derived.Test.YtcihcjlaamfjfaaStyle4
namespace Go.Proofs.Ytcihcjlaamfjfaa
open Go.RowKit Go.Maps
/-- One byte of the sequence: the style and the number so far. -/
def turn1 (s : Sy × Int) (c : UInt8) : Sy × Int :=
  if 48 ≤ c.toNat ∧ c.toNat ≤ 57 then (s.1, min 9999 (10 * s.2 + (c.toNat - 48 : Nat))) else (obey s.1 s.2, 0)
def turnL (l : List UInt8) (s : Sy × Int) : Sy × Int := l.foldl turn1 s
theorem turnL_app (a b : List UInt8) (s : Sy × Int) : turnL (a ++ b) s = turnL b (turnL a s) := List.foldl_append
theorem digB_toNat (m : Nat) (h : m < 10) : (digB m).toNat = 48 + m := digB_nat m h
/-- The digits of a number are read back. -/
theorem turn_dec (n : Nat) (y : Sy) : n ≤ 9999 → turnL (decL n) (y, 0) = (y, (n : Int)) := by
  induction n using Nat.strongRecOn with
  | _ n ih =>
    intro hn
    by_cases h : n < 10
    · rw [decL_small h]
      unfold turnL turn1
      rw [List.foldl_cons, List.foldl_nil, if_pos (by rw [digB_toNat n h]; omega), digB_toNat n h]
      simp
      omega
    · rw [decL_big h, turnL_app, ih (n / 10) (by omega) (by omega)]
      unfold turnL turn1
      rw [List.foldl_cons, List.foldl_nil, if_pos (by rw [digB_toNat _ (by omega)]; omega), digB_toNat _ (by omega)]
      simp
      omega
end Go.Proofs.Ytcihcjlaamfjfaa
