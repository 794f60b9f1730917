/- The plain law of clusters: runes written and read again; a text's clusters; cleaning twice is cleaning once. No program in sight. No condition. -/
import Derived.Test.YtekodpcedjpnjaaGreatRN02
import Derived.Test.YtekodpcedjpnjaaGreatRN13
set_option linter.unusedVariables false
set_option linter.unusedSimpArgs false
namespace Go.Proofs.YtekodpcedjpnjaaGreat
theorem isR_iff (n : Nat) : isR n = true ↔ n ≤ 1114111 ∧ (n < 55296 ∨ 57343 < n) := by
  unfold isR; rw [decide_eq_true_eq]; omega
theorem stepL_isR (l : List UInt8) : isR (stepL l).1 = true := by
  rw [isR_iff]
  have hb : ∀ c : UInt8, c.toNat < 256 := fun c => c.toNat_lt
  match l with
  | [] => simp [stepL]
  | c :: t =>
    unfold stepL
    dsimp only
    by_cases h1 : c.toNat < 128
    · rw [if_pos h1]; dsimp only; omega
    · rw [if_neg h1]
      by_cases h2 : c.toNat < 194
      · rw [if_pos h2]; omega
      · rw [if_neg h2]
        by_cases h3 : c.toNat < 224
        · rw [if_pos h3]
          match t with
          | [] => simp
          | b :: _ =>
            dsimp only
            split
            · dsimp only; omega
            · simp
        · rw [if_neg h3]
          by_cases h4 : c.toNat < 240
          · rw [if_pos h4]
            match t with
            | [] => simp
            | [_] => simp
            | b :: d :: _ =>
              dsimp only
              split
              · rename_i h
                rw [Bool.and_eq_true] at h
                unfold tail1 at h
                simp only [decide_eq_true_eq] at h
                obtain ⟨⟨k1, k2⟩, k3, k4⟩ := h
                unfold lo1 at k1
                unfold hi1 at k2
                dsimp only
                have hb' := hb b
                by_cases q : c.toNat = 237
                · rw [if_pos q] at k2
                  rw [if_neg (by omega), if_neg (by omega)] at k1
                  omega
                · clear k1 k2
                  omega
              · simp
          · rw [if_neg h4]
            by_cases h5 : c.toNat < 245
            · rw [if_pos h5]
              match t with
              | [] => simp
              | [_] => simp
              | [_, _] => simp
              | b :: d :: e :: _ =>
                dsimp only
                split
                · rename_i h
                  rw [Bool.and_eq_true, Bool.and_eq_true] at h
                  unfold tail1 at h
                  simp only [decide_eq_true_eq] at h
                  obtain ⟨⟨k1, k2⟩, ⟨k3, k4⟩, k5, k6⟩ := h
                  unfold lo1 at k1
                  unfold hi1 at k2
                  dsimp only
                  rw [if_neg (by omega)] at k1
                  rw [if_neg (by omega)] at k2
                  have hb' := hb b
                  by_cases q : c.toNat = 240
                  · rw [if_pos q] at k1
                    rw [if_neg (by omega)] at k2
                    omega
                  · rw [if_neg q] at k1
                    by_cases q2 : c.toNat = 244
                    · rw [if_pos q2] at k2; omega
                    · rw [if_neg q2] at k2; omega
                · simp
            · rw [if_neg h5]; omega
def encL (rs : List Nat) : List UInt8 := rs.flatMap bytesN
def joinB (r : Int) : Bool := decide (colsB r = 0) && (isR r && !ctrlB r)
def stepG (out : List (List Nat)) (r : Nat) : List (List Nat) :=
  if 0 < colsB r then out ++ [[r]]
  else if joinB r && (!out.isEmpty && decide ((encL (out.getLastD [])).length + (bytesN r).length ≤ 64)) then out.dropLast ++ [out.getLastD [] ++ [r]]
  else out
def cutG (rs : List Nat) : List (List Nat) := rs.foldl stepG []
def cutL (l : List UInt8) : List (List UInt8) := (cutG (runesL l)).map encL
def colsL (l : List UInt8) : Int := match runesL l with | r :: _ => colsB r | [] => 0
end Go.Proofs.YtekodpcedjpnjaaGreat
