/- The plain law of the widths: the ranges of marks and of wide runes, and what a rune is by them. No program in sight. No condition. -/
import Derived.Test.YtnakgjcmepimiaaBase
namespace Go.Proofs.Ytnakgjcmepimiaa
set_option linter.unusedVariables false
set_option linter.unusedSimpArgs false

def marksL : List Int := [768, 879, 1155, 1161, 1425, 1469, 1471, 1471, 1473, 1474, 1476, 1477, 1479, 1479, 1552, 1562, 1611, 1631, 1648, 1648, 1750, 1756, 1759, 1764, 1767, 1768, 1770, 1773, 3633, 3633, 3636, 3642, 3655, 3662, 6832, 6911, 7616, 7679, 8203, 8207, 8288, 8292, 8400, 8432, 12330, 12333, 12441, 12442, 65024, 65039, 65056, 65071, 65279, 65279, 917760, 917999]
def widesL : List Int := [4352, 4447, 8986, 8987, 9001, 9002, 9193, 9196, 9200, 9200, 9203, 9203, 9725, 9726, 9748, 9749, 9800, 9811, 9855, 9855, 9875, 9875, 9889, 9889, 9898, 9899, 9917, 9918, 9924, 9925, 9934, 9934, 9940, 9940, 9962, 9962, 9970, 9971, 9973, 9973, 9978, 9978, 9981, 9981, 9989, 9989, 9994, 9995, 10024, 10024, 10060, 10060, 10062, 10062, 10067, 10069, 10071, 10071, 10133, 10135, 10160, 10160, 10175, 10175, 11035, 11036, 11088, 11088, 11093, 11093, 11904, 12350, 12353, 19903, 19968, 42191, 43360, 43391, 44032, 55203, 63744, 64255, 65040, 65049, 65072, 65135, 65281, 65376, 65504, 65510, 127744, 128591, 128640, 128767, 129280, 129535, 129648, 129791, 131072, 196605, 196608, 262141]
/-- The first and the last of range number j. -/
def fst (L : List Int) (j : Nat) : Int := nth 0 L (2 * j)
def snd (L : List Int) (j : Nat) : Int := nth 0 L (2 * j + 1)
/-- One of the ranges has r. -/
def inP (L : List Int) (r : Int) : Bool := (List.range (L.length / 2)).any fun j => decide (fst L j ≤ r) && decide (r ≤ snd L j)
theorem inP_iff (L : List Int) (r : Int) : inP L r = true ↔ ∃ j, j < L.length / 2 ∧ fst L j ≤ r ∧ r ≤ snd L j := by
  simp [inP, List.any_eq_true]
theorem inP_no (L : List Int) (r : Int) (h : ∀ j, j < L.length / 2 → ¬ (fst L j ≤ r ∧ r ≤ snd L j)) : inP L r = false := by
  rw [Bool.eq_false_iff]; intro h1; obtain ⟨j, hj, h2⟩ := (inP_iff L r).1 h1; exact h j hj h2
/-- The ranges rise. -/
def Rising (L : List Int) : Prop := ∀ i j, i < j → j < L.length / 2 → snd L i < fst L j
def risesB (L : List Int) : Bool := (List.range (L.length / 2)).all fun j => decide (fst L j ≤ snd L j) && (decide (L.length / 2 ≤ j + 1) || decide (snd L j < fst L (j + 1)))
theorem rising_of (L : List Int) (h : risesB L = true) : Rising L ∧ ∀ j, j < L.length / 2 → fst L j ≤ snd L j := by
  have h1 : ∀ j, j < L.length / 2 → fst L j ≤ snd L j ∧ (L.length / 2 ≤ j + 1 ∨ snd L j < fst L (j + 1)) := by
    intro j hj
    have := List.all_eq_true.1 h j (List.mem_range.2 hj)
    simpa using this
  refine ⟨?_, fun j hj => (h1 j hj).1⟩
  intro i j hij hj
  induction j with
  | zero => omega
  | succ j ih =>
    have h2 := (h1 j (by omega)).2.resolve_left (by omega)
    by_cases he : i = j
    · subst he; exact h2
    · have := ih (by omega) (by omega)
      have := (h1 j (by omega)).1
      omega
theorem marks_rise : Rising marksL ∧ ∀ j, j < marksL.length / 2 → fst marksL j ≤ snd marksL j := rising_of _ (by decide +kernel)
theorem wides_rise : Rising widesL ∧ ∀ j, j < widesL.length / 2 → fst widesL j ≤ snd widesL j := rising_of _ (by decide +kernel)
theorem marks_len : marksL.length = 56 := rfl
theorem wides_len : widesL.length = 102 := rfl

def isB (r : Int) : Bool := decide (0 ≤ r ∧ r ≤ 1114111 ∧ (r < 55296 ∨ 57343 < r))
def ctrlB (r : Int) : Bool := decide (0 ≤ r ∧ r ≤ 31 ∨ 127 ≤ r ∧ r ≤ 159)
def markB (r : Int) : Bool := inP marksL r
def wideB (r : Int) : Bool := !markB r && inP widesL r
/-- How many columns a rune has. -/
def colsB (r : Int) : Int := if !isB r || ctrlB r || markB r then 0 else if inP widesL r then 2 else 1
theorem cols_bd (r : Int) : 0 ≤ colsB r ∧ colsB r ≤ 2 := by unfold colsB; split <;> (try split) <;> omega
end Go.Proofs.Ytnakgjcmepimiaa
