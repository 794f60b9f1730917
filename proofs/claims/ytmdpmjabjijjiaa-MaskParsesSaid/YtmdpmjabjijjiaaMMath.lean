/- What a mask says, in plain Lean: its pieces, slots, what fits, what is pushed, fed, shown and read. No condition. -/
import Derived.Test.YtmdpmjabjijjiaaClus5
namespace Go.Proofs.Ytmdpmjabjijjiaa
set_option linter.unusedVariables false
set_option linter.unusedSimpArgs false
open Go.RowKit Go.Shelf Go.Maps
abbrev PL := List (Nat × List UInt8)
def pd : Nat × List UInt8 := (0, [])
/-- The sort of a letter of a pattern. -/
def sortB (c : List UInt8) : Nat := if c = [57] then 1 else if c = [97] then 2 else if c = [65] then 3 else if c = [42] then 4 else 0
theorem sortB_le (c : List UInt8) : sortB c ≤ 4 := by unfold sortB; (repeat' split) <;> omega
def stepP (st : PL × Bool) (c : List UInt8) : PL × Bool :=
  if st.2 then (st.1 ++ [(0, c)], false) else if c = [92] then (st.1, true) else (st.1 ++ [(sortB c, c)], false)
def piecesL (p : List UInt8) : PL × Bool := (cutL p).foldl stepP ([], false)
def slotsL (L : PL) : List Nat := L.flatMap fun p => if p.1 = 0 then [] else [p.1]
def slotStrs (L : PL) : List (List UInt8) := L.flatMap fun p => if p.1 = 0 then [] else [p.2]
/-- What Parse says of a pattern. -/
def parseC (p : List UInt8) : Int :=
  if 256 < p.length then 2 else if flatL p ≠ p then 7 else if (piecesL p).2 = true then 340 else if 64 < (piecesL p).1.length then 3 else if slotsL (piecesL p).1 = [] then 6 else 0
def parseL (p : List UInt8) : PL := (piecesL p).1
def printP (p : Nat × List UInt8) : List UInt8 := if p.1 = 0 ∧ (p.2 = [92] ∨ sortB p.2 ≠ 0) then 92 :: p.2 else p.2
def printL (L : PL) : List UInt8 := L.flatMap printP
def b0 (c : List UInt8) : Int := ((nth 0 c 0).toNat : Int)
/-- Does a cluster fit a slot? -/
def fitsB (k : Nat) (c : List UInt8) : Bool :=
  if k = 1 then decide (c.length = 1) && (decide (48 ≤ b0 c) && decide (b0 c ≤ 57))
  else if k = 2 then decide (c.length = 1) && ((decide (65 ≤ b0 c) && decide (b0 c ≤ 90)) || (decide (97 ≤ b0 c) && decide (b0 c ≤ 122)))
  else if k = 3 then decide (c.length = 1) && (decide (65 ≤ b0 c) && decide (b0 c ≤ 90))
  else if k = 4 then decide (b0 c ≠ 32) else false
/-- The cluster as the slot takes it. -/
def lowB (c : List UInt8) : Bool := decide (c.length = 1) && (decide (97 ≤ b0 c) && decide (b0 c ≤ 122))
def takenB (k : Nat) (c : List UInt8) : List UInt8 := if k = 3 ∧ lowB c = true then [byteB (b0 c - 32).toNat] else c
/-- Do the first slots take these clusters? -/
def allFit : List Nat → List (List UInt8) → Bool
  | _, [] => true
  | [], _ :: _ => false
  | k :: ks, c :: cs => fitsB k c && allFit ks cs
def fitsL (L : PL) (f : List UInt8) : Bool :=
  !decide (slotsL L = []) && (!decide ((slotsL L).length < (cutL f).length) && (decide (flatL f = f) && allFit (slotsL L) (cutL f)))
def wholeL (L : PL) (f : List UInt8) : Bool := fitsL L f && decide ((cutL f).length = (slotsL L).length)
def sameL (L : PL) (f : List UInt8) : List UInt8 := if L = [] then [] else f
def pushL (L : PL) (f s : List UInt8) : List UInt8 × Bool :=
  if fitsL L f = true ∧ (cutL f).length < (slotsL L).length ∧ isCl s = true then
    if fitsB (nth 0 (slotsL L) (cutL f).length) (takenB (nth 0 (slotsL L) (cutL f).length) s) = true then (f ++ takenB (nth 0 (slotsL L) (cutL f).length) s, true) else (f, false)
  else (sameL L f, false)
def backL (L : PL) (f : List UInt8) : List UInt8 :=
  if fitsL L f = true ∧ 0 < (cutL f).length then f.take (f.length - (nth [] (cutL f) ((cutL f).length - 1)).length) else sameL L f
/-- The place behind the n-th slot. -/
def behN : PL → Nat → Nat
  | [], _ => 0
  | _ :: _, 0 => 0
  | p :: t, n + 1 => 1 + behN t (if p.1 = 0 then n + 1 else n)
/-- The place of the slot behind n slots. -/
def atN : PL → Nat → Nat
  | [], _ => 0
  | p :: t, n => if p.1 = 0 then 1 + atN t n else if n = 0 then 0 else 1 + atN t (n - 1)
def atL (L : PL) (f : List UInt8) : Nat := if fitsL L f = true then atN L (cutL f).length else 0
/-- Over how many of these pieces does a feed go, that are no slots and other than c? -/
def skipF : PL → List UInt8 → Nat
  | [], _ => 0
  | p :: t, c => if p.1 = 0 ∧ p.2 ≠ c then 1 + skipF t c else 0
def feedR (L : PL) : List (List UInt8) → List UInt8 → Nat → List UInt8
  | [], f, _ => f
  | c :: t, f, a =>
    if L.length ≤ a + skipF (L.drop a) c then f
    else if (nth pd L (a + skipF (L.drop a) c)).1 = 0 then feedR L t f (a + skipF (L.drop a) c + 1)
    else if (pushL L f c).2 = true then feedR L t (pushL L f c).1 (a + skipF (L.drop a) c + 1)
    else feedR L t f (a + skipF (L.drop a) c)
def feedL (L : PL) (f t : List UInt8) : List UInt8 := if fitsL L f = true then feedR L (cutL (flatL t)) f (behN L (cutL f).length) else sameL L f
def showS (st : List (List UInt8) × List UInt8) (p : Nat × List UInt8) : List (List UInt8) × List UInt8 :=
  if p.1 = 0 then (st.1, st.2 ++ p.2) else match st.1 with
    | [] => ([], st.2 ++ [95])
    | x :: t => (t, st.2 ++ x)
def showL (L : PL) (f : List UInt8) : List UInt8 := if fitsL L f = true then (L.foldl showS (cutL f, [])).2 else []
def readT (L : PL) (c : List (List UInt8)) : List UInt8 := (L.zip c).flatMap fun p => if p.1.1 = 0 then [] else p.2
def readL (L : PL) (t : List UInt8) : List UInt8 × Bool :=
  if 0 < L.length ∧ (cutL t).length = L.length ∧ wholeL L (readT L (cutL t)) = true ∧ showL L (readT L (cutL t)) = t then (readT L (cutL t), true) else ([], false)
/-- What abides in a mask's pieces. -/
structure PLok (L : PL) : Prop where
  len : L.length ≤ 300
  clu : ∀ p ∈ L, Clu p.2
  sort : ∀ p ∈ L, p.1 = 0 ∨ p.1 = sortB p.2
theorem slotsL_nil : slotsL [] = [] := rfl
theorem slotsL_snoc (L : PL) (p : Nat × List UInt8) : slotsL (L ++ [p]) = slotsL L ++ (if p.1 = 0 then [] else [p.1]) := by simp [slotsL]
theorem slotsL_len (L : PL) : (slotsL L).length ≤ L.length := by
  induction L with
  | nil => simp [slotsL]
  | cons p t ih =>
    have : slotsL (p :: t) = (if p.1 = 0 then [] else [p.1]) ++ slotsL t := by simp [slotsL]
    rw [this, List.length_append, List.length_cons]
    split <;> simp <;> omega
theorem slotStrs_snoc (L : PL) (p : Nat × List UInt8) : slotStrs (L ++ [p]) = slotStrs L ++ (if p.1 = 0 then [] else [p.2]) := by simp [slotStrs]
theorem slotStrs_len (L : PL) : (slotStrs L).length = (slotsL L).length := by
  induction L with
  | nil => rfl
  | cons p t ih =>
    have h1 : slotsL (p :: t) = (if p.1 = 0 then [] else [p.1]) ++ slotsL t := by simp [slotsL]
    have h2 : slotStrs (p :: t) = (if p.1 = 0 then [] else [p.2]) ++ slotStrs t := by simp [slotStrs]
    rw [h1, h2, List.length_append, List.length_append, ih]
    split <;> simp
theorem take_snoc (L : PL) (k : Nat) (h : k < L.length) : L.take (k + 1) = L.take k ++ [nth pd L k] := by
  rw [List.take_succ_eq_append_getElem h, nth_eq _ _ _ h]
theorem take_snoc' (L : List (List UInt8)) (k : Nat) (h : k < L.length) : L.take (k + 1) = L.take k ++ [nth [] L k] := by
  rw [List.take_succ_eq_append_getElem h, nth_eq _ _ _ h]
/-- The slots' letters and their sorts. -/
theorem slot_sort {L : PL} (h : PLok L) : slotsL L = (slotStrs L).map sortB := by
  have : ∀ T : PL, (∀ p ∈ T, p.1 = 0 ∨ p.1 = sortB p.2) → slotsL T = (slotStrs T).map sortB := by
    intro T hT
    induction T with
    | nil => rfl
    | cons p t ih =>
      have h1 : slotsL (p :: t) = (if p.1 = 0 then [] else [p.1]) ++ slotsL t := by simp [slotsL]
      have h2 : slotStrs (p :: t) = (if p.1 = 0 then [] else [p.2]) ++ slotStrs t := by simp [slotStrs]
      rw [h1, h2, List.map_append, ih (fun q hq => hT q (List.mem_cons_of_mem _ hq))]
      split
      · rfl
      · rename_i hp
        rcases hT p (List.mem_cons_self ..) with h0 | h0
        · exact absurd h0 hp
        · simp [h0]
  exact this L h.sort
end Go.Proofs.Ytmdpmjabjijjiaa
