/- The program's terminal: between, plain, styled. No condition. The program's terminal: numbers (the iterator), firstTwo. No condition. The program's terminal: firstTwo, modes. No condition. The program's terminal: modes, and obey of a style. No condition. The program's terminal: obey. No condition but that the counters are not at their ends. The program's terminal: obey, of moves and erasing; of styles. No condition but that the counters are not at their ends. The program's terminal: obey, of styles; obey. No condition but that the counters are not at their ends. The program's terminal: sequence. No condition but that the counters are not at their ends. The program's terminal: escape, take. No condition but that the counters are not at their ends. The program's terminal: the bytes that wait: came, taken. No condition but that they are not too many. The program's terminal: made, Write. No condition but that the counters are not at their ends and the bytes not too many. The program's terminal: New, and what it tells of itself. No condition. The law's example of a terminal: awake is true. No condition. -/
import Derived.Deep.RegionHeldLaw
import Derived.Deep.DeepCutAuto
import Derived.OwnWalkIn
import Derived.Deep.CutBlock
import Derived.Laws.AppendOwnNone
import Derived.Lib.SlBytesConst
import Derived.Test.YtjkajojjehgmdaaGreatRE02
import Derived.Test.YtjkajojjehgmdaaGreatRE03
import Derived.Test.YtjkajojjehgmdaaGreatRE04
import Derived.Test.YtjkajojjehgmdaaGreatRE07
import Derived.Test.YtjkajojjehgmdaaGreatRE10
import Derived.Test.YtjkajojjehgmdaaGreatRE11
import Derived.Test.YtjkajojjehgmdaaGreatRE13
import Derived.Test.YtjkajojjehgmdaaGreatRE22
set_option linter.unusedVariables false
set_option linter.unusedSimpArgs false
namespace Go.Proofs.YtjkajojjehgmdaaGreat
open Go.RowKit Go.Maps
def okPl (c : UInt8) : Bool := decide (c = 59) || decide (48 ≤ c.toNat ∧ c.toNat ≤ 57)
theorem plainB_drop (l : List UInt8) (k : Nat) (h : k < l.length) : plainB (l.drop k) = (okPl (nth 0 l k) && plainB (l.drop (k + 1))) := by
 rw [List.drop_eq_getElem_cons h, nth_eq _ _ _ h]
 rfl
theorem okPl_nat (c : UInt8) : okPl c = (decide (c.toNat = 59) || decide (48 ≤ c.toNat ∧ c.toNat ≤ 57)) := by
 unfold okPl
 congr 1
 rw [decide_eq_decide]
 exact ⟨fun h => by rw [h]; rfl, fun h => UInt8.toNat_inj.1 h⟩
end Go.Proofs.YtjkajojjehgmdaaGreat
namespace Go.Proofs.YtjkajojjehgmdaaGreat
open Go.RowKit Go.Shelf Go.Maps
attribute [local go_sem] Oper.semAt_some
theorem Only.own {S : List Nat} {w W W' : World} {row : Option Nat} {B : Nat} (h : Only S w W) (hB : w.heap.size ≤ B) (hg : W.grownBy W' row) (hr : ∀ r, row = some r → B ≤ r ∧ ∃ o : Obj, W.heap[r]? = some o ∧ o.isCells = false) : Only S w W' :=
 ⟨hg.os.trans h.os, hg.tape.trans h.tape, hg.output.trans h.output, Nat.le_trans h.size hg.size, fun k hk hs => (hg.block k (Nat.lt_of_lt_of_le hk h.size) (fun e => by have := (hr k e.symm).1; omega)).trans (h.block k hk hs)⟩
theorem num_ge (l : List UInt8) (a : Nat) : ∃ x t, numsT a l = x :: t := by
 induction l generalizing a with
 | nil => exact ⟨_, _, rfl⟩
 | cons c l ih =>
  unfold numsT
  split
  ·exact ⟨_, _, rfl⟩
  ·exact ih _
theorem numsT_le : ∀ (l : List UInt8) (a : Nat), a ≤ 9999 → ∀ x ∈ numsT a l, x ≤ 9999
 | [], a, h, x, hx => by rw [numsT, List.mem_singleton] at hx; omega
 | c :: l, a, h, x, hx => by
  unfold numsT at hx
  split at hx
  ·rcases List.mem_cons.1 hx with h1 | h1
   ·omega
   ·exact numsT_le l 0 (by omega) x h1
  ·exact numsT_le l _ (by omega) x hx
theorem nums_at (l : List UInt8) (k a : Nat) (h : k < l.length) : numsT a (l.drop k) = if (nth 0 l k).toNat = 59 then a :: numsT 0 (l.drop (k + 1)) else numsT (min 9999 (10 * a + ((nth 0 l k).toNat - 48))) (l.drop (k + 1)) := by
 rw [List.drop_eq_getElem_cons h, nth_eq _ _ _ h]
 have e : ((l[k]).toNat = 59) ↔ (l[k] = 59) := ⟨fun h => UInt8.toNat_inj.1 h, fun h => by rw [h]; rfl⟩
 conv => lhs; unfold numsT
 by_cases h1 : l[k] = 59
 ·rw [if_pos h1, if_pos (e.2 h1)]
 ·rw [if_neg h1, if_neg (fun h2 => h1 (e.1 h2))]
end Go.Proofs.YtjkajojjehgmdaaGreat
namespace Go.Proofs.YtjkajojjehgmdaaGreat
open Go.RowKit Go.Shelf Go.Maps
attribute [local go_sem] Oper.semAt_some
end Go.Proofs.YtjkajojjehgmdaaGreat
namespace Go.Proofs.YtjkajojjehgmdaaGreat
open Go.RowKit Go.Shelf Go.Maps
attribute [local go_sem] Oper.semAt_some
end Go.Proofs.YtjkajojjehgmdaaGreat
namespace Go.Proofs.YtjkajojjehgmdaaGreat
open Go.RowKit Go.Shelf Go.Maps
attribute [local go_sem] Oper.semAt_some
def TS.sty (t : TS) (n : Nat) : TS := { t with y := styT t.y n }
theorem Bys.tail {W : World} {g off : Nat} {c : UInt8} {r : List UInt8} (h : Bys W g off (c :: r)) : Bys W g (off + 1) r :=
 ⟨h.lt, fun j hj => by
  have := h.at_ (j + 1) (by simpa using hj)
  rw [show off + (j + 1) = off + 1 + j by omega] at this
  rw [this]; rfl⟩
theorem Bys.any {W : World} {g off : Nat} {c : UInt8} (h : Bys W g off [c]) (k : Nat) : Bys W g k [] := ⟨h.lt, fun j hj => by simp at hj⟩
theorem Bys.rest {W : World} {g off n cap : Nat} {c : UInt8} {r : List UInt8} (h : Bys W g off (c :: r)) (hn : r.length + 1 = n) (hc : n ≤ cap) : Bys W g (if cap = 1 then off else off + 1) r := by
 split
 ·have : r = [] := List.eq_nil_of_length_eq_zero (by omega)
  subst this
  exact h.any _
 ·exact h.tail
end Go.Proofs.YtjkajojjehgmdaaGreat
namespace Go.Proofs.YtjkajojjehgmdaaGreat
open Go.RowKit Go.Shelf Go.Maps
attribute [local go_sem] Oper.semAt_some
end Go.Proofs.YtjkajojjehgmdaaGreat
namespace Go.Proofs.YtjkajojjehgmdaaGreat
open Go.RowKit Go.Shelf Go.Maps
attribute [local go_sem] Oper.semAt_some
end Go.Proofs.YtjkajojjehgmdaaGreat
namespace Go.Proofs.YtjkajojjehgmdaaGreat
open Go.RowKit Go.Shelf Go.Maps
theorem span_at (f : UInt8 → Bool) (r : List UInt8) (k : Nat) (h : k < r.length) : spanN f (r.drop k) = if f (nth 0 r k) then spanN f (r.drop (k + 1)) + 1 else 0 := by
 rw [List.drop_eq_getElem_cons h, nth_eq _ _ _ h]
 rfl
theorem span_end (f : UInt8 → Bool) (r : List UInt8) (k : Nat) (h : r.length ≤ k) : spanN f (r.drop k) = 0 := by rw [List.drop_eq_nil_of_le h]; rfl
theorem parB_nat (c : UInt8) : parB c = decide ((48 : Int) ≤ (c.toNat : Int) ∧ (c.toNat : Int) ≤ 63) := by unfold parB; exact decide_eq_decide.2 (by omega)
theorem midB_nat (c : UInt8) : midB c = decide ((32 : Int) ≤ (c.toNat : Int) ∧ (c.toNat : Int) ≤ 47) := by unfold midB; exact decide_eq_decide.2 (by omega)
theorem endB_nat (c : UInt8) : endB c = decide ((64 : Int) ≤ (c.toNat : Int) ∧ (c.toNat : Int) ≤ 126) := by unfold endB; exact decide_eq_decide.2 (by omega)
theorem Bys.at2 {W : World} {g off : Nat} {c d : UInt8} {r : List UInt8} (h : Bys W g off (c :: d :: r)) {k : Nat} (h2 : 2 ≤ k) (hk : k < r.length + 2) : W.cell? ⟨g, off + k, none⟩ = some (.int .u8 ((nth 0 r (k - 2)).toNat : Int)) := by
 have := h.at_ k (by simpa using hk)
 obtain ⟨j, rfl⟩ : ∃ j, k = j + 2 := ⟨k - 2, by omega⟩
 rw [this]
 rfl
theorem first_ctl (t : TS) (c : UInt8) (r : List UInt8) (h27 : c.toNat ≠ 27) (h : c.toNat < 32 ∨ c.toNat = 127) : t.first (c :: r) = (t.control c.toNat, 1) := by
 unfold TS.first
 dsimp only
 rw [if_neg h27, if_pos h]
theorem first_more (t : TS) (c : UInt8) (r : List UInt8) (h27 : c.toNat ≠ 27) (h : ¬ (c.toNat < 32 ∨ c.toNat = 127)) (hm : moreL (c :: r) = true) : t.first (c :: r) = (t, 0) := by
 unfold TS.first
 dsimp only
 rw [if_neg h27, if_neg h, if_pos hm]
theorem first_one (t : TS) (c : UInt8) (r : List UInt8) (h27 : c.toNat ≠ 27) (h : ¬ (c.toNat < 32 ∨ c.toNat = 127)) (hm : moreL (c :: r) = false) : t.first (c :: r) = (t.rune (stepL (c :: r)).1, (stepL (c :: r)).2) := by
 unfold TS.first
 dsimp only
 rw [if_neg h27, if_neg h, if_neg (by rw [hm]; simp)]
def Held (W : World) (n₀ : Nat) (hv : Value) (l : List UInt8) : Prop := W.ownsRow n₀ 5 1 hv l.length (u8v l)
theorem Held.type {W : World} {n₀ : Nat} {hv : Value} {l : List UInt8} (h : Held W n₀ hv l) : ∀ k, hv.ownBlock = some k → n₀ ≤ k ∧ ∃ cur, W.heap[k]? = some (.cells cur 5 (0, 0)) := own_cells h
theorem Held.keep {W W' : World} {n₀ : Nat} {hv : Value} {l : List UInt8} {S : List Nat} (h : Held W n₀ hv l) (o : Only S W W') (hS : ∀ k, hv.ownBlock = some k → k ∉ S) : Held W' n₀ hv l := by
 rcases h with ⟨h0, h1 | ⟨g, cap, cur, h1, hg, hc, h2, h3, h4, h5⟩⟩
 ·exact ⟨h0, .inl h1⟩
 ·subst h1
  exact ⟨h0, .inr ⟨g, cap, cur, rfl, hg, o.heap hc (hS g rfl), h2, h3, h4, h5⟩⟩
theorem Held.bys {W : World} {n₀ g n c : Nat} {l : List UInt8} (h : Held W n₀ (.slice (some ⟨g, 0, none⟩) n c) l) : Bys W g 0 l ∧ l.length = n ∧ n ≤ c ∧ c ≤ maxLen := by
 have hs := own_shape h
 rcases hs with ⟨h1, _⟩ | ⟨g', c', h1, h2, h3, h4⟩
 ·cases h1
 ·simp only [Value.slice.injEq, Option.some.injEq, Addr.mk.injEq, true_and, and_true] at h1
  obtain ⟨rfl, rfl, rfl⟩ := h1
  obtain ⟨hr, _, hm⟩ := own_row_at h
  refine ⟨⟨h4, fun j hj => ?_⟩, rfl, h2, hm⟩
  obtain ⟨b, off, e, hb, hc⟩ := hr j (by simp [u8v]; exact hj)
  simp only [Option.some.injEq, Addr.mk.injEq] at e
  obtain ⟨rfl, rfl, _⟩ := e
  rw [hc]
  unfold u8v
  rw [nth_map _ 0 _ _ hj]
theorem bys_news {W : World} {g off : Nat} {l : List UInt8} (h : Bys W g off l) : ∀ j u, (u8v l)[j]? = some u → W.cell? ((⟨g, off, none⟩ : Addr).add j) = some u := fun j u hj => by
 have hl : j < l.length := by have := (List.getElem?_eq_some_iff.1 hj).1; simpa [u8v] using this
 have h1 := h.at_ j hl
 rw [Go.WideShapes.add_plain, h1, ← hj]
 unfold u8v
 rw [List.getElem?_map, List.getElem?_eq_getElem hl, nth_eq _ _ _ hl]
 rfl
theorem u8v_app (a b : List UInt8) : u8v (a ++ b) = u8v a ++ u8v b := by simp [u8v]
end Go.Proofs.YtjkajojjehgmdaaGreat
