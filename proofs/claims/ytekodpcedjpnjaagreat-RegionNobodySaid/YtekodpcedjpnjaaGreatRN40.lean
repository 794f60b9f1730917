/- The program's terminal: obey. No condition but that the counters are not at their ends. The program's terminal: obey, of moves and erasing; of styles. No condition but that the counters are not at their ends. The program's terminal: obey, of styles; obey. No condition but that the counters are not at their ends. The program's terminal: sequence. No condition but that the counters are not at their ends. The program's terminal: escape, take. No condition but that the counters are not at their ends. -/
import Derived.Deep.CutBlock
import Derived.Deep.RegionHeldLaw
import Derived.Deep.DeepCutAuto
import Derived.Test.YtekodpcedjpnjaaGreatRN05
import Derived.Test.YtekodpcedjpnjaaGreatRN07
import Derived.Test.YtekodpcedjpnjaaGreatRN15
import Derived.Test.YtekodpcedjpnjaaGreatRN18
import Derived.Test.YtekodpcedjpnjaaGreatRN25
import Derived.Test.YtekodpcedjpnjaaGreatRN27
import Derived.Test.YtekodpcedjpnjaaGreatRN39
set_option linter.unusedVariables false
set_option linter.unusedSimpArgs false
namespace Go.Proofs.YtekodpcedjpnjaaGreat
open Go.RowKit Go.Shelf Go.Maps
attribute [local go_sem] Oper.semAt_some
theorem Bys.tail {W : World} {g off : Nat} {c : UInt8} {r : List UInt8} (h : Bys W g off (c :: r)) : Bys W g (off + 1) r :=
  ⟨h.lt, fun j hj => by
    have := h.at_ (j + 1) (by simpa using hj)
    rw [show off + (j + 1) = off + 1 + j by omega] at this
    rw [this]; rfl⟩
theorem Bys.any {W : World} {g off : Nat} {c : UInt8} (h : Bys W g off [c]) (k : Nat) : Bys W g k [] := ⟨h.lt, fun j hj => by simp at hj⟩
theorem Bys.rest {W : World} {g off n cap : Nat} {c : UInt8} {r : List UInt8} (h : Bys W g off (c :: r)) (hn : r.length + 1 = n) (hc : n ≤ cap) : Bys W g (if cap = 1 then off else off + 1) r := by
  split
  · have : r = [] := List.eq_nil_of_length_eq_zero (by omega)
    subst this
    exact h.any _
  · exact h.tail
end Go.Proofs.YtekodpcedjpnjaaGreat
namespace Go.Proofs.YtekodpcedjpnjaaGreat
open Go.RowKit Go.Shelf Go.Maps
attribute [local go_sem] Oper.semAt_some
end Go.Proofs.YtekodpcedjpnjaaGreat
namespace Go.Proofs.YtekodpcedjpnjaaGreat
open Go.RowKit Go.Shelf Go.Maps
attribute [local go_sem] Oper.semAt_some
end Go.Proofs.YtekodpcedjpnjaaGreat
namespace Go.Proofs.YtekodpcedjpnjaaGreat
open Go.RowKit Go.Shelf Go.Maps
theorem span_at (f : UInt8 → Bool) (r : List UInt8) (k : Nat) (h : k < r.length) : spanN f (r.drop k) = if f (nth 0 r k) then spanN f (r.drop (k + 1)) + 1 else 0 := by
  rw [List.drop_eq_getElem_cons h, nth_eq _ _ _ h]
  rfl
theorem span_end (f : UInt8 → Bool) (r : List UInt8) (k : Nat) (h : r.length ≤ k) : spanN f (r.drop k) = 0 := by rw [List.drop_eq_nil_of_le h]; rfl
theorem parB_nat (c : UInt8) : parB c = decide ((48 : Int) ≤ (c.toNat : Int) ∧ (c.toNat : Int) ≤ 63) := by unfold parB; exact decide_eq_decide.2 (by omega)
theorem midB_nat (c : UInt8) : midB c = decide ((32 : Int) ≤ (c.toNat : Int) ∧ (c.toNat : Int) ≤ 47) := by unfold midB; exact decide_eq_decide.2 (by omega)
theorem endB_nat (c : UInt8) : endB c = decide ((64 : Int) ≤ (c.toNat : Int) ∧ (c.toNat : Int) ≤ 126) := by unfold endB; exact decide_eq_decide.2 (by omega)
theorem Bys.at2 {W : World} {g off : Nat} {c d : UInt8} {r : List UInt8} (h : Bys W g off (c :: d :: r)) {k : Nat} (h2 : 2 ≤ k) (hk : k < r.length + 2) : W.cell? ⟨g, off + k, none⟩ = some (.int .u8 ((nth 0 r (k - 2)).toNat : Int)) := by
  have := h.at_ k (by simpa using hk)
  obtain ⟨j, rfl⟩ : ∃ j, k = j + 2 := ⟨k - 2, by omega⟩
  rw [this]
  rfl
end Go.Proofs.YtekodpcedjpnjaaGreat
namespace Go.Proofs.YtekodpcedjpnjaaGreat
open Go.RowKit Go.Shelf Go.Maps
theorem first_ctl (t : TS) (c : UInt8) (r : List UInt8) (h27 : c.toNat ≠ 27) (h : c.toNat < 32 ∨ c.toNat = 127) : t.first (c :: r) = (t.control c.toNat, 1) := by
  unfold TS.first
  dsimp only
  rw [if_neg h27, if_pos h]
theorem first_more (t : TS) (c : UInt8) (r : List UInt8) (h27 : c.toNat ≠ 27) (h : ¬ (c.toNat < 32 ∨ c.toNat = 127)) (hm : moreL (c :: r) = true) : t.first (c :: r) = (t, 0) := by
  unfold TS.first
  dsimp only
  rw [if_neg h27, if_neg h, if_pos hm]
theorem first_one (t : TS) (c : UInt8) (r : List UInt8) (h27 : c.toNat ≠ 27) (h : ¬ (c.toNat < 32 ∨ c.toNat = 127)) (hm : moreL (c :: r) = false) : t.first (c :: r) = (t.rune (stepL (c :: r)).1, (stepL (c :: r)).2) := by
  unfold TS.first
  dsimp only
  rw [if_neg h27, if_neg h, if_neg (by rw [hm]; simp)]
end Go.Proofs.YtekodpcedjpnjaaGreat
