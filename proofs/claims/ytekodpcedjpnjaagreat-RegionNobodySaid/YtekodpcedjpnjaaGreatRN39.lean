/- The program's terminal: between, plain, styled. No condition. The program's terminal: numbers (the iterator), firstTwo. No condition. The program's terminal: firstTwo, modes. No condition. The program's terminal: modes, and obey of a style. No condition. -/
import Derived.Deep.RegionHeldLaw
import Derived.Deep.DeepCutAuto
import Derived.OwnWalkIn
import Derived.Test.YtekodpcedjpnjaaGreatRN04
import Derived.Test.YtekodpcedjpnjaaGreatRN05
import Derived.Test.YtekodpcedjpnjaaGreatRN07
import Derived.Test.YtekodpcedjpnjaaGreatRN15
import Derived.Test.YtekodpcedjpnjaaGreatRN18
import Derived.Test.YtekodpcedjpnjaaGreatRN25
import Derived.Test.YtekodpcedjpnjaaGreatRN27
set_option linter.unusedVariables false
set_option linter.unusedSimpArgs false
namespace Go.Proofs.YtekodpcedjpnjaaGreat
open Go.RowKit Go.Maps
def okPl (c : UInt8) : Bool := decide (c = 59) || decide (48 ≤ c.toNat ∧ c.toNat ≤ 57)
theorem plainB_drop (l : List UInt8) (k : Nat) (h : k < l.length) : plainB (l.drop k) = (okPl (nth 0 l k) && plainB (l.drop (k + 1))) := by
  rw [List.drop_eq_getElem_cons h, nth_eq _ _ _ h]
  rfl
theorem okPl_nat (c : UInt8) : okPl c = (decide (c.toNat = 59) || decide (48 ≤ c.toNat ∧ c.toNat ≤ 57)) := by
  unfold okPl
  congr 1
  rw [decide_eq_decide]
  exact ⟨fun h => by rw [h]; rfl, fun h => UInt8.toNat_inj.1 h⟩
end Go.Proofs.YtekodpcedjpnjaaGreat
namespace Go.Proofs.YtekodpcedjpnjaaGreat
open Go.RowKit Go.Shelf Go.Maps
attribute [local go_sem] Oper.semAt_some
theorem Only.own {S : List Nat} {w W W' : World} {row : Option Nat} {B : Nat} (h : Only S w W) (hB : w.heap.size ≤ B) (hg : W.grownBy W' row) (hr : ∀ r, row = some r → B ≤ r ∧ ∃ o : Obj, W.heap[r]? = some o ∧ o.isCells = false) : Only S w W' :=
  ⟨hg.os.trans h.os, hg.tape.trans h.tape, hg.output.trans h.output, Nat.le_trans h.size hg.size, fun k hk hs => (hg.block k (Nat.lt_of_lt_of_le hk h.size) (fun e => by have := (hr k e.symm).1; omega)).trans (h.block k hk hs)⟩
theorem num_ge (l : List UInt8) (a : Nat) : ∃ x t, numsT a l = x :: t := by
  induction l generalizing a with
  | nil => exact ⟨_, _, rfl⟩
  | cons c l ih =>
    unfold numsT
    split
    · exact ⟨_, _, rfl⟩
    · exact ih _
theorem numsT_le : ∀ (l : List UInt8) (a : Nat), a ≤ 9999 → ∀ x ∈ numsT a l, x ≤ 9999
  | [], a, h, x, hx => by rw [numsT, List.mem_singleton] at hx; omega
  | c :: l, a, h, x, hx => by
    unfold numsT at hx
    split at hx
    · rcases List.mem_cons.1 hx with h1 | h1
      · omega
      · exact numsT_le l 0 (by omega) x h1
    · exact numsT_le l _ (by omega) x hx
theorem nums_at (l : List UInt8) (k a : Nat) (h : k < l.length) : numsT a (l.drop k) = if (nth 0 l k).toNat = 59 then a :: numsT 0 (l.drop (k + 1)) else numsT (min 9999 (10 * a + ((nth 0 l k).toNat - 48))) (l.drop (k + 1)) := by
  rw [List.drop_eq_getElem_cons h, nth_eq _ _ _ h]
  have e : ((l[k]).toNat = 59) ↔ (l[k] = 59) := ⟨fun h => UInt8.toNat_inj.1 h, fun h => by rw [h]; rfl⟩
  conv => lhs; unfold numsT
  by_cases h1 : l[k] = 59
  · rw [if_pos h1, if_pos (e.2 h1)]
  · rw [if_neg h1, if_neg (fun h2 => h1 (e.1 h2))]
end Go.Proofs.YtekodpcedjpnjaaGreat
namespace Go.Proofs.YtekodpcedjpnjaaGreat
open Go.RowKit Go.Shelf Go.Maps
attribute [local go_sem] Oper.semAt_some
end Go.Proofs.YtekodpcedjpnjaaGreat
namespace Go.Proofs.YtekodpcedjpnjaaGreat
open Go.RowKit Go.Shelf Go.Maps
attribute [local go_sem] Oper.semAt_some
end Go.Proofs.YtekodpcedjpnjaaGreat
