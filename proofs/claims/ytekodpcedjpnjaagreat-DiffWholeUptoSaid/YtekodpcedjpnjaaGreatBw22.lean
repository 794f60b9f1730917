/- The program's terminal: obey. No condition but that the counters are not at their ends. The program's terminal: obey, of moves and erasing; of styles. No condition but that the counters are not at their ends. The program's terminal: obey, of styles; obey. No condition but that the counters are not at their ends. The program's terminal: sequence. No condition but that the counters are not at their ends. The program's terminal: escape, take. No condition but that the counters are not at their ends. -/
import Derived.Deep.CutBlock
import Derived.Test.YtekodpcedjpnjaaGreatBw20
import Derived.Test.YtekodpcedjpnjaaGreatBw21
namespace Go.Proofs.YtekodpcedjpnjaaGreat
set_option linter.unusedVariables false
set_option linter.unusedSimpArgs false
open Go.RowKit Go.Shelf Go.Maps
attribute [local go_sem] Oper.semAt_some
def TS.sty (t : TS) (n : Nat) : TS := { t with y := styT t.y n }
theorem TmAt.sty {W : World} {b p q : Nat} {hv : Value} {t : TS} (a : TmAt W b p q hv t) (n : Nat) :
    TmAt (((((W.setCell ⟨b, 4, none⟩ (.bool (styT t.y n).b)).setCell ⟨b, 5, none⟩ (.bool (styT t.y n).u)).setCell ⟨b, 6, none⟩ (.bool (styT t.y n).i)).setCell ⟨b, 7, none⟩ (.int .i64 (styT t.y n).f)).setCell ⟨b, 8, none⟩ (.int .i64 (styT t.y n).g)) b p q hv (t.sty n) ∧
    Only [b] W (((((W.setCell ⟨b, 4, none⟩ (.bool (styT t.y n).b)).setCell ⟨b, 5, none⟩ (.bool (styT t.y n).u)).setCell ⟨b, 6, none⟩ (.bool (styT t.y n).i)).setCell ⟨b, 7, none⟩ (.int .i64 (styT t.y n).f)).setCell ⟨b, 8, none⟩ (.int .i64 (styT t.y n).g)) := by
  obtain ⟨z, hz⟩ : ∃ z, z = styT t.y n := ⟨_, rfl⟩
  unfold TS.sty
  rw [← hz]
  exact ⟨((((a.put 4 (.bool z.b) hv { t with y := { t.y with b := z.b } } rfl rfl rfl rfl).put 5 (.bool z.u) hv { t with y := { t.y with b := z.b, u := z.u } } rfl rfl rfl rfl).put 6 (.bool z.i) hv { t with y := { t.y with b := z.b, u := z.u, i := z.i } } rfl rfl rfl rfl).put 7 (.int .i64 z.f) hv { t with y := { t.y with b := z.b, u := z.u, i := z.i, f := z.f } } rfl rfl rfl rfl).put 8 (.int .i64 z.g) hv { t with y := z } rfl rfl rfl rfl,
    ((((set_only _ _ _ _).trans (set_only _ _ _ _)).trans (set_only _ _ _ _)).trans (set_only _ _ _ _)).trans (set_only _ _ _ _)⟩
theorem Bys.tail {W : World} {g off : Nat} {c : UInt8} {r : List UInt8} (h : Bys W g off (c :: r)) : Bys W g (off + 1) r :=
  ⟨h.lt, fun j hj => by
    have := h.at_ (j + 1) (by simpa using hj)
    rw [show off + (j + 1) = off + 1 + j by omega] at this
    rw [this]; rfl⟩
theorem Bys.any {W : World} {g off : Nat} {c : UInt8} (h : Bys W g off [c]) (k : Nat) : Bys W g k [] := ⟨h.lt, fun j hj => by simp at hj⟩
/-- The bytes behind the first, wherever their slice is said to lie. -/
theorem Bys.rest {W : World} {g off n cap : Nat} {c : UInt8} {r : List UInt8} (h : Bys W g off (c :: r)) (hn : r.length + 1 = n) (hc : n ≤ cap) : Bys W g (if cap = 1 then off else off + 1) r := by
  split
  · have : r = [] := List.eq_nil_of_length_eq_zero (by omega)
    subst this
    exact h.any _
  · exact h.tail
end Go.Proofs.YtekodpcedjpnjaaGreat
namespace Go.Proofs.YtekodpcedjpnjaaGreat
set_option linter.unusedVariables false
set_option linter.unusedSimpArgs false
open Go.RowKit Go.Shelf Go.Maps
attribute [local go_sem] Oper.semAt_some
end Go.Proofs.YtekodpcedjpnjaaGreat
namespace Go.Proofs.YtekodpcedjpnjaaGreat
set_option linter.unusedVariables false
set_option linter.unusedSimpArgs false
open Go.RowKit Go.Shelf Go.Maps
attribute [local go_sem] Oper.semAt_some
end Go.Proofs.YtekodpcedjpnjaaGreat
namespace Go.Proofs.YtekodpcedjpnjaaGreat
set_option linter.unusedVariables false
set_option linter.unusedSimpArgs false
open Go.RowKit Go.Shelf Go.Maps
theorem span_at (f : UInt8 → Bool) (r : List UInt8) (k : Nat) (h : k < r.length) : spanN f (r.drop k) = if f (nth 0 r k) then spanN f (r.drop (k + 1)) + 1 else 0 := by
  rw [List.drop_eq_getElem_cons h, nth_eq _ _ _ h]
  rfl
theorem span_end (f : UInt8 → Bool) (r : List UInt8) (k : Nat) (h : r.length ≤ k) : spanN f (r.drop k) = 0 := by rw [List.drop_eq_nil_of_le h]; rfl
theorem parB_nat (c : UInt8) : parB c = decide ((48 : Int) ≤ (c.toNat : Int) ∧ (c.toNat : Int) ≤ 63) := by unfold parB; exact decide_eq_decide.2 (by omega)
theorem midB_nat (c : UInt8) : midB c = decide ((32 : Int) ≤ (c.toNat : Int) ∧ (c.toNat : Int) ≤ 47) := by unfold midB; exact decide_eq_decide.2 (by omega)
theorem endB_nat (c : UInt8) : endB c = decide ((64 : Int) ≤ (c.toNat : Int) ∧ (c.toNat : Int) ≤ 126) := by unfold endB; exact decide_eq_decide.2 (by omega)
theorem Bys.at2 {W : World} {g off : Nat} {c d : UInt8} {r : List UInt8} (h : Bys W g off (c :: d :: r)) {k : Nat} (h2 : 2 ≤ k) (hk : k < r.length + 2) : W.cell? ⟨g, off + k, none⟩ = some (.int .u8 ((nth 0 r (k - 2)).toNat : Int)) := by
  have := h.at_ k (by simpa using hk)
  obtain ⟨j, rfl⟩ : ∃ j, k = j + 2 := ⟨k - 2, by omega⟩
  rw [this]
  rfl
end Go.Proofs.YtekodpcedjpnjaaGreat
namespace Go.Proofs.YtekodpcedjpnjaaGreat
set_option linter.unusedVariables false
set_option linter.unusedSimpArgs false
open Go.RowKit Go.Shelf Go.Maps
theorem first_ctl (t : TS) (c : UInt8) (r : List UInt8) (h27 : c.toNat ≠ 27) (h : c.toNat < 32 ∨ c.toNat = 127) : t.first (c :: r) = (t.control c.toNat, 1) := by
  unfold TS.first
  dsimp only
  rw [if_neg h27, if_pos h]
theorem first_more (t : TS) (c : UInt8) (r : List UInt8) (h27 : c.toNat ≠ 27) (h : ¬ (c.toNat < 32 ∨ c.toNat = 127)) (hm : moreL (c :: r) = true) : t.first (c :: r) = (t, 0) := by
  unfold TS.first
  dsimp only
  rw [if_neg h27, if_neg h, if_pos hm]
theorem first_one (t : TS) (c : UInt8) (r : List UInt8) (h27 : c.toNat ≠ 27) (h : ¬ (c.toNat < 32 ∨ c.toNat = 127)) (hm : moreL (c :: r) = false) : t.first (c :: r) = (t.rune (stepL (c :: r)).1, (stepL (c :: r)).2) := by
  unfold TS.first
  dsimp only
  rw [if_neg h27, if_neg h, if_neg (by rw [hm]; simp)]
end Go.Proofs.YtekodpcedjpnjaaGreat
