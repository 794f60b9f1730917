/- The law FrameChecks: few: a frame, not larger than is looked at. No condition. -/
import Derived.Still
import Derived.Deep.QuietTactic
import Derived.Shelf.RegionOpenPlain
import Derived.BigQuiet
import Derived.Test.YtekodpcedjpnjaaGreatRN01
import Derived.Test.YtekodpcedjpnjaaGreatRN07
import Derived.Test.YtekodpcedjpnjaaGreatRN10
import Derived.Test.YtekodpcedjpnjaaGreatRN18
import Derived.Test.YtekodpcedjpnjaaGreatRN20
import Derived.Test.YtekodpcedjpnjaaGreatRN31
import Derived.Test.YtekodpcedjpnjaaGreatRN32
set_option linter.unusedVariables false
set_option linter.unusedSimpArgs false
namespace Go.Proofs.YtekodpcedjpnjaaGreat
open Go.RowKit Go.Shelf Go.Maps
theorem CellsAt.take {W : World} {a : Option Addr} {n : Nat} {M : List GC} (h : CellsAt W a n M) (k : Nat) : CellsAt W a (M.take k).length (M.take k) :=
  ⟨rfl, fun i c hi => by
    rw [List.getElem?_take] at hi
    split at hi
    · exact h.at_ i c hi
    · cases hi⟩
end Go.Proofs.YtekodpcedjpnjaaGreat
namespace Go.Proofs.YtekodpcedjpnjaaGreat
open Go.RowKit Go.Shelf Go.Maps
theorem FBI.frozK {W : World} {F : Nat} {v : Value} {r c : Int} {s : Bool} (h : FBI W F v r c s) : ∀ j, W.frozen? ⟨F, j, none⟩ = false := fun j => by
  unfold FBI at h
  simp [World.frozen?, h]
theorem FBI.fillK {W : World} {b : Nat} {v : Value} {r c : Int} {s : Bool} (g : FBI W b v r c s) (v' : Value) (r' c' : Int) (s' : Bool) (X : World)
    (hX : (((W.setCell ⟨b, 0, none⟩ v').setCell ⟨b, 1, none⟩ (.int .i64 r')).setCell ⟨b, 2, none⟩ (.int .i64 c')).setCell ⟨b, 3, none⟩ (.bool s') = X) : FBI X b v' r' c' s' ∧ Only [b] W X := by
  subst hX
  refine ⟨?_, ((((Only.refl [b] W).setCell (.inl (by simp)) _).setCell (.inl (by simp)) _).setCell (.inl (by simp)) _).setCell (.inl (by simp)) _⟩
  unfold FBI at g ⊢
  simp only [World.setCell, Array.getElem?_modify, if_true, g, Option.map_some]
  rfl
theorem row_oneK (W : World) (v : Value) (t : TypeId) : ∀ (j : Nat) (u : Value), [v][j]? = some u → (W.alloc (.cells #[v] t)).cell? ((⟨W.heap.size, 0, none⟩ : Addr).add j) = some u := fun j u h => by
  have h0 := (cell_new_l W v t).1
  cases j with
  | zero =>
    simp only [List.getElem?_cons_zero, Option.some.injEq] at h
    subst h
    rw [Go.WideShapes.add_plain]; exact h0
  | succ j => simp at h
def FwS (B : Nat) (v : Value) (r c : Int) (s : Bool) (b o : Nat) (u : Value) (X : World) : Prop := FBI X B v r c s ∧ X.cell? ⟨b, o, none⟩ = some u
theorem FBI.setRows {W : World} {b : Nat} {v : Value} {r c : Int} {s : Bool} (g : FBI W b v r c s) (u : Value) : FBI (W.setCell ⟨b, 0, none⟩ u) b u r c s := by
  have := set_at g 0 u
  exact this
theorem FBI.oth {W : World} {b k o : Nat} {v : Value} {r c : Int} {s : Bool} (g : FBI W b v r c s) (h : b ≠ k) (u : Value) : FBI (W.setCell ⟨k, o, none⟩ u) b v r c s := (Below.heap_setCell _ _ _ _ (by exact h)).trans g
end Go.Proofs.YtekodpcedjpnjaaGreat
