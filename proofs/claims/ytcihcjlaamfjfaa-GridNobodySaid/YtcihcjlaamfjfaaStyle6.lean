/- The walk of Turned. -/
import Derived.Test.YtcihcjlaamfjfaaStyle5
namespace Go.Proofs.Ytcihcjlaamfjfaa
open Go.RowKit Go.Maps
def SyBox (W : World) (r : Nat) (y : Sy) : Prop := StyBox W r y.b y.u y.i y.f y.g
/-- The style at a box is written over. -/
theorem SyBox.set5 {W : World} {F : Nat} {y : Sy} (h : SyBox W F y) (z : Sy) :
    SyBox (((((W.setCell ⟨F, 0, none⟩ (.bool z.b)).setCell ⟨F, 1, none⟩ (.bool z.u)).setCell ⟨F, 2, none⟩ (.bool z.i)).setCell ⟨F, 3, none⟩ (.int .i64 z.f)).setCell ⟨F, 4, none⟩ (.int .i64 z.g)) F z := by
  unfold SyBox StyBox at h ⊢
  rw [set_at (set_at (set_at (set_at (set_at h _ _) _ _) _ _) _ _) _ _]
  rfl
theorem SyBox.set5_other {W : World} {F T : Nat} {y : Sy} (h : SyBox W T y) (hne : T ≠ F) (z : Sy) :
    SyBox (((((W.setCell ⟨F, 0, none⟩ (.bool z.b)).setCell ⟨F, 1, none⟩ (.bool z.u)).setCell ⟨F, 2, none⟩ (.bool z.i)).setCell ⟨F, 3, none⟩ (.int .i64 z.f)).setCell ⟨F, 4, none⟩ (.int .i64 z.g)) T y := by
  unfold SyBox StyBox at h ⊢
  rw [set_other _ _ _ _ _ hne, set_other _ _ _ _ _ hne, set_other _ _ _ _ _ hne, set_other _ _ _ _ _ hne, set_other _ _ _ _ _ hne]
  exact h
theorem obey_sy (y : Sy) (n : Int) (w : World) : Calls Try.prog 94 #[.agg #[.bool y.b, .bool y.u, .bool y.i, .int .i64 y.f, .int .i64 y.g], .int .i64 n] w fun e w' => e = .returned (.agg #[.bool (obey y n).b, .bool (obey y n).u, .bool (obey y n).i, .int .i64 (obey y n).f, .int .i64 (obey y n).g]) ∧ Below w.heap.size w w' := obey_any y.b y.u y.i y.f y.g n w
end Go.Proofs.Ytcihcjlaamfjfaa
