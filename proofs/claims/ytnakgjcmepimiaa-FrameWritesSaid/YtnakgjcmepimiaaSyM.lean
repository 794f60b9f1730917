/- A style in a box. -/
import Derived.Test.YtnakgjcmepimiaaEMath
import Derived.Test.YtnakgjcmepimiaaProg
import Derived.KernelRfl
import Derived.Deep.DeepCutAuto
import Derived.Deep.RegionWith
import Derived.Maps.AppendAt
namespace Go.Proofs.Ytnakgjcmepimiaa
set_option linter.unusedVariables false
set_option linter.unusedSimpArgs false
open Go.RowKit Go.Maps
/-- A box that holds a style. -/
def StyBox (W : World) (r : Nat) (b u i : Bool) (f g : Int) : Prop := W.heap[r]? = some (.cells #[.bool b, .bool u, .bool i, .int .i64 f, .int .i64 g] 32 (0, 0))
theorem styBox_new (W : World) (b u i : Bool) (f g : Int) : StyBox (W.alloc (.cells #[.bool b, .bool u, .bool i, .int .i64 f, .int .i64 g] 32)) W.heap.size b u i f g := World.alloc_heap_new W _
theorem styBox_old {W W' : World} {r : Nat} {b u i : Bool} {f g : Int} {B : Nat} (h : StyBox W r b u i f g) (hb : Below B W W') (hr : r < B) : StyBox W' r b u i f g := (hb.block r hr).trans h
theorem StyBox.cells {W : World} {r : Nat} {b u i : Bool} {f g : Int} (h : StyBox W r b u i f g) : W.cell? ⟨r, 0, none⟩ = some (.bool b) ∧ W.cell? ⟨r, 1, none⟩ = some (.bool u) ∧ W.cell? ⟨r, 2, none⟩ = some (.bool i) ∧ W.cell? ⟨r, 3, none⟩ = some (.int .i64 f) ∧ W.cell? ⟨r, 4, none⟩ = some (.int .i64 g) ∧ ∀ j, W.frozen? ⟨r, j, none⟩ = false := by
  unfold StyBox at h
  unfold World.cell? World.frozen?
  dsimp only
  rw [h]
  simp
theorem set_at {W : World} {F : Nat} {c : Array Value} {t : TypeId} {fz : Nat × Nat} (h : W.heap[F]? = some (.cells c t fz)) (o : Nat) (v : Value) : (W.setCell ⟨F, o, none⟩ v).heap[F]? = some (.cells (c.setIfInBounds o v) t fz) := by
  simp [World.setCell, Array.getElem?_modify, h]
theorem set_other (W : World) (F o k : Nat) (v : Value) (h : k ≠ F) : (W.setCell ⟨F, o, none⟩ v).heap[k]? = W.heap[k]? := by
  simp [World.setCell, Array.getElem?_modify]; omega
theorem set_size (W : World) (F o : Nat) (v : Value) : (W.setCell ⟨F, o, none⟩ v).heap.size = W.heap.size := by simp [World.setCell]
structure Sy where
  b : Bool
  u : Bool
  i : Bool
  f : Int
  g : Int
def Sy.v (y : Sy) : Value := .agg #[.bool y.b, .bool y.u, .bool y.i, .int .i64 y.f, .int .i64 y.g]
def SyBox (W : World) (r : Nat) (y : Sy) : Prop := StyBox W r y.b y.u y.i y.f y.g
end Go.Proofs.Ytnakgjcmepimiaa
