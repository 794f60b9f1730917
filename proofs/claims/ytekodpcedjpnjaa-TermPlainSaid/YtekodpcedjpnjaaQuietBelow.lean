/- Regions that draw their order, at the class of all worlds that are as they were below a block. -/
import Derived.Test.YtekodpcedjpnjaaBase
import Derived.Deep.QuietTactic
import Derived.Shelf.RegionOpenPlain
namespace Go.Proofs.Ytekodpcedjpnjaa
set_option linter.unusedVariables false
set_option linter.unusedSimpArgs false
open Go.RowKit
/-- A world that is as w was below B. -/
structure BW (B : Nat) (w : World) where
  W : World
  h : Below B w W
instance instBW (B : Nat) (w : World) : Nonempty (BW B w) := ⟨⟨w, Below.refl _ _⟩⟩
theorem wp_region_bw {P : Program} {id : Nat} {Q : Exit → Act → World → Prop} {a : Act} {w : World} {l : List Oper} (B : Nat) (hm : P.follows .mixedOrders = true) (hB : Region.lexB .any l.toArray = true)
    (h : wpQuiet P l.toArray (fun w' => ∃ p : BW B w, w' = p.W) (fun a' => ∀ w', (∃ p : BW B w, w' = p.W) → Q .normal a' w') l a) : (Code.region id l.toArray true).wp P Q a w :=
  wp_region_quiet (C := fun w' => ∃ p : BW B w, w' = p.W) hm hB ⟨⟨{ w with drawn := w.drawn + 1 }, ⟨rfl, rfl, rfl, Nat.le_refl _, fun _ _ => rfl⟩⟩, rfl⟩ (by simpa using h)
theorem Calls.bw_of {P : Program} {f : FuncId} {args : Array Value} {B : Nat} {w : World} {p : BW B w} {v : Value} (hB : B ≤ w.heap.size)
    (h : Calls P f args p.W fun e w' => e = .returned v ∧ Below p.W.heap.size p.W w') : Calls P f args p.W fun e w'' => e = .returned v ∧ ∃ q : BW B w, w'' = q.W :=
  h.mono fun _ _ ⟨he, hb⟩ => ⟨he, ⟨_, bto p.h hb (Nat.le_trans hB p.h.size)⟩, rfl⟩
theorem BW.cell {B : Nat} {w : World} (p : BW B w) {a : Addr} {v : Value} (hb : a.block < B) (h : w.cell? a = some v) : p.W.cell? a = some v := (p.h.cell hb).trans h
end Go.Proofs.Ytekodpcedjpnjaa
