/- The loads and stores of cells inside a fence; a region that only reads, inside a fence. No condition. -/
import Derived.Test.YtekodpcedjpnjaaGreatGMath
import Derived.OwnWalkIn
namespace Go.Proofs.YtekodpcedjpnjaaGreat
set_option linter.unusedVariables false
set_option linter.unusedSimpArgs false
open Go.RowKit
/-- A region that draws and only reads, inside a fence that lets all in: one walk of it. -/
theorem wpIn_region_reads04 {l₀ : Option Nat} {n : Nat} {P : Program} {id : Nat} {Q : Exit → Act → World → Prop} {a : Act} {w : World} {l : List Oper} (hm : P.follows .mixedOrders = true) (hB : Region.lexB .any l.toArray = true)
    (hd : noDefer l.toArray = true) (hq : ∀ a w, ¬ Q .outgrown a w)
    (h : wpQuiet P l.toArray (fun w' => ∃ m, w' = w.drewN m) (fun a' => ∀ w', (∃ m, w' = w.drewN m) → Q .normal a' w') l a) : (Code.region id l.toArray true).wpIn (wideAt l₀) n P Q a w :=
  wpIn_region_quiet (C := fun w' => ∃ m, w' = w.drewN m) hm hB hd hq ⟨1, rfl⟩ h
theorem GBlk.drewN {W : World} {q : Nat} {L : List GC} (b : GBlk W q L) (m : Nat) : GBlk (W.drewN m) q L := b
end Go.Proofs.YtekodpcedjpnjaaGreat
