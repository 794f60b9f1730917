/- Scroll. -/
import Derived.Deep.RegionHeldLaw
import Derived.Deep.DeepCutAuto
import Derived.Test.YtekodpcedjpnjaaGreatBw09
namespace Go.Proofs.YtekodpcedjpnjaaGreat
set_option linter.unusedVariables false
set_option linter.unusedSimpArgs false
open Go.RowKit
theorem Only.same {W W' : World} {S : List Nat} (h1 : W'.os = W.os) (h2 : W'.tape = W.tape) (h3 : W'.output = W.output) (h4 : W'.heap = W.heap) : Only S W W' := ⟨h1, h2, h3, by rw [h4]; exact Nat.le_refl _, fun _ _ _ => by rw [h4]⟩
theorem GBlk.drew {W W0 : World} {q : Nat} {L : List GC} (b : GBlk W q L) (h4 : W0.heap = W.heap) : GBlk W0 q L := by unfold GBlk at b ⊢; rw [h4]; exact b
end Go.Proofs.YtekodpcedjpnjaaGreat
