/- Regions that draw their order, from a world that is as another was below a block. No condition. -/
import Derived.Test.YtmdpmjabjijjiaaQuietBelow
import Derived.Test.YtmdpmjabjijjiaaLexFast
import Derived.BigQuiet
namespace Go.Proofs.Ytmdpmjabjijjiaa
set_option linter.unusedVariables false
set_option linter.unusedSimpArgs false
open Go.RowKit
theorem wp_region_bwFrom {P : Program} {id : Nat} {Q : Exit → Act → World → Prop} {a : Act} {wc : World} {l : List Oper} (B : Nat) (w : World) (h0 : Below B w wc) (hm : P.follows .mixedOrders = true) (hB : Region.lexB .any l.toArray = true)
    (h : wpQuiet P l.toArray (fun w' => ∃ p : BW B w, w' = p.W) (fun a' => ∀ w', (∃ p : BW B w, w' = p.W) → Q .normal a' w') l a) : (Code.region id l.toArray true).wp P Q a wc :=
  wp_region_quiet (C := fun w' => ∃ p : BW B w, w' = p.W) hm hB ⟨⟨{ wc with drawn := wc.drawn + 1 }, h0.trans ⟨rfl, rfl, rfl, Nat.le_refl _, fun _ _ => rfl⟩⟩, rfl⟩ (by simpa using h)
end Go.Proofs.Ytmdpmjabjijjiaa
