/- Two cells compared; the law's example. -/
import Derived.Test.YtekodpcedjpnjaaGrid12
import Derived.Test.YtekodpcedjpnjaaGrid16
namespace Go.Proofs.Ytekodpcedjpnjaa
set_option linter.unusedVariables false
set_option linter.unusedSimpArgs false
open Go.RowKit Go.Maps
def awL0 : List GC := List.replicate 4 GC.blank
def awL1 : List GC := putG 4 1 awL0 0 1 ⟨#[87]⟩ 2 ⟨false, false, false, 0, 0⟩
def awL2 : List GC := putG 4 1 awL1 0 2 ⟨#[120]⟩ 1 ⟨true, false, false, 0, 0⟩
theorem aw_e1 : putErr 4 1 0 1 ⟨#[87]⟩ 2 = 0 := by kernel_rfl
theorem aw_e2 : putErr 4 1 0 2 ⟨#[120]⟩ 1 = 0 := by kernel_rfl
theorem aw_c1 : nth GC.zero awL2 (4 * (0 : Int).toNat + (1 : Int).toNat) = GC.blank := by kernel_rfl
theorem aw_c2 : nth GC.zero awL2 (4 * (0 : Int).toNat + (2 : Int).toNat) = ⟨⟨#[120]⟩, 1, ⟨true, false, false, 0, 0⟩⟩ := by kernel_rfl
theorem aw_t : S (trimL (textL (lineL awL2 4 (0 : Int).toNat))) = ⟨#[32, 32, 120]⟩ := by kernel_rfl
theorem aw_ok : GOk awL2 := by
  have h0 : GOk awL0 := GOk.replicate 4
  exact (h0.put _ _ _ _ _ _ _).put _ _ _ _ _ _ _
end Go.Proofs.Ytekodpcedjpnjaa
