/- The statement GridNobody of placardlaw04: for every input the law's call returns true and leaves its arguments as they were. The condition is the statement's own. -/
import Derived.Test.YtcihcjlaamfjfaaClose
import Derived.Test.YtcihcjlaamfjfaaFlat
import Derived.Test.YtcihcjlaamfjfaaGNob4
namespace Go.Proofs.Ytcihcjlaamfjfaa
open Go.ChangeShapes Go.WideShapes Go.ChangeAt Go.RowKit
open Go.ChangeMaps (open_string shut_string)
set_option linter.unusedVariables false
theorem ownGridNobody : ownKnob Try.prog.godebug = none := by kernel_rfl
theorem laidGridNobody : laidOutB Try.prog = true := by kernel_rfl
set_option maxRecDepth 100000 in
theorem liftedGridNobody (os : Os) (started : os.Started) (H : Type) (enc : TypeId × Value → H) :
    ReturnsInHanded {} Try.checked os 14 .any (Rows.gridNobodySpec.pre6 enc Try.prog Try.f14 Rows.gridNobodyRow.domain false) (Rows.gridNobodySpec.post enc Try.prog Try.f14 false true false false) := by
  refine returnsInHanded_of_change (C := Try.checked) ownGridNobody started (by kernel_rfl) Try.func14
    (ChangeSpec.witness6 (enc := enc) (C := Try.checked) false ⟨#[], #[.agg #[.int .u8 0, .int .i64 0, .int .i64 0, .string ⟨#[]⟩, .int .i64 0, .bool false, .bool false, .bool false, .int .i64 0, .int .i64 0, .int .i64 0, .int .i64 0]], []⟩ 8 (by kernel_rfl) (by kernel_rfl) (by kernel_rfl) (by kernel_rfl)) ?_
  intro W base args ds gs before hval0 hW hcnd _
  have hval : ∀ (j : Nat) t v, Try.f14.params[j]? = some t → args[j]? = some v → Value.okWide Try.prog W .any base t v := hval0
  have hW' := hW
  obtain ⟨p, q, hA0, hV, rfl, hfz, hnd⟩ := hW
  have hA : DataW.TrodAll enc Try.prog W 0 (fun _ => true) true Try.f14.params.toList args.toList ds p := hA0
  rw [Try.params14] at hA hval
  obtain ⟨v0, vs0, d0, ds0, p0, q0, hargs, rfl, rfl, h0, r0⟩ := trodAll_cons hA
  obtain ⟨rfl, rfl, rfl⟩ := trodAll_nil r0
  obtain rfl : args = #[v0] := by cases args; simp_all
  obtain ⟨cs0, rfl, sz0⟩ := okWide_struct Try.underlying71 (hval 0 71 v0 rfl rfl)
  obtain ⟨g0, rfl⟩ := open_flat (n := 5) (fl := [.int .u8, .int .i64, .int .i64, .str, .int .i64, .bool, .bool, .bool, .int .i64, .int .i64, .int .i64, .int .i64]) (by kernel_rfl) h0
  obtain ⟨ls0⟩ := cs0
  change FlatAll _ ls0 at g0
  obtain ⟨_, ls0_0, rfl, ⟨a0_0, rfl, wa0_0⟩, g0_0⟩ := g0.uncons
  obtain ⟨_, ls0_1, rfl, ⟨a0_1, rfl, wa0_1⟩, g0_1⟩ := g0_0.uncons
  obtain ⟨_, ls0_2, rfl, ⟨a0_2, rfl, wa0_2⟩, g0_2⟩ := g0_1.uncons
  obtain ⟨_, ls0_3, rfl, ⟨a0_3, rfl, wa0_3⟩, g0_3⟩ := g0_2.uncons
  obtain ⟨_, ls0_4, rfl, ⟨a0_4, rfl, wa0_4⟩, g0_4⟩ := g0_3.uncons
  obtain ⟨_, ls0_5, rfl, ⟨a0_5, rfl⟩, g0_5⟩ := g0_4.uncons
  obtain ⟨_, ls0_6, rfl, ⟨a0_6, rfl⟩, g0_6⟩ := g0_5.uncons
  obtain ⟨_, ls0_7, rfl, ⟨a0_7, rfl⟩, g0_7⟩ := g0_6.uncons
  obtain ⟨_, ls0_8, rfl, ⟨a0_8, rfl, wa0_8⟩, g0_8⟩ := g0_7.uncons
  obtain ⟨_, ls0_9, rfl, ⟨a0_9, rfl, wa0_9⟩, g0_9⟩ := g0_8.uncons
  obtain ⟨_, ls0_10, rfl, ⟨a0_10, rfl, wa0_10⟩, g0_10⟩ := g0_9.uncons
  obtain ⟨_, ls0_11, rfl, ⟨a0_11, rfl, wa0_11⟩, g0_11⟩ := g0_10.uncons
  obtain rfl := g0_11.unnil
  clear hA0 hval0
  refine (gridNobody_law2 a0_0 a0_1 a0_2 a0_3 a0_4 a0_5 a0_6 a0_7 a0_8 a0_9 a0_10 a0_11 W wa0_0).mono fun e W' ⟨he, hb⟩ => ?_
  subst he
  exact ⟨_, rfl, law_end laidGridNobody (by kernel_rfl) hW' rfl rfl Try.underlying4 (by obtain ⟨rfl, rfl⟩ := trodVars_none hV; rfl) hb⟩
theorem gridNobody_holds : Rows.GridNobodySaid :=
  OpenClaim.holds_of_wide 14 Try.f14 rfl rfl rfl rfl rfl rfl rfl ⟨rfl, rfl, rfl, rfl, rfl⟩ rfl rfl rfl rfl rfl (by kernel_rfl) Try.func14 (by kernel_rfl)
    (of_decide_eq_true (by kernel_rfl)) (by unfold Func.isWrapper; first | (rw [if_pos (by decide +kernel)]; kernel_rfl) | (rw [if_neg (by decide +kernel)]; exact ⟨rfl, rfl⟩))
    (fun os started H enc _ => liftedGridNobody os started H enc)
#print axioms gridNobody_holds
end Go.Proofs.Ytcihcjlaamfjfaa
