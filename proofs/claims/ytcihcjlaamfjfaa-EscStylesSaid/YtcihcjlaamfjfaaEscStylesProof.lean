/- The statement EscStyles of placardlaw06: for every input the law's call returns true and leaves its arguments as they were. The condition is the statement's own. -/
import Derived.Test.YtcihcjlaamfjfaaClose
import Derived.Test.YtcihcjlaamfjfaaFlat
import Derived.Test.YtcihcjlaamfjfaaStyle11
namespace Go.Proofs.Ytcihcjlaamfjfaa
open Go.ChangeShapes Go.WideShapes Go.ChangeAt Go.RowKit
open Go.ChangeMaps (open_string shut_string)
set_option linter.unusedVariables false
theorem ownEscStyles : ownKnob Try.prog.godebug = none := by kernel_rfl
theorem laidEscStyles : laidOutB Try.prog = true := by kernel_rfl
set_option maxRecDepth 100000 in
theorem liftedEscStyles (os : Os) (started : os.Started) (H : Type) (enc : TypeId × Value → H) :
    ReturnsInHanded {} Try.checked os 9 .any (Rows.escStylesSpec.pre6 enc Try.prog Try.f9 Rows.escStylesRow.domain false) (Rows.escStylesSpec.post enc Try.prog Try.f9 false true false false) := by
  refine returnsInHanded_of_change (C := Try.checked) ownEscStyles started (by kernel_rfl) Try.func9
    (ChangeSpec.witness6 (enc := enc) (C := Try.checked) false ⟨#[], #[.agg #[.bool false, .bool false, .bool false, .int .i64 0, .int .i64 0], .agg #[.bool false, .bool false, .bool false, .int .i64 0, .int .i64 0]], []⟩ 8 (by kernel_rfl) (by kernel_rfl) (by kernel_rfl) (by kernel_rfl)) ?_
  intro W base args ds gs before hval0 hW hcnd _
  have hval : ∀ (j : Nat) t v, Try.f9.params[j]? = some t → args[j]? = some v → Value.okWide Try.prog W .any base t v := hval0
  have hW' := hW
  obtain ⟨p, q, hA0, hV, rfl, hfz, hnd⟩ := hW
  have hA : DataW.TrodAll enc Try.prog W 0 (fun _ => true) true Try.f9.params.toList args.toList ds p := hA0
  rw [Try.params9] at hA hval
  obtain ⟨v0, vs0, d0, ds0, p0, q0, hargs, rfl, rfl, h0, r0⟩ := trodAll_cons hA
  obtain ⟨v1, vs1, d1, ds1, p1, q1, rfl, rfl, rfl, h1, r1⟩ := trodAll_cons r0
  obtain ⟨rfl, rfl, rfl⟩ := trodAll_nil r1
  obtain rfl : args = #[v0, v1] := by cases args; simp_all
  obtain ⟨cs0, rfl, sz0⟩ := okWide_struct Try.underlying50 (hval 0 50 v0 rfl rfl)
  obtain ⟨g0, rfl⟩ := open_flat (n := 5) (fl := [.bool, .bool, .bool, .int .i64, .int .i64]) (by kernel_rfl) h0
  obtain ⟨ls0⟩ := cs0
  change FlatAll _ ls0 at g0
  obtain ⟨_, ls0_0, rfl, ⟨a0_0, rfl⟩, g0_0⟩ := g0.uncons
  obtain ⟨_, ls0_1, rfl, ⟨a0_1, rfl⟩, g0_1⟩ := g0_0.uncons
  obtain ⟨_, ls0_2, rfl, ⟨a0_2, rfl⟩, g0_2⟩ := g0_1.uncons
  obtain ⟨_, ls0_3, rfl, ⟨a0_3, rfl, wa0_3⟩, g0_3⟩ := g0_2.uncons
  obtain ⟨_, ls0_4, rfl, ⟨a0_4, rfl, wa0_4⟩, g0_4⟩ := g0_3.uncons
  obtain rfl := g0_4.unnil
  obtain ⟨cs1, rfl, sz1⟩ := okWide_struct Try.underlying50 (hval 1 50 v1 rfl rfl)
  obtain ⟨g1, rfl⟩ := open_flat (n := 5) (fl := [.bool, .bool, .bool, .int .i64, .int .i64]) (by kernel_rfl) h1
  obtain ⟨ls1⟩ := cs1
  change FlatAll _ ls1 at g1
  obtain ⟨_, ls1_0, rfl, ⟨a1_0, rfl⟩, g1_0⟩ := g1.uncons
  obtain ⟨_, ls1_1, rfl, ⟨a1_1, rfl⟩, g1_1⟩ := g1_0.uncons
  obtain ⟨_, ls1_2, rfl, ⟨a1_2, rfl⟩, g1_2⟩ := g1_1.uncons
  obtain ⟨_, ls1_3, rfl, ⟨a1_3, rfl, wa1_3⟩, g1_3⟩ := g1_2.uncons
  obtain ⟨_, ls1_4, rfl, ⟨a1_4, rfl, wa1_4⟩, g1_4⟩ := g1_3.uncons
  obtain rfl := g1_4.unnil
  clear hA0 hval0
  refine (escStyles_law a0_0 a0_1 a0_2 a0_3 a0_4 a1_0 a1_1 a1_2 a1_3 a1_4 W).mono fun e W' ⟨he, hb⟩ => ?_
  subst he
  exact ⟨_, rfl, law_end laidEscStyles (by kernel_rfl) hW' rfl rfl Try.underlying4 (by obtain ⟨rfl, rfl⟩ := trodVars_none hV; rfl) hb⟩
theorem escStyles_holds : Rows.EscStylesSaid :=
  OpenClaim.holds_of_wide 9 Try.f9 rfl rfl rfl rfl rfl rfl rfl ⟨rfl, rfl, rfl, rfl, rfl⟩ rfl rfl rfl rfl rfl (by kernel_rfl) Try.func9 (by kernel_rfl)
    (of_decide_eq_true (by kernel_rfl)) (by unfold Func.isWrapper; first | (rw [if_pos (by decide +kernel)]; kernel_rfl) | (rw [if_neg (by decide +kernel)]; exact ⟨rfl, rfl⟩))
    (fun os started H enc _ => liftedEscStyles os started H enc)
#print axioms escStyles_holds
end Go.Proofs.Ytcihcjlaamfjfaa
