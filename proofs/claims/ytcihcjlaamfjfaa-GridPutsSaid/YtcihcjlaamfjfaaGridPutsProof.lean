/- The statement GridPuts of placardlaw04: for every input the law's call returns true and leaves its arguments as they were. The condition is the statement's own. -/
import Derived.Test.YtcihcjlaamfjfaaClose
import Derived.Test.YtcihcjlaamfjfaaFlat
import Derived.Test.YtcihcjlaamfjfaaGPut4
namespace Go.Proofs.Ytcihcjlaamfjfaa
open Go.ChangeShapes Go.WideShapes Go.ChangeAt Go.RowKit
open Go.ChangeMaps (open_string shut_string)
set_option linter.unusedVariables false
theorem ownGridPuts : ownKnob Try.prog.godebug = none := by kernel_rfl
theorem laidGridPuts : laidOutB Try.prog = true := by kernel_rfl
set_option maxRecDepth 100000 in
theorem liftedGridPuts (os : Os) (started : os.Started) (H : Type) (enc : TypeId × Value → H) :
    ReturnsInHanded {} Try.checked os 12 .any (Rows.gridPutsSpec.pre6 enc Try.prog Try.f12 Rows.gridPutsRow.domain false) (Rows.gridPutsSpec.post enc Try.prog Try.f12 false true false false) := by
  refine returnsInHanded_of_change (C := Try.checked) ownGridPuts started (by kernel_rfl) Try.func12
    (ChangeSpec.witness6 (enc := enc) (C := Try.checked) false ⟨#[], #[.slice none 0 0, .agg #[.int .u8 0, .int .i64 0, .int .i64 0, .string ⟨#[]⟩, .int .i64 0, .bool false, .bool false, .bool false, .int .i64 0, .int .i64 0, .int .i64 0, .int .i64 0]], []⟩ 8 (by kernel_rfl) (by kernel_rfl) (by kernel_rfl) (by kernel_rfl)) ?_
  intro W base args ds gs before hval0 hW hcnd _
  have hval : ∀ (j : Nat) t v, Try.f12.params[j]? = some t → args[j]? = some v → Value.okWide Try.prog W .any base t v := hval0
  have hW' := hW
  obtain ⟨p, q, hA0, hV, rfl, hfz, hnd⟩ := hW
  have hA : DataW.TrodAll enc Try.prog W 0 (fun _ => true) true Try.f12.params.toList args.toList ds p := hA0
  rw [Try.params12] at hA hval
  obtain ⟨v0, vs0, d0, ds0, p0, q0, hargs, rfl, rfl, h0, r0⟩ := trodAll_cons hA
  obtain ⟨v1, vs1, d1, ds1, p1, q1, rfl, rfl, rfl, h1, r1⟩ := trodAll_cons r0
  obtain ⟨rfl, rfl, rfl⟩ := trodAll_nil r1
  obtain rfl : args = #[v0, v1] := by cases args; simp_all
  obtain ⟨a0, len0, cap0, rfl⟩ := okWide_slice Try.underlying56 (hval 0 56 v0 rfl rfl)
  have w0 := open_flats_rows (n := 5) (fl := [.int .u8, .int .i64, .int .i64, .str, .int .i64, .bool, .bool, .bool, .int .i64, .int .i64, .int .i64, .int .i64]) Try.underlying56 (by kernel_rfl) (by kernel_rfl) (by decide) h0
  obtain ⟨cs1, rfl, sz1⟩ := okWide_struct Try.underlying71 (hval 1 71 v1 rfl rfl)
  obtain ⟨g1, rfl⟩ := open_flat (n := 5) (fl := [.int .u8, .int .i64, .int .i64, .str, .int .i64, .bool, .bool, .bool, .int .i64, .int .i64, .int .i64, .int .i64]) (by kernel_rfl) h1
  obtain ⟨ls1⟩ := cs1
  change FlatAll _ ls1 at g1
  obtain ⟨_, ls1_0, rfl, ⟨a1_0, rfl, wa1_0⟩, g1_0⟩ := g1.uncons
  obtain ⟨_, ls1_1, rfl, ⟨a1_1, rfl, wa1_1⟩, g1_1⟩ := g1_0.uncons
  obtain ⟨_, ls1_2, rfl, ⟨a1_2, rfl, wa1_2⟩, g1_2⟩ := g1_1.uncons
  obtain ⟨_, ls1_3, rfl, ⟨a1_3, rfl, wa1_3⟩, g1_3⟩ := g1_2.uncons
  obtain ⟨_, ls1_4, rfl, ⟨a1_4, rfl, wa1_4⟩, g1_4⟩ := g1_3.uncons
  obtain ⟨_, ls1_5, rfl, ⟨a1_5, rfl⟩, g1_5⟩ := g1_4.uncons
  obtain ⟨_, ls1_6, rfl, ⟨a1_6, rfl⟩, g1_6⟩ := g1_5.uncons
  obtain ⟨_, ls1_7, rfl, ⟨a1_7, rfl⟩, g1_7⟩ := g1_6.uncons
  obtain ⟨_, ls1_8, rfl, ⟨a1_8, rfl, wa1_8⟩, g1_8⟩ := g1_7.uncons
  obtain ⟨_, ls1_9, rfl, ⟨a1_9, rfl, wa1_9⟩, g1_9⟩ := g1_8.uncons
  obtain ⟨_, ls1_10, rfl, ⟨a1_10, rfl, wa1_10⟩, g1_10⟩ := g1_9.uncons
  obtain ⟨_, ls1_11, rfl, ⟨a1_11, rfl, wa1_11⟩, g1_11⟩ := g1_10.uncons
  obtain rfl := g1_11.unnil
  clear hA0 hval0
  refine (gridPuts_law2 a0 len0 cap0 a1_0 a1_1 a1_2 a1_3 a1_4 a1_5 a1_6 a1_7 a1_8 a1_9 a1_10 a1_11 W w0 wa1_0).mono fun e W' ⟨he, hb⟩ => ?_
  subst he
  exact ⟨_, rfl, law_end laidGridPuts (by kernel_rfl) hW' rfl rfl Try.underlying4 (by obtain ⟨rfl, rfl⟩ := trodVars_none hV; rfl) hb⟩
theorem gridPuts_holds : Rows.GridPutsSaid :=
  OpenClaim.holds_of_wide 12 Try.f12 rfl rfl rfl rfl rfl rfl rfl ⟨rfl, rfl, rfl, rfl, rfl⟩ rfl rfl rfl rfl rfl (by kernel_rfl) Try.func12 (by kernel_rfl)
    (of_decide_eq_true (by kernel_rfl)) (by unfold Func.isWrapper; first | (rw [if_pos (by decide +kernel)]; kernel_rfl) | (rw [if_neg (by decide +kernel)]; exact ⟨rfl, rfl⟩))
    (fun os started H enc _ => liftedGridPuts os started H enc)
#print axioms gridPuts_holds
end Go.Proofs.Ytcihcjlaamfjfaa
