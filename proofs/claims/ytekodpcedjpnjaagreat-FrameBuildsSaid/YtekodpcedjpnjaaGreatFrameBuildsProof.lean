/- The statement FrameBuilds of placardlaw09: for every input the law's call returns true and leaves its arguments as they were. The condition is the statement's own. -/
import Derived.Test.YtekodpcedjpnjaaGreatClose
import Derived.Test.YtekodpcedjpnjaaGreatRF19
import Derived.Test.YtekodpcedjpnjaaGreatFlat
import Derived.Test.YtekodpcedjpnjaaGreatJoined
import Derived.Test.YtekodpcedjpnjaaGreatJoinedP
namespace Go.Proofs.YtekodpcedjpnjaaGreat
set_option linter.unusedVariables false
set_option linter.unusedSimpArgs false
open Go.ChangeShapes Go.WideShapes Go.ChangeAt Go.RowKit
open Go.ChangeMaps (open_string shut_string)
set_option linter.unusedVariables false
theorem ownFrameBuilds : ownKnob Tryz.prog.godebug = none := by kernel_rfl
theorem laidFrameBuilds : laidOutB Tryz.prog = true := jpLaid
set_option maxRecDepth 100000 in
theorem liftedFrameBuilds (os : Os) (started : os.Started) (H : Type) (enc : TypeId × Value → H) :
    ReturnsInHanded {} Tryz.checked os 3 .any (Rows.frameBuildsSpec.pre6 enc Tryz.prog Tryz.f3 Rows.frameBuildsRow.domain false) (Rows.frameBuildsSpec.post enc Tryz.prog Tryz.f3 false true false false) := by
  refine returnsInHanded_of_change (C := Tryz.checked) ownFrameBuilds started (by kernel_rfl) Tryz.func3
    (ChangeSpec.witness6 (enc := enc) (C := Tryz.checked) false ⟨#[], #[.int .i64 0, .int .i64 0, .slice none 0 0], []⟩ 8 (by kernel_rfl) (by kernel_rfl) (by kernel_rfl) (by kernel_rfl)) ?_
  intro W base args ds gs before hval0 hW hcnd _
  have hval : ∀ (j : Nat) t v, Tryz.f3.params[j]? = some t → args[j]? = some v → Value.okWide Tryz.prog W .any base t v := hval0
  have hW' := hW
  obtain ⟨p, q, hA0, hV, rfl, hfz, hnd⟩ := hW
  have hA : DataW.TrodAll enc Tryz.prog W 0 (fun _ => true) true Tryz.f3.params.toList args.toList ds p := hA0
  rw [Tryz.params3] at hA hval
  obtain ⟨v0, vs0, d0, ds0, p0, q0, hargs, rfl, rfl, h0, r0⟩ := trodAll_cons hA
  obtain ⟨v1, vs1, d1, ds1, p1, q1, rfl, rfl, rfl, h1, r1⟩ := trodAll_cons r0
  obtain ⟨v2, vs2, d2, ds2, p2, q2, rfl, rfl, rfl, h2, r2⟩ := trodAll_cons r1
  obtain ⟨rfl, rfl, rfl⟩ := trodAll_nil r2
  obtain rfl : args = #[v0, v1, v2] := by cases args; simp_all
  obtain ⟨a0, rfl, rfl, rfl, w0⟩ := open_int Tryz.underlying3 (hval 0 3 v0 rfl rfl) h0
  obtain ⟨a1, rfl, rfl, rfl, w1⟩ := open_int Tryz.underlying3 (hval 1 3 v1 rfl rfl) h1
  obtain ⟨a2, len2, cap2, rfl⟩ := okWide_slice Tryz.underlying22 (hval 2 22 v2 rfl rfl)
  have w2 := open_flats_rows (n := 5) (fl := [.int .u8, .int .i64, .int .i64, .int .i64, .str, .bool, .bool, .bool, .int .i64, .int .i64, .bool]) Tryz.underlying22 (by kernel_rfl) (by kernel_rfl) (by decide) h2
  clear hA0 hval0
  refine (frameBuilds_law a0 a1 a2 len2 cap2 W w0 w1 w2).mono fun e W' ⟨he, hb⟩ => ?_
  subst he
  exact ⟨_, rfl, law_end laidFrameBuilds (by kernel_rfl) hW' rfl rfl Tryz.underlying4 (by obtain ⟨rfl, rfl⟩ := trodVars_none hV; rfl) hb⟩
theorem jfFrameBuilds1 : (OpenClaim.wf (OpenSpec.ofChange Rows.frameBuildsSpec) Rows.frameBuildsRow) = true := by kernel_rfl
theorem jfFrameBuilds4 : (Tryz.f3.params.all (Tryz.prog.readableRec ·)) = true := by kernel_rfl
theorem jfFrameBuilds5 : (namedTie Tryz.prog Rows.frameBuildsRow.named Rows.frameBuildsSpec.vars) = true := by kernel_rfl
theorem jfFrameBuilds10 : ((Rows.frameBuildsRow.inPlace == Tryz.prog.inPlace 3)) = true := by kernel_rfl
theorem jfFrameBuilds11 : ((Rows.frameBuildsRow.unfollowed == Tryz.prog.unfollowed 3)) = true := by kernel_rfl
theorem jfFrameBuilds12 : ((Rows.frameBuildsRow.recurses == Tryz.prog.recurses 3)) = true := by kernel_rfl
theorem jfFrameBuilds13 : ((Rows.frameBuildsRow.named == Tryz.prog.varsNamed 3)) = true := by kernel_rfl
theorem jfFrameBuilds14 : ((Rows.frameBuildsRow.maps == (Tryz.f3.params.toList ++ Rows.frameBuildsSpec.plain.varTypes Tryz.prog).any (Tryz.prog.mapsRec ·))) = true := by kernel_rfl
theorem jfFrameBuilds15 : ((Rows.frameBuildsRow.ifaces == (Tryz.f3.params.toList ++ Rows.frameBuildsSpec.plain.varTypes Tryz.prog).any (Tryz.prog.ifacesRec ·))) = true := by kernel_rfl
theorem jfFrameBuilds16 : ((Rows.frameBuildsRow.mapsOut == Tryz.prog.mapsAmong Tryz.f3.resultTypes.toList)) = true := by kernel_rfl
theorem jfFrameBuilds17 : ((Rows.frameBuildsRow.loops == (Tryz.f3.params.toList ++ Rows.frameBuildsSpec.plain.varTypes Tryz.prog).any (Tryz.prog.loopsFrom ·))) = true := by kernel_rfl
theorem jfFrameBuilds17b : ((Rows.frameBuildsRow.wideKeys == (Tryz.f3.params.toList ++ Rows.frameBuildsSpec.plain.varTypes Tryz.prog ++ Tryz.f3.resultTypes.toList).any (Tryz.prog.wideKeysFrom ·))) = true := by kernel_rfl
theorem jfFrameBuilds19 : (Tryz.f3.resultTypes.all (fun t => Tryz.prog.readableRec t && decide (t < Tryz.prog.types.size))) = true := by kernel_rfl
theorem jfFrameBuilds20 : ((Rows.frameBuildsRow.ifacesOut == Tryz.f3.resultTypes.toList.any (Tryz.prog.ifacesRec ·))) = true := by kernel_rfl
theorem jfFrameBuilds21 : ((Rows.frameBuildsRow.loopsOut == Tryz.f3.resultTypes.toList.any (Tryz.prog.loopsFrom ·))) = true := by kernel_rfl
theorem jfFrameBuilds27 : ((Rows.frameBuildsRow.veiled == (Tryz.f3.params.toList ++ Rows.frameBuildsSpec.plain.varTypes Tryz.prog ++ Tryz.f3.resultTypes.toList).any (Tryz.prog.veiledRec ·))) = true := by kernel_rfl
theorem jfFrameBuilds28 : (Rows.frameBuildsRow.veiledFits Tryz.prog Tryz.f3.params.toList (Tryz.f3.params.toList ++ Rows.frameBuildsSpec.plain.varTypes Tryz.prog ++ Tryz.f3.resultTypes.toList)) = true := by kernel_rfl
theorem frameBuilds_holds : Rows.FrameBuildsSaid :=
  OpenClaim.holds_of_wide 3 Tryz.f3 rfl rfl rfl rfl rfl rfl rfl ⟨rfl, rfl, rfl, rfl, rfl⟩ rfl rfl rfl rfl rfl (by kernel_rfl) Tryz.func3 (joined_of (k1 := jfFrameBuilds1) (k2 := jpLaid) (k3 := jpMaps) (k4 := jfFrameBuilds4) (k5 := jfFrameBuilds5) (k6 := by kernel_rfl) (k7 := jpStops) (k8 := by kernel_rfl) (k9 := jpKnobs) (k10 := jfFrameBuilds10) (k11 := jfFrameBuilds11) (k12 := jfFrameBuilds12) (k13 := jfFrameBuilds13) (k14 := jfFrameBuilds14) (k15 := jfFrameBuilds15) (k16 := jfFrameBuilds16) (k17 := jfFrameBuilds17) (k17b := jfFrameBuilds17b) (k18 := by kernel_rfl) (k19 := jfFrameBuilds19) (k20 := jfFrameBuilds20) (k21 := jfFrameBuilds21) (k22 := jpKeys) (k23 := by kernel_rfl) (k23b := jpHeard) (k24 := jpEnter) (k24b := jpLifts) (k24c := jpMake) (k25 := by kernel_rfl) (k26 := by kernel_rfl) (k27 := jfFrameBuilds27) (k28 := jfFrameBuilds28))
    (of_decide_eq_true (by kernel_rfl)) (by unfold Func.isWrapper; first | (rw [if_pos (by decide +kernel)]; kernel_rfl) | (rw [if_neg (by decide +kernel)]; exact ⟨rfl, rfl⟩))
    (fun os started H enc _ => liftedFrameBuilds os started H enc)
#print axioms frameBuilds_holds
end Go.Proofs.YtekodpcedjpnjaaGreat
