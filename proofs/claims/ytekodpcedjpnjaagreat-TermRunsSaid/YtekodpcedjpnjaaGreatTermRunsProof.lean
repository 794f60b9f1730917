/- The statement TermRuns of placardlaw05: for every input the law's call returns true and leaves its arguments as they were. The condition is the statement's own. -/
import Derived.Test.YtekodpcedjpnjaaGreatClose
import Derived.Test.YtekodpcedjpnjaaGreatTRu2
import Derived.Test.YtekodpcedjpnjaaGreatJoined
import Derived.Test.YtekodpcedjpnjaaGreatJoinedP
namespace Go.Proofs.YtekodpcedjpnjaaGreat
set_option linter.unusedVariables false
set_option linter.unusedSimpArgs false
open Go.ChangeShapes Go.WideShapes Go.ChangeAt Go.RowKit
open Go.ChangeMaps (open_string shut_string)
set_option linter.unusedVariables false
theorem ownTermRuns : ownKnob Tryz.prog.godebug = none := by kernel_rfl
theorem laidTermRuns : laidOutB Tryz.prog = true := jpLaid
set_option maxRecDepth 100000 in
theorem liftedTermRuns (os : Os) (started : os.Started) (H : Type) (enc : TypeId × Value → H) :
    ReturnsInHanded {} Tryz.checked os 9 .any (Rows.termRunsSpec.pre6 enc Tryz.prog Tryz.f9 Rows.termRunsRow.domain false) (Rows.termRunsSpec.post enc Tryz.prog Tryz.f9 false true false false) := by
  refine returnsInHanded_of_change (C := Tryz.checked) ownTermRuns started (by kernel_rfl) Tryz.func9
    (ChangeSpec.witness6 (enc := enc) (C := Tryz.checked) false ⟨#[], #[.int .i64 0, .int .i64 0, .slice none 0 0], []⟩ 8 (by kernel_rfl) (by kernel_rfl) (by kernel_rfl) (by kernel_rfl)) ?_
  intro W base args ds gs before hval0 hW hcnd _
  have hval : ∀ (j : Nat) t v, Tryz.f9.params[j]? = some t → args[j]? = some v → Value.okWide Tryz.prog W .any base t v := hval0
  have hW' := hW
  obtain ⟨p, q, hA0, hV, rfl, hfz, hnd⟩ := hW
  have hA : DataW.TrodAll enc Tryz.prog W 0 (fun _ => true) true Tryz.f9.params.toList args.toList ds p := hA0
  rw [Tryz.params9] at hA hval
  obtain ⟨v0, vs0, d0, ds0, p0, q0, hargs, rfl, rfl, h0, r0⟩ := trodAll_cons hA
  obtain ⟨v1, vs1, d1, ds1, p1, q1, rfl, rfl, rfl, h1, r1⟩ := trodAll_cons r0
  obtain ⟨v2, vs2, d2, ds2, p2, q2, rfl, rfl, rfl, h2, r2⟩ := trodAll_cons r1
  obtain ⟨rfl, rfl, rfl⟩ := trodAll_nil r2
  obtain rfl : args = #[v0, v1, v2] := by cases args; simp_all
  obtain ⟨a0, rfl, rfl, rfl, w0⟩ := open_int Tryz.underlying3 (hval 0 3 v0 rfl rfl) h0
  obtain ⟨a1, rfl, rfl, rfl, w1⟩ := open_int Tryz.underlying3 (hval 1 3 v1 rfl rfl) h1
  obtain ⟨a2, len2, cap2, rfl⟩ := okWide_slice Tryz.underlying92 (hval 2 92 v2 rfl rfl)
  have w2 := open_ops h2
  clear hA0 hval0
  refine (termRuns_law a0 a1 a2 len2 cap2 W w0 w1 w2).mono fun e W' ⟨he, hb⟩ => ?_
  subst he
  exact ⟨_, rfl, law_end laidTermRuns (by kernel_rfl) hW' rfl rfl Tryz.underlying4 (by obtain ⟨rfl, rfl⟩ := trodVars_none hV; rfl) hb⟩
theorem jfTermRuns1 : (OpenClaim.wf (OpenSpec.ofChange Rows.termRunsSpec) Rows.termRunsRow) = true := by kernel_rfl
theorem jfTermRuns4 : (Tryz.f9.params.all (Tryz.prog.readableRec ·)) = true := by kernel_rfl
theorem jfTermRuns5 : (namedTie Tryz.prog Rows.termRunsRow.named Rows.termRunsSpec.vars) = true := by kernel_rfl
theorem jfTermRuns10 : ((Rows.termRunsRow.inPlace == Tryz.prog.inPlace 9)) = true := by kernel_rfl
theorem jfTermRuns11 : ((Rows.termRunsRow.unfollowed == Tryz.prog.unfollowed 9)) = true := by kernel_rfl
theorem jfTermRuns12 : ((Rows.termRunsRow.recurses == Tryz.prog.recurses 9)) = true := by kernel_rfl
theorem jfTermRuns13 : ((Rows.termRunsRow.named == Tryz.prog.varsNamed 9)) = true := by kernel_rfl
theorem jfTermRuns14 : ((Rows.termRunsRow.maps == (Tryz.f9.params.toList ++ Rows.termRunsSpec.plain.varTypes Tryz.prog).any (Tryz.prog.mapsRec ·))) = true := by kernel_rfl
theorem jfTermRuns15 : ((Rows.termRunsRow.ifaces == (Tryz.f9.params.toList ++ Rows.termRunsSpec.plain.varTypes Tryz.prog).any (Tryz.prog.ifacesRec ·))) = true := by kernel_rfl
theorem jfTermRuns16 : ((Rows.termRunsRow.mapsOut == Tryz.prog.mapsAmong Tryz.f9.resultTypes.toList)) = true := by kernel_rfl
theorem jfTermRuns17 : ((Rows.termRunsRow.loops == (Tryz.f9.params.toList ++ Rows.termRunsSpec.plain.varTypes Tryz.prog).any (Tryz.prog.loopsFrom ·))) = true := by kernel_rfl
theorem jfTermRuns17b : ((Rows.termRunsRow.wideKeys == (Tryz.f9.params.toList ++ Rows.termRunsSpec.plain.varTypes Tryz.prog ++ Tryz.f9.resultTypes.toList).any (Tryz.prog.wideKeysFrom ·))) = true := by kernel_rfl
theorem jfTermRuns19 : (Tryz.f9.resultTypes.all (fun t => Tryz.prog.readableRec t && decide (t < Tryz.prog.types.size))) = true := by kernel_rfl
theorem jfTermRuns20 : ((Rows.termRunsRow.ifacesOut == Tryz.f9.resultTypes.toList.any (Tryz.prog.ifacesRec ·))) = true := by kernel_rfl
theorem jfTermRuns21 : ((Rows.termRunsRow.loopsOut == Tryz.f9.resultTypes.toList.any (Tryz.prog.loopsFrom ·))) = true := by kernel_rfl
theorem jfTermRuns27 : ((Rows.termRunsRow.veiled == (Tryz.f9.params.toList ++ Rows.termRunsSpec.plain.varTypes Tryz.prog ++ Tryz.f9.resultTypes.toList).any (Tryz.prog.veiledRec ·))) = true := by kernel_rfl
theorem jfTermRuns28 : (Rows.termRunsRow.veiledFits Tryz.prog Tryz.f9.params.toList (Tryz.f9.params.toList ++ Rows.termRunsSpec.plain.varTypes Tryz.prog ++ Tryz.f9.resultTypes.toList)) = true := by kernel_rfl
theorem termRuns_holds : Rows.TermRunsSaid :=
  OpenClaim.holds_of_wide 9 Tryz.f9 rfl rfl rfl rfl rfl rfl rfl ⟨rfl, rfl, rfl, rfl, rfl⟩ rfl rfl rfl rfl rfl (by kernel_rfl) Tryz.func9 (joined_of (k1 := jfTermRuns1) (k2 := jpLaid) (k3 := jpMaps) (k4 := jfTermRuns4) (k5 := jfTermRuns5) (k6 := by kernel_rfl) (k7 := jpStops) (k8 := by kernel_rfl) (k9 := jpKnobs) (k10 := jfTermRuns10) (k11 := jfTermRuns11) (k12 := jfTermRuns12) (k13 := jfTermRuns13) (k14 := jfTermRuns14) (k15 := jfTermRuns15) (k16 := jfTermRuns16) (k17 := jfTermRuns17) (k17b := jfTermRuns17b) (k18 := by kernel_rfl) (k19 := jfTermRuns19) (k20 := jfTermRuns20) (k21 := jfTermRuns21) (k22 := jpKeys) (k23 := by kernel_rfl) (k23b := jpHeard) (k24 := jpEnter) (k24b := jpLifts) (k24c := jpMake) (k25 := by kernel_rfl) (k26 := by kernel_rfl) (k27 := jfTermRuns27) (k28 := jfTermRuns28))
    (of_decide_eq_true (by kernel_rfl)) (by unfold Func.isWrapper; first | (rw [if_pos (by decide +kernel)]; kernel_rfl) | (rw [if_neg (by decide +kernel)]; exact ⟨rfl, rfl⟩))
    (fun os started H enc _ => liftedTermRuns os started H enc)
#print axioms termRuns_holds
end Go.Proofs.YtekodpcedjpnjaaGreat
