/- The statement GridRuns of placardlaw04: for every input the law's call returns true and leaves its arguments as they were. The condition is the statement's own. -/
import Derived.Test.YtekodpcedjpnjaaClose
import Derived.Test.YtekodpcedjpnjaaGRun5
import Derived.Test.YtekodpcedjpnjaaJoined
import Derived.Test.YtekodpcedjpnjaaJoinedP
namespace Go.Proofs.Ytekodpcedjpnjaa
set_option linter.unusedVariables false
set_option linter.unusedSimpArgs false
open Go.ChangeShapes Go.WideShapes Go.ChangeAt Go.RowKit
open Go.ChangeMaps (open_string shut_string)
set_option linter.unusedVariables false
open Go.RowKit Go.Maps in
theorem gridRuns_law (w0 h0 : Int) (a : Option Addr) (len cap : Nat) (w : World) (_ : (Lit.int .i64 w0).wf = true) (_ : (Lit.int .i64 h0).wf = true) (h : IsFlats opFlat w a len cap) :
    Calls Try.prog 3 #[.int .i64 w0, .int .i64 h0, .slice a len cap] w fun e w' => e = .returned (.bool true) ∧ Below w.heap.size w w' := by
  obtain ⟨ops, ho⟩ := opsAt_of h
  exact gridRuns_any w0 h0 ho (Nat.le_trans h.1 h.2.1)
theorem ownGridRuns : ownKnob Try.prog.godebug = none := by kernel_rfl
theorem laidGridRuns : laidOutB Try.prog = true := jpLaid
set_option maxRecDepth 100000 in
theorem liftedGridRuns (os : Os) (started : os.Started) (H : Type) (enc : TypeId × Value → H) :
    ReturnsInHanded {} Try.checked os 3 .any (Rows.gridRunsSpec.pre6 enc Try.prog Try.f3 Rows.gridRunsRow.domain false) (Rows.gridRunsSpec.post enc Try.prog Try.f3 false true false false) := by
  refine returnsInHanded_of_change (C := Try.checked) ownGridRuns started (by kernel_rfl) Try.func3
    (ChangeSpec.witness6 (enc := enc) (C := Try.checked) false ⟨#[], #[.int .i64 0, .int .i64 0, .slice none 0 0], []⟩ 8 (by kernel_rfl) (by kernel_rfl) (by kernel_rfl) (by kernel_rfl)) ?_
  intro W base args ds gs before hval0 hW hcnd _
  have hval : ∀ (j : Nat) t v, Try.f3.params[j]? = some t → args[j]? = some v → Value.okWide Try.prog W .any base t v := hval0
  have hW' := hW
  obtain ⟨p, q, hA0, hV, rfl, hfz, hnd⟩ := hW
  have hA : DataW.TrodAll enc Try.prog W 0 (fun _ => true) true Try.f3.params.toList args.toList ds p := hA0
  rw [Try.params3] at hA hval
  obtain ⟨v0, vs0, d0, ds0, p0, q0, hargs, rfl, rfl, h0, r0⟩ := trodAll_cons hA
  obtain ⟨v1, vs1, d1, ds1, p1, q1, rfl, rfl, rfl, h1, r1⟩ := trodAll_cons r0
  obtain ⟨v2, vs2, d2, ds2, p2, q2, rfl, rfl, rfl, h2, r2⟩ := trodAll_cons r1
  obtain ⟨rfl, rfl, rfl⟩ := trodAll_nil r2
  obtain rfl : args = #[v0, v1, v2] := by cases args; simp_all
  obtain ⟨a0, rfl, rfl, rfl, w0⟩ := open_int Try.underlying3 (hval 0 3 v0 rfl rfl) h0
  obtain ⟨a1, rfl, rfl, rfl, w1⟩ := open_int Try.underlying3 (hval 1 3 v1 rfl rfl) h1
  obtain ⟨a2, len2, cap2, rfl⟩ := okWide_slice Try.underlying22 (hval 2 22 v2 rfl rfl)
  have w2 := open_flats_rows (n := 5) (fl := [.int .u8, .int .i64, .int .i64, .str, .int .i64, .bool, .bool, .bool, .int .i64, .int .i64, .int .i64, .int .i64]) Try.underlying22 (by kernel_rfl) (by kernel_rfl) (by decide) h2
  clear hA0 hval0
  refine (gridRuns_law a0 a1 a2 len2 cap2 W w0 w1 w2).mono fun e W' ⟨he, hb⟩ => ?_
  subst he
  exact ⟨_, rfl, law_end laidGridRuns (by kernel_rfl) hW' rfl rfl Try.underlying4 (by obtain ⟨rfl, rfl⟩ := trodVars_none hV; rfl) hb⟩
theorem jfGridRuns1 : (OpenClaim.wf (OpenSpec.ofChange Rows.gridRunsSpec) Rows.gridRunsRow) = true := by kernel_rfl
theorem jfGridRuns4 : (Try.f3.params.all (Try.prog.readableRec ·)) = true := by kernel_rfl
theorem jfGridRuns5 : (namedTie Try.prog Rows.gridRunsRow.named Rows.gridRunsSpec.vars) = true := by kernel_rfl
theorem jfGridRuns10 : ((Rows.gridRunsRow.inPlace == Try.prog.inPlace 3)) = true := by kernel_rfl
theorem jfGridRuns11 : ((Rows.gridRunsRow.unfollowed == Try.prog.unfollowed 3)) = true := by kernel_rfl
theorem jfGridRuns12 : ((Rows.gridRunsRow.recurses == Try.prog.recurses 3)) = true := by kernel_rfl
theorem jfGridRuns13 : ((Rows.gridRunsRow.named == Try.prog.varsNamed 3)) = true := by kernel_rfl
theorem jfGridRuns14 : ((Rows.gridRunsRow.maps == (Try.f3.params.toList ++ Rows.gridRunsSpec.plain.varTypes Try.prog).any (Try.prog.mapsRec ·))) = true := by kernel_rfl
theorem jfGridRuns15 : ((Rows.gridRunsRow.ifaces == (Try.f3.params.toList ++ Rows.gridRunsSpec.plain.varTypes Try.prog).any (Try.prog.ifacesRec ·))) = true := by kernel_rfl
theorem jfGridRuns16 : ((Rows.gridRunsRow.mapsOut == Try.prog.mapsAmong Try.f3.resultTypes.toList)) = true := by kernel_rfl
theorem jfGridRuns17 : ((Rows.gridRunsRow.loops == (Try.f3.params.toList ++ Rows.gridRunsSpec.plain.varTypes Try.prog).any (Try.prog.loopsFrom ·))) = true := by kernel_rfl
theorem jfGridRuns17b : ((Rows.gridRunsRow.wideKeys == (Try.f3.params.toList ++ Rows.gridRunsSpec.plain.varTypes Try.prog ++ Try.f3.resultTypes.toList).any (Try.prog.wideKeysFrom ·))) = true := by kernel_rfl
theorem jfGridRuns19 : (Try.f3.resultTypes.all (fun t => Try.prog.readableRec t && decide (t < Try.prog.types.size))) = true := by kernel_rfl
theorem jfGridRuns20 : ((Rows.gridRunsRow.ifacesOut == Try.f3.resultTypes.toList.any (Try.prog.ifacesRec ·))) = true := by kernel_rfl
theorem jfGridRuns21 : ((Rows.gridRunsRow.loopsOut == Try.f3.resultTypes.toList.any (Try.prog.loopsFrom ·))) = true := by kernel_rfl
theorem jfGridRuns27 : ((Rows.gridRunsRow.veiled == (Try.f3.params.toList ++ Rows.gridRunsSpec.plain.varTypes Try.prog ++ Try.f3.resultTypes.toList).any (Try.prog.veiledRec ·))) = true := by kernel_rfl
theorem jfGridRuns28 : (Rows.gridRunsRow.veiledFits Try.prog Try.f3.params.toList (Try.f3.params.toList ++ Rows.gridRunsSpec.plain.varTypes Try.prog ++ Try.f3.resultTypes.toList)) = true := by kernel_rfl
theorem gridRuns_holds : Rows.GridRunsSaid :=
  OpenClaim.holds_of_wide 3 Try.f3 rfl rfl rfl rfl rfl rfl rfl ⟨rfl, rfl, rfl, rfl, rfl⟩ rfl rfl rfl rfl rfl (by kernel_rfl) Try.func3 (joined_of (k1 := jfGridRuns1) (k2 := jpLaid) (k3 := jpMaps) (k4 := jfGridRuns4) (k5 := jfGridRuns5) (k6 := by kernel_rfl) (k7 := jpStops) (k8 := by kernel_rfl) (k9 := jpKnobs) (k10 := jfGridRuns10) (k11 := jfGridRuns11) (k12 := jfGridRuns12) (k13 := jfGridRuns13) (k14 := jfGridRuns14) (k15 := jfGridRuns15) (k16 := jfGridRuns16) (k17 := jfGridRuns17) (k17b := jfGridRuns17b) (k18 := by kernel_rfl) (k19 := jfGridRuns19) (k20 := jfGridRuns20) (k21 := jfGridRuns21) (k22 := jpKeys) (k23 := by kernel_rfl) (k23b := jpHeard) (k24 := jpEnter) (k24b := jpLifts) (k24c := jpMake) (k25 := by kernel_rfl) (k26 := by kernel_rfl) (k27 := jfGridRuns27) (k28 := jfGridRuns28))
    (of_decide_eq_true (by kernel_rfl)) (by unfold Func.isWrapper; first | (rw [if_pos (by decide +kernel)]; kernel_rfl) | (rw [if_neg (by decide +kernel)]; exact ⟨rfl, rfl⟩))
    (fun os started H enc _ => liftedGridRuns os started H enc)
#print axioms gridRuns_holds
end Go.Proofs.Ytekodpcedjpnjaa
