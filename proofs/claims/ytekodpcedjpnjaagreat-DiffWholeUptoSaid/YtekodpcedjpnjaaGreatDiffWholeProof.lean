/- The statement DiffWhole of placardlaw10, where what is read is of bulk at most 1048576: for every such input the law's call returns true and leaves its arguments as they were. The condition is the statement's own. -/
import Derived.JoinedCond
import Derived.Test.YtekodpcedjpnjaaGreatBw00
import Derived.Test.YtekodpcedjpnjaaGreatBw11
import Derived.Test.YtekodpcedjpnjaaGreatBw50
import Derived.Test.YtekodpcedjpnjaaGreatBw51
import Derived.Test.YtekodpcedjpnjaaGreatBw52
namespace Go.Proofs.YtekodpcedjpnjaaGreat
set_option linter.unusedVariables false
set_option linter.unusedSimpArgs false
open Go.ChangeShapes Go.WideShapes Go.ChangeAt Go.RowKit
open Go.ChangeMaps (open_string shut_string)
set_option linter.unusedVariables false
theorem ownDiffWhole : ownKnob Tryz.prog.godebug = none := by kernel_rfl
theorem laidDiffWhole : laidOutB Tryz.prog = true := jpLaid
set_option maxRecDepth 100000 in
theorem liftedDiffWhole (os : Os) (started : os.Started) (H : Type) (enc : TypeId × Value → H) (F : Stop.Interp) :
    ReturnsInHanded {} Tryz.checked os 4 .any ((Rows.OpenSpec.upto Rows.diffWholeSpec).pre6 enc Tryz.prog Tryz.f4 Rows.diffWholeUptoRow.domain false) (((Rows.OpenSpec.upto Rows.diffWholeSpec).at F).post enc Tryz.prog Tryz.f4 false true false false) := by
  refine returnsInHanded_of_cond (C := Tryz.checked) (s := Rows.OpenSpec.upto Rows.diffWholeSpec) (k := Rows.uptoSmall) rfl ownDiffWhole started (by kernel_rfl) Tryz.func4
    (OpenSpec.witness (enc := enc) (C := Tryz.checked) (s := Rows.OpenSpec.upto Rows.diffWholeSpec) (k := Rows.uptoSmall) rfl false ⟨#[], #[.agg #[.slice none 0 0, .int .i64 0, .int .i64 0, .bool false]], []⟩ 8 (by kernel_rfl) (by kernel_rfl) (by kernel_rfl)
      (x := ([.agg [.nil, .lit (.int .i64 0), .lit (.int .i64 0), .lit (.bool false)]], [], [])) (by kernel_rfl) rfl (by kernel_rfl)) ?_
  intro W base args ds gs before hval0 hW hcnd hk _
  have hval : ∀ (j : Nat) t v, Tryz.f4.params[j]? = some t → args[j]? = some v → Value.okWide Tryz.prog W .any base t v := hval0
  have hW' := hW
  obtain ⟨p, q, hA0, hV, rfl, hfz, hnd⟩ := hW
  have hA : DataW.TrodAll enc Tryz.prog W 0 (fun _ => true) true Tryz.f4.params.toList args.toList ds p := hA0
  rw [Tryz.params4] at hA hval
  obtain ⟨v0, vs0, d0, ds0, p0, q0, hargs, rfl, rfl, h0, r0⟩ := trodAll_cons hA
  obtain ⟨rfl, rfl, rfl⟩ := trodAll_nil r0
  obtain rfl : args = #[v0] := by cases args; simp_all
  obtain ⟨cs0, rfl, sz0⟩ := okWide_struct Tryz.underlying52 (hval 0 52 v0 rfl rfl)
  obtain ⟨a0, len0, cap0, r0_, c0_, s0_, R0, rfl, w0, m0, lc0, cm0, sm0⟩ := open_frameS (n := 5) Tryz.underlying52 (by kernel_rfl) rfl rfl rfl rfl Tryz.underlying50 Tryz.underlying3 Tryz.underlying3 Tryz.underlying4 (by kernel_rfl) (by kernel_rfl) (by kernel_rfl) (by kernel_rfl) Tryz.underlying60 (by kernel_rfl) (by kernel_rfl) (by kernel_rfl) Tryz.underlying171 rfl rfl (by kernel_rfl) Tryz.underlying9 h0
  clear hA0 hval0
  have hb := of_decide_eq_true hk
  simp only [List.cons_append, List.nil_append, Rows.uptoBulkAll, Rows.uptoBulk] at hb
  have z0 : ∀ M ∈ R0, ∀ c ∈ M, c.s.size ≤ 1100000 := fun M hM k hk => by have := sm0 M hM k hk; omega
  clear hb hk
  refine (diffWhole_law a0 len0 cap0 r0_ c0_ s0_ R0 W w0 m0 lc0 cm0 z0).mono fun e W' ⟨he, hb⟩ => ?_
  subst he
  exact ⟨_, rfl, law_end laidDiffWhole (by kernel_rfl) hW' rfl rfl Tryz.underlying4 (by obtain ⟨rfl, rfl⟩ := trodVars_none hV; rfl) hb⟩
theorem jfDiffWhole1 : (OpenClaim.wf (OpenSpec.ofChange (Rows.OpenSpec.upto Rows.diffWholeSpec).bare) Rows.diffWholeUptoRow) = true := by kernel_rfl
theorem jfDiffWhole4 : (Tryz.f4.params.all (Tryz.prog.readableRec ·)) = true := by kernel_rfl
theorem jfDiffWhole5 : (namedTie Tryz.prog Rows.diffWholeUptoRow.named (Rows.OpenSpec.upto Rows.diffWholeSpec).bare.vars) = true := by kernel_rfl
theorem jfDiffWhole10 : ((Rows.diffWholeUptoRow.inPlace == Tryz.prog.inPlace 4)) = true := by kernel_rfl
theorem jfDiffWhole11 : ((Rows.diffWholeUptoRow.unfollowed == Tryz.prog.unfollowed 4)) = true := by kernel_rfl
theorem jfDiffWhole12 : ((Rows.diffWholeUptoRow.recurses == Tryz.prog.recurses 4)) = true := by kernel_rfl
theorem jfDiffWhole13 : ((Rows.diffWholeUptoRow.named == Tryz.prog.varsNamed 4)) = true := by kernel_rfl
theorem jfDiffWhole14 : ((Rows.diffWholeUptoRow.maps == (Tryz.f4.params.toList ++ (Rows.OpenSpec.upto Rows.diffWholeSpec).bare.plain.varTypes Tryz.prog).any (Tryz.prog.mapsRec ·))) = true := by kernel_rfl
theorem jfDiffWhole15 : ((Rows.diffWholeUptoRow.ifaces == (Tryz.f4.params.toList ++ (Rows.OpenSpec.upto Rows.diffWholeSpec).bare.plain.varTypes Tryz.prog).any (Tryz.prog.ifacesRec ·))) = true := by kernel_rfl
theorem jfDiffWhole16 : ((Rows.diffWholeUptoRow.mapsOut == Tryz.prog.mapsAmong Tryz.f4.resultTypes.toList)) = true := by kernel_rfl
theorem jfDiffWhole17 : ((Rows.diffWholeUptoRow.loops == (Tryz.f4.params.toList ++ (Rows.OpenSpec.upto Rows.diffWholeSpec).bare.plain.varTypes Tryz.prog).any (Tryz.prog.loopsFrom ·))) = true := by kernel_rfl
theorem jfDiffWhole17b : ((Rows.diffWholeUptoRow.wideKeys == (Tryz.f4.params.toList ++ (Rows.OpenSpec.upto Rows.diffWholeSpec).bare.plain.varTypes Tryz.prog ++ Tryz.f4.resultTypes.toList).any (Tryz.prog.wideKeysFrom ·))) = true := by kernel_rfl
theorem jfDiffWhole19 : (Tryz.f4.resultTypes.all (fun t => Tryz.prog.readableRec t && decide (t < Tryz.prog.types.size))) = true := by kernel_rfl
theorem jfDiffWhole20 : ((Rows.diffWholeUptoRow.ifacesOut == Tryz.f4.resultTypes.toList.any (Tryz.prog.ifacesRec ·))) = true := by kernel_rfl
theorem jfDiffWhole21 : ((Rows.diffWholeUptoRow.loopsOut == Tryz.f4.resultTypes.toList.any (Tryz.prog.loopsFrom ·))) = true := by kernel_rfl
theorem jfDiffWhole27 : ((Rows.diffWholeUptoRow.veiled == (Tryz.f4.params.toList ++ (Rows.OpenSpec.upto Rows.diffWholeSpec).bare.plain.varTypes Tryz.prog ++ Tryz.f4.resultTypes.toList).any (Tryz.prog.veiledRec ·))) = true := by kernel_rfl
theorem jfDiffWhole28 : (Rows.diffWholeUptoRow.veiledFits Tryz.prog Tryz.f4.params.toList (Tryz.f4.params.toList ++ (Rows.OpenSpec.upto Rows.diffWholeSpec).bare.plain.varTypes Tryz.prog ++ Tryz.f4.resultTypes.toList)) = true := by kernel_rfl
theorem diffWhole_holds : Rows.DiffWholeUptoSaid :=
  OpenClaim.holds_of_cond 4 Tryz.f4 rfl rfl rfl rfl rfl rfl rfl ⟨rfl, rfl, rfl, rfl, rfl⟩ rfl rfl rfl rfl rfl (by kernel_rfl) Tryz.func4 (joined_of (k1 := jfDiffWhole1) (k2 := jpLaid) (k3 := jpMaps) (k4 := jfDiffWhole4) (k5 := jfDiffWhole5) (k6 := by kernel_rfl) (k7 := jpStops) (k8 := by kernel_rfl) (k9 := jpKnobs) (k10 := jfDiffWhole10) (k11 := jfDiffWhole11) (k12 := jfDiffWhole12) (k13 := jfDiffWhole13) (k14 := jfDiffWhole14) (k15 := jfDiffWhole15) (k16 := jfDiffWhole16) (k17 := jfDiffWhole17) (k17b := jfDiffWhole17b) (k18 := by kernel_rfl) (k19 := jfDiffWhole19) (k20 := jfDiffWhole20) (k21 := jfDiffWhole21) (k22 := jpKeys) (k23 := by kernel_rfl) (k23b := jpHeard) (k24 := jpEnter) (k24b := jpLifts) (k24c := jpMake) (k25 := by kernel_rfl) (k26 := by kernel_rfl) (k27 := jfDiffWhole27) (k28 := jfDiffWhole28))
    (of_decide_eq_true (by kernel_rfl)) (by unfold Func.isWrapper; first | (rw [if_pos (by decide +kernel)]; kernel_rfl) | (rw [if_neg (by decide +kernel)]; exact ⟨rfl, rfl⟩))
    (fun os started H enc _ F => liftedDiffWhole os started H enc F)
#print axioms diffWhole_holds
end Go.Proofs.YtekodpcedjpnjaaGreat
