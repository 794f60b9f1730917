/- The statement DiffBlank of placardlaw10, where what is read is of bulk at most 1048576: for every such input the law's call returns true and leaves its arguments as they were. The condition is the statement's own. -/
import Derived.JoinedCond
import Derived.Test.YtekodpcedjpnjaaGreatBt00
import Derived.Test.YtekodpcedjpnjaaGreatBt11
import Derived.Test.YtekodpcedjpnjaaGreatBt51
import Derived.Test.YtekodpcedjpnjaaGreatBt52
import Derived.Test.YtekodpcedjpnjaaGreatBt56
set_option linter.unusedVariables false
set_option linter.unusedSimpArgs false
namespace Go.Proofs.YtekodpcedjpnjaaGreat
open Go.ChangeShapes Go.WideShapes Go.ChangeAt Go.RowKit
open Go.ChangeMaps (open_string shut_string)
theorem ownDiffBlank : ownKnob Tryz.prog.godebug = none := by kernel_rfl
theorem laidDiffBlank : laidOutB Tryz.prog = true := jpLaid
set_option maxRecDepth 100000 in
theorem liftedDiffBlank (os : Os) (started : os.Started) (H : Type) (enc : TypeId × Value → H) (F : Stop.Interp) :
    ReturnsInHanded {} Tryz.checked os 6 .any ((Rows.OpenSpec.upto Rows.diffBlankSpec).pre6 enc Tryz.prog Tryz.f6 Rows.diffBlankUptoRow.domain false) (((Rows.OpenSpec.upto Rows.diffBlankSpec).at F).post enc Tryz.prog Tryz.f6 false true false false) := by
  refine returnsInHanded_of_cond (C := Tryz.checked) (s := Rows.OpenSpec.upto Rows.diffBlankSpec) (k := Rows.uptoSmall) rfl ownDiffBlank started (by kernel_rfl) Tryz.func6
    (OpenSpec.witness (enc := enc) (C := Tryz.checked) (s := Rows.OpenSpec.upto Rows.diffBlankSpec) (k := Rows.uptoSmall) rfl false ⟨#[], #[.int .i64 0, .int .i64 0, .agg #[.slice none 0 0, .int .i64 0, .int .i64 0, .bool false]], []⟩ 8 (by kernel_rfl) (by kernel_rfl) (by kernel_rfl)
      (x := ([.lit (.int .i64 0), .lit (.int .i64 0), .agg [.nil, .lit (.int .i64 0), .lit (.int .i64 0), .lit (.bool false)]], [], [])) (by kernel_rfl) rfl (by kernel_rfl)) ?_
  intro W base args ds gs before hval0 hW hcnd hk _
  have hval : ∀ (j : Nat) t v, Tryz.f6.params[j]? = some t → args[j]? = some v → Value.okWide Tryz.prog W .any base t v := hval0
  have hW' := hW
  obtain ⟨p, q, hA0, hV, rfl, hfz, hnd⟩ := hW
  have hA : DataW.TrodAll enc Tryz.prog W 0 (fun _ => true) true Tryz.f6.params.toList args.toList ds p := hA0
  rw [Tryz.params6] at hA hval
  obtain ⟨v0, vs0, d0, ds0, p0, q0, hargs, rfl, rfl, h0, r0⟩ := trodAll_cons hA
  obtain ⟨v1, vs1, d1, ds1, p1, q1, rfl, rfl, rfl, h1, r1⟩ := trodAll_cons r0
  obtain ⟨v2, vs2, d2, ds2, p2, q2, rfl, rfl, rfl, h2, r2⟩ := trodAll_cons r1
  obtain ⟨rfl, rfl, rfl⟩ := trodAll_nil r2
  obtain rfl : args = #[v0, v1, v2] := by cases args; simp_all
  obtain ⟨a0, rfl, rfl, rfl, w0⟩ := open_int Tryz.underlying3 (hval 0 3 v0 rfl rfl) h0
  obtain ⟨a1, rfl, rfl, rfl, w1⟩ := open_int Tryz.underlying3 (hval 1 3 v1 rfl rfl) h1
  obtain ⟨cs2, rfl, sz2⟩ := okWide_struct Tryz.underlying52 (hval 2 52 v2 rfl rfl)
  obtain ⟨a2, len2, cap2, r2_, c2_, s2_, R2, rfl, w2, m2, lc2, cm2, sm2⟩ := open_frameS (n := 5) Tryz.underlying52 (by kernel_rfl) rfl rfl rfl rfl Tryz.underlying50 Tryz.underlying3 Tryz.underlying3 Tryz.underlying4 (by kernel_rfl) (by kernel_rfl) (by kernel_rfl) (by kernel_rfl) Tryz.underlying60 (by kernel_rfl) (by kernel_rfl) (by kernel_rfl) Tryz.underlying171 rfl rfl (by kernel_rfl) Tryz.underlying9 h2
  clear hA0 hval0
  have hb := of_decide_eq_true hk
  simp only [List.cons_append, List.nil_append, Rows.uptoBulkAll, Rows.uptoBulk] at hb
  have z2 : ∀ M ∈ R2, ∀ c ∈ M, c.s.size ≤ 1100000 := fun M hM k hk => by have := sm2 M hM k hk; omega
  clear hb hk
  refine (diffBlank_law a0 a1 a2 len2 cap2 r2_ c2_ s2_ R2 W w0 w1 w2 m2 lc2 cm2 z2).mono fun e W' ⟨he, hb⟩ => ?_
  subst he
  exact ⟨_, rfl, law_end laidDiffBlank (by kernel_rfl) hW' rfl rfl Tryz.underlying4 (by obtain ⟨rfl, rfl⟩ := trodVars_none hV; rfl) hb⟩
theorem jfDiffBlank1 : (OpenClaim.wf (OpenSpec.ofChange (Rows.OpenSpec.upto Rows.diffBlankSpec).bare) Rows.diffBlankUptoRow) = true := by kernel_rfl
theorem jfDiffBlank4 : (Tryz.f6.params.all (Tryz.prog.readableRec ·)) = true := by kernel_rfl
theorem jfDiffBlank5 : (namedTie Tryz.prog Rows.diffBlankUptoRow.named (Rows.OpenSpec.upto Rows.diffBlankSpec).bare.vars) = true := by kernel_rfl
theorem jfDiffBlank10 : ((Rows.diffBlankUptoRow.inPlace == Tryz.prog.inPlace 6)) = true := by kernel_rfl
theorem jfDiffBlank11 : ((Rows.diffBlankUptoRow.unfollowed == Tryz.prog.unfollowed 6)) = true := by kernel_rfl
theorem jfDiffBlank12 : ((Rows.diffBlankUptoRow.recurses == Tryz.prog.recurses 6)) = true := by kernel_rfl
theorem jfDiffBlank13 : ((Rows.diffBlankUptoRow.named == Tryz.prog.varsNamed 6)) = true := by kernel_rfl
theorem jfDiffBlank14 : ((Rows.diffBlankUptoRow.maps == (Tryz.f6.params.toList ++ (Rows.OpenSpec.upto Rows.diffBlankSpec).bare.plain.varTypes Tryz.prog).any (Tryz.prog.mapsRec ·))) = true := by kernel_rfl
theorem jfDiffBlank15 : ((Rows.diffBlankUptoRow.ifaces == (Tryz.f6.params.toList ++ (Rows.OpenSpec.upto Rows.diffBlankSpec).bare.plain.varTypes Tryz.prog).any (Tryz.prog.ifacesRec ·))) = true := by kernel_rfl
theorem jfDiffBlank16 : ((Rows.diffBlankUptoRow.mapsOut == Tryz.prog.mapsAmong Tryz.f6.resultTypes.toList)) = true := by kernel_rfl
theorem jfDiffBlank17 : ((Rows.diffBlankUptoRow.loops == (Tryz.f6.params.toList ++ (Rows.OpenSpec.upto Rows.diffBlankSpec).bare.plain.varTypes Tryz.prog).any (Tryz.prog.loopsFrom ·))) = true := by kernel_rfl
theorem jfDiffBlank17b : ((Rows.diffBlankUptoRow.wideKeys == (Tryz.f6.params.toList ++ (Rows.OpenSpec.upto Rows.diffBlankSpec).bare.plain.varTypes Tryz.prog ++ Tryz.f6.resultTypes.toList).any (Tryz.prog.wideKeysFrom ·))) = true := by kernel_rfl
theorem jfDiffBlank19 : (Tryz.f6.resultTypes.all (fun t => Tryz.prog.readableRec t && decide (t < Tryz.prog.types.size))) = true := by kernel_rfl
theorem jfDiffBlank20 : ((Rows.diffBlankUptoRow.ifacesOut == Tryz.f6.resultTypes.toList.any (Tryz.prog.ifacesRec ·))) = true := by kernel_rfl
theorem jfDiffBlank21 : ((Rows.diffBlankUptoRow.loopsOut == Tryz.f6.resultTypes.toList.any (Tryz.prog.loopsFrom ·))) = true := by kernel_rfl
theorem jfDiffBlank27 : ((Rows.diffBlankUptoRow.veiled == (Tryz.f6.params.toList ++ (Rows.OpenSpec.upto Rows.diffBlankSpec).bare.plain.varTypes Tryz.prog ++ Tryz.f6.resultTypes.toList).any (Tryz.prog.veiledRec ·))) = true := by kernel_rfl
theorem jfDiffBlank28 : (Rows.diffBlankUptoRow.veiledFits Tryz.prog Tryz.f6.params.toList (Tryz.f6.params.toList ++ (Rows.OpenSpec.upto Rows.diffBlankSpec).bare.plain.varTypes Tryz.prog ++ Tryz.f6.resultTypes.toList)) = true := by kernel_rfl
theorem diffBlank_holds : Rows.DiffBlankUptoSaid :=
  OpenClaim.holds_of_cond 6 Tryz.f6 rfl rfl rfl rfl rfl rfl rfl ⟨rfl, rfl, rfl, rfl, rfl⟩ rfl rfl rfl rfl rfl (by kernel_rfl) Tryz.func6 (joined_of (k1 := jfDiffBlank1) (k2 := jpLaid) (k3 := jpMaps) (k4 := jfDiffBlank4) (k5 := jfDiffBlank5) (k6 := by kernel_rfl) (k7 := jpStops) (k8 := by kernel_rfl) (k9 := jpKnobs) (k10 := jfDiffBlank10) (k11 := jfDiffBlank11) (k12 := jfDiffBlank12) (k13 := jfDiffBlank13) (k14 := jfDiffBlank14) (k15 := jfDiffBlank15) (k16 := jfDiffBlank16) (k17 := jfDiffBlank17) (k17b := jfDiffBlank17b) (k18 := by kernel_rfl) (k19 := jfDiffBlank19) (k20 := jfDiffBlank20) (k21 := jfDiffBlank21) (k22 := jpKeys) (k23 := by kernel_rfl) (k23b := jpHeard) (k24 := jpEnter) (k24b := jpLifts) (k24c := jpMake) (k25 := by kernel_rfl) (k26 := by kernel_rfl) (k27 := jfDiffBlank27) (k28 := jfDiffBlank28))
    (of_decide_eq_true (by kernel_rfl)) (by unfold Func.isWrapper; first | (rw [if_pos (by decide +kernel)]; kernel_rfl) | (rw [if_neg (by decide +kernel)]; exact ⟨rfl, rfl⟩))
    (fun os started H enc _ F => liftedDiffBlank os started H enc F)
#print axioms diffBlank_holds
end Go.Proofs.YtekodpcedjpnjaaGreat
