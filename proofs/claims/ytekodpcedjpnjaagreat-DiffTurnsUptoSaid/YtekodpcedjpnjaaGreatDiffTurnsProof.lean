/- The statement DiffTurns of placardlaw10, where what is read is of bulk at most 1048576: for every such input the law's call returns true and leaves its arguments as they were. The condition is the statement's own. -/
import Derived.JoinedCond
import Derived.Test.YtekodpcedjpnjaaGreatBt00
import Derived.Test.YtekodpcedjpnjaaGreatBt11
import Derived.Test.YtekodpcedjpnjaaGreatBt50
import Derived.Test.YtekodpcedjpnjaaGreatBt51
import Derived.Test.YtekodpcedjpnjaaGreatBt52
set_option linter.unusedVariables false
set_option linter.unusedSimpArgs false
namespace Go.Proofs.YtekodpcedjpnjaaGreat
open Go.ChangeShapes Go.WideShapes Go.ChangeAt Go.RowKit
open Go.ChangeMaps (open_string shut_string)
theorem ownDiffTurns : ownKnob Tryz.prog.godebug = none := by kernel_rfl
theorem laidDiffTurns : laidOutB Tryz.prog = true := jpLaid
set_option maxRecDepth 100000 in
theorem liftedDiffTurns (os : Os) (started : os.Started) (H : Type) (enc : TypeId × Value → H) (F : Stop.Interp) :
    ReturnsInHanded {} Tryz.checked os 5 .any ((Rows.OpenSpec.upto Rows.diffTurnsSpec).pre6 enc Tryz.prog Tryz.f5 Rows.diffTurnsUptoRow.domain false) (((Rows.OpenSpec.upto Rows.diffTurnsSpec).at F).post enc Tryz.prog Tryz.f5 false true false false) := by
  refine returnsInHanded_of_cond (C := Tryz.checked) (s := Rows.OpenSpec.upto Rows.diffTurnsSpec) (k := Rows.uptoSmall) rfl ownDiffTurns started (by kernel_rfl) Tryz.func5
    (OpenSpec.witness (enc := enc) (C := Tryz.checked) (s := Rows.OpenSpec.upto Rows.diffTurnsSpec) (k := Rows.uptoSmall) rfl false ⟨#[], #[.agg #[.slice none 0 0, .int .i64 0, .int .i64 0, .bool false], .agg #[.slice none 0 0, .int .i64 0, .int .i64 0, .bool false]], []⟩ 8 (by kernel_rfl) (by kernel_rfl) (by kernel_rfl)
      (x := ([.agg [.nil, .lit (.int .i64 0), .lit (.int .i64 0), .lit (.bool false)], .agg [.nil, .lit (.int .i64 0), .lit (.int .i64 0), .lit (.bool false)]], [], [])) (by kernel_rfl) rfl (by kernel_rfl)) ?_
  intro W base args ds gs before hval0 hW hcnd hk _
  have hval : ∀ (j : Nat) t v, Tryz.f5.params[j]? = some t → args[j]? = some v → Value.okWide Tryz.prog W .any base t v := hval0
  have hW' := hW
  obtain ⟨p, q, hA0, hV, rfl, hfz, hnd⟩ := hW
  have hA : DataW.TrodAll enc Tryz.prog W 0 (fun _ => true) true Tryz.f5.params.toList args.toList ds p := hA0
  rw [Tryz.params5] at hA hval
  obtain ⟨v0, vs0, d0, ds0, p0, q0, hargs, rfl, rfl, h0, r0⟩ := trodAll_cons hA
  obtain ⟨v1, vs1, d1, ds1, p1, q1, rfl, rfl, rfl, h1, r1⟩ := trodAll_cons r0
  obtain ⟨rfl, rfl, rfl⟩ := trodAll_nil r1
  obtain rfl : args = #[v0, v1] := by cases args; simp_all
  obtain ⟨cs0, rfl, sz0⟩ := okWide_struct Tryz.underlying52 (hval 0 52 v0 rfl rfl)
  obtain ⟨a0, len0, cap0, r0_, c0_, s0_, R0, rfl, w0, m0, lc0, cm0, sm0⟩ := open_frameS (n := 5) Tryz.underlying52 (by kernel_rfl) rfl rfl rfl rfl Tryz.underlying50 Tryz.underlying3 Tryz.underlying3 Tryz.underlying4 (by kernel_rfl) (by kernel_rfl) (by kernel_rfl) (by kernel_rfl) Tryz.underlying60 (by kernel_rfl) (by kernel_rfl) (by kernel_rfl) Tryz.underlying171 rfl rfl (by kernel_rfl) Tryz.underlying9 h0
  obtain ⟨cs1, rfl, sz1⟩ := okWide_struct Tryz.underlying52 (hval 1 52 v1 rfl rfl)
  obtain ⟨a1, len1, cap1, r1_, c1_, s1_, R1, rfl, w1, m1, lc1, cm1, sm1⟩ := open_frameS (n := 5) Tryz.underlying52 (by kernel_rfl) rfl rfl rfl rfl Tryz.underlying50 Tryz.underlying3 Tryz.underlying3 Tryz.underlying4 (by kernel_rfl) (by kernel_rfl) (by kernel_rfl) (by kernel_rfl) Tryz.underlying60 (by kernel_rfl) (by kernel_rfl) (by kernel_rfl) Tryz.underlying171 rfl rfl (by kernel_rfl) Tryz.underlying9 h1
  clear hA0 hval0
  have hb := of_decide_eq_true hk
  simp only [List.cons_append, List.nil_append, Rows.uptoBulkAll, Rows.uptoBulk] at hb
  have z0 : ∀ M ∈ R0, ∀ c ∈ M, c.s.size ≤ 1100000 := fun M hM k hk => by have := sm0 M hM k hk; omega
  have z1 : ∀ M ∈ R1, ∀ c ∈ M, c.s.size ≤ 1100000 := fun M hM k hk => by have := sm1 M hM k hk; omega
  clear hb hk
  refine (diffTurns_law a0 len0 cap0 r0_ c0_ s0_ R0 a1 len1 cap1 r1_ c1_ s1_ R1 W w0 m0 lc0 cm0 z0 w1 m1 lc1 cm1 z1).mono fun e W' ⟨he, hb⟩ => ?_
  subst he
  exact ⟨_, rfl, law_end laidDiffTurns (by kernel_rfl) hW' rfl rfl Tryz.underlying4 (by obtain ⟨rfl, rfl⟩ := trodVars_none hV; rfl) hb⟩
theorem jfDiffTurns1 : (OpenClaim.wf (OpenSpec.ofChange (Rows.OpenSpec.upto Rows.diffTurnsSpec).bare) Rows.diffTurnsUptoRow) = true := by kernel_rfl
theorem jfDiffTurns4 : (Tryz.f5.params.all (Tryz.prog.readableRec ·)) = true := by kernel_rfl
theorem jfDiffTurns5 : (namedTie Tryz.prog Rows.diffTurnsUptoRow.named (Rows.OpenSpec.upto Rows.diffTurnsSpec).bare.vars) = true := by kernel_rfl
theorem jfDiffTurns10 : ((Rows.diffTurnsUptoRow.inPlace == Tryz.prog.inPlace 5)) = true := by kernel_rfl
theorem jfDiffTurns11 : ((Rows.diffTurnsUptoRow.unfollowed == Tryz.prog.unfollowed 5)) = true := by kernel_rfl
theorem jfDiffTurns12 : ((Rows.diffTurnsUptoRow.recurses == Tryz.prog.recurses 5)) = true := by kernel_rfl
theorem jfDiffTurns13 : ((Rows.diffTurnsUptoRow.named == Tryz.prog.varsNamed 5)) = true := by kernel_rfl
theorem jfDiffTurns14 : ((Rows.diffTurnsUptoRow.maps == (Tryz.f5.params.toList ++ (Rows.OpenSpec.upto Rows.diffTurnsSpec).bare.plain.varTypes Tryz.prog).any (Tryz.prog.mapsRec ·))) = true := by kernel_rfl
theorem jfDiffTurns15 : ((Rows.diffTurnsUptoRow.ifaces == (Tryz.f5.params.toList ++ (Rows.OpenSpec.upto Rows.diffTurnsSpec).bare.plain.varTypes Tryz.prog).any (Tryz.prog.ifacesRec ·))) = true := by kernel_rfl
theorem jfDiffTurns16 : ((Rows.diffTurnsUptoRow.mapsOut == Tryz.prog.mapsAmong Tryz.f5.resultTypes.toList)) = true := by kernel_rfl
theorem jfDiffTurns17 : ((Rows.diffTurnsUptoRow.loops == (Tryz.f5.params.toList ++ (Rows.OpenSpec.upto Rows.diffTurnsSpec).bare.plain.varTypes Tryz.prog).any (Tryz.prog.loopsFrom ·))) = true := by kernel_rfl
theorem jfDiffTurns17b : ((Rows.diffTurnsUptoRow.wideKeys == (Tryz.f5.params.toList ++ (Rows.OpenSpec.upto Rows.diffTurnsSpec).bare.plain.varTypes Tryz.prog ++ Tryz.f5.resultTypes.toList).any (Tryz.prog.wideKeysFrom ·))) = true := by kernel_rfl
theorem jfDiffTurns19 : (Tryz.f5.resultTypes.all (fun t => Tryz.prog.readableRec t && decide (t < Tryz.prog.types.size))) = true := by kernel_rfl
theorem jfDiffTurns20 : ((Rows.diffTurnsUptoRow.ifacesOut == Tryz.f5.resultTypes.toList.any (Tryz.prog.ifacesRec ·))) = true := by kernel_rfl
theorem jfDiffTurns21 : ((Rows.diffTurnsUptoRow.loopsOut == Tryz.f5.resultTypes.toList.any (Tryz.prog.loopsFrom ·))) = true := by kernel_rfl
theorem jfDiffTurns27 : ((Rows.diffTurnsUptoRow.veiled == (Tryz.f5.params.toList ++ (Rows.OpenSpec.upto Rows.diffTurnsSpec).bare.plain.varTypes Tryz.prog ++ Tryz.f5.resultTypes.toList).any (Tryz.prog.veiledRec ·))) = true := by kernel_rfl
theorem jfDiffTurns28 : (Rows.diffTurnsUptoRow.veiledFits Tryz.prog Tryz.f5.params.toList (Tryz.f5.params.toList ++ (Rows.OpenSpec.upto Rows.diffTurnsSpec).bare.plain.varTypes Tryz.prog ++ Tryz.f5.resultTypes.toList)) = true := by kernel_rfl
theorem diffTurns_holds : Rows.DiffTurnsUptoSaid :=
  OpenClaim.holds_of_cond 5 Tryz.f5 rfl rfl rfl rfl rfl rfl rfl ⟨rfl, rfl, rfl, rfl, rfl⟩ rfl rfl rfl rfl rfl (by kernel_rfl) Tryz.func5 (joined_of (k1 := jfDiffTurns1) (k2 := jpLaid) (k3 := jpMaps) (k4 := jfDiffTurns4) (k5 := jfDiffTurns5) (k6 := by kernel_rfl) (k7 := jpStops) (k8 := by kernel_rfl) (k9 := jpKnobs) (k10 := jfDiffTurns10) (k11 := jfDiffTurns11) (k12 := jfDiffTurns12) (k13 := jfDiffTurns13) (k14 := jfDiffTurns14) (k15 := jfDiffTurns15) (k16 := jfDiffTurns16) (k17 := jfDiffTurns17) (k17b := jfDiffTurns17b) (k18 := by kernel_rfl) (k19 := jfDiffTurns19) (k20 := jfDiffTurns20) (k21 := jfDiffTurns21) (k22 := jpKeys) (k23 := by kernel_rfl) (k23b := jpHeard) (k24 := jpEnter) (k24b := jpLifts) (k24c := jpMake) (k25 := by kernel_rfl) (k26 := by kernel_rfl) (k27 := jfDiffTurns27) (k28 := jfDiffTurns28))
    (of_decide_eq_true (by kernel_rfl)) (by unfold Func.isWrapper; first | (rw [if_pos (by decide +kernel)]; kernel_rfl) | (rw [if_neg (by decide +kernel)]; exact ⟨rfl, rfl⟩))
    (fun os started H enc _ F => liftedDiffTurns os started H enc F)
#print axioms diffTurns_holds
end Go.Proofs.YtekodpcedjpnjaaGreat
