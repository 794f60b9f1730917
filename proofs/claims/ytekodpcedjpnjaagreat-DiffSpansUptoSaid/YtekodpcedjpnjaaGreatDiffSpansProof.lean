/- The statement DiffSpans of placardlaw10, where what is read is of bulk at most 1048576: for every such input the law's call returns true and leaves its arguments as they were. The condition is the statement's own. -/
import Derived.JoinedCond
import Derived.Test.YtekodpcedjpnjaaGreatBs00
import Derived.Test.YtekodpcedjpnjaaGreatBs12
import Derived.Test.YtekodpcedjpnjaaGreatBs52
import Derived.Test.YtekodpcedjpnjaaGreatBs53
import Derived.Test.YtekodpcedjpnjaaGreatBs54
set_option linter.unusedVariables false
set_option linter.unusedSimpArgs false
namespace Go.Proofs.YtekodpcedjpnjaaGreat
open Go.ChangeShapes Go.WideShapes Go.ChangeAt Go.RowKit
open Go.ChangeMaps (open_string shut_string)
theorem ownDiffSpans : ownKnob Tryz.prog.godebug = none := by kernel_rfl
theorem laidDiffSpans : laidOutB Tryz.prog = true := jpLaid
set_option maxRecDepth 100000 in
theorem liftedDiffSpans (os : Os) (started : os.Started) (H : Type) (enc : TypeId × Value → H) (F : Stop.Interp) :
    ReturnsInHanded {} Tryz.checked os 7 .any ((Rows.OpenSpec.upto Rows.diffSpansSpec).pre6 enc Tryz.prog Tryz.f7 Rows.diffSpansUptoRow.domain false) (((Rows.OpenSpec.upto Rows.diffSpansSpec).at F).post enc Tryz.prog Tryz.f7 false true false false) := by
  refine returnsInHanded_of_cond (C := Tryz.checked) (s := Rows.OpenSpec.upto Rows.diffSpansSpec) (k := Rows.uptoSmall) rfl ownDiffSpans started (by kernel_rfl) Tryz.func7
    (OpenSpec.witness (enc := enc) (C := Tryz.checked) (s := Rows.OpenSpec.upto Rows.diffSpansSpec) (k := Rows.uptoSmall) rfl false ⟨#[], #[.agg #[.slice none 0 0, .int .i64 0, .int .i64 0, .bool false], .agg #[.slice none 0 0, .int .i64 0, .int .i64 0, .bool false], .int .u8 0], []⟩ 8 (by kernel_rfl) (by kernel_rfl) (by kernel_rfl)
      (x := ([.agg [.nil, .lit (.int .i64 0), .lit (.int .i64 0), .lit (.bool false)], .agg [.nil, .lit (.int .i64 0), .lit (.int .i64 0), .lit (.bool false)], .lit (.int .u8 0)], [], [])) (by kernel_rfl) rfl (by kernel_rfl)) ?_
  intro W base args ds gs before hval0 hW hcnd hk _
  have hval : ∀ (j : Nat) t v, Tryz.f7.params[j]? = some t → args[j]? = some v → Value.okWide Tryz.prog W .any base t v := hval0
  have hW' := hW
  obtain ⟨p, q, hA0, hV, rfl, hfz, hnd⟩ := hW
  have hA : DataW.TrodAll enc Tryz.prog W 0 (fun _ => true) true Tryz.f7.params.toList args.toList ds p := hA0
  rw [Tryz.params7] at hA hval
  obtain ⟨v0, vs0, d0, ds0, p0, q0, hargs, rfl, rfl, h0, r0⟩ := trodAll_cons hA
  obtain ⟨v1, vs1, d1, ds1, p1, q1, rfl, rfl, rfl, h1, r1⟩ := trodAll_cons r0
  obtain ⟨v2, vs2, d2, ds2, p2, q2, rfl, rfl, rfl, h2, r2⟩ := trodAll_cons r1
  obtain ⟨rfl, rfl, rfl⟩ := trodAll_nil r2
  obtain rfl : args = #[v0, v1, v2] := by cases args; simp_all
  obtain ⟨cs0, rfl, sz0⟩ := okWide_struct Tryz.underlying52 (hval 0 52 v0 rfl rfl)
  obtain ⟨a0, len0, cap0, r0_, c0_, s0_, R0, rfl, w0, m0, lc0, cm0, sm0⟩ := open_frameS (n := 5) Tryz.underlying52 (by kernel_rfl) rfl rfl rfl rfl Tryz.underlying50 Tryz.underlying3 Tryz.underlying3 Tryz.underlying4 (by kernel_rfl) (by kernel_rfl) (by kernel_rfl) (by kernel_rfl) Tryz.underlying60 (by kernel_rfl) (by kernel_rfl) (by kernel_rfl) Tryz.underlying171 rfl rfl (by kernel_rfl) Tryz.underlying9 h0
  obtain ⟨cs1, rfl, sz1⟩ := okWide_struct Tryz.underlying52 (hval 1 52 v1 rfl rfl)
  obtain ⟨a1, len1, cap1, r1_, c1_, s1_, R1, rfl, w1, m1, lc1, cm1, sm1⟩ := open_frameS (n := 5) Tryz.underlying52 (by kernel_rfl) rfl rfl rfl rfl Tryz.underlying50 Tryz.underlying3 Tryz.underlying3 Tryz.underlying4 (by kernel_rfl) (by kernel_rfl) (by kernel_rfl) (by kernel_rfl) Tryz.underlying60 (by kernel_rfl) (by kernel_rfl) (by kernel_rfl) Tryz.underlying171 rfl rfl (by kernel_rfl) Tryz.underlying9 h1
  obtain ⟨a2, rfl, rfl, rfl, w2⟩ := open_int Tryz.underlying5 (hval 2 5 v2 rfl rfl) h2
  clear hA0 hval0
  have hb := of_decide_eq_true hk
  simp only [List.cons_append, List.nil_append, Rows.uptoBulkAll, Rows.uptoBulk] at hb
  have z0 : ∀ M ∈ R0, ∀ c ∈ M, c.s.size ≤ 1100000 := fun M hM k hk => by have := sm0 M hM k hk; omega
  have z1 : ∀ M ∈ R1, ∀ c ∈ M, c.s.size ≤ 1100000 := fun M hM k hk => by have := sm1 M hM k hk; omega
  clear hb hk
  refine (diffSpans_law a0 len0 cap0 r0_ c0_ s0_ R0 a1 len1 cap1 r1_ c1_ s1_ R1 a2 W w0 m0 lc0 cm0 z0 w1 m1 lc1 cm1 z1 w2).mono fun e W' ⟨he, hb⟩ => ?_
  subst he
  exact ⟨_, rfl, law_end laidDiffSpans (by kernel_rfl) hW' rfl rfl Tryz.underlying4 (by obtain ⟨rfl, rfl⟩ := trodVars_none hV; rfl) hb⟩
theorem jfDiffSpans1 : (OpenClaim.wf (OpenSpec.ofChange (Rows.OpenSpec.upto Rows.diffSpansSpec).bare) Rows.diffSpansUptoRow) = true := by kernel_rfl
theorem jfDiffSpans4 : (Tryz.f7.params.all (Tryz.prog.readableRec ·)) = true := by kernel_rfl
theorem jfDiffSpans5 : (namedTie Tryz.prog Rows.diffSpansUptoRow.named (Rows.OpenSpec.upto Rows.diffSpansSpec).bare.vars) = true := by kernel_rfl
theorem jfDiffSpans10 : ((Rows.diffSpansUptoRow.inPlace == Tryz.prog.inPlace 7)) = true := by kernel_rfl
theorem jfDiffSpans11 : ((Rows.diffSpansUptoRow.unfollowed == Tryz.prog.unfollowed 7)) = true := by kernel_rfl
theorem jfDiffSpans12 : ((Rows.diffSpansUptoRow.recurses == Tryz.prog.recurses 7)) = true := by kernel_rfl
theorem jfDiffSpans13 : ((Rows.diffSpansUptoRow.named == Tryz.prog.varsNamed 7)) = true := by kernel_rfl
theorem jfDiffSpans14 : ((Rows.diffSpansUptoRow.maps == (Tryz.f7.params.toList ++ (Rows.OpenSpec.upto Rows.diffSpansSpec).bare.plain.varTypes Tryz.prog).any (Tryz.prog.mapsRec ·))) = true := by kernel_rfl
theorem jfDiffSpans15 : ((Rows.diffSpansUptoRow.ifaces == (Tryz.f7.params.toList ++ (Rows.OpenSpec.upto Rows.diffSpansSpec).bare.plain.varTypes Tryz.prog).any (Tryz.prog.ifacesRec ·))) = true := by kernel_rfl
theorem jfDiffSpans16 : ((Rows.diffSpansUptoRow.mapsOut == Tryz.prog.mapsAmong Tryz.f7.resultTypes.toList)) = true := by kernel_rfl
theorem jfDiffSpans17 : ((Rows.diffSpansUptoRow.loops == (Tryz.f7.params.toList ++ (Rows.OpenSpec.upto Rows.diffSpansSpec).bare.plain.varTypes Tryz.prog).any (Tryz.prog.loopsFrom ·))) = true := by kernel_rfl
theorem jfDiffSpans17b : ((Rows.diffSpansUptoRow.wideKeys == (Tryz.f7.params.toList ++ (Rows.OpenSpec.upto Rows.diffSpansSpec).bare.plain.varTypes Tryz.prog ++ Tryz.f7.resultTypes.toList).any (Tryz.prog.wideKeysFrom ·))) = true := by kernel_rfl
theorem jfDiffSpans19 : (Tryz.f7.resultTypes.all (fun t => Tryz.prog.readableRec t && decide (t < Tryz.prog.types.size))) = true := by kernel_rfl
theorem jfDiffSpans20 : ((Rows.diffSpansUptoRow.ifacesOut == Tryz.f7.resultTypes.toList.any (Tryz.prog.ifacesRec ·))) = true := by kernel_rfl
theorem jfDiffSpans21 : ((Rows.diffSpansUptoRow.loopsOut == Tryz.f7.resultTypes.toList.any (Tryz.prog.loopsFrom ·))) = true := by kernel_rfl
theorem jfDiffSpans27 : ((Rows.diffSpansUptoRow.veiled == (Tryz.f7.params.toList ++ (Rows.OpenSpec.upto Rows.diffSpansSpec).bare.plain.varTypes Tryz.prog ++ Tryz.f7.resultTypes.toList).any (Tryz.prog.veiledRec ·))) = true := by kernel_rfl
theorem jfDiffSpans28 : (Rows.diffSpansUptoRow.veiledFits Tryz.prog Tryz.f7.params.toList (Tryz.f7.params.toList ++ (Rows.OpenSpec.upto Rows.diffSpansSpec).bare.plain.varTypes Tryz.prog ++ Tryz.f7.resultTypes.toList)) = true := by kernel_rfl
theorem diffSpans_holds : Rows.DiffSpansUptoSaid :=
  OpenClaim.holds_of_cond 7 Tryz.f7 rfl rfl rfl rfl rfl rfl rfl ⟨rfl, rfl, rfl, rfl, rfl⟩ rfl rfl rfl rfl rfl (by kernel_rfl) Tryz.func7 (joined_of (k1 := jfDiffSpans1) (k2 := jpLaid) (k3 := jpMaps) (k4 := jfDiffSpans4) (k5 := jfDiffSpans5) (k6 := by kernel_rfl) (k7 := jpStops) (k8 := by kernel_rfl) (k9 := jpKnobs) (k10 := jfDiffSpans10) (k11 := jfDiffSpans11) (k12 := jfDiffSpans12) (k13 := jfDiffSpans13) (k14 := jfDiffSpans14) (k15 := jfDiffSpans15) (k16 := jfDiffSpans16) (k17 := jfDiffSpans17) (k17b := jfDiffSpans17b) (k18 := by kernel_rfl) (k19 := jfDiffSpans19) (k20 := jfDiffSpans20) (k21 := jfDiffSpans21) (k22 := jpKeys) (k23 := by kernel_rfl) (k23b := jpHeard) (k24 := jpEnter) (k24b := jpLifts) (k24c := jpMake) (k25 := by kernel_rfl) (k26 := by kernel_rfl) (k27 := jfDiffSpans27) (k28 := jfDiffSpans28))
    (of_decide_eq_true (by kernel_rfl)) (by unfold Func.isWrapper; first | (rw [if_pos (by decide +kernel)]; kernel_rfl) | (rw [if_neg (by decide +kernel)]; exact ⟨rfl, rfl⟩))
    (fun os started H enc _ F => liftedDiffSpans os started H enc F)
#print axioms diffSpans_holds
end Go.Proofs.YtekodpcedjpnjaaGreat
