/- The statement RegionCosts of placardlaw11, where what is read is of bulk at most 1048576: for every such input the law's call returns true and leaves its arguments as they were. The condition is the statement's own. -/
import Derived.JoinedCond
import Derived.Test.YtekodpcedjpnjaaGreatRC00
import Derived.Test.YtekodpcedjpnjaaGreatRC01
import Derived.Test.YtekodpcedjpnjaaGreatRC52
set_option linter.unusedVariables false
set_option linter.unusedSimpArgs false
namespace Go.Proofs.YtekodpcedjpnjaaGreat
open Go.ChangeShapes Go.WideShapes Go.ChangeAt Go.RowKit
open Go.ChangeMaps (open_string shut_string)
theorem ownRegionCosts : ownKnob Tryz.prog.godebug = none := by kernel_rfl
theorem laidRegionCosts : laidOutB Tryz.prog = true := jpLaid
set_option maxRecDepth 100000 in
theorem liftedRegionCosts (os : Os) (started : os.Started) (H : Type) (enc : TypeId × Value → H) (F : Stop.Interp) :
    ReturnsInHanded {} Tryz.checked os 12 .any ((Rows.OpenSpec.upto Rows.regionCostsSpec).pre6 enc Tryz.prog Tryz.f12 Rows.regionCostsUptoRow.domain false) (((Rows.OpenSpec.upto Rows.regionCostsSpec).at F).post enc Tryz.prog Tryz.f12 false true false false) := by
  refine returnsInHanded_of_cond (C := Tryz.checked) (s := Rows.OpenSpec.upto Rows.regionCostsSpec) (k := Rows.uptoSmall) rfl ownRegionCosts started (by kernel_rfl) Tryz.func12
    (OpenSpec.witness (enc := enc) (C := Tryz.checked) (s := Rows.OpenSpec.upto Rows.regionCostsSpec) (k := Rows.uptoSmall) rfl false ⟨#[], #[.int .i64 0, .int .i64 0, .int .i64 0, .slice none 0 0], []⟩ 8 (by kernel_rfl) (by kernel_rfl) (by kernel_rfl)
      (x := ([.lit (.int .i64 0), .lit (.int .i64 0), .lit (.int .i64 0), .nil], [], [])) (by kernel_rfl) rfl (by kernel_rfl)) ?_
  intro W base args ds gs before hval0 hW hcnd hk _
  have hval : ∀ (j : Nat) t v, Tryz.f12.params[j]? = some t → args[j]? = some v → Value.okWide Tryz.prog W .any base t v := hval0
  have hW' := hW
  obtain ⟨p, q, hA0, hV, rfl, hfz, hnd⟩ := hW
  have hA : DataW.TrodAll enc Tryz.prog W 0 (fun _ => true) true Tryz.f12.params.toList args.toList ds p := hA0
  rw [Tryz.params12] at hA hval
  obtain ⟨v0, vs0, d0, ds0, p0, q0, hargs, rfl, rfl, h0, r0⟩ := trodAll_cons hA
  obtain ⟨v1, vs1, d1, ds1, p1, q1, rfl, rfl, rfl, h1, r1⟩ := trodAll_cons r0
  obtain ⟨v2, vs2, d2, ds2, p2, q2, rfl, rfl, rfl, h2, r2⟩ := trodAll_cons r1
  obtain ⟨v3, vs3, d3, ds3, p3, q3, rfl, rfl, rfl, h3, r3⟩ := trodAll_cons r2
  obtain ⟨rfl, rfl, rfl⟩ := trodAll_nil r3
  obtain rfl : args = #[v0, v1, v2, v3] := by cases args; simp_all
  obtain ⟨a0, rfl, rfl, rfl, w0⟩ := open_int Tryz.underlying3 (hval 0 3 v0 rfl rfl) h0
  obtain ⟨a1, rfl, rfl, rfl, w1⟩ := open_int Tryz.underlying3 (hval 1 3 v1 rfl rfl) h1
  obtain ⟨a2, rfl, rfl, rfl, w2⟩ := open_int Tryz.underlying3 (hval 2 3 v2 rfl rfl) h2
  obtain ⟨a3, len3, cap3, rfl⟩ := okWide_slice Tryz.underlying116 (hval 3 116 v3 rfl rfl)
  clear hA0 hval0
  have hb := of_decide_eq_true hk
  simp only [List.cons_append, List.nil_append, Rows.uptoBulkAll, Rows.uptoBulk] at hb
  have w3 := open_opsR h3 (by omega)
  clear hb hk
  refine (regionCosts_law a0 a1 a2 a3 len3 cap3 W w0 w1 w2 w3).mono fun e W' ⟨he, hb⟩ => ?_
  subst he
  exact ⟨_, rfl, law_end laidRegionCosts (by kernel_rfl) hW' rfl rfl Tryz.underlying4 (by obtain ⟨rfl, rfl⟩ := trodVars_none hV; rfl) hb⟩
theorem jfRegionCosts1 : (OpenClaim.wf (OpenSpec.ofChange (Rows.OpenSpec.upto Rows.regionCostsSpec).bare) Rows.regionCostsUptoRow) = true := by kernel_rfl
theorem jfRegionCosts4 : (Tryz.f12.params.all (Tryz.prog.readableRec ·)) = true := by kernel_rfl
theorem jfRegionCosts5 : (namedTie Tryz.prog Rows.regionCostsUptoRow.named (Rows.OpenSpec.upto Rows.regionCostsSpec).bare.vars) = true := by kernel_rfl
theorem jfRegionCosts10 : ((Rows.regionCostsUptoRow.inPlace == Tryz.prog.inPlace 12)) = true := by kernel_rfl
theorem jfRegionCosts11 : ((Rows.regionCostsUptoRow.unfollowed == Tryz.prog.unfollowed 12)) = true := by kernel_rfl
theorem jfRegionCosts12 : ((Rows.regionCostsUptoRow.recurses == Tryz.prog.recurses 12)) = true := by kernel_rfl
theorem jfRegionCosts13 : ((Rows.regionCostsUptoRow.named == Tryz.prog.varsNamed 12)) = true := by kernel_rfl
theorem jfRegionCosts14 : ((Rows.regionCostsUptoRow.maps == (Tryz.f12.params.toList ++ (Rows.OpenSpec.upto Rows.regionCostsSpec).bare.plain.varTypes Tryz.prog).any (Tryz.prog.mapsRec ·))) = true := by kernel_rfl
theorem jfRegionCosts15 : ((Rows.regionCostsUptoRow.ifaces == (Tryz.f12.params.toList ++ (Rows.OpenSpec.upto Rows.regionCostsSpec).bare.plain.varTypes Tryz.prog).any (Tryz.prog.ifacesRec ·))) = true := by kernel_rfl
theorem jfRegionCosts16 : ((Rows.regionCostsUptoRow.mapsOut == Tryz.prog.mapsAmong Tryz.f12.resultTypes.toList)) = true := by kernel_rfl
theorem jfRegionCosts17 : ((Rows.regionCostsUptoRow.loops == (Tryz.f12.params.toList ++ (Rows.OpenSpec.upto Rows.regionCostsSpec).bare.plain.varTypes Tryz.prog).any (Tryz.prog.loopsFrom ·))) = true := by kernel_rfl
theorem jfRegionCosts17b : ((Rows.regionCostsUptoRow.wideKeys == (Tryz.f12.params.toList ++ (Rows.OpenSpec.upto Rows.regionCostsSpec).bare.plain.varTypes Tryz.prog ++ Tryz.f12.resultTypes.toList).any (Tryz.prog.wideKeysFrom ·))) = true := by kernel_rfl
theorem jfRegionCosts19 : (Tryz.f12.resultTypes.all (fun t => Tryz.prog.readableRec t && decide (t < Tryz.prog.types.size))) = true := by kernel_rfl
theorem jfRegionCosts20 : ((Rows.regionCostsUptoRow.ifacesOut == Tryz.f12.resultTypes.toList.any (Tryz.prog.ifacesRec ·))) = true := by kernel_rfl
theorem jfRegionCosts21 : ((Rows.regionCostsUptoRow.loopsOut == Tryz.f12.resultTypes.toList.any (Tryz.prog.loopsFrom ·))) = true := by kernel_rfl
theorem jfRegionCosts27 : ((Rows.regionCostsUptoRow.veiled == (Tryz.f12.params.toList ++ (Rows.OpenSpec.upto Rows.regionCostsSpec).bare.plain.varTypes Tryz.prog ++ Tryz.f12.resultTypes.toList).any (Tryz.prog.veiledRec ·))) = true := by kernel_rfl
theorem jfRegionCosts28 : (Rows.regionCostsUptoRow.veiledFits Tryz.prog Tryz.f12.params.toList (Tryz.f12.params.toList ++ (Rows.OpenSpec.upto Rows.regionCostsSpec).bare.plain.varTypes Tryz.prog ++ Tryz.f12.resultTypes.toList)) = true := by kernel_rfl
theorem regionCosts_holds : Rows.RegionCostsUptoSaid :=
  OpenClaim.holds_of_cond 12 Tryz.f12 rfl rfl rfl rfl rfl rfl rfl ⟨rfl, rfl, rfl, rfl, rfl⟩ rfl rfl rfl rfl rfl (by kernel_rfl) Tryz.func12 (joined_of (k1 := jfRegionCosts1) (k2 := jpLaid) (k3 := jpMaps) (k4 := jfRegionCosts4) (k5 := jfRegionCosts5) (k6 := by kernel_rfl) (k7 := jpStops) (k8 := by kernel_rfl) (k9 := jpKnobs) (k10 := jfRegionCosts10) (k11 := jfRegionCosts11) (k12 := jfRegionCosts12) (k13 := jfRegionCosts13) (k14 := jfRegionCosts14) (k15 := jfRegionCosts15) (k16 := jfRegionCosts16) (k17 := jfRegionCosts17) (k17b := jfRegionCosts17b) (k18 := by kernel_rfl) (k19 := jfRegionCosts19) (k20 := jfRegionCosts20) (k21 := jfRegionCosts21) (k22 := jpKeys) (k23 := by kernel_rfl) (k23b := jpHeard) (k24 := jpEnter) (k24b := jpLifts) (k24c := jpMake) (k25 := by kernel_rfl) (k26 := by kernel_rfl) (k27 := jfRegionCosts27) (k28 := jfRegionCosts28))
    (of_decide_eq_true (by kernel_rfl)) (by unfold Func.isWrapper; first | (rw [if_pos (by decide +kernel)]; kernel_rfl) | (rw [if_neg (by decide +kernel)]; exact ⟨rfl, rfl⟩))
    (fun os started H enc _ F => liftedRegionCosts os started H enc F)
#print axioms regionCosts_holds
end Go.Proofs.YtekodpcedjpnjaaGreat
