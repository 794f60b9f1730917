/- The statement RegionNobody of placardlaw11: for every input the law's call returns true and leaves its arguments as they were. The condition is the statement's own. -/
import Derived.Test.YtekodpcedjpnjaaGreatRN00
import Derived.Test.YtekodpcedjpnjaaGreatRN10
import Derived.Test.YtekodpcedjpnjaaGreatRN11
import Derived.Test.YtekodpcedjpnjaaGreatRN12
import Derived.Test.YtekodpcedjpnjaaGreatRN52
set_option linter.unusedVariables false
set_option linter.unusedSimpArgs false
namespace Go.Proofs.YtekodpcedjpnjaaGreat
open Go.ChangeShapes Go.WideShapes Go.ChangeAt Go.RowKit
open Go.ChangeMaps (open_string shut_string)
theorem ownRegionNobody : ownKnob Tryz.prog.godebug = none := by kernel_rfl
theorem laidRegionNobody : laidOutB Tryz.prog = true := jpLaid
set_option maxRecDepth 100000 in
theorem liftedRegionNobody (os : Os) (started : os.Started) (H : Type) (enc : TypeId × Value → H) :
    ReturnsInHanded {} Tryz.checked os 14 .any (Rows.regionNobodySpec.pre6 enc Tryz.prog Tryz.f14 Rows.regionNobodyRow.domain false) (Rows.regionNobodySpec.post enc Tryz.prog Tryz.f14 false true false false) := by
  refine returnsInHanded_of_change (C := Tryz.checked) ownRegionNobody started (by kernel_rfl) Tryz.func14
    (ChangeSpec.witness6 (enc := enc) (C := Tryz.checked) false ⟨#[], #[.agg #[.slice none 0 0, .int .i64 0, .int .i64 0, .bool false], .int .i64 0, .int .i64 0], []⟩ 8 (by kernel_rfl) (by kernel_rfl) (by kernel_rfl) (by kernel_rfl)) ?_
  intro W base args ds gs before hval0 hW hcnd _
  have hval : ∀ (j : Nat) t v, Tryz.f14.params[j]? = some t → args[j]? = some v → Value.okWide Tryz.prog W .any base t v := hval0
  have hW' := hW
  obtain ⟨p, q, hA0, hV, rfl, hfz, hnd⟩ := hW
  have hA : DataW.TrodAll enc Tryz.prog W 0 (fun _ => true) true Tryz.f14.params.toList args.toList ds p := hA0
  rw [Tryz.params14] at hA hval
  obtain ⟨v0, vs0, d0, ds0, p0, q0, hargs, rfl, rfl, h0, r0⟩ := trodAll_cons hA
  obtain ⟨v1, vs1, d1, ds1, p1, q1, rfl, rfl, rfl, h1, r1⟩ := trodAll_cons r0
  obtain ⟨v2, vs2, d2, ds2, p2, q2, rfl, rfl, rfl, h2, r2⟩ := trodAll_cons r1
  obtain ⟨rfl, rfl, rfl⟩ := trodAll_nil r2
  obtain rfl : args = #[v0, v1, v2] := by cases args; simp_all
  obtain ⟨cs0, rfl, sz0⟩ := okWide_struct Tryz.underlying52 (hval 0 52 v0 rfl rfl)
  obtain ⟨a0, len0, cap0, r0_, c0_, s0_, R0, rfl, w0, m0, lc0, cm0, sm0⟩ := open_frameS (n := 5) Tryz.underlying52 (by kernel_rfl) rfl rfl rfl rfl Tryz.underlying50 Tryz.underlying3 Tryz.underlying3 Tryz.underlying4 (by kernel_rfl) (by kernel_rfl) (by kernel_rfl) (by kernel_rfl) Tryz.underlying60 (by kernel_rfl) (by kernel_rfl) (by kernel_rfl) Tryz.underlying171 rfl rfl (by kernel_rfl) Tryz.underlying9 h0
  obtain ⟨a1, rfl, rfl, rfl, w1⟩ := open_int Tryz.underlying3 (hval 1 3 v1 rfl rfl) h1
  obtain ⟨a2, rfl, rfl, rfl, w2⟩ := open_int Tryz.underlying3 (hval 2 3 v2 rfl rfl) h2
  clear hA0 hval0
  refine (regionNobody_law a0 len0 cap0 r0_ c0_ s0_ R0 a1 a2 W w0 m0 lc0 cm0 w1 w2).mono fun e W' ⟨he, hb⟩ => ?_
  subst he
  exact ⟨_, rfl, law_end laidRegionNobody (by kernel_rfl) hW' rfl rfl Tryz.underlying4 (by obtain ⟨rfl, rfl⟩ := trodVars_none hV; rfl) hb⟩
theorem jfRegionNobody1 : (OpenClaim.wf (OpenSpec.ofChange Rows.regionNobodySpec) Rows.regionNobodyRow) = true := by kernel_rfl
theorem jfRegionNobody4 : (Tryz.f14.params.all (Tryz.prog.readableRec ·)) = true := by kernel_rfl
theorem jfRegionNobody5 : (namedTie Tryz.prog Rows.regionNobodyRow.named Rows.regionNobodySpec.vars) = true := by kernel_rfl
theorem jfRegionNobody10 : ((Rows.regionNobodyRow.inPlace == Tryz.prog.inPlace 14)) = true := by kernel_rfl
theorem jfRegionNobody11 : ((Rows.regionNobodyRow.unfollowed == Tryz.prog.unfollowed 14)) = true := by kernel_rfl
theorem jfRegionNobody12 : ((Rows.regionNobodyRow.recurses == Tryz.prog.recurses 14)) = true := by kernel_rfl
theorem jfRegionNobody13 : ((Rows.regionNobodyRow.named == Tryz.prog.varsNamed 14)) = true := by kernel_rfl
theorem jfRegionNobody14 : ((Rows.regionNobodyRow.maps == (Tryz.f14.params.toList ++ Rows.regionNobodySpec.plain.varTypes Tryz.prog).any (Tryz.prog.mapsRec ·))) = true := by kernel_rfl
theorem jfRegionNobody15 : ((Rows.regionNobodyRow.ifaces == (Tryz.f14.params.toList ++ Rows.regionNobodySpec.plain.varTypes Tryz.prog).any (Tryz.prog.ifacesRec ·))) = true := by kernel_rfl
theorem jfRegionNobody16 : ((Rows.regionNobodyRow.mapsOut == Tryz.prog.mapsAmong Tryz.f14.resultTypes.toList)) = true := by kernel_rfl
theorem jfRegionNobody17 : ((Rows.regionNobodyRow.loops == (Tryz.f14.params.toList ++ Rows.regionNobodySpec.plain.varTypes Tryz.prog).any (Tryz.prog.loopsFrom ·))) = true := by kernel_rfl
theorem jfRegionNobody17b : ((Rows.regionNobodyRow.wideKeys == (Tryz.f14.params.toList ++ Rows.regionNobodySpec.plain.varTypes Tryz.prog ++ Tryz.f14.resultTypes.toList).any (Tryz.prog.wideKeysFrom ·))) = true := by kernel_rfl
theorem jfRegionNobody19 : (Tryz.f14.resultTypes.all (fun t => Tryz.prog.readableRec t && decide (t < Tryz.prog.types.size))) = true := by kernel_rfl
theorem jfRegionNobody20 : ((Rows.regionNobodyRow.ifacesOut == Tryz.f14.resultTypes.toList.any (Tryz.prog.ifacesRec ·))) = true := by kernel_rfl
theorem jfRegionNobody21 : ((Rows.regionNobodyRow.loopsOut == Tryz.f14.resultTypes.toList.any (Tryz.prog.loopsFrom ·))) = true := by kernel_rfl
theorem jfRegionNobody27 : ((Rows.regionNobodyRow.veiled == (Tryz.f14.params.toList ++ Rows.regionNobodySpec.plain.varTypes Tryz.prog ++ Tryz.f14.resultTypes.toList).any (Tryz.prog.veiledRec ·))) = true := by kernel_rfl
theorem jfRegionNobody28 : (Rows.regionNobodyRow.veiledFits Tryz.prog Tryz.f14.params.toList (Tryz.f14.params.toList ++ Rows.regionNobodySpec.plain.varTypes Tryz.prog ++ Tryz.f14.resultTypes.toList)) = true := by kernel_rfl
theorem regionNobody_holds : Rows.RegionNobodySaid :=
  OpenClaim.holds_of_wide 14 Tryz.f14 rfl rfl rfl rfl rfl rfl rfl ⟨rfl, rfl, rfl, rfl, rfl⟩ rfl rfl rfl rfl rfl (by kernel_rfl) Tryz.func14 (joined_of (k1 := jfRegionNobody1) (k2 := jpLaid) (k3 := jpMaps) (k4 := jfRegionNobody4) (k5 := jfRegionNobody5) (k6 := by kernel_rfl) (k7 := jpStops) (k8 := by kernel_rfl) (k9 := jpKnobs) (k10 := jfRegionNobody10) (k11 := jfRegionNobody11) (k12 := jfRegionNobody12) (k13 := jfRegionNobody13) (k14 := jfRegionNobody14) (k15 := jfRegionNobody15) (k16 := jfRegionNobody16) (k17 := jfRegionNobody17) (k17b := jfRegionNobody17b) (k18 := by kernel_rfl) (k19 := jfRegionNobody19) (k20 := jfRegionNobody20) (k21 := jfRegionNobody21) (k22 := jpKeys) (k23 := by kernel_rfl) (k23b := jpHeard) (k24 := jpEnter) (k24b := jpLifts) (k24c := jpMake) (k25 := by kernel_rfl) (k26 := by kernel_rfl) (k27 := jfRegionNobody27) (k28 := jfRegionNobody28))
    (of_decide_eq_true (by kernel_rfl)) (by unfold Func.isWrapper; first | (rw [if_pos (by decide +kernel)]; kernel_rfl) | (rw [if_neg (by decide +kernel)]; exact ⟨rfl, rfl⟩))
    (fun os started H enc _ => liftedRegionNobody os started H enc)
#print axioms regionNobody_holds
end Go.Proofs.YtekodpcedjpnjaaGreat
