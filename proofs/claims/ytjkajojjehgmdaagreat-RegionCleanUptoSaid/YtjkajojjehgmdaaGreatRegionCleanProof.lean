/- The statement RegionClean of placardlaw11, where what is read is of bulk at most 1048576: for every such input the law's call returns true and leaves its arguments as they were. The condition is the statement's own. -/
import Derived.JoinedCond
import Derived.Test.YtjkajojjehgmdaaGreatRE00
import Derived.Test.YtjkajojjehgmdaaGreatRE01
import Derived.Test.YtjkajojjehgmdaaGreatRE52
set_option linter.unusedVariables false
set_option linter.unusedSimpArgs false
namespace Go.Proofs.YtjkajojjehgmdaaGreat
open Go.ChangeShapes Go.WideShapes Go.ChangeAt Go.RowKit
open Go.ChangeMaps (open_string shut_string)
theorem ownRegionClean : ownKnob Tryz.prog.godebug = none := by kernel_rfl
theorem laidRegionClean : laidOutB Tryz.prog = true := jpLaid
set_option maxRecDepth 100000 in
theorem liftedRegionClean (os : Os) (started : os.Started) (H : Type) (enc : TypeId × Value → H) (F : Stop.Interp) :
    ReturnsInHanded {} Tryz.checked os 4 .any ((Rows.OpenSpec.upto Rows.regionCleanSpec).pre6 enc Tryz.prog Tryz.f4 Rows.regionCleanUptoRow.domain false) (((Rows.OpenSpec.upto Rows.regionCleanSpec).at F).post enc Tryz.prog Tryz.f4 false true false false) := by
 refine returnsInHanded_of_cond (C := Tryz.checked) (s := Rows.OpenSpec.upto Rows.regionCleanSpec) (k := Rows.uptoSmall) rfl ownRegionClean started (by kernel_rfl) Tryz.func4
  (OpenSpec.witness (enc := enc) (C := Tryz.checked) (s := Rows.OpenSpec.upto Rows.regionCleanSpec) (k := Rows.uptoSmall) rfl false ⟨#[], #[.int .u8 0, .int .u8 0, .int .u8 0, .slice none 0 0, .slice none 0 0, .slice none 0 0], []⟩ 8 (by kernel_rfl) (by kernel_rfl) (by kernel_rfl)
   (x := ([.lit (.int .u8 0), .lit (.int .u8 0), .lit (.int .u8 0), .nil, .nil, .nil], [], [])) (by kernel_rfl) rfl (by kernel_rfl)) ?_
 intro W base args ds gs before hval0 hW hcnd hk _
 have hval : ∀ (j : Nat) t v, Tryz.f4.params[j]? = some t → args[j]? = some v → Value.okWide Tryz.prog W .any base t v := hval0
 have hW' := hW
 obtain ⟨p, q, hA0, hV, rfl, hfz, hnd⟩ := hW
 have hA : DataW.TrodAll enc Tryz.prog W 0 (fun _ => true) true Tryz.f4.params.toList args.toList ds p := hA0
 rw [Tryz.params4] at hA hval
 obtain ⟨v0, vs0, d0, ds0, p0, q0, hargs, rfl, rfl, h0, r0⟩ := trodAll_cons hA
 obtain ⟨v1, vs1, d1, ds1, p1, q1, rfl, rfl, rfl, h1, r1⟩ := trodAll_cons r0
 obtain ⟨v2, vs2, d2, ds2, p2, q2, rfl, rfl, rfl, h2, r2⟩ := trodAll_cons r1
 obtain ⟨v3, vs3, d3, ds3, p3, q3, rfl, rfl, rfl, h3, r3⟩ := trodAll_cons r2
 obtain ⟨v4, vs4, d4, ds4, p4, q4, rfl, rfl, rfl, h4, r4⟩ := trodAll_cons r3
 obtain ⟨v5, vs5, d5, ds5, p5, q5, rfl, rfl, rfl, h5, r5⟩ := trodAll_cons r4
 obtain ⟨rfl, rfl, rfl⟩ := trodAll_nil r5
 obtain rfl : args = #[v0, v1, v2, v3, v4, v5] := by cases args; simp_all
 obtain ⟨a0, rfl, rfl, rfl, w0⟩ := open_int Tryz.underlying5 (hval 0 5 v0 rfl rfl) h0
 obtain ⟨a1, rfl, rfl, rfl, w1⟩ := open_int Tryz.underlying5 (hval 1 5 v1 rfl rfl) h1
 obtain ⟨a2, rfl, rfl, rfl, w2⟩ := open_int Tryz.underlying5 (hval 2 5 v2 rfl rfl) h2
 obtain ⟨a3, len3, cap3, rfl⟩ := okWide_slice Tryz.underlying22 (hval 3 22 v3 rfl rfl)
 have k3 := h3
 have lt3 : ∀ x ∈ p3, x.block < W.heap.size := by obtain ⟨m, hm⟩ := k3; exact DataW.trod_lt m _ _ _ hm
 obtain ⟨z3, w3⟩ : ∃ zs, IsRow .u8 W a3 len3 cap3 zs := by
  obtain ⟨fuel, hf⟩ := h3
  rcases open_ints Tryz.underlying22 Tryz.underlying5 (by kernel_rfl) hf with ⟨hcs, _⟩ | ⟨x, l, c, zs, hcs, _, hl, hm, hz, hps, hcell, hwz⟩
  ·simp [Value.cells] at hcs
   obtain ⟨rfl, rfl, rfl⟩ := hcs
   exact ⟨[], .inl ⟨rfl, rfl, rfl, rfl⟩⟩
  ·simp [Value.cells] at hcs
   obtain ⟨rfl, rfl, rfl⟩ := hcs
   exact ⟨zs, .inr ⟨_, rfl, hl, hm, by simpa using hz, hcell, hwz⟩⟩
 obtain ⟨a4, len4, cap4, rfl⟩ := okWide_slice Tryz.underlying23 (hval 4 23 v4 rfl rfl)
 obtain ⟨a5, len5, cap5, rfl⟩ := okWide_slice Tryz.underlying51 (hval 5 51 v5 rfl rfl)
 clear hA0 hval0
 have hb := of_decide_eq_true hk
 simp only [List.cons_append, List.nil_append, Rows.uptoBulkAll, Rows.uptoBulk] at hb
 have w4 := open_frs h4 (by omega)
 have w5 := open_strs h5 (by omega)
 clear hb hk
 refine (regionClean_law a0 a1 a2 a3 len3 cap3 z3 a4 len4 cap4 a5 len5 cap5 W w0 w1 w2 w3 w4 w5).mono fun e W' ⟨he, hb⟩ => ?_
 subst he
 exact ⟨_, rfl, law_end laidRegionClean (by kernel_rfl) hW' rfl rfl Tryz.underlying4 (by obtain ⟨rfl, rfl⟩ := trodVars_none hV; rfl) hb⟩
theorem jfRegionClean1 : (OpenClaim.wf (OpenSpec.ofChange (Rows.OpenSpec.upto Rows.regionCleanSpec).bare) Rows.regionCleanUptoRow) = true := by kernel_rfl
theorem jfRegionClean4 : (Tryz.f4.params.all (Tryz.prog.readableRec ·)) = true := by kernel_rfl
theorem jfRegionClean5 : (namedTie Tryz.prog Rows.regionCleanUptoRow.named (Rows.OpenSpec.upto Rows.regionCleanSpec).bare.vars) = true := by kernel_rfl
theorem jfRegionClean10 : ((Rows.regionCleanUptoRow.inPlace == Tryz.prog.inPlace 4)) = true := by kernel_rfl
theorem jfRegionClean11 : ((Rows.regionCleanUptoRow.unfollowed == Tryz.prog.unfollowed 4)) = true := by kernel_rfl
theorem jfRegionClean12 : ((Rows.regionCleanUptoRow.recurses == Tryz.prog.recurses 4)) = true := by kernel_rfl
theorem jfRegionClean13 : ((Rows.regionCleanUptoRow.named == Tryz.prog.varsNamed 4)) = true := by kernel_rfl
theorem jfRegionClean14 : ((Rows.regionCleanUptoRow.maps == (Tryz.f4.params.toList ++ (Rows.OpenSpec.upto Rows.regionCleanSpec).bare.plain.varTypes Tryz.prog).any (Tryz.prog.mapsRec ·))) = true := by kernel_rfl
theorem jfRegionClean15 : ((Rows.regionCleanUptoRow.ifaces == (Tryz.f4.params.toList ++ (Rows.OpenSpec.upto Rows.regionCleanSpec).bare.plain.varTypes Tryz.prog).any (Tryz.prog.ifacesRec ·))) = true := by kernel_rfl
theorem jfRegionClean16 : ((Rows.regionCleanUptoRow.mapsOut == Tryz.prog.mapsAmong Tryz.f4.resultTypes.toList)) = true := by kernel_rfl
theorem jfRegionClean17 : ((Rows.regionCleanUptoRow.loops == (Tryz.f4.params.toList ++ (Rows.OpenSpec.upto Rows.regionCleanSpec).bare.plain.varTypes Tryz.prog).any (Tryz.prog.loopsFrom ·))) = true := by kernel_rfl
theorem jfRegionClean17b : ((Rows.regionCleanUptoRow.wideKeys == (Tryz.f4.params.toList ++ (Rows.OpenSpec.upto Rows.regionCleanSpec).bare.plain.varTypes Tryz.prog ++ Tryz.f4.resultTypes.toList).any (Tryz.prog.wideKeysFrom ·))) = true := by kernel_rfl
theorem jfRegionClean19 : (Tryz.f4.resultTypes.all (fun t => Tryz.prog.readableRec t && decide (t < Tryz.prog.types.size))) = true := by kernel_rfl
theorem jfRegionClean20 : ((Rows.regionCleanUptoRow.ifacesOut == Tryz.f4.resultTypes.toList.any (Tryz.prog.ifacesRec ·))) = true := by kernel_rfl
theorem jfRegionClean21 : ((Rows.regionCleanUptoRow.loopsOut == Tryz.f4.resultTypes.toList.any (Tryz.prog.loopsFrom ·))) = true := by kernel_rfl
theorem jfRegionClean27 : ((Rows.regionCleanUptoRow.veiled == (Tryz.f4.params.toList ++ (Rows.OpenSpec.upto Rows.regionCleanSpec).bare.plain.varTypes Tryz.prog ++ Tryz.f4.resultTypes.toList).any (Tryz.prog.veiledRec ·))) = true := by kernel_rfl
theorem jfRegionClean28 : (Rows.regionCleanUptoRow.veiledFits Tryz.prog Tryz.f4.params.toList (Tryz.f4.params.toList ++ (Rows.OpenSpec.upto Rows.regionCleanSpec).bare.plain.varTypes Tryz.prog ++ Tryz.f4.resultTypes.toList)) = true := by kernel_rfl
theorem regionClean_holds : Rows.RegionCleanUptoSaid :=
 OpenClaim.holds_of_cond 4 Tryz.f4 rfl rfl rfl rfl rfl rfl rfl ⟨rfl, rfl, rfl, rfl, rfl⟩ rfl rfl rfl rfl rfl (by kernel_rfl) Tryz.func4 (joined_of (k1 := jfRegionClean1) (k2 := jpLaid) (k3 := jpMaps) (k4 := jfRegionClean4) (k5 := jfRegionClean5) (k6 := by kernel_rfl) (k7 := jpStops) (k8 := by kernel_rfl) (k9 := jpKnobs) (k10 := jfRegionClean10) (k11 := jfRegionClean11) (k12 := jfRegionClean12) (k13 := jfRegionClean13) (k14 := jfRegionClean14) (k15 := jfRegionClean15) (k16 := jfRegionClean16) (k17 := jfRegionClean17) (k17b := jfRegionClean17b) (k18 := by kernel_rfl) (k19 := jfRegionClean19) (k20 := jfRegionClean20) (k21 := jfRegionClean21) (k22 := jpKeys) (k23 := by kernel_rfl) (k23b := jpHeard) (k24 := jpEnter) (k24b := jpLifts) (k24c := jpMake) (k25 := by kernel_rfl) (k26 := by kernel_rfl) (k27 := jfRegionClean27) (k28 := jfRegionClean28))
  (of_decide_eq_true (by kernel_rfl)) (by unfold Func.isWrapper; first | (rw [if_pos (by decide +kernel)]; kernel_rfl) | (rw [if_neg (by decide +kernel)]; exact ⟨rfl, rfl⟩))
  (fun os started H enc _ F => liftedRegionClean os started H enc F)
#print axioms regionClean_holds
end Go.Proofs.YtjkajojjehgmdaaGreat
