/- The statement RegionKeeps of placardlaw11, where what is read is of bulk at most 1048576: for every such input the law's call returns true and leaves its arguments as they were. The condition is the statement's own. -/
import Derived.JoinedCond
import Derived.Test.YtjkajojjehgmdaaGreatRE00
import Derived.Test.YtjkajojjehgmdaaGreatRE01
import Derived.Test.YtjkajojjehgmdaaGreatRE49
set_option linter.unusedVariables false
set_option linter.unusedSimpArgs false
namespace Go.Proofs.YtjkajojjehgmdaaGreat
open Go.ChangeShapes Go.WideShapes Go.ChangeAt Go.RowKit
open Go.ChangeMaps (open_string shut_string)
theorem ownRegionKeeps : ownKnob Tryz.prog.godebug = none := by kernel_rfl
theorem laidRegionKeeps : laidOutB Tryz.prog = true := jpLaid
set_option maxRecDepth 100000 in
theorem liftedRegionKeeps (os : Os) (started : os.Started) (H : Type) (enc : TypeId × Value → H) (F : Stop.Interp) :
    ReturnsInHanded {} Tryz.checked os 3 .any ((Rows.OpenSpec.upto Rows.regionKeepsSpec).pre6 enc Tryz.prog Tryz.f3 Rows.regionKeepsUptoRow.domain false) (((Rows.OpenSpec.upto Rows.regionKeepsSpec).at F).post enc Tryz.prog Tryz.f3 false true false false) := by
 refine returnsInHanded_of_cond (C := Tryz.checked) (s := Rows.OpenSpec.upto Rows.regionKeepsSpec) (k := Rows.uptoSmall) rfl ownRegionKeeps started (by kernel_rfl) Tryz.func3
  (OpenSpec.witness (enc := enc) (C := Tryz.checked) (s := Rows.OpenSpec.upto Rows.regionKeepsSpec) (k := Rows.uptoSmall) rfl false ⟨#[], #[.int .u8 0, .int .u8 0, .int .u8 0, .slice none 0 0, .slice none 0 0], []⟩ 8 (by kernel_rfl) (by kernel_rfl) (by kernel_rfl)
   (x := ([.lit (.int .u8 0), .lit (.int .u8 0), .lit (.int .u8 0), .nil, .nil], [], [])) (by kernel_rfl) rfl (by kernel_rfl)) ?_
 intro W base args ds gs before hval0 hW hcnd hk _
 have hval : ∀ (j : Nat) t v, Tryz.f3.params[j]? = some t → args[j]? = some v → Value.okWide Tryz.prog W .any base t v := hval0
 have hW' := hW
 obtain ⟨p, q, hA0, hV, rfl, hfz, hnd⟩ := hW
 have hA : DataW.TrodAll enc Tryz.prog W 0 (fun _ => true) true Tryz.f3.params.toList args.toList ds p := hA0
 rw [Tryz.params3] at hA hval
 obtain ⟨v0, vs0, d0, ds0, p0, q0, hargs, rfl, rfl, h0, r0⟩ := trodAll_cons hA
 obtain ⟨v1, vs1, d1, ds1, p1, q1, rfl, rfl, rfl, h1, r1⟩ := trodAll_cons r0
 obtain ⟨v2, vs2, d2, ds2, p2, q2, rfl, rfl, rfl, h2, r2⟩ := trodAll_cons r1
 obtain ⟨v3, vs3, d3, ds3, p3, q3, rfl, rfl, rfl, h3, r3⟩ := trodAll_cons r2
 obtain ⟨v4, vs4, d4, ds4, p4, q4, rfl, rfl, rfl, h4, r4⟩ := trodAll_cons r3
 obtain ⟨rfl, rfl, rfl⟩ := trodAll_nil r4
 obtain rfl : args = #[v0, v1, v2, v3, v4] := by cases args; simp_all
 obtain ⟨a0, rfl, rfl, rfl, w0⟩ := open_int Tryz.underlying5 (hval 0 5 v0 rfl rfl) h0
 obtain ⟨a1, rfl, rfl, rfl, w1⟩ := open_int Tryz.underlying5 (hval 1 5 v1 rfl rfl) h1
 obtain ⟨a2, rfl, rfl, rfl, w2⟩ := open_int Tryz.underlying5 (hval 2 5 v2 rfl rfl) h2
 obtain ⟨a3, len3, cap3, rfl⟩ := okWide_slice Tryz.underlying22 (hval 3 22 v3 rfl rfl)
 have k3 := h3
 have lt3 : ∀ x ∈ p3, x.block < W.heap.size := by obtain ⟨m, hm⟩ := k3; exact DataW.trod_lt m _ _ _ hm
 obtain ⟨z3, w3⟩ : ∃ zs, IsRow .u8 W a3 len3 cap3 zs := by
  obtain ⟨fuel, hf⟩ := h3
  rcases open_ints Tryz.underlying22 Tryz.underlying5 (by kernel_rfl) hf with ⟨hcs, _⟩ | ⟨x, l, c, zs, hcs, _, hl, hm, hz, hps, hcell, hwz⟩
  ·simp [Value.cells] at hcs
   obtain ⟨rfl, rfl, rfl⟩ := hcs
   exact ⟨[], .inl ⟨rfl, rfl, rfl, rfl⟩⟩
  ·simp [Value.cells] at hcs
   obtain ⟨rfl, rfl, rfl⟩ := hcs
   exact ⟨zs, .inr ⟨_, rfl, hl, hm, by simpa using hz, hcell, hwz⟩⟩
 obtain ⟨a4, len4, cap4, rfl⟩ := okWide_slice Tryz.underlying23 (hval 4 23 v4 rfl rfl)
 clear hA0 hval0
 have hb := of_decide_eq_true hk
 simp only [List.cons_append, List.nil_append, Rows.uptoBulkAll, Rows.uptoBulk] at hb
 have w4 := open_frs h4 (by omega)
 clear hb hk
 refine (regionKeeps_law a0 a1 a2 a3 len3 cap3 z3 a4 len4 cap4 W w0 w1 w2 w3 w4).mono fun e W' ⟨he, hb⟩ => ?_
 subst he
 exact ⟨_, rfl, law_end laidRegionKeeps (by kernel_rfl) hW' rfl rfl Tryz.underlying4 (by obtain ⟨rfl, rfl⟩ := trodVars_none hV; rfl) hb⟩
theorem jfRegionKeeps1 : (OpenClaim.wf (OpenSpec.ofChange (Rows.OpenSpec.upto Rows.regionKeepsSpec).bare) Rows.regionKeepsUptoRow) = true := by kernel_rfl
theorem jfRegionKeeps4 : (Tryz.f3.params.all (Tryz.prog.readableRec ·)) = true := by kernel_rfl
theorem jfRegionKeeps5 : (namedTie Tryz.prog Rows.regionKeepsUptoRow.named (Rows.OpenSpec.upto Rows.regionKeepsSpec).bare.vars) = true := by kernel_rfl
theorem jfRegionKeeps10 : ((Rows.regionKeepsUptoRow.inPlace == Tryz.prog.inPlace 3)) = true := by kernel_rfl
theorem jfRegionKeeps11 : ((Rows.regionKeepsUptoRow.unfollowed == Tryz.prog.unfollowed 3)) = true := by kernel_rfl
theorem jfRegionKeeps12 : ((Rows.regionKeepsUptoRow.recurses == Tryz.prog.recurses 3)) = true := by kernel_rfl
theorem jfRegionKeeps13 : ((Rows.regionKeepsUptoRow.named == Tryz.prog.varsNamed 3)) = true := by kernel_rfl
theorem jfRegionKeeps14 : ((Rows.regionKeepsUptoRow.maps == (Tryz.f3.params.toList ++ (Rows.OpenSpec.upto Rows.regionKeepsSpec).bare.plain.varTypes Tryz.prog).any (Tryz.prog.mapsRec ·))) = true := by kernel_rfl
theorem jfRegionKeeps15 : ((Rows.regionKeepsUptoRow.ifaces == (Tryz.f3.params.toList ++ (Rows.OpenSpec.upto Rows.regionKeepsSpec).bare.plain.varTypes Tryz.prog).any (Tryz.prog.ifacesRec ·))) = true := by kernel_rfl
theorem jfRegionKeeps16 : ((Rows.regionKeepsUptoRow.mapsOut == Tryz.prog.mapsAmong Tryz.f3.resultTypes.toList)) = true := by kernel_rfl
theorem jfRegionKeeps17 : ((Rows.regionKeepsUptoRow.loops == (Tryz.f3.params.toList ++ (Rows.OpenSpec.upto Rows.regionKeepsSpec).bare.plain.varTypes Tryz.prog).any (Tryz.prog.loopsFrom ·))) = true := by kernel_rfl
theorem jfRegionKeeps17b : ((Rows.regionKeepsUptoRow.wideKeys == (Tryz.f3.params.toList ++ (Rows.OpenSpec.upto Rows.regionKeepsSpec).bare.plain.varTypes Tryz.prog ++ Tryz.f3.resultTypes.toList).any (Tryz.prog.wideKeysFrom ·))) = true := by kernel_rfl
theorem jfRegionKeeps19 : (Tryz.f3.resultTypes.all (fun t => Tryz.prog.readableRec t && decide (t < Tryz.prog.types.size))) = true := by kernel_rfl
theorem jfRegionKeeps20 : ((Rows.regionKeepsUptoRow.ifacesOut == Tryz.f3.resultTypes.toList.any (Tryz.prog.ifacesRec ·))) = true := by kernel_rfl
theorem jfRegionKeeps21 : ((Rows.regionKeepsUptoRow.loopsOut == Tryz.f3.resultTypes.toList.any (Tryz.prog.loopsFrom ·))) = true := by kernel_rfl
theorem jfRegionKeeps27 : ((Rows.regionKeepsUptoRow.veiled == (Tryz.f3.params.toList ++ (Rows.OpenSpec.upto Rows.regionKeepsSpec).bare.plain.varTypes Tryz.prog ++ Tryz.f3.resultTypes.toList).any (Tryz.prog.veiledRec ·))) = true := by kernel_rfl
theorem jfRegionKeeps28 : (Rows.regionKeepsUptoRow.veiledFits Tryz.prog Tryz.f3.params.toList (Tryz.f3.params.toList ++ (Rows.OpenSpec.upto Rows.regionKeepsSpec).bare.plain.varTypes Tryz.prog ++ Tryz.f3.resultTypes.toList)) = true := by kernel_rfl
theorem regionKeeps_holds : Rows.RegionKeepsUptoSaid :=
 OpenClaim.holds_of_cond 3 Tryz.f3 rfl rfl rfl rfl rfl rfl rfl ⟨rfl, rfl, rfl, rfl, rfl⟩ rfl rfl rfl rfl rfl (by kernel_rfl) Tryz.func3 (joined_of (k1 := jfRegionKeeps1) (k2 := jpLaid) (k3 := jpMaps) (k4 := jfRegionKeeps4) (k5 := jfRegionKeeps5) (k6 := by kernel_rfl) (k7 := jpStops) (k8 := by kernel_rfl) (k9 := jpKnobs) (k10 := jfRegionKeeps10) (k11 := jfRegionKeeps11) (k12 := jfRegionKeeps12) (k13 := jfRegionKeeps13) (k14 := jfRegionKeeps14) (k15 := jfRegionKeeps15) (k16 := jfRegionKeeps16) (k17 := jfRegionKeeps17) (k17b := jfRegionKeeps17b) (k18 := by kernel_rfl) (k19 := jfRegionKeeps19) (k20 := jfRegionKeeps20) (k21 := jfRegionKeeps21) (k22 := jpKeys) (k23 := by kernel_rfl) (k23b := jpHeard) (k24 := jpEnter) (k24b := jpLifts) (k24c := jpMake) (k25 := by kernel_rfl) (k26 := by kernel_rfl) (k27 := jfRegionKeeps27) (k28 := jfRegionKeeps28))
  (of_decide_eq_true (by kernel_rfl)) (by unfold Func.isWrapper; first | (rw [if_pos (by decide +kernel)]; kernel_rfl) | (rw [if_neg (by decide +kernel)]; exact ⟨rfl, rfl⟩))
  (fun os started H enc _ F => liftedRegionKeeps os started H enc F)
#print axioms regionKeeps_holds
end Go.Proofs.YtjkajojjehgmdaaGreat
