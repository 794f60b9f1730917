/- The statement TermPieces of placardlaw05: for every input the law's call returns true and leaves its arguments as they were. The condition is the statement's own. -/
import Derived.Test.YtekodpcedjpnjaaGreatClose
import Derived.Test.YtekodpcedjpnjaaGreatTPc2
import Derived.Test.YtekodpcedjpnjaaGreatJoined
import Derived.Test.YtekodpcedjpnjaaGreatJoinedP
namespace Go.Proofs.YtekodpcedjpnjaaGreat
set_option linter.unusedVariables false
set_option linter.unusedSimpArgs false
open Go.ChangeShapes Go.WideShapes Go.ChangeAt Go.RowKit
open Go.ChangeMaps (open_string shut_string)
set_option linter.unusedVariables false
theorem ownTermPieces : ownKnob Tryz.prog.godebug = none := by kernel_rfl
theorem laidTermPieces : laidOutB Tryz.prog = true := jpLaid
set_option maxRecDepth 100000 in
theorem liftedTermPieces (os : Os) (started : os.Started) (H : Type) (enc : TypeId × Value → H) :
    ReturnsInHanded {} Tryz.checked os 8 .any (Rows.termPiecesSpec.pre6 enc Tryz.prog Tryz.f8 Rows.termPiecesRow.domain false) (Rows.termPiecesSpec.post enc Tryz.prog Tryz.f8 false true false false) := by
  refine returnsInHanded_of_change (C := Tryz.checked) ownTermPieces started (by kernel_rfl) Tryz.func8
    (ChangeSpec.witness6 (enc := enc) (C := Tryz.checked) false ⟨#[], #[.int .u8 0, .int .u8 0, .slice none 0 0, .slice none 0 0], []⟩ 8 (by kernel_rfl) (by kernel_rfl) (by kernel_rfl) (by kernel_rfl)) ?_
  intro W base args ds gs before hval0 hW hcnd _
  have hval : ∀ (j : Nat) t v, Tryz.f8.params[j]? = some t → args[j]? = some v → Value.okWide Tryz.prog W .any base t v := hval0
  have hW' := hW
  obtain ⟨p, q, hA0, hV, rfl, hfz, hnd⟩ := hW
  have hA : DataW.TrodAll enc Tryz.prog W 0 (fun _ => true) true Tryz.f8.params.toList args.toList ds p := hA0
  rw [Tryz.params8] at hA hval
  obtain ⟨v0, vs0, d0, ds0, p0, q0, hargs, rfl, rfl, h0, r0⟩ := trodAll_cons hA
  obtain ⟨v1, vs1, d1, ds1, p1, q1, rfl, rfl, rfl, h1, r1⟩ := trodAll_cons r0
  obtain ⟨v2, vs2, d2, ds2, p2, q2, rfl, rfl, rfl, h2, r2⟩ := trodAll_cons r1
  obtain ⟨v3, vs3, d3, ds3, p3, q3, rfl, rfl, rfl, h3, r3⟩ := trodAll_cons r2
  obtain ⟨rfl, rfl, rfl⟩ := trodAll_nil r3
  obtain rfl : args = #[v0, v1, v2, v3] := by cases args; simp_all
  obtain ⟨a0, rfl, rfl, rfl, w0⟩ := open_int Tryz.underlying5 (hval 0 5 v0 rfl rfl) h0
  obtain ⟨a1, rfl, rfl, rfl, w1⟩ := open_int Tryz.underlying5 (hval 1 5 v1 rfl rfl) h1
  obtain ⟨a2, len2, cap2, rfl⟩ := okWide_slice Tryz.underlying61 (hval 2 61 v2 rfl rfl)
  have k2 := h2
  have lt2 : ∀ x ∈ p2, x.block < W.heap.size := by obtain ⟨m, hm⟩ := k2; exact DataW.trod_lt m _ _ _ hm
  obtain ⟨z2, w2⟩ : ∃ zs, IsRow .u8 W a2 len2 cap2 zs := by
    obtain ⟨fuel, hf⟩ := h2
    rcases open_ints Tryz.underlying61 Tryz.underlying5 (by kernel_rfl) hf with ⟨hcs, _⟩ | ⟨x, l, c, zs, hcs, _, hl, hm, hz, hps, hcell, hwz⟩
    · simp [Value.cells] at hcs
      obtain ⟨rfl, rfl, rfl⟩ := hcs
      exact ⟨[], .inl ⟨rfl, rfl, rfl, rfl⟩⟩
    · simp [Value.cells] at hcs
      obtain ⟨rfl, rfl, rfl⟩ := hcs
      exact ⟨zs, .inr ⟨_, rfl, hl, hm, by simpa using hz, hcell, hwz⟩⟩
  obtain ⟨a3, len3, cap3, rfl⟩ := okWide_slice Tryz.underlying61 (hval 3 61 v3 rfl rfl)
  have k3 := h3
  have lt3 : ∀ x ∈ p3, x.block < W.heap.size := by obtain ⟨m, hm⟩ := k3; exact DataW.trod_lt m _ _ _ hm
  obtain ⟨z3, w3⟩ : ∃ zs, IsRow .u8 W a3 len3 cap3 zs := by
    obtain ⟨fuel, hf⟩ := h3
    rcases open_ints Tryz.underlying61 Tryz.underlying5 (by kernel_rfl) hf with ⟨hcs, _⟩ | ⟨x, l, c, zs, hcs, _, hl, hm, hz, hps, hcell, hwz⟩
    · simp [Value.cells] at hcs
      obtain ⟨rfl, rfl, rfl⟩ := hcs
      exact ⟨[], .inl ⟨rfl, rfl, rfl, rfl⟩⟩
    · simp [Value.cells] at hcs
      obtain ⟨rfl, rfl, rfl⟩ := hcs
      exact ⟨zs, .inr ⟨_, rfl, hl, hm, by simpa using hz, hcell, hwz⟩⟩
  clear hA0 hval0
  refine (termPieces_law a0 a1 a2 len2 cap2 z2 a3 len3 cap3 z3 W w0 w1 w2 w3).mono fun e W' ⟨he, hb⟩ => ?_
  subst he
  exact ⟨_, rfl, law_end laidTermPieces (by kernel_rfl) hW' rfl rfl Tryz.underlying4 (by obtain ⟨rfl, rfl⟩ := trodVars_none hV; rfl) hb⟩
theorem jfTermPieces1 : (OpenClaim.wf (OpenSpec.ofChange Rows.termPiecesSpec) Rows.termPiecesRow) = true := by kernel_rfl
theorem jfTermPieces4 : (Tryz.f8.params.all (Tryz.prog.readableRec ·)) = true := by kernel_rfl
theorem jfTermPieces5 : (namedTie Tryz.prog Rows.termPiecesRow.named Rows.termPiecesSpec.vars) = true := by kernel_rfl
theorem jfTermPieces10 : ((Rows.termPiecesRow.inPlace == Tryz.prog.inPlace 8)) = true := by kernel_rfl
theorem jfTermPieces11 : ((Rows.termPiecesRow.unfollowed == Tryz.prog.unfollowed 8)) = true := by kernel_rfl
theorem jfTermPieces12 : ((Rows.termPiecesRow.recurses == Tryz.prog.recurses 8)) = true := by kernel_rfl
theorem jfTermPieces13 : ((Rows.termPiecesRow.named == Tryz.prog.varsNamed 8)) = true := by kernel_rfl
theorem jfTermPieces14 : ((Rows.termPiecesRow.maps == (Tryz.f8.params.toList ++ Rows.termPiecesSpec.plain.varTypes Tryz.prog).any (Tryz.prog.mapsRec ·))) = true := by kernel_rfl
theorem jfTermPieces15 : ((Rows.termPiecesRow.ifaces == (Tryz.f8.params.toList ++ Rows.termPiecesSpec.plain.varTypes Tryz.prog).any (Tryz.prog.ifacesRec ·))) = true := by kernel_rfl
theorem jfTermPieces16 : ((Rows.termPiecesRow.mapsOut == Tryz.prog.mapsAmong Tryz.f8.resultTypes.toList)) = true := by kernel_rfl
theorem jfTermPieces17 : ((Rows.termPiecesRow.loops == (Tryz.f8.params.toList ++ Rows.termPiecesSpec.plain.varTypes Tryz.prog).any (Tryz.prog.loopsFrom ·))) = true := by kernel_rfl
theorem jfTermPieces17b : ((Rows.termPiecesRow.wideKeys == (Tryz.f8.params.toList ++ Rows.termPiecesSpec.plain.varTypes Tryz.prog ++ Tryz.f8.resultTypes.toList).any (Tryz.prog.wideKeysFrom ·))) = true := by kernel_rfl
theorem jfTermPieces19 : (Tryz.f8.resultTypes.all (fun t => Tryz.prog.readableRec t && decide (t < Tryz.prog.types.size))) = true := by kernel_rfl
theorem jfTermPieces20 : ((Rows.termPiecesRow.ifacesOut == Tryz.f8.resultTypes.toList.any (Tryz.prog.ifacesRec ·))) = true := by kernel_rfl
theorem jfTermPieces21 : ((Rows.termPiecesRow.loopsOut == Tryz.f8.resultTypes.toList.any (Tryz.prog.loopsFrom ·))) = true := by kernel_rfl
theorem jfTermPieces27 : ((Rows.termPiecesRow.veiled == (Tryz.f8.params.toList ++ Rows.termPiecesSpec.plain.varTypes Tryz.prog ++ Tryz.f8.resultTypes.toList).any (Tryz.prog.veiledRec ·))) = true := by kernel_rfl
theorem jfTermPieces28 : (Rows.termPiecesRow.veiledFits Tryz.prog Tryz.f8.params.toList (Tryz.f8.params.toList ++ Rows.termPiecesSpec.plain.varTypes Tryz.prog ++ Tryz.f8.resultTypes.toList)) = true := by kernel_rfl
theorem termPieces_holds : Rows.TermPiecesSaid :=
  OpenClaim.holds_of_wide 8 Tryz.f8 rfl rfl rfl rfl rfl rfl rfl ⟨rfl, rfl, rfl, rfl, rfl⟩ rfl rfl rfl rfl rfl (by kernel_rfl) Tryz.func8 (joined_of (k1 := jfTermPieces1) (k2 := jpLaid) (k3 := jpMaps) (k4 := jfTermPieces4) (k5 := jfTermPieces5) (k6 := by kernel_rfl) (k7 := jpStops) (k8 := by kernel_rfl) (k9 := jpKnobs) (k10 := jfTermPieces10) (k11 := jfTermPieces11) (k12 := jfTermPieces12) (k13 := jfTermPieces13) (k14 := jfTermPieces14) (k15 := jfTermPieces15) (k16 := jfTermPieces16) (k17 := jfTermPieces17) (k17b := jfTermPieces17b) (k18 := by kernel_rfl) (k19 := jfTermPieces19) (k20 := jfTermPieces20) (k21 := jfTermPieces21) (k22 := jpKeys) (k23 := by kernel_rfl) (k23b := jpHeard) (k24 := jpEnter) (k24b := jpLifts) (k24c := jpMake) (k25 := by kernel_rfl) (k26 := by kernel_rfl) (k27 := jfTermPieces27) (k28 := jfTermPieces28))
    (of_decide_eq_true (by kernel_rfl)) (by unfold Func.isWrapper; first | (rw [if_pos (by decide +kernel)]; kernel_rfl) | (rw [if_neg (by decide +kernel)]; exact ⟨rfl, rfl⟩))
    (fun os started H enc _ => liftedTermPieces os started H enc)
#print axioms termPieces_holds
end Go.Proofs.YtekodpcedjpnjaaGreat
