/- The statement FrameChecks of placardlaw09, where what is read is of bulk at most 1048576: for every such input the law's call returns true and leaves its arguments as they were. The condition is the statement's own. -/
import Derived.Test.YtekodpcedjpnjaaClose
import Derived.JoinedCond
import Derived.Test.YtekodpcedjpnjaaFKL
namespace Go.Proofs.Ytekodpcedjpnjaa
set_option linter.unusedVariables false
set_option linter.unusedSimpArgs false
open Go.ChangeShapes Go.WideShapes Go.ChangeAt Go.RowKit
open Go.ChangeMaps (open_string shut_string)
set_option linter.unusedVariables false
theorem ownFrameChecks : ownKnob Try.prog.godebug = none := by kernel_rfl
theorem laidFrameChecks : laidOutB Try.prog = true := by kernel_rfl
set_option maxRecDepth 100000 in
theorem liftedFrameChecks (os : Os) (started : os.Started) (H : Type) (enc : TypeId × Value → H) (F : Stop.Interp) :
    ReturnsInHanded {} Try.checked os 4 .any ((Rows.OpenSpec.upto Rows.frameChecksSpec).pre6 enc Try.prog Try.f4 Rows.frameChecksUptoRow.domain false) (((Rows.OpenSpec.upto Rows.frameChecksSpec).at F).post enc Try.prog Try.f4 false true false false) := by
  refine returnsInHanded_of_cond (C := Try.checked) (s := Rows.OpenSpec.upto Rows.frameChecksSpec) (k := Rows.uptoSmall) rfl ownFrameChecks started (by kernel_rfl) Try.func4
    (OpenSpec.witness (enc := enc) (C := Try.checked) (s := Rows.OpenSpec.upto Rows.frameChecksSpec) (k := Rows.uptoSmall) rfl false ⟨#[], #[.agg #[.slice none 0 0, .int .i64 0, .int .i64 0, .bool false], .agg #[.slice none 0 0, .int .i64 0, .int .i64 0, .bool false], .int .u8 0], []⟩ 8 (by kernel_rfl) (by kernel_rfl) (by kernel_rfl)
      (x := ([.agg [.nil, .lit (.int .i64 0), .lit (.int .i64 0), .lit (.bool false)], .agg [.nil, .lit (.int .i64 0), .lit (.int .i64 0), .lit (.bool false)], .lit (.int .u8 0)], [], [])) (by kernel_rfl) rfl (by kernel_rfl)) ?_
  intro W base args ds gs before hval0 hW hcnd hk _
  have hval : ∀ (j : Nat) t v, Try.f4.params[j]? = some t → args[j]? = some v → Value.okWide Try.prog W .any base t v := hval0
  have hW' := hW
  obtain ⟨p, q, hA0, hV, rfl, hfz, hnd⟩ := hW
  have hA : DataW.TrodAll enc Try.prog W 0 (fun _ => true) true Try.f4.params.toList args.toList ds p := hA0
  rw [Try.params4] at hA hval
  obtain ⟨v0, vs0, d0, ds0, p0, q0, hargs, rfl, rfl, h0, r0⟩ := trodAll_cons hA
  obtain ⟨v1, vs1, d1, ds1, p1, q1, rfl, rfl, rfl, h1, r1⟩ := trodAll_cons r0
  obtain ⟨v2, vs2, d2, ds2, p2, q2, rfl, rfl, rfl, h2, r2⟩ := trodAll_cons r1
  obtain ⟨rfl, rfl, rfl⟩ := trodAll_nil r2
  obtain rfl : args = #[v0, v1, v2] := by cases args; simp_all
  obtain ⟨cs0, rfl, sz0⟩ := okWide_struct Try.underlying51 (hval 0 51 v0 rfl rfl)
  obtain ⟨a0, len0, cap0, r0_, c0_, s0_, R0, rfl, w0, m0, lc0, cm0, sm0⟩ := open_frameL (n := 5) Try.underlying51 (by kernel_rfl) rfl rfl rfl rfl Try.underlying49 Try.underlying3 Try.underlying3 Try.underlying4 (by kernel_rfl) (by kernel_rfl) (by kernel_rfl) (by kernel_rfl) Try.underlying46 (by kernel_rfl) (by kernel_rfl) (by kernel_rfl) Try.underlying70 rfl rfl (by kernel_rfl) Try.underlying9 h0
  obtain ⟨cs1, rfl, sz1⟩ := okWide_struct Try.underlying51 (hval 1 51 v1 rfl rfl)
  obtain ⟨a1, len1, cap1, r1_, c1_, s1_, R1, rfl, w1, m1, lc1, cm1, sm1⟩ := open_frameL (n := 5) Try.underlying51 (by kernel_rfl) rfl rfl rfl rfl Try.underlying49 Try.underlying3 Try.underlying3 Try.underlying4 (by kernel_rfl) (by kernel_rfl) (by kernel_rfl) (by kernel_rfl) Try.underlying46 (by kernel_rfl) (by kernel_rfl) (by kernel_rfl) Try.underlying70 rfl rfl (by kernel_rfl) Try.underlying9 h1
  obtain ⟨a2, rfl, rfl, rfl, w2⟩ := open_int Try.underlying5 (hval 2 5 v2 rfl rfl) h2
  clear hA0 hval0
  have hb := of_decide_eq_true hk
  simp only [List.cons_append, List.nil_append, Rows.uptoBulkAll, Rows.uptoBulk] at hb
  have z0 : ∀ M ∈ R0, (lineT M).length ≤ 1100000 := fun M hM => by have := sm0 M hM; omega
  have z1 : ∀ M ∈ R1, (lineT M).length ≤ 1100000 := fun M hM => by have := sm1 M hM; omega
  clear hb hk
  refine (frameChecks_law a0 len0 cap0 r0_ c0_ s0_ R0 a1 len1 cap1 r1_ c1_ s1_ R1 a2 W w0 m0 lc0 cm0 z0 w1 m1 lc1 cm1 z1 w2).mono fun e W' ⟨he, hb⟩ => ?_
  subst he
  exact ⟨_, rfl, law_end laidFrameChecks (by kernel_rfl) hW' rfl rfl Try.underlying4 (by obtain ⟨rfl, rfl⟩ := trodVars_none hV; rfl) hb⟩
theorem frameChecks_holds : Rows.FrameChecksUptoSaid :=
  OpenClaim.holds_of_cond 4 Try.f4 rfl rfl rfl rfl rfl rfl rfl ⟨rfl, rfl, rfl, rfl, rfl⟩ rfl rfl rfl rfl rfl (by kernel_rfl) Try.func4 (by kernel_rfl)
    (of_decide_eq_true (by kernel_rfl)) (by unfold Func.isWrapper; first | (rw [if_pos (by decide +kernel)]; kernel_rfl) | (rw [if_neg (by decide +kernel)]; exact ⟨rfl, rfl⟩))
    (fun os started H enc _ F => liftedFrameChecks os started H enc F)
#print axioms frameChecks_holds
end Go.Proofs.Ytekodpcedjpnjaa
