/- Diff: the program's fit and the reference's Fit of any two frames. No condition but that the strings are not too long for a cut. -/
import Derived.Test.YtekodpcedjpnjaaGreatRC02
import Derived.Test.YtekodpcedjpnjaaGreatRC21
import Derived.Test.YtekodpcedjpnjaaGreatRC28
set_option linter.unusedVariables false
set_option linter.unusedSimpArgs false
namespace Go.Proofs.YtekodpcedjpnjaaGreat
open Go.RowKit Go.Shelf Go.Maps
def fitF (A : List (List GC)) (r1 k1 : Int) (B : List (List GC)) (r2 k2 : Int) : Bool := okF A r1 k1 && (okF B r2 k2 && (decide (A.length = B.length) && decide ((nth [] A 0).length = (nth [] B 0).length)))
theorem okF_pos {R : List (List GC)} {r c : Int} (h : okF R r c = true) : 1 ≤ R.length ∧ R.length ≤ 60 ∧ 1 ≤ (nth [] R 0).length ∧ (nth [] R 0).length ≤ 500 ∧ 0 ≤ r ∧ r < R.length ∧ 0 ≤ c ∧ c < (nth [] R 0).length ∧ ∀ M ∈ R, M.length = (nth [] R 0).length ∧ wholeB M = true := by
  unfold okF at h
  rw [Bool.and_eq_true, decide_eq_true_eq] at h
  obtain ⟨⟨h1, h2, h3, h4, h5, h6, h7, h8⟩, h9⟩ := h
  refine ⟨h1, h2, h3, h4, h5, h6, h7, h8, fun M hM => ?_⟩
  unfold rowsOkB at h9
  have := List.all_eq_true.1 h9 M hM
  rw [Bool.and_eq_true, decide_eq_true_eq] at this
  exact this
set_option maxRecDepth 100000 in
set_option maxHeartbeats 8000000 in
theorem fit10_any {W : World} {a1 a2 : Option Addr} {n1 n2 c1 c2 : Nat} {A B : List (List GC)} (hA : RowsAt W a1 n1 A) (hB : RowsAt W a2 n2 B) (hn1 : n1 ≤ maxLen) (hn2 : n2 ≤ maxLen) (sA : ∀ M ∈ A, ∀ c ∈ M, c.s.size ≤ 1100000) (sB : ∀ M ∈ B, ∀ c ∈ M, c.s.size ≤ 1100000) (r1 k1 r2 k2 : Int) (s1 s2 : Bool) :
    Calls Tryz.prog 105 #[(.agg #[.slice a1 n1 c1, .int .i64 r1, .int .i64 k1, .bool s1]), (.agg #[.slice a2 n2 c2, .int .i64 r2, .int .i64 k2, .bool s2])] W fun e w' => e = .returned (.bool (fitF A r1 k1 B r2 k2)) ∧ Below W.heap.size W w' := by
  have bX : Below W.heap.size W ((W.alloc (.cells #[.slice a1 n1 c1, .int .i64 r1, .int .i64 k1, .bool s1] 52)).alloc (.cells #[.slice a2 n2 c2, .int .i64 r2, .int .i64 k2, .bool s2] 52)) := ((Below.refl _ _).alloc (Nat.le_refl _) _).alloc (by simp) _
  have z1 : FBI ((W.alloc (.cells #[.slice a1 n1 c1, .int .i64 r1, .int .i64 k1, .bool s1] 52)).alloc (.cells #[.slice a2 n2 c2, .int .i64 r2, .int .i64 k2, .bool s2] 52)) W.heap.size (.slice a1 n1 c1) r1 k1 s1 := (show FBI (W.alloc (.cells #[.slice a1 n1 c1, .int .i64 r1, .int .i64 k1, .bool s1] 52)) W.heap.size (.slice a1 n1 c1) r1 k1 s1 from World.alloc_heap_new W _).below ((Below.refl _ _).alloc (Nat.le_refl _) _)
  have z2 : FBI ((W.alloc (.cells #[.slice a1 n1 c1, .int .i64 r1, .int .i64 k1, .bool s1] 52)).alloc (.cells #[.slice a2 n2 c2, .int .i64 r2, .int .i64 k2, .bool s2] 52)) (W.heap.size + 1) (.slice a2 n2 c2) r2 k2 s2 := by
    have : (W.alloc (.cells #[.slice a1 n1 c1, .int .i64 r1, .int .i64 k1, .bool s1] 52)).heap.size = W.heap.size + 1 := by simp
    rw [← this]
    exact World.alloc_heap_new _ _
  have hl1 := hA.len
  have hl2 := hB.len
  obtain ⟨zz, hzz⟩ : ∃ zz, zz = fitF A r1 k1 B r2 k2 := ⟨_, rfl⟩
  rw [← hzz]
  have HZ := Lib.hid hzz
  have HA := Lib.hid hA
  have HB := Lib.hid hB
  have SA := Lib.hid sA
  have SB := Lib.hid sB
  clear hA hB sA sB hzz
  go_enter Tryz.func105, Tryz.ntmps105
  go_upto_region 1 with (fail)
  obtain ⟨X, hX⟩ : ∃ X, ((W.alloc (.cells #[.slice a1 n1 c1, .int .i64 r1, .int .i64 k1, .bool s1] 52)).alloc (.cells #[.slice a2 n2 c2, .int .i64 r2, .int .i64 k2, .bool s2] 52)) = X := ⟨_, rfl⟩
  rw [hX] at bX z1 z2 ⊢
  clear hX
  have RA := Lib.hid (HA.out.below bX)
  have RB := Lib.hid (HB.out.below bX)
  have hz1 := z1.lt
  have hz2 := z2.lt
  obtain ⟨u0, u1, u2, u3⟩ := z1.cells
  obtain ⟨v0, v1, v2, v3⟩ := z2.cells
  have K0 := fun p : BW X.heap.size X => p.cell (by exact hz1) u0
  have K1 := fun p : BW X.heap.size X => p.cell (by exact hz1) u1
  have K2 := fun p : BW X.heap.size X => p.cell (by exact hz1) u2
  have K3 := fun p : BW X.heap.size X => p.cell (by exact hz1) u3
  have J0 := fun p : BW X.heap.size X => p.cell (by exact hz2) v0
  have J1 := fun p : BW X.heap.size X => p.cell (by exact hz2) v1
  have J2 := fun p : BW X.heap.size X => p.cell (by exact hz2) v2
  have J3 := fun p : BW X.heap.size X => p.cell (by exact hz2) v3
  clear z1 z2 u0 u1 u2 u3 v0 v1 v2 v3 HA HB
  have CA := fun (Y : World) (hY : Below X.heap.size X Y) => check_any (cap := c1) (RA.out.below hY) hn1 SA.out r1 k1 s1
  have CB := fun (Y : World) (hY : Below X.heap.size X Y) => check_any (cap := c2) (RB.out.below hY) hn2 SB.out r2 k2 s2
  cases dA : okF A r1 k1 with
  | false =>
    rw [dA, show errF false = 90 from rfl] at CA
    have CA := Lib.hid CA
    have CB := Lib.hid CB
    have HF : Hid (zz = false) := Lib.hid (by rw [HZ.out]; unfold fitF; rw [dA]; rfl)
    clear dA RA RB SA SB HZ
    go_wp2_with fail
    refine wp_region_bw X.heap.size (by kernel_rfl) (lexB_fast (by kernel_rfl)) ?_
    repeat (go_big_quiet_step ((apply Calls.bw_of (Nat.le_refl _); first
      | (go_at_call_of 28 (Value.agg #[Value.slice a1 n1 c1, Value.int IntKind.i64 r1, Value.int IntKind.i64 k1, Value.bool s1]); exact CA.out _ (BW.h _))
      | (go_at_call_of 28 (Value.agg #[Value.slice a2 n2 c2, Value.int IntKind.i64 r2, Value.int IntKind.i64 k2, Value.bool s2]); exact CB.out _ (BW.h _)))))
    refine wpQuiet_nil ?_
    intro wq hw'
    have hwq : Below X.heap.size X wq := by obtain ⟨p, rfl⟩ := hw'; exact p.h
    have hbq : Below W.heap.size W wq := bto bX hwq bX.size
    clear hw' CA CB K0 K1 K2 K3 J0 J1 J2 J3
    go_wp2
    go_ret
    exact ⟨ret_bool HF.out.symm, hbq⟩
  | true =>
    obtain ⟨p1, p2, p3, p4, _⟩ := okF_pos dA
    rw [dA, show errF true = 0 from rfl] at CA
    have CA := Lib.hid CA
    cases dB : okF B r2 k2 with
    | false =>
      rw [dB, show errF false = 90 from rfl] at CB
      have CB := Lib.hid CB
      have HF : Hid (zz = false) := Lib.hid (by rw [HZ.out]; unfold fitF; rw [dA, dB]; rfl)
      clear dA dB RA RB SA SB HZ p1 p2 p3 p4
      go_wp2_with fail
      refine wp_region_bw X.heap.size (by kernel_rfl) (lexB_fast (by kernel_rfl)) ?_
      repeat (go_big_quiet_step ((apply Calls.bw_of (Nat.le_refl _); first
        | (go_at_call_of 28 (Value.agg #[Value.slice a1 n1 c1, Value.int IntKind.i64 r1, Value.int IntKind.i64 k1, Value.bool s1]); exact CA.out _ (BW.h _))
        | (go_at_call_of 28 (Value.agg #[Value.slice a2 n2 c2, Value.int IntKind.i64 r2, Value.int IntKind.i64 k2, Value.bool s2]); exact CB.out _ (BW.h _)))))
      refine wpQuiet_nil ?_
      intro wq hw'
      have hwq : Below X.heap.size X wq := by obtain ⟨p, rfl⟩ := hw'; exact p.h
      have hbq : Below W.heap.size W wq := bto bX hwq bX.size
      clear hw' CA CB K0 K1 K2 K3 J0 J1 J2 J3
      go_wp2
      go_ret
      exact ⟨ret_bool HF.out.symm, hbq⟩
    | true =>
      obtain ⟨q1, q2, q3, q4, _⟩ := okF_pos dB
      rw [dB, show errF true = 0 from rfl] at CB
      have CB := Lib.hid CB
      by_cases hnn : n1 = n2
      case neg =>
        have hne : ((n1 : Int) == (n2 : Int)) = false := by simp; omega
        have HF : Hid (zz = false) := Lib.hid (by rw [HZ.out]; unfold fitF; rw [dA, dB, decide_eq_false (by omega)]; rfl)
        clear dA dB RA RB SA SB HZ p1 p2 p3 p4 q1 q2 q3 q4 hnn
        go_wp2_with fail
        refine wp_region_bw X.heap.size (by kernel_rfl) (lexB_fast (by kernel_rfl)) ?_
        repeat (go_big_quiet_step ((apply Calls.bw_of (Nat.le_refl _); first
          | (go_at_call_of 28 (Value.agg #[Value.slice a1 n1 c1, Value.int IntKind.i64 r1, Value.int IntKind.i64 k1, Value.bool s1]); exact CA.out _ (BW.h _))
          | (go_at_call_of 28 (Value.agg #[Value.slice a2 n2 c2, Value.int IntKind.i64 r2, Value.int IntKind.i64 k2, Value.bool s2]); exact CB.out _ (BW.h _)))))
        refine wpQuiet_nil ?_
        intro wq hw'
        have hwq : Below X.heap.size X wq := by obtain ⟨p, rfl⟩ := hw'; exact p.h
        have hbq : Below W.heap.size W wq := bto bX hwq bX.size
        clear hw' CA CB K0 K1 K2 K3 J0 J1 J2 J3
        go_wp2
        go_ret
        exact ⟨ret_bool HF.out.symm, hbq⟩
      case pos =>
        subst hnn
        obtain ⟨M0, hM0⟩ : ∃ M, M = nth [] A 0 := ⟨_, rfl⟩
        obtain ⟨N0, hN0⟩ : ∃ M, M = nth [] B 0 := ⟨_, rfl⟩
        have hM0' : A[0]? = some M0 := by rw [hM0, nth_eq _ _ _ (by omega)]; exact List.getElem?_eq_getElem (by omega)
        have hN0' : B[0]? = some N0 := by rw [hN0, nth_eq _ _ _ (by omega)]; exact List.getElem?_eq_getElem (by omega)
        obtain ⟨b, off, e2, d2, rfl, hb, hc0, _, _⟩ := RA.out.at_ 0 M0 hM0'
        obtain ⟨b', off', e3, d3, rfl, hb', hc3, _, _⟩ := RB.out.at_ 0 N0 hN0'
        rw [Nat.add_zero] at hc0 hc3
        have L0 := fun p : BW X.heap.size X => p.cell (by exact hb) hc0
        have L1 := fun p : BW X.heap.size X => p.cell (by exact hb') hc3
        have hn0 : (0 : Int) < (n1 : Int) := by omega
        have h0n : 0 < n1 := by omega
        have HE : Hid (zz = decide (M0.length = N0.length)) := Lib.hid (by rw [HZ.out]; unfold fitF; rw [dA, dB, decide_eq_true (by omega), ← hM0, ← hN0]; rfl)
        obtain ⟨m, hm⟩ : ∃ m, m = M0.length := ⟨_, rfl⟩
        obtain ⟨m', hm'⟩ : ∃ m, m = N0.length := ⟨_, rfl⟩
        rw [← hm] at HE L0
        rw [← hm'] at HE L1
        clear dA dB RA RB SA SB HZ p1 p2 p3 p4 q1 q2 q3 q4 hM0 hN0 hM0' hN0' hc0 hc3 hm hm'
        by_cases hmm : m = m'
        · subst hmm
          have HF : Hid (zz = true) := Lib.hid (by rw [HE.out]; simp)
          go_wp2_with fail
          refine wp_region_bw X.heap.size (by kernel_rfl) (lexB_fast (by kernel_rfl)) ?_
          repeat (go_big_quiet_step ((apply Calls.bw_of (Nat.le_refl _); first
            | (go_at_call_of 28 (Value.agg #[Value.slice (some (Addr.mk b off none)) n1 c1, Value.int IntKind.i64 r1, Value.int IntKind.i64 k1, Value.bool s1]); exact CA.out _ (BW.h _))
            | (go_at_call_of 28 (Value.agg #[Value.slice (some (Addr.mk b' off' none)) n1 c2, Value.int IntKind.i64 r2, Value.int IntKind.i64 k2, Value.bool s2]); exact CB.out _ (BW.h _)))))
          refine wpQuiet_nil ?_
          intro wq hw'
          have hwq : Below X.heap.size X wq := by obtain ⟨p, rfl⟩ := hw'; exact p.h
          have hbq : Below W.heap.size W wq := bto bX hwq bX.size
          clear hw' L0 L1 CA CB K0 K1 K2 K3 J0 J1 J2 J3
          go_wp2
          go_ret
          exact ⟨ret_bool HF.out.symm, hbq⟩
        · have hne : ((m : Int) == (m' : Int)) = false := by simp; omega
          have HF : Hid (zz = false) := Lib.hid (by rw [HE.out]; simp [hmm])
          clear hmm
          go_wp2_with fail
          refine wp_region_bw X.heap.size (by kernel_rfl) (lexB_fast (by kernel_rfl)) ?_
          repeat (go_big_quiet_step ((apply Calls.bw_of (Nat.le_refl _); first
            | (go_at_call_of 28 (Value.agg #[Value.slice (some (Addr.mk b off none)) n1 c1, Value.int IntKind.i64 r1, Value.int IntKind.i64 k1, Value.bool s1]); exact CA.out _ (BW.h _))
            | (go_at_call_of 28 (Value.agg #[Value.slice (some (Addr.mk b' off' none)) n1 c2, Value.int IntKind.i64 r2, Value.int IntKind.i64 k2, Value.bool s2]); exact CB.out _ (BW.h _)))))
          refine wpQuiet_nil ?_
          intro wq hw'
          have hwq : Below X.heap.size X wq := by obtain ⟨p, rfl⟩ := hw'; exact p.h
          have hbq : Below W.heap.size W wq := bto bX hwq bX.size
          clear hw' L0 L1 CA CB K0 K1 K2 K3 J0 J1 J2 J3
          go_wp2
          go_ret
          exact ⟨ret_bool HF.out.symm, hbq⟩
end Go.Proofs.YtekodpcedjpnjaaGreat
