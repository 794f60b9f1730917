/- Told of DW4, its second part. No condition. Told of DW8, its second part. No condition. placardref10.Changed, of any two frames. No condition but that the strings are not too long for a cut. -/
import Derived.Test.YtekodpcedjpnjaaGreatBs33
import Derived.Test.YtekodpcedjpnjaaGreatBs37
import Derived.Test.YtekodpcedjpnjaaGreatBs38
import Derived.Test.YtekodpcedjpnjaaGreatBs40
import Derived.Test.YtekodpcedjpnjaaGreatBs47
import Derived.Test.YtekodpcedjpnjaaGreatBs48
import Derived.Test.YtekodpcedjpnjaaGreatBs49
set_option linter.unusedVariables false
set_option linter.unusedSimpArgs false
namespace Go.Proofs.YtekodpcedjpnjaaGreat
open Go.RowKit Go.Shelf Go.Maps
set_option maxRecDepth 100000 in
set_option maxHeartbeats 8000000 in
theorem rfit10_any {W : World} {a1 a2 : Option Addr} {n1 n2 c1 c2 : Nat} {A B : List (List GC)} (hA : RowsAt W a1 n1 A) (hB : RowsAt W a2 n2 B) (hn1 : n1 ≤ maxLen) (hn2 : n2 ≤ maxLen) (sA : ∀ M ∈ A, ∀ c ∈ M, c.s.size ≤ 1100000) (sB : ∀ M ∈ B, ∀ c ∈ M, c.s.size ≤ 1100000) (r1 k1 r2 k2 : Int) (s1 s2 : Bool) :
    Calls Tryz.prog 36 #[(.agg #[.slice a1 n1 c1, .int .i64 r1, .int .i64 k1, .bool s1]), (.agg #[.slice a2 n2 c2, .int .i64 r2, .int .i64 k2, .bool s2])] W fun e w' => e = .returned (.bool (fitF A r1 k1 B r2 k2)) ∧ Below W.heap.size W w' := by
  have bX : Below W.heap.size W ((W.alloc (.cells #[.slice a1 n1 c1, .int .i64 r1, .int .i64 k1, .bool s1] 52)).alloc (.cells #[.slice a2 n2 c2, .int .i64 r2, .int .i64 k2, .bool s2] 52)) := ((Below.refl _ _).alloc (Nat.le_refl _) _).alloc (by simp) _
  have z1 : FBI ((W.alloc (.cells #[.slice a1 n1 c1, .int .i64 r1, .int .i64 k1, .bool s1] 52)).alloc (.cells #[.slice a2 n2 c2, .int .i64 r2, .int .i64 k2, .bool s2] 52)) W.heap.size (.slice a1 n1 c1) r1 k1 s1 := (show FBI (W.alloc (.cells #[.slice a1 n1 c1, .int .i64 r1, .int .i64 k1, .bool s1] 52)) W.heap.size (.slice a1 n1 c1) r1 k1 s1 from World.alloc_heap_new W _).below ((Below.refl _ _).alloc (Nat.le_refl _) _)
  have z2 : FBI ((W.alloc (.cells #[.slice a1 n1 c1, .int .i64 r1, .int .i64 k1, .bool s1] 52)).alloc (.cells #[.slice a2 n2 c2, .int .i64 r2, .int .i64 k2, .bool s2] 52)) (W.heap.size + 1) (.slice a2 n2 c2) r2 k2 s2 := by
    have : (W.alloc (.cells #[.slice a1 n1 c1, .int .i64 r1, .int .i64 k1, .bool s1] 52)).heap.size = W.heap.size + 1 := by simp
    rw [← this]
    exact World.alloc_heap_new _ _
  have hl1 := hA.len
  have hl2 := hB.len
  obtain ⟨zz, hzz⟩ : ∃ zz, zz = fitF A r1 k1 B r2 k2 := ⟨_, rfl⟩
  rw [← hzz]
  have HZ := Lib.hid hzz
  have HA := Lib.hid hA
  have HB := Lib.hid hB
  have SA := Lib.hid sA
  have SB := Lib.hid sB
  clear hA hB sA sB hzz
  go_enter Tryz.func36, Tryz.ntmps36
  go_upto_region 1 with (fail)
  obtain ⟨X, hX⟩ : ∃ X, ((W.alloc (.cells #[.slice a1 n1 c1, .int .i64 r1, .int .i64 k1, .bool s1] 52)).alloc (.cells #[.slice a2 n2 c2, .int .i64 r2, .int .i64 k2, .bool s2] 52)) = X := ⟨_, rfl⟩
  rw [hX] at bX z1 z2 ⊢
  clear hX
  have RA := Lib.hid (HA.out.below bX)
  have RB := Lib.hid (HB.out.below bX)
  have hz1 := z1.lt
  have hz2 := z2.lt
  obtain ⟨u0, u1, u2, u3⟩ := z1.cells
  obtain ⟨v0, v1, v2, v3⟩ := z2.cells
  have K0 := fun p : BW X.heap.size X => p.cell (by exact hz1) u0
  have K1 := fun p : BW X.heap.size X => p.cell (by exact hz1) u1
  have K2 := fun p : BW X.heap.size X => p.cell (by exact hz1) u2
  have K3 := fun p : BW X.heap.size X => p.cell (by exact hz1) u3
  have J0 := fun p : BW X.heap.size X => p.cell (by exact hz2) v0
  have J1 := fun p : BW X.heap.size X => p.cell (by exact hz2) v1
  have J2 := fun p : BW X.heap.size X => p.cell (by exact hz2) v2
  have J3 := fun p : BW X.heap.size X => p.cell (by exact hz2) v3
  clear z1 z2 u0 u1 u2 u3 v0 v1 v2 v3 HA HB
  have CA := fun (Y : World) (hY : Below X.heap.size X Y) => ris_any (cap := c1) (RA.out.below hY) hn1 SA.out r1 k1 s1
  have CB := fun (Y : World) (hY : Below X.heap.size X Y) => ris_any (cap := c2) (RB.out.below hY) hn2 SB.out r2 k2 s2
  cases dA : okF A r1 k1 with
  | false =>
    rw [dA] at CA
    have CA := Lib.hid CA
    have CB := Lib.hid CB
    have HF : Hid (zz = false) := Lib.hid (by rw [HZ.out]; unfold fitF; rw [dA]; rfl)
    clear dA RA RB SA SB HZ
    go_wp2_with fail
    refine wp_region_bw X.heap.size (by kernel_rfl) (lexB_fast (by kernel_rfl)) ?_
    repeat (go_big_quiet_step ((apply Calls.bw_of (Nat.le_refl _); first
      | (go_at_call_of 30 (Value.agg #[Value.slice a1 n1 c1, Value.int IntKind.i64 r1, Value.int IntKind.i64 k1, Value.bool s1]); exact CA.out _ (BW.h _))
      | (go_at_call_of 30 (Value.agg #[Value.slice a2 n2 c2, Value.int IntKind.i64 r2, Value.int IntKind.i64 k2, Value.bool s2]); exact CB.out _ (BW.h _)))))
    refine wpQuiet_nil ?_
    intro wq hw'
    have hwq : Below X.heap.size X wq := by obtain ⟨p, rfl⟩ := hw'; exact p.h
    have hbq : Below W.heap.size W wq := bto bX hwq bX.size
    clear hw' CA CB K0 K1 K2 K3 J0 J1 J2 J3
    go_wp2
    go_ret
    exact ⟨ret_bool HF.out.symm, hbq⟩
  | true =>
    obtain ⟨p1, p2, p3, p4, _⟩ := okF_pos dA
    rw [dA] at CA
    have CA := Lib.hid CA
    cases dB : okF B r2 k2 with
    | false =>
      rw [dB] at CB
      have CB := Lib.hid CB
      have HF : Hid (zz = false) := Lib.hid (by rw [HZ.out]; unfold fitF; rw [dA, dB]; rfl)
      clear dA dB RA RB SA SB HZ p1 p2 p3 p4
      go_wp2_with fail
      refine wp_region_bw X.heap.size (by kernel_rfl) (lexB_fast (by kernel_rfl)) ?_
      repeat (go_big_quiet_step ((apply Calls.bw_of (Nat.le_refl _); first
        | (go_at_call_of 30 (Value.agg #[Value.slice a1 n1 c1, Value.int IntKind.i64 r1, Value.int IntKind.i64 k1, Value.bool s1]); exact CA.out _ (BW.h _))
        | (go_at_call_of 30 (Value.agg #[Value.slice a2 n2 c2, Value.int IntKind.i64 r2, Value.int IntKind.i64 k2, Value.bool s2]); exact CB.out _ (BW.h _)))))
      refine wpQuiet_nil ?_
      intro wq hw'
      have hwq : Below X.heap.size X wq := by obtain ⟨p, rfl⟩ := hw'; exact p.h
      have hbq : Below W.heap.size W wq := bto bX hwq bX.size
      clear hw' CA CB K0 K1 K2 K3 J0 J1 J2 J3
      go_wp2
      go_ret
      exact ⟨ret_bool HF.out.symm, hbq⟩
    | true =>
      obtain ⟨q1, q2, q3, q4, _⟩ := okF_pos dB
      rw [dB] at CB
      have CB := Lib.hid CB
      by_cases hnn : n1 = n2
      case neg =>
        have hne : ((n1 : Int) == (n2 : Int)) = false := by simp; omega
        have HF : Hid (zz = false) := Lib.hid (by rw [HZ.out]; unfold fitF; rw [dA, dB, decide_eq_false (by omega)]; rfl)
        clear dA dB RA RB SA SB HZ p1 p2 p3 p4 q1 q2 q3 q4 hnn
        go_wp2_with fail
        refine wp_region_bw X.heap.size (by kernel_rfl) (lexB_fast (by kernel_rfl)) ?_
        repeat (go_big_quiet_step ((apply Calls.bw_of (Nat.le_refl _); first
          | (go_at_call_of 30 (Value.agg #[Value.slice a1 n1 c1, Value.int IntKind.i64 r1, Value.int IntKind.i64 k1, Value.bool s1]); exact CA.out _ (BW.h _))
          | (go_at_call_of 30 (Value.agg #[Value.slice a2 n2 c2, Value.int IntKind.i64 r2, Value.int IntKind.i64 k2, Value.bool s2]); exact CB.out _ (BW.h _)))))
        refine wpQuiet_nil ?_
        intro wq hw'
        have hwq : Below X.heap.size X wq := by obtain ⟨p, rfl⟩ := hw'; exact p.h
        have hbq : Below W.heap.size W wq := bto bX hwq bX.size
        clear hw' CA CB K0 K1 K2 K3 J0 J1 J2 J3
        go_wp2
        go_ret
        exact ⟨ret_bool HF.out.symm, hbq⟩
      case pos =>
        subst hnn
        obtain ⟨M0, hM0⟩ : ∃ M, M = nth [] A 0 := ⟨_, rfl⟩
        obtain ⟨N0, hN0⟩ : ∃ M, M = nth [] B 0 := ⟨_, rfl⟩
        have hM0' : A[0]? = some M0 := by rw [hM0, nth_eq _ _ _ (by omega)]; exact List.getElem?_eq_getElem (by omega)
        have hN0' : B[0]? = some N0 := by rw [hN0, nth_eq _ _ _ (by omega)]; exact List.getElem?_eq_getElem (by omega)
        obtain ⟨b, off, e2, d2, rfl, hb, hc0, _, _⟩ := RA.out.at_ 0 M0 hM0'
        obtain ⟨b', off', e3, d3, rfl, hb', hc3, _, _⟩ := RB.out.at_ 0 N0 hN0'
        rw [Nat.add_zero] at hc0 hc3
        have L0 := fun p : BW X.heap.size X => p.cell (by exact hb) hc0
        have L1 := fun p : BW X.heap.size X => p.cell (by exact hb') hc3
        have hn0 : (0 : Int) < (n1 : Int) := by omega
        have h0n : 0 < n1 := by omega
        have HE : Hid (zz = decide (M0.length = N0.length)) := Lib.hid (by rw [HZ.out]; unfold fitF; rw [dA, dB, decide_eq_true (by omega), ← hM0, ← hN0]; rfl)
        obtain ⟨m, hm⟩ : ∃ m, m = M0.length := ⟨_, rfl⟩
        obtain ⟨m', hm'⟩ : ∃ m, m = N0.length := ⟨_, rfl⟩
        rw [← hm] at HE L0
        rw [← hm'] at HE L1
        clear dA dB RA RB SA SB HZ p1 p2 p3 p4 q1 q2 q3 q4 hM0 hN0 hM0' hN0' hc0 hc3 hm hm'
        by_cases hmm : m = m'
        · subst hmm
          have HF : Hid (zz = true) := Lib.hid (by rw [HE.out]; simp)
          go_wp2_with fail
          refine wp_region_bw X.heap.size (by kernel_rfl) (lexB_fast (by kernel_rfl)) ?_
          repeat (go_big_quiet_step ((apply Calls.bw_of (Nat.le_refl _); first
            | (go_at_call_of 30 (Value.agg #[Value.slice (some (Addr.mk b off none)) n1 c1, Value.int IntKind.i64 r1, Value.int IntKind.i64 k1, Value.bool s1]); exact CA.out _ (BW.h _))
            | (go_at_call_of 30 (Value.agg #[Value.slice (some (Addr.mk b' off' none)) n1 c2, Value.int IntKind.i64 r2, Value.int IntKind.i64 k2, Value.bool s2]); exact CB.out _ (BW.h _)))))
          refine wpQuiet_nil ?_
          intro wq hw'
          have hwq : Below X.heap.size X wq := by obtain ⟨p, rfl⟩ := hw'; exact p.h
          have hbq : Below W.heap.size W wq := bto bX hwq bX.size
          clear hw' L0 L1 CA CB K0 K1 K2 K3 J0 J1 J2 J3
          go_wp2
          go_ret
          exact ⟨ret_bool HF.out.symm, hbq⟩
        · have hne : ((m : Int) == (m' : Int)) = false := by simp; omega
          have HF : Hid (zz = false) := Lib.hid (by rw [HE.out]; simp [hmm])
          clear hmm
          go_wp2_with fail
          refine wp_region_bw X.heap.size (by kernel_rfl) (lexB_fast (by kernel_rfl)) ?_
          repeat (go_big_quiet_step ((apply Calls.bw_of (Nat.le_refl _); first
            | (go_at_call_of 30 (Value.agg #[Value.slice (some (Addr.mk b off none)) n1 c1, Value.int IntKind.i64 r1, Value.int IntKind.i64 k1, Value.bool s1]); exact CA.out _ (BW.h _))
            | (go_at_call_of 30 (Value.agg #[Value.slice (some (Addr.mk b' off' none)) n1 c2, Value.int IntKind.i64 r2, Value.int IntKind.i64 k2, Value.bool s2]); exact CB.out _ (BW.h _)))))
          refine wpQuiet_nil ?_
          intro wq hw'
          have hwq : Below X.heap.size X wq := by obtain ⟨p, rfl⟩ := hw'; exact p.h
          have hbq : Below W.heap.size W wq := bto bX hwq bX.size
          clear hw' L0 L1 CA CB K0 K1 K2 K3 J0 J1 J2 J3
          go_wp2
          go_ret
          exact ⟨ret_bool HF.out.symm, hbq⟩
end Go.Proofs.YtekodpcedjpnjaaGreat
namespace Go.Proofs.YtekodpcedjpnjaaGreat
open Go.RowKit Go.Shelf Go.Maps
set_option maxRecDepth 100000 in
set_option maxHeartbeats 8000000 in
theorem rspans10_any {W : World} {a1 a2 : Option Addr} {n1 n2 c1 c2 : Nat} {A B : List (List GC)} (hA : RowsAt W a1 n1 A) (hB : RowsAt W a2 n2 B) (hn1 : n1 ≤ maxLen) (hn2 : n2 ≤ maxLen) (sA : ∀ M ∈ A, ∀ c ∈ M, c.s.size ≤ 1100000) (sB : ∀ M ∈ B, ∀ c ∈ M, c.s.size ≤ 1100000) (r1 k1 r2 k2 : Int) (s1 s2 : Bool) :
    Calls Tryz.prog 41 #[(.agg #[.slice a1 n1 c1, .int .i64 r1, .int .i64 k1, .bool s1]), (.agg #[.slice a2 n2 c2, .int .i64 r2, .int .i64 k2, .bool s2])] W fun e w' => ∃ v, e = .returned (.tuple #[v, .int .i64 (errD (fitF A r1 k1 B r2 k2))]) ∧ w'.ownsRow W.heap.size 172 3 v (spansE A r1 k1 B r2 k2).length (spV (spansE A r1 k1 B r2 k2)) ∧ Below W.heap.size W w' := by
  obtain ⟨i0, hi0, hz0, hz1, hz2⟩ := info_parts infoSpanR
  have bX : Below W.heap.size W ((W.alloc (.cells #[.slice a1 n1 c1, .int .i64 r1, .int .i64 k1, .bool s1] 52)).alloc (.cells #[.slice a2 n2 c2, .int .i64 r2, .int .i64 k2, .bool s2] 52)) := ((Below.refl _ _).alloc (Nat.le_refl _) _).alloc (by simp) _
  have z1 : FBI ((W.alloc (.cells #[.slice a1 n1 c1, .int .i64 r1, .int .i64 k1, .bool s1] 52)).alloc (.cells #[.slice a2 n2 c2, .int .i64 r2, .int .i64 k2, .bool s2] 52)) W.heap.size (.slice a1 n1 c1) r1 k1 s1 := (show FBI (W.alloc (.cells #[.slice a1 n1 c1, .int .i64 r1, .int .i64 k1, .bool s1] 52)) W.heap.size (.slice a1 n1 c1) r1 k1 s1 from World.alloc_heap_new W _).below ((Below.refl _ _).alloc (Nat.le_refl _) _)
  have z2 : FBI ((W.alloc (.cells #[.slice a1 n1 c1, .int .i64 r1, .int .i64 k1, .bool s1] 52)).alloc (.cells #[.slice a2 n2 c2, .int .i64 r2, .int .i64 k2, .bool s2] 52)) (W.heap.size + 1) (.slice a2 n2 c2) r2 k2 s2 := by
    have : (W.alloc (.cells #[.slice a1 n1 c1, .int .i64 r1, .int .i64 k1, .bool s1] 52)).heap.size = W.heap.size + 1 := by simp
    rw [← this]
    exact World.alloc_heap_new _ _
  obtain ⟨zz, hzz⟩ : ∃ zz, zz = errD (fitF A r1 k1 B r2 k2) := ⟨_, rfl⟩
  rw [← hzz]
  have HZZ := Lib.hid hzz
  clear hzz
  have hl1 := hA.len
  have hl2 := hB.len
  have HA := Lib.hid hA
  have HB := Lib.hid hB
  have SA := Lib.hid sA
  have SB := Lib.hid sB
  clear hA hB sA sB
  go_enter Tryz.func41, Tryz.ntmps41
  go_upto_region 1 with (fail)
  obtain ⟨X, hX⟩ : ∃ X, ((W.alloc (.cells #[.slice a1 n1 c1, .int .i64 r1, .int .i64 k1, .bool s1] 52)).alloc (.cells #[.slice a2 n2 c2, .int .i64 r2, .int .i64 k2, .bool s2] 52)) = X := ⟨_, rfl⟩
  rw [hX] at bX z1 z2 ⊢
  clear hX
  have RA := Lib.hid (HA.out.below bX)
  have RB := Lib.hid (HB.out.below bX)
  obtain ⟨u0, u1, u2, u3⟩ := z1.cells
  obtain ⟨v0, v1, v2, v3⟩ := z2.cells
  have CF := rfit10_any (c1 := c1) (c2 := c2) RA.out RB.out hn1 hn2 SA.out SB.out r1 k1 r2 k2 s1 s2
  clear HA HB
  cases hf : fitF A r1 k1 B r2 k2 with
  | false =>
    rw [hf] at CF
    have HZ0 : Hid (zz = 100) := Lib.hid (by rw [HZZ.out, hf]; rfl)
    have CF := Lib.hid CF
    have HE : Hid (spansE A r1 k1 B r2 k2 = []) := Lib.hid (by unfold spansE; rw [hf]; rfl)
    clear hf RA RB SA SB
    go_wp2_with (go_at_call 36; refine (CF.out).mono ?_; rintro e w1 ⟨rfl, hb1⟩)
    go_ret2
    exact ⟨.slice none 0 0, congrArg (fun x => Ending.returned (.tuple #[.slice none 0 0, .int .i64 x])) HZ0.out.symm, by rw [HE.out]; exact World.ownsRow_nil _ _ _ _, bto bX hb1 bX.size⟩
  | true =>
    obtain ⟨okA, okB, hab, hwab⟩ := fitF_pos hf
    obtain ⟨p1, p2, p3, p4, p5, p6, p7, p8, p9⟩ := okF_pos okA
    obtain ⟨q1, q2, q3, q4, q5, q6, q7, q8, q9⟩ := okF_pos okB
    rw [hf] at CF
    have HZ0 : Hid (zz = 0) := Lib.hid (by rw [HZZ.out, hf]; rfl)
    have CF := Lib.hid CF
    have HE : Hid (spansE A r1 k1 B r2 k2 = spansM A B) := Lib.hid (by unfold spansE; rw [hf]; rfl)
    obtain ⟨w, hw⟩ : ∃ w, w = (nth [] A 0).length := ⟨_, rfl⟩
    rw [← hwab, ← hw] at q9
    rw [← hw] at p9 p4 p3
    have PA := Lib.hid p9
    have PB := Lib.hid q9
    have hnn : n2 = n1 := by omega
    subst hnn
    have hn60 : n2 ≤ 60 := by omega
    have HL1 := Lib.hid hl1
    have HL2 := Lib.hid hl2
    have HAB := Lib.hid hab
    have hcnt := Lib.hid (spansK_count hab (w := w) (fun r hr => (p9 _ (nth_memR hr)).1) (fun r hr => (q9 _ (nth_memR hr)).1))
    clear hf okA okB p5 p6 p7 p8 p9 q1 q2 q3 q4 q5 q6 q7 q8 q9 hwab hw hl1 hl2 hab p1 p2
    go_wp2_with (go_at_call 36; refine (CF.out).mono ?_; rintro e w1 ⟨rfl, hb1⟩; obtain ⟨d0, d1, d2, d3⟩ := (z1.below hb1).cells)
    clear u0 u1 u2 u3 v0 v1 v2 v3 CF d0 d1 d2 d3
    go_loopw [6, 7] (fun v i wr => ∃ k : Nat, k ≤ n2 ∧ i = .int .i64 k ∧ wr.ownsRow X.heap.size 172 3 v (spansK A B k).length (spV (spansK A B k)) ∧ Below X.heap.size X wr) (fun _ i _ => n2 - (intOf i).toNat)
    case atStart => exact ⟨0, Nat.zero_le _, rfl, World.ownsRow_nil _ _ _ _, hb1⟩
    case round =>
      clear hb1
      obtain ⟨k, hk, rfl, hown, hb⟩ := hrel
      have hs := hb.size
      have y1 := z1.below hb
      have y2 := z2.below hb
      obtain ⟨e0, e1, e2, e3⟩ := y1.cells
      obtain ⟨av, cv, rfl⟩ := own_sliceF hown
      by_cases hlt : k < n2
      · have hMk : A[k]? = some (nth [] A k) := by rw [nth_eq _ _ _ (by rw [HL1.out]; exact hlt), List.getElem?_eq_getElem (by rw [HL1.out]; exact hlt)]
        have hNk : B[k]? = some (nth [] B k) := by rw [nth_eq _ _ _ (by rw [HL2.out]; exact hlt), List.getElem?_eq_getElem (by rw [HL2.out]; exact hlt)]
        obtain ⟨b, off, a3, c3, rfl, hbb, hc0, ⟨hc1, hc2⟩, hM⟩ := RA.out.at_ k _ hMk
        obtain ⟨b', off', a4, c4, rfl, hbb', hc0', ⟨hc1', hc2'⟩, hN⟩ := RB.out.at_ k _ hNk
        obtain ⟨mA, wA⟩ := PA.out _ (List.mem_of_getElem? hMk)
        obtain ⟨mB, wB⟩ := PB.out _ (List.mem_of_getElem? hNk)
        have hnext := spansK_next HAB.out (k := k) (by rw [HL1.out]; exact hlt)
        have hct := hcnt.out k (by rw [HL1.out]; omega)
        have hct2 := hcnt.out (k + 1) (by rw [HL1.out]; omega)
        obtain ⟨M, hMM⟩ : ∃ M, M = nth [] A k := ⟨_, rfl⟩
        obtain ⟨N, hNN⟩ : ∃ N, N = nth [] B k := ⟨_, rfl⟩
        rw [← hMM] at hc0 hc1 hM mA wA hnext
        rw [← hNN] at hc0' hc1' hN mB wB hnext
        rw [mA] at hc0 hc1 hM
        rw [mB] at hc0' hc1' hN
        have HNX := Lib.hid hnext
        have hkl : w * k ≤ 30000 := by have := Nat.mul_le_mul p4 (show k ≤ 60 by omega); omega
        have hkl2 : w * (k + 1) ≤ 30500 := by have := Nat.mul_le_mul p4 (show k + 1 ≤ 61 by omega); omega
        have hsum : (spansK A B k).length + (rowSp k (chgL M N)).length ≤ 30500 := by
          rw [hnext, List.length_append] at hct2
          omega
        have hcd : (spansK A B k).length ≤ 30000 := by omega
        have dB : Below wr.heap.size wr wr.drew := (Below.refl _ _).drew
        have hbd : Below X.heap.size X wr.drew := bto hb dB hs
        have hS0 : SpS X (.slice (some ⟨b, off, none⟩) n2 c1) (.slice (some ⟨b', off', none⟩) n2 c2) W.heap.size (W.heap.size + 1) r1 k1 s1 r2 k2 s2 b (off + k) (.slice a3 w c3) b' (off' + k) (.slice a4 w c4) wr.drew :=
          ⟨z1.below hbd, z2.below hbd, (hbd.cell (p := ⟨b, _, none⟩) hbb).trans hc0, (hbd.cell (p := ⟨b', _, none⟩) hbb').trans hc0', hbd.size⟩
        have hSB : ∀ Y Z : World, SpS X (.slice (some ⟨b, off, none⟩) n2 c1) (.slice (some ⟨b', off', none⟩) n2 c2) W.heap.size (W.heap.size + 1) r1 k1 s1 r2 k2 s2 b (off + k) (.slice a3 w c3) b' (off' + k) (.slice a4 w c4) Y → Below X.heap.size Y Z → SpS X (.slice (some ⟨b, off, none⟩) n2 c1) (.slice (some ⟨b', off', none⟩) n2 c2) W.heap.size (W.heap.size + 1) r1 k1 s1 r2 k2 s2 b (off + k) (.slice a3 w c3) b' (off' + k) (.slice a4 w c4) Z := fun Y Z h hY =>
          ⟨(hY.block _ z1.lt).trans h.1, (hY.block _ z2.lt).trans h.2.1, (hY.cell (p := ⟨b, _, none⟩) hbb).trans h.2.2.1, (hY.cell (p := ⟨b', _, none⟩) hbb').trans h.2.2.2.1, Nat.le_trans h.2.2.2.2 hY.size⟩
        have hSB := Lib.hid hSB
        have hki : (k : Int) < (n2 : Int) := by omega
        have h0n : 0 < n2 := by omega
        have hlen : w ≤ 1000 := by omega
        have hownd : wr.drew.ownsRow X.heap.size 172 3 (.slice av (spansK A B k).length cv) (spansK A B k).length (spV (spansK A B k)) := hown
        have CD := Lib.hid (fun (Y : World) (hY : Below X.heap.size X Y) => rchanges_any (c1 := c3) (c2 := c4) (hM.below hY) (hN.below hY) hlen wA wB)
        have hcl : (chgL M N).length = w := by rw [chgL_length (by rw [mA, mB]), mA]
        have hcl := Lib.hid hcl
        clear hnext hMk hNk hMM hNN hc0 hc0' hM hN wA wB mA mB hct hct2 y1 y2 hown
        go_wp2_with fail
        refine wp_region_mix2 [(true, 0), (true, 1), (true, 2), (true, 3), (true, 4), (true, 5), (true, 6), (true, 7), (true, 8), (true, 9), (true, 10), (true, 11), (false, 12), (false, 13), (false, 14), (true, 15)] (SpS X (.slice (some ⟨b, off, none⟩) n2 c1) (.slice (some ⟨b', off', none⟩) n2 c2) W.heap.size (W.heap.size + 1) r1 k1 s1 r2 k2 s2 b (off + k) (.slice a3 w c3) b' (off' + k) (.slice a4 w c4)) (by kernel_rfl) (by kernel_rfl) (by rfl) (by kernel_rfl) (by kernel_rfl) (fun _ _ d _ _ h => by cases d <;> exact h) hS0 ?_
        simp only [mixL, List.getElem?_cons_succ, List.getElem?_cons_zero]
        repeat (refine' wpMix2_read (v := _) rfl ?_ ?_; rotate_left 1; (intro w' hw'; obtain ⟨j1, j2, j3, j4, _⟩ := hw'; obtain ⟨g0, g1, g2, g3⟩ := j1.cells; obtain ⟨f0, f1, f2, f3⟩ := j2.cells; go_simp; try with_reducible rfl); try simp only [Act.put, List.setIfInBounds_toArray, List.set_cons_zero, List.set_cons_succ])
        refine wpMix2_act (fun K hK => ?_)
        go_wp2_with fail
        refine (CD.out _ hbd).mono ?_
        rintro e wY ⟨vb, rfl, hownB, hbY0⟩
        have hSY := hSB.out _ _ hS0 (hbY0.mono hbd.size)
        have hbY := bto hbd hbY0 hbd.size
        obtain ⟨ab, cb, rfl⟩ := own_sliceF hownB
        have CS := rspans_any (c1 := cb) (BoolsAt.of_own hcl.out hownB) hlen k
        go_wp2
        refine hK _ _ hSY ?_
        clear hK K
        refine wpMix2_act (fun K hK => ?_)
        go_wp2_with fail
        refine CS.mono ?_
        rintro e wZ ⟨vr, rfl, hownR, hbR⟩
        have hSZ := hSB.out _ _ hSY (hbR.mono hbY.size)
        have hbZ := bto hbY hbR hbY.size
        have hownZ := own_belowF (own_belowF hownd hbY0) hbR
        go_wp2
        refine hK _ _ hSZ ?_
        clear hK K
        refine wpMix2_act (fun K hK => ?_)
        rcases hownR.2 with ⟨rfl, hr0⟩ | ⟨gr, capr, curr, rfl, hgr, hrest⟩
        · have hrn : rowSp k (chgL M N) = [] := List.eq_nil_of_length_eq_zero hr0
          have HOW : Hid (wZ.ownsRow X.heap.size 172 3 (.slice av (spansK A B k).length cv) (spansK A B (k + 1)).length (spV (spansK A B (k + 1)))) := Lib.hid (by rw [HNX.out, hrn, List.append_nil]; exact hownZ)
          go_wp2_with (at_builtin; refine wpList_append_own_none rfl _ _ 75 rfl X.heap.size 172 i0 3 Tryz.underlying75 hi0 _ _ _ rfl hownZ rfl ?_)
          refine hK _ _ hSZ ?_
          clear hK K
          refine' wpMix2_read (v := _) rfl ?_ ?_
          rotate_left 1
          (intro w' hw'; go_simp; try with_reducible rfl)
          try simp only [Act.put, List.setIfInBounds_toArray, List.set_cons_zero, List.set_cons_succ]
          refine wpMix2_nil ?_
          clear hSB hSZ hS0 hownZ hownR
          go_wp2
          go_roundw
          case rel => exact ⟨k + 1, hlt, by go_num, HOW.out, hbZ⟩
          case measure => simp [intOf]; omega
        · have hnewsR : ∀ j u, (spV (rowSp k (chgL M N)))[j]? = some u → wZ.cell? ((⟨gr, 0, none⟩ : Addr).add j) = some u := fun j u h => by
            rw [Go.WideShapes.add_plain, Nat.zero_add]
            exact (own_get hownR h).1
          go_wp2_with (at_builtin; refine wpList_append_own_at _ rfl _ _ 75 rfl X.heap.size 172 i0 (.agg #[.int .i64 0, .int .i64 0, .int .i64 0]) 3 24 Tryz.underlying75 hi0 hz0 hz1 hz2 rfl (by decide) _ _ _ rfl hownZ ⟨gr, 0, none⟩ (rowSp k (chgL M N)).length capr (spV (rowSp k (chgL M N))) rfl (spV_len _) hnewsR (spV_one _) (by unfold maxLen; omega) (by omega) hbZ.size ?_; intro v' w5 hown' hgrow _ _)
          have hB5 : Below X.heap.size wZ w5 := (Below.refl X.heap.size wZ).grown hgrow hbZ.size (fun k e => (own_cells hownZ k e).1)
          have HOW : Hid (w5.ownsRow X.heap.size 172 3 v' (spansK A B (k + 1)).length (spV (spansK A B (k + 1)))) := Lib.hid (by rw [HNX.out, List.length_append, spV_app]; exact hown')
          refine hK _ _ (hSB.out _ _ hSZ hB5) ?_
          clear hK K
          refine' wpMix2_read (v := _) rfl ?_ ?_
          rotate_left 1
          (intro w' hw'; go_simp; try with_reducible rfl)
          try simp only [Act.put, List.setIfInBounds_toArray, List.set_cons_zero, List.set_cons_succ]
          refine wpMix2_nil ?_
          have hbF := hbZ.trans hB5
          clear hSB hSZ hS0 hownZ hownR hown' hgrow hnewsR hB5
          go_wp2
          go_roundw
          case rel => exact ⟨k + 1, hlt, by go_num, HOW.out, hbF⟩
          case measure => simp [intOf]; omega
      · obtain rfl : k = n2 := by omega
        have hend : Hid (spansK A B k = spansE A r1 k1 B r2 k2) := Lib.hid (by rw [HE.out, ← spansK_end HAB.out, HL1.out])
        have ho2 := own_base hown bX.size
        rw [hend.out] at ho2
        have HO2 := Lib.hid ho2
        have HLE : Hid (Value.slice av (spansK A B k).length cv = .slice av (spansE A r1 k1 B r2 k2).length cv) := Lib.hid (by rw [hend.out])
        have hbf := bto bX hb bX.size
        clear ho2 hown y1 y2 hcnt
        go_wp2
        go_ret2
        exact ⟨.slice av (spansK A B k).length cv, congrArg (fun x => Ending.returned (.tuple #[.slice av (spansK A B k).length cv, .int .i64 x])) HZ0.out.symm, by rw [HLE.out]; exact HO2.out, hbf⟩
end Go.Proofs.YtekodpcedjpnjaaGreat
namespace Go.Proofs.YtekodpcedjpnjaaGreat
open Go.RowKit Go.Shelf Go.Maps
set_option maxRecDepth 100000 in
set_option maxHeartbeats 16000000 in
theorem rchanged_any {W : World} {a1 a2 : Option Addr} {n1 n2 c1 c2 : Nat} {A B : List (List GC)} (hA : RowsAt W a1 n1 A) (hB : RowsAt W a2 n2 B) (hn1 : n1 ≤ maxLen) (hn2 : n2 ≤ maxLen) (sA : ∀ M ∈ A, ∀ c ∈ M, c.s.size ≤ 1100000) (sB : ∀ M ∈ B, ∀ c ∈ M, c.s.size ≤ 1100000) (r1 k1 r2 k2 : Int) (s1 s2 : Bool) :
    Calls Tryz.prog 37 #[(.agg #[.slice a1 n1 c1, .int .i64 r1, .int .i64 k1, .bool s1]), (.agg #[.slice a2 n2 c2, .int .i64 r2, .int .i64 k2, .bool s2])] W fun e w' => e = .returned (.int .i64 (sumS (spansE A r1 k1 B r2 k2))) ∧ Below W.heap.size W w' := by
  have bX : Below W.heap.size W ((W.alloc (.cells #[.slice a1 n1 c1, .int .i64 r1, .int .i64 k1, .bool s1] 52)).alloc (.cells #[.slice a2 n2 c2, .int .i64 r2, .int .i64 k2, .bool s2] 52)) := ((Below.refl _ _).alloc (Nat.le_refl _) _).alloc (by simp) _
  have z1 : FBI ((W.alloc (.cells #[.slice a1 n1 c1, .int .i64 r1, .int .i64 k1, .bool s1] 52)).alloc (.cells #[.slice a2 n2 c2, .int .i64 r2, .int .i64 k2, .bool s2] 52)) W.heap.size (.slice a1 n1 c1) r1 k1 s1 := (show FBI (W.alloc (.cells #[.slice a1 n1 c1, .int .i64 r1, .int .i64 k1, .bool s1] 52)) W.heap.size (.slice a1 n1 c1) r1 k1 s1 from World.alloc_heap_new W _).below ((Below.refl _ _).alloc (Nat.le_refl _) _)
  have z2 : FBI ((W.alloc (.cells #[.slice a1 n1 c1, .int .i64 r1, .int .i64 k1, .bool s1] 52)).alloc (.cells #[.slice a2 n2 c2, .int .i64 r2, .int .i64 k2, .bool s2] 52)) (W.heap.size + 1) (.slice a2 n2 c2) r2 k2 s2 := by
    have : (W.alloc (.cells #[.slice a1 n1 c1, .int .i64 r1, .int .i64 k1, .bool s1] 52)).heap.size = W.heap.size + 1 := by simp
    rw [← this]
    exact World.alloc_heap_new _ _
  obtain ⟨hb1, hb2, hb3⟩ := spansE_ok A B r1 k1 r2 k2
  obtain ⟨l, hl⟩ : ∃ l, l = spansE A r1 k1 B r2 k2 := ⟨_, rfl⟩
  rw [← hl] at hb1 hb2 hb3 ⊢
  have RA := Lib.hid (hA.below bX)
  have RB := Lib.hid (hB.below bX)
  have SA := Lib.hid sA
  have SB := Lib.hid sB
  clear hA hB sA sB
  go_enter Tryz.func37, Tryz.ntmps37
  go_upto_region 1 with (fail)
  obtain ⟨X, hX⟩ : ∃ X, ((W.alloc (.cells #[.slice a1 n1 c1, .int .i64 r1, .int .i64 k1, .bool s1] 52)).alloc (.cells #[.slice a2 n2 c2, .int .i64 r2, .int .i64 k2, .bool s2] 52)) = X := ⟨_, rfl⟩
  rw [hX] at bX z1 z2 RA RB ⊢
  clear hX
  obtain ⟨u0, u1, u2, u3⟩ := z1.cells
  obtain ⟨v0, v1, v2, v3⟩ := z2.cells
  have CS := rspans10_any (c1 := c1) (c2 := c2) RA.out RB.out hn1 hn2 SA.out SB.out r1 k1 r2 k2 s1 s2
  obtain ⟨zz, hzz⟩ : ∃ zz, zz = errD (fitF A r1 k1 B r2 k2) := ⟨_, rfl⟩
  rw [← hl] at CS
  rw [← hzz] at CS
  have CS := Lib.hid CS
  have HBD := Lib.hid hb1
  clear hl hzz hb1 RA RB SA SB
  go_upto_region 2 with (go_at_call 41; refine (CS.out).mono ?_; rintro e w1 ⟨v, rfl, hown, hbw⟩)
  clear CS u0 u1 u2 u3 v0 v1 v2 v3 z1 z2
  obtain ⟨av, cv, rfl⟩ := own_sliceF hown
  have HOW := Lib.hid hown
  have b1 := bto bX hbw bX.size
  clear hown
  go_wp2
  go_loopw [7, 8] (fun nv iv wr => ∃ j : Nat, j ≤ l.length ∧ nv = .int .i64 (sumS (l.take j)) ∧ iv = .int .i64 j ∧ Hid (Below w1.heap.size w1 wr)) (fun _ iv _ => l.length - (intOf iv).toNat)
  case atStart => exact ⟨0, Nat.zero_le _, by simp [sumS], rfl, Lib.hid (Below.refl _ _)⟩
  case round =>
    obtain ⟨j, hj, rfl, rfl, BJ⟩ := hrel
    by_cases hlt : j < l.length
    · obtain ⟨sp, hsp⟩ : ∃ s, l[j]? = some s := ⟨_, List.getElem?_eq_getElem hlt⟩
      have hbd := HBD.out sp (List.mem_of_getElem? hsp)
      have hst := sumS_take l j
      have hnx := sumS_next hsp
      obtain ⟨k, a, e⟩ := sp
      dsimp only at hbd hnx
      obtain ⟨hk, hae, he5⟩ := hbd
      obtain ⟨g, c, hv0, _, _, _⟩ := own_neS HOW.out (by omega)
      simp only [Value.slice.injEq, true_and] at hv0
      obtain ⟨rfl, rfl⟩ := hv0
      obtain ⟨g0, g1, g2⟩ := spV_get l j (k, a, e) hsp
      have x0 := (own_get HOW.out g0).1
      have x1 := (own_get HOW.out g1).1
      have x2 := (own_get HOW.out g2).1
      dsimp only at x0 x1 x2
      have x1 := (BJ.out.cell (p := ⟨g, _, none⟩) (World.block_lt_of_cell? _ _ x1)).trans x1
      have x2 := (BJ.out.cell (p := ⟨g, _, none⟩) (World.block_lt_of_cell? _ _ x2)).trans x2
      have hnx := Lib.hid hnx
      obtain ⟨q, hq⟩ : ∃ q, q = sumS (l.take j) := ⟨_, rfl⟩
      rw [← hq] at hnx hst ⊢
      clear hq x0 g0 g1 g2 hsp
      have HW1 : Hid (IntKind.i64.wrap ((q : Int) + (e : Int)) = ((q + e : Nat) : Int)) := Lib.hid (by rw [IntKind.wrap_i64]; omega)
      have HW2 : Hid (IntKind.i64.wrap (((q + e : Nat) : Int) - (a : Int)) = ((q + (e - a) : Nat) : Int)) := Lib.hid (by rw [IntKind.wrap_i64]; omega)
      go_wp2_with fail
      refine wp_region_still_lit (by kernel_rfl) (by kernel_rfl) ?_
      repeat still_step
      refine wpStill_nil ?_
      go_wp2
      go_roundw
      case rel => exact ⟨j + 1, hlt, by rw [hnx.out, HW1.out, HW2.out], by go_num, Lib.hid (BJ.out.drew)⟩
      case measure => simp [intOf]; omega
    · obtain rfl : j = l.length := by omega
      rw [List.take_length]
      go_wp2_with fail
      go_ret
      exact ⟨rfl, bto b1 BJ.out b1.size⟩
end Go.Proofs.YtekodpcedjpnjaaGreat
