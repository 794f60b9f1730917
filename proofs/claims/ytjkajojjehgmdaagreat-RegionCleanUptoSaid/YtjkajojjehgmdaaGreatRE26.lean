/- Diff: the program's fit and the reference's Fit of any two frames. No condition but that the strings are not too long for a cut. Spans in memory; the program's spans of a row. No condition. Diff: the program's and the reference's Spans of any two frames. No condition but that the strings are not too long for a cut. -/
import Derived.Laws.AppendOwnNone
import Derived.Test.YtjkajojjehgmdaaGreatRE02
import Derived.Test.YtjkajojjehgmdaaGreatRE21
import Derived.Test.YtjkajojjehgmdaaGreatRE25
set_option linter.unusedVariables false
set_option linter.unusedSimpArgs false
namespace Go.Proofs.YtjkajojjehgmdaaGreat
open Go.RowKit Go.Shelf Go.Maps
def fitF (A : List (List GC)) (r1 k1 : Int) (B : List (List GC)) (r2 k2 : Int) : Bool := okF A r1 k1 && (okF B r2 k2 && (decide (A.length = B.length) && decide ((nth [] A 0).length = (nth [] B 0).length)))
theorem okF_pos {R : List (List GC)} {r c : Int} (h : okF R r c = true) : 1 ≤ R.length ∧ R.length ≤ 60 ∧ 1 ≤ (nth [] R 0).length ∧ (nth [] R 0).length ≤ 500 ∧ 0 ≤ r ∧ r < R.length ∧ 0 ≤ c ∧ c < (nth [] R 0).length ∧ ∀ M ∈ R, M.length = (nth [] R 0).length ∧ wholeB M = true := by
 unfold okF at h
 rw [Bool.and_eq_true, decide_eq_true_eq] at h
 obtain ⟨⟨h1, h2, h3, h4, h5, h6, h7, h8⟩, h9⟩ := h
 refine ⟨h1, h2, h3, h4, h5, h6, h7, h8, fun M hM => ?_⟩
 unfold rowsOkB at h9
 have := List.all_eq_true.1 h9 M hM
 rw [Bool.and_eq_true, decide_eq_true_eq] at this
 exact this
set_option maxRecDepth 100000 in
set_option maxHeartbeats 8000000 in
theorem fit10_any {W : World} {a1 a2 : Option Addr} {n1 n2 c1 c2 : Nat} {A B : List (List GC)} (hA : RowsAt W a1 n1 A) (hB : RowsAt W a2 n2 B) (hn1 : n1 ≤ maxLen) (hn2 : n2 ≤ maxLen) (sA : ∀ M ∈ A, ∀ c ∈ M, c.s.size ≤ 1100000) (sB : ∀ M ∈ B, ∀ c ∈ M, c.s.size ≤ 1100000) (r1 k1 r2 k2 : Int) (s1 s2 : Bool) :
    Calls Tryz.prog 131 #[(.agg #[.slice a1 n1 c1, .int .i64 r1, .int .i64 k1, .bool s1]), (.agg #[.slice a2 n2 c2, .int .i64 r2, .int .i64 k2, .bool s2])] W fun e w' => e = .returned (.bool (fitF A r1 k1 B r2 k2)) ∧ Below W.heap.size W w' := by
 have bX : Below W.heap.size W ((W.alloc (.cells #[.slice a1 n1 c1, .int .i64 r1, .int .i64 k1, .bool s1] 42)).alloc (.cells #[.slice a2 n2 c2, .int .i64 r2, .int .i64 k2, .bool s2] 42)) := ((Below.refl _ _).alloc (Nat.le_refl _) _).alloc (by simp) _
 have z1 : FBI ((W.alloc (.cells #[.slice a1 n1 c1, .int .i64 r1, .int .i64 k1, .bool s1] 42)).alloc (.cells #[.slice a2 n2 c2, .int .i64 r2, .int .i64 k2, .bool s2] 42)) W.heap.size (.slice a1 n1 c1) r1 k1 s1 := (show FBI (W.alloc (.cells #[.slice a1 n1 c1, .int .i64 r1, .int .i64 k1, .bool s1] 42)) W.heap.size (.slice a1 n1 c1) r1 k1 s1 from World.alloc_heap_new W _).below ((Below.refl _ _).alloc (Nat.le_refl _) _)
 have z2 : FBI ((W.alloc (.cells #[.slice a1 n1 c1, .int .i64 r1, .int .i64 k1, .bool s1] 42)).alloc (.cells #[.slice a2 n2 c2, .int .i64 r2, .int .i64 k2, .bool s2] 42)) (W.heap.size + 1) (.slice a2 n2 c2) r2 k2 s2 := by
  have : (W.alloc (.cells #[.slice a1 n1 c1, .int .i64 r1, .int .i64 k1, .bool s1] 42)).heap.size = W.heap.size + 1 := by simp
  rw [← this]
  exact World.alloc_heap_new _ _
 have hl1 := hA.len
 have hl2 := hB.len
 obtain ⟨zz, hzz⟩ : ∃ zz, zz = fitF A r1 k1 B r2 k2 := ⟨_, rfl⟩
 rw [← hzz]
 have HZ := Lib.hid hzz
 have HA := Lib.hid hA
 have HB := Lib.hid hB
 have SA := Lib.hid sA
 have SB := Lib.hid sB
 clear hA hB sA sB hzz
 go_enter Tryz.func131, Tryz.ntmps131
 go_upto_region 1 with (fail)
 obtain ⟨X, hX⟩ : ∃ X, ((W.alloc (.cells #[.slice a1 n1 c1, .int .i64 r1, .int .i64 k1, .bool s1] 42)).alloc (.cells #[.slice a2 n2 c2, .int .i64 r2, .int .i64 k2, .bool s2] 42)) = X := ⟨_, rfl⟩
 rw [hX] at bX z1 z2 ⊢
 clear hX
 have RA := Lib.hid (HA.out.below bX)
 have RB := Lib.hid (HB.out.below bX)
 have hz1 := z1.lt
 have hz2 := z2.lt
 obtain ⟨u0, u1, u2, u3⟩ := z1.cells
 obtain ⟨v0, v1, v2, v3⟩ := z2.cells
 have K0 := fun p : BW X.heap.size X => p.cell (by exact hz1) u0
 have K1 := fun p : BW X.heap.size X => p.cell (by exact hz1) u1
 have K2 := fun p : BW X.heap.size X => p.cell (by exact hz1) u2
 have K3 := fun p : BW X.heap.size X => p.cell (by exact hz1) u3
 have J0 := fun p : BW X.heap.size X => p.cell (by exact hz2) v0
 have J1 := fun p : BW X.heap.size X => p.cell (by exact hz2) v1
 have J2 := fun p : BW X.heap.size X => p.cell (by exact hz2) v2
 have J3 := fun p : BW X.heap.size X => p.cell (by exact hz2) v3
 clear z1 z2 u0 u1 u2 u3 v0 v1 v2 v3 HA HB
 have CA := fun (Y : World) (hY : Below X.heap.size X Y) => check_any (cap := c1) (RA.out.below hY) hn1 SA.out r1 k1 s1
 have CB := fun (Y : World) (hY : Below X.heap.size X Y) => check_any (cap := c2) (RB.out.below hY) hn2 SB.out r2 k2 s2
 cases dA : okF A r1 k1 with
 | false =>
  rw [dA, show errF false = 90 from rfl] at CA
  have CA := Lib.hid CA
  have CB := Lib.hid CB
  have HF : Hid (zz = false) := Lib.hid (by rw [HZ.out]; unfold fitF; rw [dA]; rfl)
  clear dA RA RB SA SB HZ
  go_wp2_with fail
  refine wp_region_bw X.heap.size (by kernel_rfl) (lexB_fast (by kernel_rfl)) ?_
  repeat (go_big_quiet_step ((apply Calls.bw_of (Nat.le_refl _); first
   | (go_at_call_of 37 (Value.agg #[Value.slice a1 n1 c1, Value.int IntKind.i64 r1, Value.int IntKind.i64 k1, Value.bool s1]); exact CA.out _ (BW.h _))
   | (go_at_call_of 37 (Value.agg #[Value.slice a2 n2 c2, Value.int IntKind.i64 r2, Value.int IntKind.i64 k2, Value.bool s2]); exact CB.out _ (BW.h _)))))
  refine wpQuiet_nil ?_
  intro wq hw'
  have hwq : Below X.heap.size X wq := by obtain ⟨p, rfl⟩ := hw'; exact p.h
  have hbq : Below W.heap.size W wq := bto bX hwq bX.size
  clear hw' CA CB K0 K1 K2 K3 J0 J1 J2 J3
  go_wp2
  go_ret
  exact ⟨ret_bool HF.out.symm, hbq⟩
 | true =>
  obtain ⟨p1, p2, p3, p4, _⟩ := okF_pos dA
  rw [dA, show errF true = 0 from rfl] at CA
  have CA := Lib.hid CA
  cases dB : okF B r2 k2 with
  | false =>
   rw [dB, show errF false = 90 from rfl] at CB
   have CB := Lib.hid CB
   have HF : Hid (zz = false) := Lib.hid (by rw [HZ.out]; unfold fitF; rw [dA, dB]; rfl)
   clear dA dB RA RB SA SB HZ p1 p2 p3 p4
   go_wp2_with fail
   refine wp_region_bw X.heap.size (by kernel_rfl) (lexB_fast (by kernel_rfl)) ?_
   repeat (go_big_quiet_step ((apply Calls.bw_of (Nat.le_refl _); first
    | (go_at_call_of 37 (Value.agg #[Value.slice a1 n1 c1, Value.int IntKind.i64 r1, Value.int IntKind.i64 k1, Value.bool s1]); exact CA.out _ (BW.h _))
    | (go_at_call_of 37 (Value.agg #[Value.slice a2 n2 c2, Value.int IntKind.i64 r2, Value.int IntKind.i64 k2, Value.bool s2]); exact CB.out _ (BW.h _)))))
   refine wpQuiet_nil ?_
   intro wq hw'
   have hwq : Below X.heap.size X wq := by obtain ⟨p, rfl⟩ := hw'; exact p.h
   have hbq : Below W.heap.size W wq := bto bX hwq bX.size
   clear hw' CA CB K0 K1 K2 K3 J0 J1 J2 J3
   go_wp2
   go_ret
   exact ⟨ret_bool HF.out.symm, hbq⟩
  | true =>
   obtain ⟨q1, q2, q3, q4, _⟩ := okF_pos dB
   rw [dB, show errF true = 0 from rfl] at CB
   have CB := Lib.hid CB
   by_cases hnn : n1 = n2
   case neg =>
    have hne : ((n1 : Int) == (n2 : Int)) = false := by simp; omega
    have HF : Hid (zz = false) := Lib.hid (by rw [HZ.out]; unfold fitF; rw [dA, dB, decide_eq_false (by omega)]; rfl)
    clear dA dB RA RB SA SB HZ p1 p2 p3 p4 q1 q2 q3 q4 hnn
    go_wp2_with fail
    refine wp_region_bw X.heap.size (by kernel_rfl) (lexB_fast (by kernel_rfl)) ?_
    repeat (go_big_quiet_step ((apply Calls.bw_of (Nat.le_refl _); first
     | (go_at_call_of 37 (Value.agg #[Value.slice a1 n1 c1, Value.int IntKind.i64 r1, Value.int IntKind.i64 k1, Value.bool s1]); exact CA.out _ (BW.h _))
     | (go_at_call_of 37 (Value.agg #[Value.slice a2 n2 c2, Value.int IntKind.i64 r2, Value.int IntKind.i64 k2, Value.bool s2]); exact CB.out _ (BW.h _)))))
    refine wpQuiet_nil ?_
    intro wq hw'
    have hwq : Below X.heap.size X wq := by obtain ⟨p, rfl⟩ := hw'; exact p.h
    have hbq : Below W.heap.size W wq := bto bX hwq bX.size
    clear hw' CA CB K0 K1 K2 K3 J0 J1 J2 J3
    go_wp2
    go_ret
    exact ⟨ret_bool HF.out.symm, hbq⟩
   case pos =>
    subst hnn
    obtain ⟨M0, hM0⟩ : ∃ M, M = nth [] A 0 := ⟨_, rfl⟩
    obtain ⟨N0, hN0⟩ : ∃ M, M = nth [] B 0 := ⟨_, rfl⟩
    have hM0' : A[0]? = some M0 := by rw [hM0, nth_eq _ _ _ (by omega)]; exact List.getElem?_eq_getElem (by omega)
    have hN0' : B[0]? = some N0 := by rw [hN0, nth_eq _ _ _ (by omega)]; exact List.getElem?_eq_getElem (by omega)
    obtain ⟨b, off, e2, d2, rfl, hb, hc0, _, _⟩ := RA.out.at_ 0 M0 hM0'
    obtain ⟨b', off', e3, d3, rfl, hb', hc3, _, _⟩ := RB.out.at_ 0 N0 hN0'
    rw [Nat.add_zero] at hc0 hc3
    have L0 := fun p : BW X.heap.size X => p.cell (by exact hb) hc0
    have L1 := fun p : BW X.heap.size X => p.cell (by exact hb') hc3
    have hn0 : (0 : Int) < (n1 : Int) := by omega
    have h0n : 0 < n1 := by omega
    have HE : Hid (zz = decide (M0.length = N0.length)) := Lib.hid (by rw [HZ.out]; unfold fitF; rw [dA, dB, decide_eq_true (by omega), ← hM0, ← hN0]; rfl)
    obtain ⟨m, hm⟩ : ∃ m, m = M0.length := ⟨_, rfl⟩
    obtain ⟨m', hm'⟩ : ∃ m, m = N0.length := ⟨_, rfl⟩
    rw [← hm] at HE L0
    rw [← hm'] at HE L1
    clear dA dB RA RB SA SB HZ p1 p2 p3 p4 q1 q2 q3 q4 hM0 hN0 hM0' hN0' hc0 hc3 hm hm'
    by_cases hmm : m = m'
    ·subst hmm
     have HF : Hid (zz = true) := Lib.hid (by rw [HE.out]; simp)
     go_wp2_with fail
     refine wp_region_bw X.heap.size (by kernel_rfl) (lexB_fast (by kernel_rfl)) ?_
     repeat (go_big_quiet_step ((apply Calls.bw_of (Nat.le_refl _); first
      | (go_at_call_of 37 (Value.agg #[Value.slice (some (Addr.mk b off none)) n1 c1, Value.int IntKind.i64 r1, Value.int IntKind.i64 k1, Value.bool s1]); exact CA.out _ (BW.h _))
      | (go_at_call_of 37 (Value.agg #[Value.slice (some (Addr.mk b' off' none)) n1 c2, Value.int IntKind.i64 r2, Value.int IntKind.i64 k2, Value.bool s2]); exact CB.out _ (BW.h _)))))
     refine wpQuiet_nil ?_
     intro wq hw'
     have hwq : Below X.heap.size X wq := by obtain ⟨p, rfl⟩ := hw'; exact p.h
     have hbq : Below W.heap.size W wq := bto bX hwq bX.size
     clear hw' L0 L1 CA CB K0 K1 K2 K3 J0 J1 J2 J3
     go_wp2
     go_ret
     exact ⟨ret_bool HF.out.symm, hbq⟩
    ·have hne : ((m : Int) == (m' : Int)) = false := by simp; omega
     have HF : Hid (zz = false) := Lib.hid (by rw [HE.out]; simp [hmm])
     clear hmm
     go_wp2_with fail
     refine wp_region_bw X.heap.size (by kernel_rfl) (lexB_fast (by kernel_rfl)) ?_
     repeat (go_big_quiet_step ((apply Calls.bw_of (Nat.le_refl _); first
      | (go_at_call_of 37 (Value.agg #[Value.slice (some (Addr.mk b off none)) n1 c1, Value.int IntKind.i64 r1, Value.int IntKind.i64 k1, Value.bool s1]); exact CA.out _ (BW.h _))
      | (go_at_call_of 37 (Value.agg #[Value.slice (some (Addr.mk b' off' none)) n1 c2, Value.int IntKind.i64 r2, Value.int IntKind.i64 k2, Value.bool s2]); exact CB.out _ (BW.h _)))))
     refine wpQuiet_nil ?_
     intro wq hw'
     have hwq : Below X.heap.size X wq := by obtain ⟨p, rfl⟩ := hw'; exact p.h
     have hbq : Below W.heap.size W wq := bto bX hwq bX.size
     clear hw' L0 L1 CA CB K0 K1 K2 K3 J0 J1 J2 J3
     go_wp2
     go_ret
     exact ⟨ret_bool HF.out.symm, hbq⟩
theorem own_get {W : World} {n₀ s g n cap : Nat} {e : TypeId} {xs : List Value} (h : W.ownsRow n₀ e s (.slice (some ⟨g, 0, none⟩) n cap) n xs) {j : Nat} {u : Value} (hj : xs[j]? = some u) : W.cell? ⟨g, j, none⟩ = some u ∧ W.frozen? ⟨g, j, none⟩ = false := by
 rcases h.2 with ⟨h1, _⟩ | ⟨g', cap', cur, h1, h2, h3, h4, h5, h6, h7⟩
 ·cases h1
 ·cases h1
  have hl : j < xs.length := (List.getElem?_eq_some_iff.1 hj).1
  have h8 : cur[j]? = some u := by
   rw [← h7, List.getElem?_take] at hj
   split at hj
   ·rw [Array.getElem?_toList] at hj; exact hj
   ·cases hj
  unfold World.cell? World.frozen?
  dsimp only
  rw [h3]
  exact ⟨by simpa using h8, by simp⟩
theorem own_put {W : World} {n₀ s g n cap : Nat} {e : TypeId} {xs : List Value} (h : W.ownsRow n₀ e s (.slice (some ⟨g, 0, none⟩) n cap) n xs) (j : Nat) (u : Value) : (W.setCell ⟨g, j, none⟩ u).ownsRow n₀ e s (.slice (some ⟨g, 0, none⟩) n cap) n (xs.set j u) := by
 obtain ⟨h0, h⟩ := h
 refine ⟨by rw [List.length_set]; exact h0, ?_⟩
 rcases h with ⟨h1, _⟩ | ⟨g', cap', cur, h1, h2, h3, h4, h5, h6, h7⟩
 ·cases h1
 ·cases h1
  refine .inr ⟨g, cap, cur.setIfInBounds j u, rfl, h2, ?_, h4, h5, by simpa using h6, ?_⟩
  ·unfold World.setCell
   dsimp only
   rw [Array.getElem?_modify, if_pos rfl, h3]
   rfl
  ·rw [← h7, Array.toList_setIfInBounds, List.take_set]
theorem own_base {W : World} {n₀ n' s n : Nat} {e : TypeId} {v : Value} {xs : List Value} (h : W.ownsRow n₀ e s v n xs) (hb : n' ≤ n₀) : W.ownsRow n' e s v n xs :=
 ⟨h.1, h.2.imp id (fun ⟨g, cap, cur, h1, h2, r⟩ => ⟨g, cap, cur, h1, Nat.le_trans hb h2, r⟩)⟩
def spV (l : List (Nat × Nat × Nat)) : List Value := l.flatMap fun s => [.int .i64 (s.1 : Nat), .int .i64 (s.2.1 : Nat), .int .i64 (s.2.2 : Nat)]
theorem spV_app (l m : List (Nat × Nat × Nat)) : spV (l ++ m) = spV l ++ spV m := by unfold spV; rw [List.flatMap_append]
theorem spV_len : ∀ l : List (Nat × Nat × Nat), (spV l).length = l.length * 3
 | [] => rfl
 | s :: l => by
  have := spV_len l
  unfold spV at this ⊢
  rw [List.flatMap_cons, List.length_append, this, List.length_cons]
  simp; omega
theorem spV_get : ∀ (l : List (Nat × Nat × Nat)) (i : Nat) (s : Nat × Nat × Nat), l[i]? = some s → (spV l)[i * 3]? = some (.int .i64 (s.1 : Nat)) ∧ (spV l)[i * 3 + 1]? = some (.int .i64 (s.2.1 : Nat)) ∧ (spV l)[i * 3 + 2]? = some (.int .i64 (s.2.2 : Nat))
 | [], _, _, h => by simp at h
 | x :: l, 0, s, h => by
  simp only [List.getElem?_cons_zero, Option.some.injEq] at h
  subst h
  exact ⟨rfl, rfl, rfl⟩
 | x :: l, i + 1, s, h => by
  rw [List.getElem?_cons_succ] at h
  have ih := spV_get l i s h
  have e : ∀ k, (spV (x :: l))[(i + 1) * 3 + k]? = (spV l)[i * 3 + k]? := fun k => by
   show ((.int .i64 (x.1 : Nat)) :: (.int .i64 (x.2.1 : Nat)) :: (.int .i64 (x.2.2 : Nat)) :: spV l)[(i + 1) * 3 + k]? = _
   rw [show (i + 1) * 3 + k = (i * 3 + k) + 1 + 1 + 1 by omega, List.getElem?_cons_succ, List.getElem?_cons_succ, List.getElem?_cons_succ]
  exact ⟨by rw [show (i + 1) * 3 = (i + 1) * 3 + 0 by omega, e]; exact ih.1, by rw [e]; exact ih.2.1, by rw [e]; exact ih.2.2⟩
theorem spV_last (D : List (Nat × Nat × Nat)) (r a b c : Nat) : (spV (D ++ [(r, a, b)])).set (D.length * 3 + 2) (.int .i64 (c : Nat)) = spV (D ++ [(r, a, c)]) := by
 rw [spV_app, spV_app, List.set_append_right _ _ (by rw [spV_len]; omega), spV_len, show D.length * 3 + 2 - D.length * 3 = 2 by omega]
 rfl
theorem spV_one (l : List (Nat × Nat × Nat)) : ∀ u ∈ spV l, u.oneCell' = true := fun u hu => by
 unfold spV at hu
 obtain ⟨s, _, hs⟩ := List.mem_flatMap.1 hu
 simp only [List.mem_cons, List.not_mem_nil, or_false] at hs
 rcases hs with rfl | rfl | rfl <;> rfl
def atSp (r : Nat) (L : List (Nat × Nat)) : List (Nat × Nat × Nat) := L.map fun s => (r, s.1, s.2)
theorem atSp_app (r : Nat) (L M : List (Nat × Nat)) : atSp r (L ++ M) = atSp r L ++ atSp r M := by unfold atSp; rw [List.map_append]
theorem cells3 (W : World) (x y z : Value) (t : TypeId) : ∀ (j : Nat) (u : Value), [x, y, z][j]? = some u → (W.alloc (.cells #[x, y, z] t)).cell? ((⟨W.heap.size, 0, none⟩ : Addr).add j) = some u := fun j u h => by
 rw [Go.WideShapes.add_plain, Nat.zero_add, cell_of_row (W.alloc (.cells #[x, y, z] t)) W.heap.size j #[x, y, z] t (0, 0) (World.alloc_heap_new W _)]
 simpa using h
theorem infoSpan : (Tryz.prog.info? 154).map (fun i => (i.zero, i.size, i.bytes)) = some (some (.agg #[.int .i64 0, .int .i64 0, .int .i64 0]), 3, 24) := by kernel_rfl
def SpI (on : List Bool) (k : Nat) (o : Bool) (L : List (Nat × Nat)) : Prop :=
 match o with
 | false => L ++ spansF k none (on.drop k) = spansF 0 none on
 | true => ∃ D a, L = D ++ [(a, k)] ∧ D ++ spansF k (some a) (on.drop k) = spansF 0 none on
theorem SpI.len {on : List Bool} {k : Nat} {o : Bool} {L : List (Nat × Nat)} (h : SpI on k o L) : L.length ≤ on.length := by
 have h1 := spansF_count on 0 none
 have h2 : (spansF 0 none on).length ≤ on.length := by simpa using h1
 cases o with
 | false =>
  have := congrArg List.length (show L ++ spansF k none (on.drop k) = spansF 0 none on from h)
  rw [List.length_append] at this
  omega
 | true =>
  obtain ⟨D, a, rfl, h3⟩ := h
  have := congrArg List.length h3
  rw [List.length_append] at this
  have h4 : ∀ (t : List Bool) (j : Nat), 1 ≤ (spansF j (some a) t).length := by
   intro t
   induction t with
   | nil => intro j; simp [spansF]
   | cons x t ih =>
    intro j
    cases x with
    | true => rw [spansF]; exact ih _
    | false => simp [spansF]
  have := h4 (on.drop k) k
  rw [List.length_append]
  simp
  omega
theorem SpI.fin {on : List Bool} {o : Bool} {L : List (Nat × Nat)} (h : SpI on on.length o L) : L = spansF 0 none on := by
 cases o with
 | false =>
  have h1 : L ++ spansF on.length none (on.drop on.length) = spansF 0 none on := h
  rw [spansF_past on on.length (Nat.le_refl _), List.append_nil] at h1
  exact h1
 | true =>
  obtain ⟨D, a, rfl, h3⟩ := h
  rw [List.drop_of_length_le (Nat.le_refl _), spansF] at h3
  exact h3
set_option maxRecDepth 100000 in
set_option maxHeartbeats 8000000 in
theorem drow_any {W : World} {a1 a2 : Option Addr} {n c1 c2 : Nat} {A B : List GC} (hA : CellsAt W a1 n A) (hB : CellsAt W a2 n B) (hn : n ≤ 1000) (wa : wholeB A = true) (wb : wholeB B = true) (r : Nat) :
    Calls Tryz.prog 132 #[.int .i64 r, .slice a1 n c1, .slice a2 n c2] W fun e w' => ∃ v, e = .returned v ∧ w'.ownsRow W.heap.size 154 3 v (rowSp r (chgL A B)).length (spV (rowSp r (chgL A B))) ∧ Below W.heap.size W w' := by
 obtain ⟨i0, hi, hz0, hz1, hz2⟩ := info_parts infoSpan
 have CC := Lib.hid (changes_any (c1 := c1) (c2 := c2) hA hB hn wa wb)
 obtain ⟨on, hon⟩ : ∃ on, on = chgL A B := ⟨_, rfl⟩
 rw [← hon] at CC ⊢
 have hol : on.length = n := by rw [hon, chgL_length (by rw [hA.len, hB.len]), hA.len]
 have HOL := Lib.hid hol
 clear hA hB wa wb hon hol
 go_enter Tryz.func132, Tryz.ntmps132
 go_wp2_with (go_at_call 165; refine (CC.out).mono ?_; rintro e w1 ⟨q, rfl, hq, g1, hb1⟩)
 clear CC
 have hs1 := hb1.size
 have hql := g1.lt
 go_loopw [7, 8, 15] (fun v o i wr => ∃ (k : Nat) (L : List (Nat × Nat)) (ob : Bool), k ≤ n ∧ i = .int .i64 k ∧ o = .bool ob ∧ wr.ownsRow w1.heap.size 154 3 v L.length (spV (atSp r L)) ∧ Hid (SpI on k ob L) ∧ Below w1.heap.size w1 wr) (fun _ _ i _ => n - (intOf i).toNat)
 case atStart => exact ⟨0, [], false, Nat.zero_le _, rfl, rfl, World.ownsRow_nil _ _ _ _, Lib.hid rfl, Below.refl _ _⟩
 case round =>
  obtain ⟨k, L, ob, hk, rfl, rfl, hown, HI, hb⟩ := hrel
  have hs := hb.size
  have hLn := HI.out.len
  rw [HOL.out] at hLn
  have g := g1.below hb
  by_cases hlt : k < n
  ·obtain ⟨v0, _⟩ := g.cell (i := k) (by rw [HOL.out]; exact hlt)
   cases hv : nth false on k with
   | true =>
    rw [hv] at v0
    cases ob with
    | true =>
     obtain ⟨D, a, rfl, hD⟩ := HI.out
     have hnx : Hid (SpI on (k + 1) true (D ++ [(a, k + 1)])) := Lib.hid ⟨D, a, rfl, by rw [← hD, spansF_more on k a (by rw [HOL.out]; exact hlt) hv]⟩
     obtain ⟨d, hd⟩ : ∃ d, d = D.length := ⟨_, rfl⟩
     have hdl : (D ++ [(a, k)]).length = d + 1 := by rw [hd]; simp
     rw [hdl] at hown hLn
     obtain ⟨gb, c, rfl, hgb, hc1, hc2⟩ := own_neS hown (by omega)
     obtain ⟨y0, y1⟩ := own_get hown (j := d * 3 + 2) (u := .int .i64 (k : Nat)) (by
      have := (spV_get (atSp r (D ++ [(a, k)])) d (r, a, k) (by rw [atSp_app]; unfold atSp; rw [List.getElem?_append_right (by simp; omega)]; simp [hd])).2.2
      exact this)
     have hp := own_put hown (d * 3 + 2) (.int .i64 ((k + 1 : Nat) : Int))
     have e1 : (spV (atSp r (D ++ [(a, k)]))).set (d * 3 + 2) (.int .i64 ((k + 1 : Nat) : Int)) = spV (atSp r (D ++ [(a, k + 1)])) := by
      rw [atSp_app, atSp_app]
      have := spV_last (atSp r D) r a k (k + 1)
      rw [show (atSp r D).length = d by unfold atSp; rw [List.length_map, hd]] at this
      exact this
     rw [e1] at hp
     have hb3 : Below w1.heap.size w1 (wr.setCell ⟨gb, d * 3 + 2, none⟩ (.int .i64 ((k + 1 : Nat) : Int))) := hb.setCell (p := ⟨gb, d * 3 + 2, none⟩) hgb _
     have hdm : ((d : Int) + 1) - 1 = (d : Int) := by omega
     have hdl2 : (d : Int) < (d : Int) + 1 := by omega
     have hdk : Hid ((D ++ [(a, k + 1)]).length = d + 1) := Lib.hid (by rw [hd]; simp)
     have HP := Lib.hid hp
     clear hp e1 hD HI hown hdl hv hd
     go_wp2
     go_roundw
     case rel => exact ⟨k + 1, D ++ [(a, k + 1)], true, hlt, by go_num, rfl, by rw [hdk.out]; exact HP.out, hnx, hb3⟩
     case measure => simp [intOf]; omega
    | false =>
     have hI : L ++ spansF k none (on.drop k) = spansF 0 none on := HI.out
     have hnx : Hid (SpI on (k + 1) true (L ++ [(k, k + 1)])) := Lib.hid ⟨L, k, rfl, by rw [← hI, spansF_on on k (by rw [HOL.out]; exact hlt) hv]⟩
     have hne : Hid (spV (atSp r (L ++ [(k, k + 1)])) = spV (atSp r L) ++ [.int .i64 (r : Nat), .int .i64 (k : Nat), .int .i64 ((k : Int) + 1)]) := Lib.hid (by rw [atSp_app, spV_app]; rfl)
     have hll : Hid ((L ++ [(k, k + 1)]).length = L.length + 1) := Lib.hid (by simp)
     have hnews := cells3 wr (.int .i64 (r : Nat)) (.int .i64 (k : Nat)) (.int .i64 ((k : Int) + 1)) 154
     have hone : ∀ u ∈ [Value.int .i64 (r : Nat), .int .i64 (k : Nat), .int .i64 ((k : Int) + 1)], u.oneCell' = true := fun u hu => by
      simp only [List.mem_cons, List.not_mem_nil, or_false] at hu
      rcases hu with rfl | rfl | rfl <;> rfl
     obtain ⟨av, cv, rfl⟩ := own_sliceF hown
     clear hI HI hv
     go_wp2_with (at_builtin; refine wpList_append_own_at _ rfl _ _ 147 rfl w1.heap.size 154 i0 (.agg #[.int .i64 0, .int .i64 0, .int .i64 0]) 3 24 Tryz.underlying147 hi hz0 hz1 hz2 rfl (by decide) _ _ _ rfl (hown.alloc _) ⟨wr.heap.size, 0, none⟩ 1 1 [.int .i64 (r : Nat), .int .i64 (k : Nat), .int .i64 ((k : Int) + 1)] rfl rfl hnews hone (by unfold maxLen; omega) (by omega) (by simp; omega) ?_; intro v' w2 hown' hgrow _ _)
     have hB1 : Below w1.heap.size wr w2 := ((Below.refl w1.heap.size wr).alloc (by omega) _).grown hgrow (by simp; omega) (fun k e => (own_cells hown k e).1)
     go_roundw
     case rel => exact ⟨k + 1, L ++ [(k, k + 1)], true, hlt, by go_num, rfl, by rw [hll.out, hne.out]; exact hown', hnx, hb.trans hB1⟩
     case measure => simp [intOf]; omega
   | false =>
    rw [hv] at v0
    obtain ⟨av, cv, rfl⟩ := own_sliceF hown
    have hnx : Hid (SpI on (k + 1) false L) := Lib.hid (by
     cases ob with
     | true =>
      obtain ⟨D, a, rfl, hD⟩ := HI.out
      show D ++ [(a, k)] ++ spansF (k + 1) none (on.drop (k + 1)) = _
      rw [← hD, spansF_shut on k a (by rw [HOL.out]; exact hlt) hv, List.append_assoc]
      rfl
     | false =>
      have hI : L ++ spansF k none (on.drop k) = spansF 0 none on := HI.out
      show L ++ spansF (k + 1) none (on.drop (k + 1)) = _
      rw [← hI, spansF_off on k (by rw [HOL.out]; exact hlt) hv])
    clear HI hv
    go_wp2
    go_roundw
    case rel => exact ⟨k + 1, L, false, hlt, by go_num, rfl, hown, hnx, hb⟩
    case measure => simp [intOf]; omega
  ·obtain rfl : k = n := by omega
   have hfin : Hid (atSp r L = rowSp r on) := Lib.hid (by
    have := HI.out
    rw [← HOL.out] at this
    rw [this.fin]; rfl)
   have hlen : Hid (L.length = (rowSp r on).length) := Lib.hid (by rw [← hfin.out]; unfold atSp; rw [List.length_map])
   obtain ⟨av, cv, rfl⟩ := own_sliceF hown
   have ho2 := own_base hown hs1
   rw [hfin.out, hlen.out] at ho2
   have HO2 := Lib.hid ho2
   have hbf := bto hb1 hb hs1
   have HLE : Hid (Value.slice av L.length cv = .slice av (rowSp r on).length cv) := Lib.hid (by rw [hlen.out])
   clear ho2 hown HI
   go_wp2
   go_ret
   exact ⟨_, congrArg Ending.returned HLE.out, HO2.out, hbf⟩
def errD (b : Bool) : Int := if b then 0 else 100
def spansE (A : List (List GC)) (r1 k1 : Int) (B : List (List GC)) (r2 k2 : Int) : List (Nat × Nat × Nat) := if fitF A r1 k1 B r2 k2 then spansM A B else []
theorem fitF_pos {A B : List (List GC)} {r1 k1 r2 k2 : Int} (h : fitF A r1 k1 B r2 k2 = true) : okF A r1 k1 = true ∧ okF B r2 k2 = true ∧ A.length = B.length ∧ (nth [] A 0).length = (nth [] B 0).length := by
 unfold fitF at h
 simp only [Bool.and_eq_true, decide_eq_true_eq] at h
 exact ⟨h.1, h.2.1, h.2.2.1, h.2.2.2⟩
def SpS (Z : World) (v1 v2 : Value) (pa pb : Nat) (r1 k1 : Int) (s1 : Bool) (r2 k2 : Int) (s2 : Bool) (b o : Nat) (u : Value) (b' o' : Nat) (u' : Value) (X : World) : Prop :=
 FBI X pa v1 r1 k1 s1 ∧ FBI X pb v2 r2 k2 s2 ∧ X.cell? ⟨b, o, none⟩ = some u ∧ X.cell? ⟨b', o', none⟩ = some u' ∧ Z.heap.size ≤ X.heap.size
theorem nth_memR {R : List (List GC)} {k : Nat} (h : k < R.length) : nth [] R k ∈ R := by rw [nth_eq _ _ _ h]; exact List.getElem_mem _
set_option maxRecDepth 100000 in
set_option maxHeartbeats 8000000 in
theorem pspans_any {W : World} {a1 a2 : Option Addr} {n1 n2 c1 c2 : Nat} {A B : List (List GC)} (hA : RowsAt W a1 n1 A) (hB : RowsAt W a2 n2 B) (hn1 : n1 ≤ maxLen) (hn2 : n2 ≤ maxLen) (sA : ∀ M ∈ A, ∀ c ∈ M, c.s.size ≤ 1100000) (sB : ∀ M ∈ B, ∀ c ∈ M, c.s.size ≤ 1100000) (r1 k1 r2 k2 : Int) (s1 s2 : Bool) :
    Calls Tryz.prog 96 #[(.agg #[.slice a1 n1 c1, .int .i64 r1, .int .i64 k1, .bool s1]), (.agg #[.slice a2 n2 c2, .int .i64 r2, .int .i64 k2, .bool s2])] W fun e w' => ∃ v, e = .returned (.tuple #[v, .int .i64 (errD (fitF A r1 k1 B r2 k2))]) ∧ w'.ownsRow W.heap.size 154 3 v (spansE A r1 k1 B r2 k2).length (spV (spansE A r1 k1 B r2 k2)) ∧ Below W.heap.size W w' := by
 obtain ⟨i0, hi0, hz0, hz1, hz2⟩ := info_parts infoSpan
 have bX : Below W.heap.size W ((W.alloc (.cells #[.slice a1 n1 c1, .int .i64 r1, .int .i64 k1, .bool s1] 42)).alloc (.cells #[.slice a2 n2 c2, .int .i64 r2, .int .i64 k2, .bool s2] 42)) := ((Below.refl _ _).alloc (Nat.le_refl _) _).alloc (by simp) _
 have z1 : FBI ((W.alloc (.cells #[.slice a1 n1 c1, .int .i64 r1, .int .i64 k1, .bool s1] 42)).alloc (.cells #[.slice a2 n2 c2, .int .i64 r2, .int .i64 k2, .bool s2] 42)) W.heap.size (.slice a1 n1 c1) r1 k1 s1 := (show FBI (W.alloc (.cells #[.slice a1 n1 c1, .int .i64 r1, .int .i64 k1, .bool s1] 42)) W.heap.size (.slice a1 n1 c1) r1 k1 s1 from World.alloc_heap_new W _).below ((Below.refl _ _).alloc (Nat.le_refl _) _)
 have z2 : FBI ((W.alloc (.cells #[.slice a1 n1 c1, .int .i64 r1, .int .i64 k1, .bool s1] 42)).alloc (.cells #[.slice a2 n2 c2, .int .i64 r2, .int .i64 k2, .bool s2] 42)) (W.heap.size + 1) (.slice a2 n2 c2) r2 k2 s2 := by
  have : (W.alloc (.cells #[.slice a1 n1 c1, .int .i64 r1, .int .i64 k1, .bool s1] 42)).heap.size = W.heap.size + 1 := by simp
  rw [← this]
  exact World.alloc_heap_new _ _
 obtain ⟨zz, hzz⟩ : ∃ zz, zz = errD (fitF A r1 k1 B r2 k2) := ⟨_, rfl⟩
 rw [← hzz]
 have HZZ := Lib.hid hzz
 clear hzz
 have hl1 := hA.len
 have hl2 := hB.len
 have HA := Lib.hid hA
 have HB := Lib.hid hB
 have SA := Lib.hid sA
 have SB := Lib.hid sB
 clear hA hB sA sB
 go_enter Tryz.func96, Tryz.ntmps96
 go_upto_region 1 with (fail)
 obtain ⟨X, hX⟩ : ∃ X, ((W.alloc (.cells #[.slice a1 n1 c1, .int .i64 r1, .int .i64 k1, .bool s1] 42)).alloc (.cells #[.slice a2 n2 c2, .int .i64 r2, .int .i64 k2, .bool s2] 42)) = X := ⟨_, rfl⟩
 rw [hX] at bX z1 z2 ⊢
 clear hX
 have RA := Lib.hid (HA.out.below bX)
 have RB := Lib.hid (HB.out.below bX)
 obtain ⟨u0, u1, u2, u3⟩ := z1.cells
 obtain ⟨v0, v1, v2, v3⟩ := z2.cells
 have CF := fit10_any (c1 := c1) (c2 := c2) RA.out RB.out hn1 hn2 SA.out SB.out r1 k1 r2 k2 s1 s2
 clear HA HB
 cases hf : fitF A r1 k1 B r2 k2 with
 | false =>
  rw [hf] at CF
  have HZ0 : Hid (zz = 100) := Lib.hid (by rw [HZZ.out, hf]; rfl)
  have CF := Lib.hid CF
  have HE : Hid (spansE A r1 k1 B r2 k2 = []) := Lib.hid (by unfold spansE; rw [hf]; rfl)
  clear hf RA RB SA SB
  go_wp2_with (go_at_call 131; refine (CF.out).mono ?_; rintro e w1 ⟨rfl, hb1⟩)
  go_ret2
  exact ⟨.slice none 0 0, congrArg (fun x => Ending.returned (.tuple #[.slice none 0 0, .int .i64 x])) HZ0.out.symm, by rw [HE.out]; exact World.ownsRow_nil _ _ _ _, bto bX hb1 bX.size⟩
 | true =>
  obtain ⟨okA, okB, hab, hwab⟩ := fitF_pos hf
  obtain ⟨p1, p2, p3, p4, p5, p6, p7, p8, p9⟩ := okF_pos okA
  obtain ⟨q1, q2, q3, q4, q5, q6, q7, q8, q9⟩ := okF_pos okB
  rw [hf] at CF
  have HZ0 : Hid (zz = 0) := Lib.hid (by rw [HZZ.out, hf]; rfl)
  have CF := Lib.hid CF
  have HE : Hid (spansE A r1 k1 B r2 k2 = spansM A B) := Lib.hid (by unfold spansE; rw [hf]; rfl)
  obtain ⟨w, hw⟩ : ∃ w, w = (nth [] A 0).length := ⟨_, rfl⟩
  rw [← hwab, ← hw] at q9
  rw [← hw] at p9 p4 p3
  have PA := Lib.hid p9
  have PB := Lib.hid q9
  have hnn : n2 = n1 := by omega
  subst hnn
  have hn60 : n2 ≤ 60 := by omega
  have HL1 := Lib.hid hl1
  have HL2 := Lib.hid hl2
  have HAB := Lib.hid hab
  have hcnt := Lib.hid (spansK_count hab (w := w) (fun r hr => (p9 _ (nth_memR hr)).1) (fun r hr => (q9 _ (nth_memR hr)).1))
  clear hf okA okB p5 p6 p7 p8 p9 q1 q2 q3 q4 q5 q6 q7 q8 q9 hwab hw hl1 hl2 hab p1 p2
  go_wp2_with (go_at_call 131; refine (CF.out).mono ?_; rintro e w1 ⟨rfl, hb1⟩; obtain ⟨d0, d1, d2, d3⟩ := (z1.below hb1).cells)
  clear u0 u1 u2 u3 v0 v1 v2 v3 CF d0 d1 d2 d3
  go_loopw [6, 15] (fun v i wr => ∃ k : Nat, k ≤ n2 ∧ i = .int .i64 k ∧ wr.ownsRow X.heap.size 154 3 v (spansK A B k).length (spV (spansK A B k)) ∧ Below X.heap.size X wr) (fun _ i _ => n2 - (intOf i).toNat)
  case atStart => exact ⟨0, Nat.zero_le _, rfl, World.ownsRow_nil _ _ _ _, hb1⟩
  case round =>
   clear hb1
   obtain ⟨k, hk, rfl, hown, hb⟩ := hrel
   have hs := hb.size
   have y1 := z1.below hb
   have y2 := z2.below hb
   obtain ⟨e0, e1, e2, e3⟩ := y1.cells
   obtain ⟨av, cv, rfl⟩ := own_sliceF hown
   by_cases hlt : k < n2
   ·have hMk : A[k]? = some (nth [] A k) := by rw [nth_eq _ _ _ (by rw [HL1.out]; exact hlt), List.getElem?_eq_getElem (by rw [HL1.out]; exact hlt)]
    have hNk : B[k]? = some (nth [] B k) := by rw [nth_eq _ _ _ (by rw [HL2.out]; exact hlt), List.getElem?_eq_getElem (by rw [HL2.out]; exact hlt)]
    obtain ⟨b, off, a3, c3, rfl, hbb, hc0, ⟨hc1, hc2⟩, hM⟩ := RA.out.at_ k _ hMk
    obtain ⟨b', off', a4, c4, rfl, hbb', hc0', ⟨hc1', hc2'⟩, hN⟩ := RB.out.at_ k _ hNk
    obtain ⟨mA, wA⟩ := PA.out _ (List.mem_of_getElem? hMk)
    obtain ⟨mB, wB⟩ := PB.out _ (List.mem_of_getElem? hNk)
    have hnext := spansK_next HAB.out (k := k) (by rw [HL1.out]; exact hlt)
    have hct := hcnt.out k (by rw [HL1.out]; omega)
    have hct2 := hcnt.out (k + 1) (by rw [HL1.out]; omega)
    obtain ⟨M, hMM⟩ : ∃ M, M = nth [] A k := ⟨_, rfl⟩
    obtain ⟨N, hNN⟩ : ∃ N, N = nth [] B k := ⟨_, rfl⟩
    rw [← hMM] at hc0 hc1 hM mA wA hnext
    rw [← hNN] at hc0' hc1' hN mB wB hnext
    rw [mA] at hc0 hc1 hM
    rw [mB] at hc0' hc1' hN
    have HNX := Lib.hid hnext
    have hkl : w * k ≤ 30000 := by have := Nat.mul_le_mul p4 (show k ≤ 60 by omega); omega
    have hkl2 : w * (k + 1) ≤ 30500 := by have := Nat.mul_le_mul p4 (show k + 1 ≤ 61 by omega); omega
    have hsum : (spansK A B k).length + (rowSp k (chgL M N)).length ≤ 30500 := by
     rw [hnext, List.length_append] at hct2
     omega
    have hcd : (spansK A B k).length ≤ 30000 := by omega
    have dB : Below wr.heap.size wr wr.drew := (Below.refl _ _).drew
    have hbd : Below X.heap.size X wr.drew := bto hb dB hs
    have hS0 : SpS X (.slice (some ⟨b, off, none⟩) n2 c1) (.slice (some ⟨b', off', none⟩) n2 c2) W.heap.size (W.heap.size + 1) r1 k1 s1 r2 k2 s2 b (off + k) (.slice a3 w c3) b' (off' + k) (.slice a4 w c4) wr.drew :=
     ⟨z1.below hbd, z2.below hbd, (hbd.cell (p := ⟨b, _, none⟩) hbb).trans hc0, (hbd.cell (p := ⟨b', _, none⟩) hbb').trans hc0', hbd.size⟩
    have hSB : ∀ Y Z : World, SpS X (.slice (some ⟨b, off, none⟩) n2 c1) (.slice (some ⟨b', off', none⟩) n2 c2) W.heap.size (W.heap.size + 1) r1 k1 s1 r2 k2 s2 b (off + k) (.slice a3 w c3) b' (off' + k) (.slice a4 w c4) Y → Below X.heap.size Y Z → SpS X (.slice (some ⟨b, off, none⟩) n2 c1) (.slice (some ⟨b', off', none⟩) n2 c2) W.heap.size (W.heap.size + 1) r1 k1 s1 r2 k2 s2 b (off + k) (.slice a3 w c3) b' (off' + k) (.slice a4 w c4) Z := fun Y Z h hY =>
     ⟨(hY.block _ z1.lt).trans h.1, (hY.block _ z2.lt).trans h.2.1, (hY.cell (p := ⟨b, _, none⟩) hbb).trans h.2.2.1, (hY.cell (p := ⟨b', _, none⟩) hbb').trans h.2.2.2.1, Nat.le_trans h.2.2.2.2 hY.size⟩
    have hSB := Lib.hid hSB
    have hki : (k : Int) < (n2 : Int) := by omega
    have h0n : 0 < n2 := by omega
    have hlen : w ≤ 1000 := by omega
    have hownd : wr.drew.ownsRow X.heap.size 154 3 (.slice av (spansK A B k).length cv) (spansK A B k).length (spV (spansK A B k)) := hown
    have CD := Lib.hid (fun (Y : World) (hY : Below X.heap.size X Y) => drow_any (c1 := c3) (c2 := c4) (hM.below hY) (hN.below hY) hlen wA wB k)
    clear hnext hMk hNk hMM hNN hc0 hc0' hM hN wA wB mA mB hct hct2 y1 y2 hown
    go_wp2_with fail
    refine wp_region_mix2 [(true, 0), (true, 1), (true, 2), (true, 3), (true, 4), (true, 5), (true, 6), (true, 7), (true, 8), (true, 9), (true, 10), (true, 11), (false, 12), (false, 13), (true, 14)] (SpS X (.slice (some ⟨b, off, none⟩) n2 c1) (.slice (some ⟨b', off', none⟩) n2 c2) W.heap.size (W.heap.size + 1) r1 k1 s1 r2 k2 s2 b (off + k) (.slice a3 w c3) b' (off' + k) (.slice a4 w c4)) (by kernel_rfl) (by kernel_rfl) (by rfl) (by kernel_rfl) (by kernel_rfl) (fun _ _ d _ _ h => by cases d <;> exact h) hS0 ?_
    simp only [mixL, List.getElem?_cons_succ, List.getElem?_cons_zero]
    repeat (refine' wpMix2_read (v := _) rfl ?_ ?_; rotate_left 1; (intro w' hw'; obtain ⟨j1, j2, j3, j4, _⟩ := hw'; obtain ⟨g0, g1, g2, g3⟩ := j1.cells; obtain ⟨f0, f1, f2, f3⟩ := j2.cells; go_simp; try with_reducible rfl); try simp only [Act.put, List.setIfInBounds_toArray, List.set_cons_zero, List.set_cons_succ])
    refine wpMix2_act (fun K hK => ?_)
    go_wp2_with fail
    refine (CD.out _ hbd).mono ?_
    rintro e wZ ⟨vr, rfl, hownR, hbR⟩
    have hSZ := hSB.out _ _ hS0 (hbR.mono hbd.size)
    have hbZ := bto hbd hbR hbd.size
    have hownZ := own_belowF hownd hbR
    go_wp2
    refine hK _ _ hSZ ?_
    clear hK K
    refine wpMix2_act (fun K hK => ?_)
    rcases hownR.2 with ⟨rfl, hr0⟩ | ⟨gr, capr, curr, rfl, hgr, hrest⟩
    ·have hrn : rowSp k (chgL M N) = [] := List.eq_nil_of_length_eq_zero hr0
     have HOW : Hid (wZ.ownsRow X.heap.size 154 3 (.slice av (spansK A B k).length cv) (spansK A B (k + 1)).length (spV (spansK A B (k + 1)))) := Lib.hid (by rw [HNX.out, hrn, List.append_nil]; exact hownZ)
     go_wp2_with (at_builtin; refine wpList_append_own_none rfl _ _ 147 rfl X.heap.size 154 i0 3 Tryz.underlying147 hi0 _ _ _ rfl hownZ rfl ?_)
     refine hK _ _ hSZ ?_
     clear hK K
     refine' wpMix2_read (v := _) rfl ?_ ?_
     rotate_left 1
     (intro w' hw'; go_simp; try with_reducible rfl)
     try simp only [Act.put, List.setIfInBounds_toArray, List.set_cons_zero, List.set_cons_succ]
     refine wpMix2_nil ?_
     clear hSB hSZ hS0 hownZ hownR
     go_wp2
     go_roundw
     case rel => exact ⟨k + 1, hlt, by go_num, HOW.out, hbZ⟩
     case measure => simp [intOf]; omega
    ·have hnewsR : ∀ j u, (spV (rowSp k (chgL M N)))[j]? = some u → wZ.cell? ((⟨gr, 0, none⟩ : Addr).add j) = some u := fun j u h => by
      rw [Go.WideShapes.add_plain, Nat.zero_add]
      exact (own_get hownR h).1
     go_wp2_with (at_builtin; refine wpList_append_own_at _ rfl _ _ 147 rfl X.heap.size 154 i0 (.agg #[.int .i64 0, .int .i64 0, .int .i64 0]) 3 24 Tryz.underlying147 hi0 hz0 hz1 hz2 rfl (by decide) _ _ _ rfl hownZ ⟨gr, 0, none⟩ (rowSp k (chgL M N)).length capr (spV (rowSp k (chgL M N))) rfl (spV_len _) hnewsR (spV_one _) (by unfold maxLen; omega) (by omega) hbZ.size ?_; intro v' w5 hown' hgrow _ _)
     have hB5 : Below X.heap.size wZ w5 := (Below.refl X.heap.size wZ).grown hgrow hbZ.size (fun k e => (own_cells hownZ k e).1)
     have HOW : Hid (w5.ownsRow X.heap.size 154 3 v' (spansK A B (k + 1)).length (spV (spansK A B (k + 1)))) := Lib.hid (by rw [HNX.out, List.length_append, spV_app]; exact hown')
     refine hK _ _ (hSB.out _ _ hSZ hB5) ?_
     clear hK K
     refine' wpMix2_read (v := _) rfl ?_ ?_
     rotate_left 1
     (intro w' hw'; go_simp; try with_reducible rfl)
     try simp only [Act.put, List.setIfInBounds_toArray, List.set_cons_zero, List.set_cons_succ]
     refine wpMix2_nil ?_
     have hbF := hbZ.trans hB5
     clear hSB hSZ hS0 hownZ hownR hown' hgrow hnewsR hB5
     go_wp2
     go_roundw
     case rel => exact ⟨k + 1, hlt, by go_num, HOW.out, hbF⟩
     case measure => simp [intOf]; omega
   ·obtain rfl : k = n2 := by omega
    have hend : Hid (spansK A B k = spansE A r1 k1 B r2 k2) := Lib.hid (by rw [HE.out, ← spansK_end HAB.out, HL1.out])
    have ho2 := own_base hown bX.size
    rw [hend.out] at ho2
    have HO2 := Lib.hid ho2
    have HLE : Hid (Value.slice av (spansK A B k).length cv = .slice av (spansE A r1 k1 B r2 k2).length cv) := Lib.hid (by rw [hend.out])
    have hbf := bto bX hb bX.size
    clear ho2 hown y1 y2 hcnt
    go_wp2
    go_ret2
    exact ⟨.slice av (spansK A B k).length cv, congrArg (fun x => Ending.returned (.tuple #[.slice av (spansK A B k).length cv, .int .i64 x])) HZ0.out.symm, by rw [HLE.out]; exact HO2.out, hbf⟩
end Go.Proofs.YtjkajojjehgmdaaGreat
