/- Diff: the program's and the reference's Spans of any two frames. No condition but that the strings are not too long for a cut. -/
import Derived.Test.YtekodpcedjpnjaaGreatBs39
set_option linter.unusedVariables false
set_option linter.unusedSimpArgs false
namespace Go.Proofs.YtekodpcedjpnjaaGreat
open Go.RowKit Go.Shelf Go.Maps
def errD (b : Bool) : Int := if b then 0 else 100
def spansE (A : List (List GC)) (r1 k1 : Int) (B : List (List GC)) (r2 k2 : Int) : List (Nat × Nat × Nat) := if fitF A r1 k1 B r2 k2 then spansM A B else []
theorem fitF_pos {A B : List (List GC)} {r1 k1 r2 k2 : Int} (h : fitF A r1 k1 B r2 k2 = true) : okF A r1 k1 = true ∧ okF B r2 k2 = true ∧ A.length = B.length ∧ (nth [] A 0).length = (nth [] B 0).length := by
  unfold fitF at h
  simp only [Bool.and_eq_true, decide_eq_true_eq] at h
  exact ⟨h.1, h.2.1, h.2.2.1, h.2.2.2⟩
def SpS (Z : World) (v1 v2 : Value) (pa pb : Nat) (r1 k1 : Int) (s1 : Bool) (r2 k2 : Int) (s2 : Bool) (b o : Nat) (u : Value) (b' o' : Nat) (u' : Value) (X : World) : Prop :=
  FBI X pa v1 r1 k1 s1 ∧ FBI X pb v2 r2 k2 s2 ∧ X.cell? ⟨b, o, none⟩ = some u ∧ X.cell? ⟨b', o', none⟩ = some u' ∧ Z.heap.size ≤ X.heap.size
theorem nth_memR {R : List (List GC)} {k : Nat} (h : k < R.length) : nth [] R k ∈ R := by rw [nth_eq _ _ _ h]; exact List.getElem_mem _
set_option maxRecDepth 100000 in
set_option maxHeartbeats 8000000 in
theorem pspans_any {W : World} {a1 a2 : Option Addr} {n1 n2 c1 c2 : Nat} {A B : List (List GC)} (hA : RowsAt W a1 n1 A) (hB : RowsAt W a2 n2 B) (hn1 : n1 ≤ maxLen) (hn2 : n2 ≤ maxLen) (sA : ∀ M ∈ A, ∀ c ∈ M, c.s.size ≤ 1100000) (sB : ∀ M ∈ B, ∀ c ∈ M, c.s.size ≤ 1100000) (r1 k1 r2 k2 : Int) (s1 s2 : Bool) :
    Calls Tryz.prog 40 #[(.agg #[.slice a1 n1 c1, .int .i64 r1, .int .i64 k1, .bool s1]), (.agg #[.slice a2 n2 c2, .int .i64 r2, .int .i64 k2, .bool s2])] W fun e w' => ∃ v, e = .returned (.tuple #[v, .int .i64 (errD (fitF A r1 k1 B r2 k2))]) ∧ w'.ownsRow W.heap.size 166 3 v (spansE A r1 k1 B r2 k2).length (spV (spansE A r1 k1 B r2 k2)) ∧ Below W.heap.size W w' := by
  obtain ⟨i0, hi0, hz0, hz1, hz2⟩ := info_parts infoSpan
  have bX : Below W.heap.size W ((W.alloc (.cells #[.slice a1 n1 c1, .int .i64 r1, .int .i64 k1, .bool s1] 52)).alloc (.cells #[.slice a2 n2 c2, .int .i64 r2, .int .i64 k2, .bool s2] 52)) := ((Below.refl _ _).alloc (Nat.le_refl _) _).alloc (by simp) _
  have z1 : FBI ((W.alloc (.cells #[.slice a1 n1 c1, .int .i64 r1, .int .i64 k1, .bool s1] 52)).alloc (.cells #[.slice a2 n2 c2, .int .i64 r2, .int .i64 k2, .bool s2] 52)) W.heap.size (.slice a1 n1 c1) r1 k1 s1 := (show FBI (W.alloc (.cells #[.slice a1 n1 c1, .int .i64 r1, .int .i64 k1, .bool s1] 52)) W.heap.size (.slice a1 n1 c1) r1 k1 s1 from World.alloc_heap_new W _).below ((Below.refl _ _).alloc (Nat.le_refl _) _)
  have z2 : FBI ((W.alloc (.cells #[.slice a1 n1 c1, .int .i64 r1, .int .i64 k1, .bool s1] 52)).alloc (.cells #[.slice a2 n2 c2, .int .i64 r2, .int .i64 k2, .bool s2] 52)) (W.heap.size + 1) (.slice a2 n2 c2) r2 k2 s2 := by
    have : (W.alloc (.cells #[.slice a1 n1 c1, .int .i64 r1, .int .i64 k1, .bool s1] 52)).heap.size = W.heap.size + 1 := by simp
    rw [← this]
    exact World.alloc_heap_new _ _
  obtain ⟨zz, hzz⟩ : ∃ zz, zz = errD (fitF A r1 k1 B r2 k2) := ⟨_, rfl⟩
  rw [← hzz]
  have HZZ := Lib.hid hzz
  clear hzz
  have hl1 := hA.len
  have hl2 := hB.len
  have HA := Lib.hid hA
  have HB := Lib.hid hB
  have SA := Lib.hid sA
  have SB := Lib.hid sB
  clear hA hB sA sB
  go_enter Tryz.func40, Tryz.ntmps40
  go_upto_region 1 with (fail)
  obtain ⟨X, hX⟩ : ∃ X, ((W.alloc (.cells #[.slice a1 n1 c1, .int .i64 r1, .int .i64 k1, .bool s1] 52)).alloc (.cells #[.slice a2 n2 c2, .int .i64 r2, .int .i64 k2, .bool s2] 52)) = X := ⟨_, rfl⟩
  rw [hX] at bX z1 z2 ⊢
  clear hX
  have RA := Lib.hid (HA.out.below bX)
  have RB := Lib.hid (HB.out.below bX)
  obtain ⟨u0, u1, u2, u3⟩ := z1.cells
  obtain ⟨v0, v1, v2, v3⟩ := z2.cells
  have CF := fit10_any (c1 := c1) (c2 := c2) RA.out RB.out hn1 hn2 SA.out SB.out r1 k1 r2 k2 s1 s2
  clear HA HB
  cases hf : fitF A r1 k1 B r2 k2 with
  | false =>
    rw [hf] at CF
    have HZ0 : Hid (zz = 100) := Lib.hid (by rw [HZZ.out, hf]; rfl)
    have CF := Lib.hid CF
    have HE : Hid (spansE A r1 k1 B r2 k2 = []) := Lib.hid (by unfold spansE; rw [hf]; rfl)
    clear hf RA RB SA SB
    go_wp2_with (go_at_call 105; refine (CF.out).mono ?_; rintro e w1 ⟨rfl, hb1⟩)
    go_ret2
    exact ⟨.slice none 0 0, congrArg (fun x => Ending.returned (.tuple #[.slice none 0 0, .int .i64 x])) HZ0.out.symm, by rw [HE.out]; exact World.ownsRow_nil _ _ _ _, bto bX hb1 bX.size⟩
  | true =>
    obtain ⟨okA, okB, hab, hwab⟩ := fitF_pos hf
    obtain ⟨p1, p2, p3, p4, p5, p6, p7, p8, p9⟩ := okF_pos okA
    obtain ⟨q1, q2, q3, q4, q5, q6, q7, q8, q9⟩ := okF_pos okB
    rw [hf] at CF
    have HZ0 : Hid (zz = 0) := Lib.hid (by rw [HZZ.out, hf]; rfl)
    have CF := Lib.hid CF
    have HE : Hid (spansE A r1 k1 B r2 k2 = spansM A B) := Lib.hid (by unfold spansE; rw [hf]; rfl)
    obtain ⟨w, hw⟩ : ∃ w, w = (nth [] A 0).length := ⟨_, rfl⟩
    rw [← hwab, ← hw] at q9
    rw [← hw] at p9 p4 p3
    have PA := Lib.hid p9
    have PB := Lib.hid q9
    have hnn : n2 = n1 := by omega
    subst hnn
    have hn60 : n2 ≤ 60 := by omega
    have HL1 := Lib.hid hl1
    have HL2 := Lib.hid hl2
    have HAB := Lib.hid hab
    have hcnt := Lib.hid (spansK_count hab (w := w) (fun r hr => (p9 _ (nth_memR hr)).1) (fun r hr => (q9 _ (nth_memR hr)).1))
    clear hf okA okB p5 p6 p7 p8 p9 q1 q2 q3 q4 q5 q6 q7 q8 q9 hwab hw hl1 hl2 hab p1 p2
    go_wp2_with (go_at_call 105; refine (CF.out).mono ?_; rintro e w1 ⟨rfl, hb1⟩; obtain ⟨d0, d1, d2, d3⟩ := (z1.below hb1).cells)
    clear u0 u1 u2 u3 v0 v1 v2 v3 CF d0 d1 d2 d3
    go_loopw [6, 15] (fun v i wr => ∃ k : Nat, k ≤ n2 ∧ i = .int .i64 k ∧ wr.ownsRow X.heap.size 166 3 v (spansK A B k).length (spV (spansK A B k)) ∧ Below X.heap.size X wr) (fun _ i _ => n2 - (intOf i).toNat)
    case atStart => exact ⟨0, Nat.zero_le _, rfl, World.ownsRow_nil _ _ _ _, hb1⟩
    case round =>
      clear hb1
      obtain ⟨k, hk, rfl, hown, hb⟩ := hrel
      have hs := hb.size
      have y1 := z1.below hb
      have y2 := z2.below hb
      obtain ⟨e0, e1, e2, e3⟩ := y1.cells
      obtain ⟨av, cv, rfl⟩ := own_sliceF hown
      by_cases hlt : k < n2
      · have hMk : A[k]? = some (nth [] A k) := by rw [nth_eq _ _ _ (by rw [HL1.out]; exact hlt), List.getElem?_eq_getElem (by rw [HL1.out]; exact hlt)]
        have hNk : B[k]? = some (nth [] B k) := by rw [nth_eq _ _ _ (by rw [HL2.out]; exact hlt), List.getElem?_eq_getElem (by rw [HL2.out]; exact hlt)]
        obtain ⟨b, off, a3, c3, rfl, hbb, hc0, ⟨hc1, hc2⟩, hM⟩ := RA.out.at_ k _ hMk
        obtain ⟨b', off', a4, c4, rfl, hbb', hc0', ⟨hc1', hc2'⟩, hN⟩ := RB.out.at_ k _ hNk
        obtain ⟨mA, wA⟩ := PA.out _ (List.mem_of_getElem? hMk)
        obtain ⟨mB, wB⟩ := PB.out _ (List.mem_of_getElem? hNk)
        have hnext := spansK_next HAB.out (k := k) (by rw [HL1.out]; exact hlt)
        have hct := hcnt.out k (by rw [HL1.out]; omega)
        have hct2 := hcnt.out (k + 1) (by rw [HL1.out]; omega)
        obtain ⟨M, hMM⟩ : ∃ M, M = nth [] A k := ⟨_, rfl⟩
        obtain ⟨N, hNN⟩ : ∃ N, N = nth [] B k := ⟨_, rfl⟩
        rw [← hMM] at hc0 hc1 hM mA wA hnext
        rw [← hNN] at hc0' hc1' hN mB wB hnext
        rw [mA] at hc0 hc1 hM
        rw [mB] at hc0' hc1' hN
        have HNX := Lib.hid hnext
        have hkl : w * k ≤ 30000 := by have := Nat.mul_le_mul p4 (show k ≤ 60 by omega); omega
        have hkl2 : w * (k + 1) ≤ 30500 := by have := Nat.mul_le_mul p4 (show k + 1 ≤ 61 by omega); omega
        have hsum : (spansK A B k).length + (rowSp k (chgL M N)).length ≤ 30500 := by
          rw [hnext, List.length_append] at hct2
          omega
        have hcd : (spansK A B k).length ≤ 30000 := by omega
        have dB : Below wr.heap.size wr wr.drew := (Below.refl _ _).drew
        have hbd : Below X.heap.size X wr.drew := bto hb dB hs
        have hS0 : SpS X (.slice (some ⟨b, off, none⟩) n2 c1) (.slice (some ⟨b', off', none⟩) n2 c2) W.heap.size (W.heap.size + 1) r1 k1 s1 r2 k2 s2 b (off + k) (.slice a3 w c3) b' (off' + k) (.slice a4 w c4) wr.drew :=
          ⟨z1.below hbd, z2.below hbd, (hbd.cell (p := ⟨b, _, none⟩) hbb).trans hc0, (hbd.cell (p := ⟨b', _, none⟩) hbb').trans hc0', hbd.size⟩
        have hSB : ∀ Y Z : World, SpS X (.slice (some ⟨b, off, none⟩) n2 c1) (.slice (some ⟨b', off', none⟩) n2 c2) W.heap.size (W.heap.size + 1) r1 k1 s1 r2 k2 s2 b (off + k) (.slice a3 w c3) b' (off' + k) (.slice a4 w c4) Y → Below X.heap.size Y Z → SpS X (.slice (some ⟨b, off, none⟩) n2 c1) (.slice (some ⟨b', off', none⟩) n2 c2) W.heap.size (W.heap.size + 1) r1 k1 s1 r2 k2 s2 b (off + k) (.slice a3 w c3) b' (off' + k) (.slice a4 w c4) Z := fun Y Z h hY =>
          ⟨(hY.block _ z1.lt).trans h.1, (hY.block _ z2.lt).trans h.2.1, (hY.cell (p := ⟨b, _, none⟩) hbb).trans h.2.2.1, (hY.cell (p := ⟨b', _, none⟩) hbb').trans h.2.2.2.1, Nat.le_trans h.2.2.2.2 hY.size⟩
        have hSB := Lib.hid hSB
        have hki : (k : Int) < (n2 : Int) := by omega
        have h0n : 0 < n2 := by omega
        have hlen : w ≤ 1000 := by omega
        have hownd : wr.drew.ownsRow X.heap.size 166 3 (.slice av (spansK A B k).length cv) (spansK A B k).length (spV (spansK A B k)) := hown
        have CD := Lib.hid (fun (Y : World) (hY : Below X.heap.size X Y) => drow_any (c1 := c3) (c2 := c4) (hM.below hY) (hN.below hY) hlen wA wB k)
        clear hnext hMk hNk hMM hNN hc0 hc0' hM hN wA wB mA mB hct hct2 y1 y2 hown
        go_wp2_with fail
        refine wp_region_mix2 [(true, 0), (true, 1), (true, 2), (true, 3), (true, 4), (true, 5), (true, 6), (true, 7), (true, 8), (true, 9), (true, 10), (true, 11), (false, 12), (false, 13), (true, 14)] (SpS X (.slice (some ⟨b, off, none⟩) n2 c1) (.slice (some ⟨b', off', none⟩) n2 c2) W.heap.size (W.heap.size + 1) r1 k1 s1 r2 k2 s2 b (off + k) (.slice a3 w c3) b' (off' + k) (.slice a4 w c4)) (by kernel_rfl) (by kernel_rfl) (by rfl) (by kernel_rfl) (by kernel_rfl) (fun _ _ d _ _ h => by cases d <;> exact h) hS0 ?_
        simp only [mixL, List.getElem?_cons_succ, List.getElem?_cons_zero]
        repeat (refine' wpMix2_read (v := _) rfl ?_ ?_; rotate_left 1; (intro w' hw'; obtain ⟨j1, j2, j3, j4, _⟩ := hw'; obtain ⟨g0, g1, g2, g3⟩ := j1.cells; obtain ⟨f0, f1, f2, f3⟩ := j2.cells; go_simp; try with_reducible rfl); try simp only [Act.put, List.setIfInBounds_toArray, List.set_cons_zero, List.set_cons_succ])
        refine wpMix2_act (fun K hK => ?_)
        go_wp2_with fail
        refine (CD.out _ hbd).mono ?_
        rintro e wZ ⟨vr, rfl, hownR, hbR⟩
        have hSZ := hSB.out _ _ hS0 (hbR.mono hbd.size)
        have hbZ := bto hbd hbR hbd.size
        have hownZ := own_belowF hownd hbR
        go_wp2
        refine hK _ _ hSZ ?_
        clear hK K
        refine wpMix2_act (fun K hK => ?_)
        rcases hownR.2 with ⟨rfl, hr0⟩ | ⟨gr, capr, curr, rfl, hgr, hrest⟩
        · have hrn : rowSp k (chgL M N) = [] := List.eq_nil_of_length_eq_zero hr0
          have HOW : Hid (wZ.ownsRow X.heap.size 166 3 (.slice av (spansK A B k).length cv) (spansK A B (k + 1)).length (spV (spansK A B (k + 1)))) := Lib.hid (by rw [HNX.out, hrn, List.append_nil]; exact hownZ)
          go_wp2_with (at_builtin; refine wpList_append_own_none rfl _ _ 72 rfl X.heap.size 166 i0 3 Tryz.underlying72 hi0 _ _ _ rfl hownZ rfl ?_)
          refine hK _ _ hSZ ?_
          clear hK K
          refine' wpMix2_read (v := _) rfl ?_ ?_
          rotate_left 1
          (intro w' hw'; go_simp; try with_reducible rfl)
          try simp only [Act.put, List.setIfInBounds_toArray, List.set_cons_zero, List.set_cons_succ]
          refine wpMix2_nil ?_
          clear hSB hSZ hS0 hownZ hownR
          go_wp2
          go_roundw
          case rel => exact ⟨k + 1, hlt, by go_num, HOW.out, hbZ⟩
          case measure => simp [intOf]; omega
        · have hnewsR : ∀ j u, (spV (rowSp k (chgL M N)))[j]? = some u → wZ.cell? ((⟨gr, 0, none⟩ : Addr).add j) = some u := fun j u h => by
            rw [Go.WideShapes.add_plain, Nat.zero_add]
            exact (own_get hownR h).1
          go_wp2_with (at_builtin; refine wpList_append_own_at _ rfl _ _ 72 rfl X.heap.size 166 i0 (.agg #[.int .i64 0, .int .i64 0, .int .i64 0]) 3 24 Tryz.underlying72 hi0 hz0 hz1 hz2 rfl (by decide) _ _ _ rfl hownZ ⟨gr, 0, none⟩ (rowSp k (chgL M N)).length capr (spV (rowSp k (chgL M N))) rfl (spV_len _) hnewsR (spV_one _) (by unfold maxLen; omega) (by omega) hbZ.size ?_; intro v' w5 hown' hgrow _ _)
          have hB5 : Below X.heap.size wZ w5 := (Below.refl X.heap.size wZ).grown hgrow hbZ.size (fun k e => (own_cells hownZ k e).1)
          have HOW : Hid (w5.ownsRow X.heap.size 166 3 v' (spansK A B (k + 1)).length (spV (spansK A B (k + 1)))) := Lib.hid (by rw [HNX.out, List.length_append, spV_app]; exact hown')
          refine hK _ _ (hSB.out _ _ hSZ hB5) ?_
          clear hK K
          refine' wpMix2_read (v := _) rfl ?_ ?_
          rotate_left 1
          (intro w' hw'; go_simp; try with_reducible rfl)
          try simp only [Act.put, List.setIfInBounds_toArray, List.set_cons_zero, List.set_cons_succ]
          refine wpMix2_nil ?_
          have hbF := hbZ.trans hB5
          clear hSB hSZ hS0 hownZ hownR hown' hgrow hnewsR hB5
          go_wp2
          go_roundw
          case rel => exact ⟨k + 1, hlt, by go_num, HOW.out, hbF⟩
          case measure => simp [intOf]; omega
      · obtain rfl : k = n2 := by omega
        have hend : Hid (spansK A B k = spansE A r1 k1 B r2 k2) := Lib.hid (by rw [HE.out, ← spansK_end HAB.out, HL1.out])
        have ho2 := own_base hown bX.size
        rw [hend.out] at ho2
        have HO2 := Lib.hid ho2
        have HLE : Hid (Value.slice av (spansK A B k).length cv = .slice av (spansE A r1 k1 B r2 k2).length cv) := Lib.hid (by rw [hend.out])
        have hbf := bto bX hb bX.size
        clear ho2 hown y1 y2 hcnt
        go_wp2
        go_ret2
        exact ⟨.slice av (spansK A B k).length cv, congrArg (fun x => Ending.returned (.tuple #[.slice av (spansK A B k).length cv, .int .i64 x])) HZ0.out.symm, by rw [HLE.out]; exact HO2.out, hbf⟩
end Go.Proofs.YtekodpcedjpnjaaGreat
