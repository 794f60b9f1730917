/- The law FrameChecks of any two frames. No condition but that the rows' texts are not too long. Printed by gen_fk5.py. -/
import Derived.Test.YtekodpcedjpnjaaFK4
import Derived.Test.YtekodpcedjpnjaaFK1
import Derived.Test.YtekodpcedjpnjaaFBulkL
namespace Go.Proofs.Ytekodpcedjpnjaa
set_option linter.unusedVariables false
set_option linter.unusedSimpArgs false
open Go.RowKit Go.Shelf Go.Maps
theorem frames2K (Y : World) (v1 v2 : Value) (r1 k1 r2 k2 : Int) (s1 s2 : Bool) (W : World) (hW : (Y.alloc (.cells #[v1, .int .i64 r1, .int .i64 k1, .bool s1] 51)).alloc (.cells #[v2, .int .i64 r2, .int .i64 k2, .bool s2] 51) = W) :
    FBI W Y.heap.size v1 r1 k1 s1 ∧ FBI W (Y.heap.size + 1) v2 r2 k2 s2 ∧ Below Y.heap.size Y W ∧ W.heap.size = Y.heap.size + 1 + 1 := by
  subst hW
  refine ⟨(show FBI (Y.alloc (.cells #[v1, .int .i64 r1, .int .i64 k1, .bool s1] 51)) Y.heap.size v1 r1 k1 s1 from World.alloc_heap_new Y _).below ((Below.refl _ _).alloc (Nat.le_refl _) _), ?_, ((Below.refl _ _).alloc (Nat.le_refl _) _).alloc (by simp) _, by simp⟩
  have : (Y.alloc (.cells #[v1, .int .i64 r1, .int .i64 k1, .bool s1] 51)).heap.size = Y.heap.size + 1 := by simp
  rw [← this]
  exact World.alloc_heap_new _ _
theorem own_baseK {W : World} {n₀ n' s n : Nat} {e : TypeId} {v : Value} {xs : List Value} (h : W.ownsRow n₀ e s v n xs) (hb : n' ≤ n₀) : W.ownsRow n' e s v n xs :=
  ⟨h.1, h.2.imp id (fun ⟨g, cap, cur, h1, h2, r⟩ => ⟨g, cap, cur, h1, Nat.le_trans hb h2, r⟩)⟩
theorem fewR_small {R : List (List GC)} (h : ∀ M ∈ R, (lineT M).length ≤ 1100000) : ∀ M ∈ fewR R, M.length ≤ 1000 ∧ (lineT M).length ≤ 1100000 := fun M hM => by
  unfold fewR at hM
  obtain ⟨N, hN, rfl⟩ := List.mem_map.1 hM
  have h1 := lineT_le N 510
  have h2 := h N (List.mem_of_mem_take hN)
  exact ⟨by rw [List.length_take]; omega, by omega⟩
set_option maxRecDepth 100000 in
set_option maxHeartbeats 16000000 in
theorem frameChecks_any {W : World} {a1 a2 : Option Addr} {n1 n2 c1 c2 : Nat} {A B : List (List GC)} (hA : RowsAt W a1 n1 A) (hB : RowsAt W a2 n2 B) (hn1 : n1 ≤ c1) (hn2 : n2 ≤ c2) (hc1 : c1 ≤ maxLen) (hc2 : c2 ≤ maxLen) (sA : ∀ M ∈ A, (lineT M).length ≤ 1100000) (sB : ∀ M ∈ B, (lineT M).length ≤ 1100000) (r1 k1 r2 k2 : Int) (s1 s2 : Bool) (most : Nat) (hmost : most ≤ 255) :
    Calls Try.prog 4 #[(.agg #[.slice a1 n1 c1, .int .i64 r1, .int .i64 k1, .bool s1]), (.agg #[.slice a2 n2 c2, .int .i64 r2, .int .i64 k2, .bool s2]), .int .u8 most] W fun e w' => e = .returned (.bool true) ∧ Below W.heap.size W w' := by
  have RA := Lib.hid hA
  have RB := Lib.hid hB
  have HFA := Lib.hid (fewR_small sA)
  have HFB := Lib.hid (fewR_small sB)
  clear hA hB sA sB
  go_enter Try.func4, Try.ntmps4
  go_upto_region 1 with (fail)
  obtain ⟨X, hX⟩ : ∃ X, (W.alloc (.cells #[.slice a1 n1 c1, .int .i64 r1, .int .i64 k1, .bool s1] 51)).alloc (.cells #[.slice a2 n2 c2, .int .i64 r2, .int .i64 k2, .bool s2] 51) = X := ⟨_, rfl⟩
  obtain ⟨z1, z2, bX, sX⟩ := frames2K W _ _ _ _ _ _ _ _ X hX
  rw [hX]
  clear hX
  have hz2 := z2.lt
  obtain ⟨la, hla⟩ : ∃ k, k = (fewR A).length := ⟨_, rfl⟩
  obtain ⟨lb, hlb⟩ : ∃ k, k = (fewR B).length := ⟨_, rfl⟩
  have hla2 : la ≤ 70 := by rw [hla, fewR_len]; omega
  have hlb2 : lb ≤ 70 := by rw [hlb, fewR_len]; omega
  have CF1 := Lib.hid (fun (Y : World) (hY : Below W.heap.size W Y) => few_any RA.out hY hn1 hc1 r1 k1 s1)
  have CF2 := Lib.hid (fun (Y : World) (hY : Below W.heap.size W Y) => few_any RB.out hY hn2 hc2 r2 k2 s2)
  unfold FewPost at CF1 CF2
  rw [← hla] at CF1
  rw [← hlb] at CF2
  have HLA := Lib.hid hla
  have HLB := Lib.hid hlb
  clear hla hlb
  go_cut [4] (fun v wx => v = .pointer (some ⟨W.heap.size + 1, 0, none⟩) ∧ ∃ av cv aw cw, FBI wx W.heap.size (.slice av la cv) r1 k1 s1 ∧ FBI wx (W.heap.size + 1) (.slice aw lb cw) r2 k2 s2 ∧ RowsAt wx av la (fewR A) ∧ RowsAt wx aw lb (fewR B) ∧ Below W.heap.size W wx)
  case first =>
    refine wp_region_tree (fun j y y' => j ∉ [4, 5] → ((fun Y => FBI Y W.heap.size (.slice a1 n1 c1) r1 k1 s1 ∧ FBI Y (W.heap.size + 1) (.slice a2 n2 c2) r2 k2 s2) y → (fun Y => FBI Y W.heap.size (.slice a1 n1 c1) r1 k1 s1 ∧ FBI Y (W.heap.size + 1) (.slice a2 n2 c2) r2 k2 s2) y')) (by kernel_rfl) ?_
    simp only [List.size_toArray, List.length_cons, List.length_nil, Nat.reduceAdd]
    obtain ⟨q, hq⟩ : ∃ q, X.drew = q := ⟨_, rfl⟩
    rw [hq]
    have hBq : Below X.heap.size X q := by rw [← hq]; exact (Below.refl _ _).drew
    have hWq := bto bX hBq bX.size
    clear hq
    have hSq : (fun Y => FBI Y W.heap.size (.slice a1 n1 c1) r1 k1 s1 ∧ FBI Y (W.heap.size + 1) (.slice a2 n2 c2) r2 k2 s2) q := ⟨z1.below hBq, z2.below hBq⟩
    have hS0 := hSq
    refine' wpAnyY_read 0 (fun Y => FBI Y W.heap.size (.slice a1 n1 c1) r1 k1 s1 ∧ FBI Y (W.heap.size + 1) (.slice a2 n2 c2) r2 k2 s2) [4, 5] (v := _) (by kernel_rfl) (fun _ _ d _ _ h => by cases d <;> exact h) (by kernel_rfl) rfl (fun j y y' hj h hs => h hj hs) (fun _ _ h => h) hS0 rfl ?_ ?_
    rotate_left 1
    · intro w' hw'; obtain ⟨g0, g1, g2, g3⟩ := hw'.1.cells; obtain ⟨e0, e1, e2, e3⟩ := hw'.2.cells; go_simp; try with_reducible rfl
    try simp only [Act.put, List.setIfInBounds_toArray, List.set_cons_zero, List.set_cons_succ]
    refine wpAnyY_two (i := 1) (j := 2) (by kernel_rfl) rfl rfl (fun K hK => ?_) (fun K hK => ?_)
    · skip
      simp only [List.getElem_toArray, List.getElem_cons_succ, List.getElem_cons_zero]
      go_wp2_with fail
      refine (CF1.out _ hWq).mono ?_
      rintro e q1 ⟨av, cv, vs, rfl, hO1, hV1, hb1⟩
      have hWq1 := bto hWq hb1 hWq.size
      have hSq1 : (fun Y => FBI Y W.heap.size (.slice a1 n1 c1) r1 k1 s1 ∧ FBI Y (W.heap.size + 1) (.slice a2 n2 c2) r2 k2 s2) q1 := ⟨hSq.1.below hb1, hSq.2.below hb1⟩
      go_wp2
      refine hK _ _ (fun _ _ => hSq1) ?_
      clear hK K
      refine wpAnyY_one (i := 2) (by kernel_rfl) rfl (fun K hK => ?_)
      simp only [List.getElem_toArray, List.getElem_cons_succ, List.getElem_cons_zero]
      obtain ⟨e0, e1, e2, e3⟩ := hSq1.2.cells
      go_wp2
      refine hK _ _ (fun _ h => h) ?_
      clear hK K e0 e1 e2 e3
      refine wpAnyY_one (i := 3) (by kernel_rfl) rfl (fun K hK => ?_)
      simp only [List.getElem_toArray, List.getElem_cons_succ, List.getElem_cons_zero]
      go_wp2_with fail
      refine (CF2.out _ hWq1).mono ?_
      rintro e q2 ⟨aw, cw, us, rfl, hO2, hV2, hb2⟩
      have hWq2 := bto hWq1 hb2 hWq1.size
      have hSq2 : (fun Y => FBI Y W.heap.size (.slice a1 n1 c1) r1 k1 s1 ∧ FBI Y (W.heap.size + 1) (.slice a2 n2 c2) r2 k2 s2) q2 := ⟨hSq1.1.below hb2, hSq1.2.below hb2⟩
      go_wp2
      refine hK _ _ (fun _ _ => hSq2) ?_
      clear hK K
      have hqX := hBq.size
      have hO1 : q2.ownsRow (q.heap.size + 1 + 1) 46 1 (.slice av la cv) la vs := own_belowF (own_baseK hO1 (Nat.le_refl _)) hb2
      have hO2 : q2.ownsRow (q.heap.size + 1 + 1) 46 1 (.slice aw lb cw) lb us := own_baseK hO2 (by have := hb1.size; omega)
      refine wpAnyY_one (i := 4) (by kernel_rfl) rfl (fun K hK => ?_)
      simp only [List.getElem_toArray, List.getElem_cons_succ, List.getElem_cons_zero]
      obtain ⟨u0, u1, u2, u3⟩ := hSq2.1.cells
      have f0 := hSq2.1.frozK 0
      have f1 := hSq2.1.frozK 1
      have f2 := hSq2.1.frozK 2
      have f3 := hSq2.1.frozK 3
      obtain ⟨q3, hY⟩ : ∃ Y, (((q2.setCell ⟨W.heap.size, 0, none⟩ (.slice av la cv)).setCell ⟨W.heap.size, 1, none⟩ (.int .i64 r1)).setCell ⟨W.heap.size, 2, none⟩ (.int .i64 k1)).setCell ⟨W.heap.size, 3, none⟩ (.bool s1) = Y := ⟨_, rfl⟩
      obtain ⟨zA, oA⟩ := hSq2.1.fillK (.slice av la cv) r1 k1 s1 q3 hY
      have yA := oA.heap hSq2.2 (by simp)
      have hO1 : q3.ownsRow (q.heap.size + 1 + 1) 46 1 (.slice av la cv) la vs := by rw [← hY]; exact own_set (off := 3) (own_set (off := 2) (own_set (off := 1) (own_set (off := 0) hO1 (by omega) _) (by omega) _) (by omega) _) (by omega) _
      have hO2 : q3.ownsRow (q.heap.size + 1 + 1) 46 1 (.slice aw lb cw) lb us := by rw [← hY]; exact own_set (off := 3) (own_set (off := 2) (own_set (off := 1) (own_set (off := 0) hO2 (by omega) _) (by omega) _) (by omega) _) (by omega) _
      have hWq3 : Below W.heap.size W q3 := hWq2.trans (oA.below (by simp) hWq2.size)
      have HY := Lib.hid hY
      clear hY
      go_wp2
      rw [HY.out]
      refine hK _ _ (fun hj => absurd (by simp) hj) ?_
      clear hK K HY u0 u1 u2 u3 f0 f1 f2 f3
      refine wpAnyY_one (i := 5) (by kernel_rfl) rfl (fun K hK => ?_)
      simp only [List.getElem_toArray, List.getElem_cons_succ, List.getElem_cons_zero]
      obtain ⟨u0, u1, u2, u3⟩ := (show FBI q3 (W.heap.size + 1) (.slice a2 n2 c2) r2 k2 s2 from yA).cells
      have f0 := (show FBI q3 (W.heap.size + 1) (.slice a2 n2 c2) r2 k2 s2 from yA).frozK 0
      have f1 := (show FBI q3 (W.heap.size + 1) (.slice a2 n2 c2) r2 k2 s2 from yA).frozK 1
      have f2 := (show FBI q3 (W.heap.size + 1) (.slice a2 n2 c2) r2 k2 s2 from yA).frozK 2
      have f3 := (show FBI q3 (W.heap.size + 1) (.slice a2 n2 c2) r2 k2 s2 from yA).frozK 3
      obtain ⟨q4, hY⟩ : ∃ Y, (((q3.setCell ⟨W.heap.size + 1, 0, none⟩ (.slice aw lb cw)).setCell ⟨W.heap.size + 1, 1, none⟩ (.int .i64 r2)).setCell ⟨W.heap.size + 1, 2, none⟩ (.int .i64 k2)).setCell ⟨W.heap.size + 1, 3, none⟩ (.bool s2) = Y := ⟨_, rfl⟩
      obtain ⟨zB, oB⟩ := (show FBI q3 (W.heap.size + 1) (.slice a2 n2 c2) r2 k2 s2 from yA).fillK (.slice aw lb cw) r2 k2 s2 q4 hY
      have yB := oB.heap zA (by simp)
      have hO1 : q4.ownsRow (q.heap.size + 1 + 1) 46 1 (.slice av la cv) la vs := by rw [← hY]; exact own_set (off := 3) (own_set (off := 2) (own_set (off := 1) (own_set (off := 0) hO1 (by omega) _) (by omega) _) (by omega) _) (by omega) _
      have hO2 : q4.ownsRow (q.heap.size + 1 + 1) 46 1 (.slice aw lb cw) lb us := by rw [← hY]; exact own_set (off := 3) (own_set (off := 2) (own_set (off := 1) (own_set (off := 0) hO2 (by omega) _) (by omega) _) (by omega) _) (by omega) _
      have hWq4 : Below W.heap.size W q4 := hWq3.trans (oB.below (by simp) hWq3.size)
      have HY := Lib.hid hY
      clear hY
      go_wp2
      rw [HY.out]
      refine hK _ _ (fun hj => absurd (by simp) hj) ?_
      clear hK K HY u0 u1 u2 u3 f0 f1 f2 f3
      refine wpAnyY_end (by kernel_rfl) ?_
      go_wp2
      go_meet
      exact ⟨rfl, av, cv, aw, cw, yB, zB, hV1.rows hWq4 hO1, hV2.rows hWq4 hO2, hWq4⟩
    · skip
      simp only [List.getElem_toArray, List.getElem_cons_succ, List.getElem_cons_zero]
      obtain ⟨e0, e1, e2, e3⟩ := hSq.2.cells
      go_wp2
      refine hK _ _ (fun _ h => h) ?_
      clear hK K e0 e1 e2 e3
      refine wpAnyY_one (i := 1) (by kernel_rfl) rfl (fun K hK => ?_)
      simp only [List.getElem_toArray, List.getElem_cons_succ, List.getElem_cons_zero]
      go_wp2_with fail
      refine (CF1.out _ hWq).mono ?_
      rintro e q1 ⟨av, cv, vs, rfl, hO1, hV1, hb1⟩
      have hWq1 := bto hWq hb1 hWq.size
      have hSq1 : (fun Y => FBI Y W.heap.size (.slice a1 n1 c1) r1 k1 s1 ∧ FBI Y (W.heap.size + 1) (.slice a2 n2 c2) r2 k2 s2) q1 := ⟨hSq.1.below hb1, hSq.2.below hb1⟩
      go_wp2
      refine hK _ _ (fun _ _ => hSq1) ?_
      clear hK K
      refine wpAnyY_one (i := 3) (by kernel_rfl) rfl (fun K hK => ?_)
      simp only [List.getElem_toArray, List.getElem_cons_succ, List.getElem_cons_zero]
      go_wp2_with fail
      refine (CF2.out _ hWq1).mono ?_
      rintro e q2 ⟨aw, cw, us, rfl, hO2, hV2, hb2⟩
      have hWq2 := bto hWq1 hb2 hWq1.size
      have hSq2 : (fun Y => FBI Y W.heap.size (.slice a1 n1 c1) r1 k1 s1 ∧ FBI Y (W.heap.size + 1) (.slice a2 n2 c2) r2 k2 s2) q2 := ⟨hSq1.1.below hb2, hSq1.2.below hb2⟩
      go_wp2
      refine hK _ _ (fun _ _ => hSq2) ?_
      clear hK K
      have hqX := hBq.size
      have hO1 : q2.ownsRow (q.heap.size + 1 + 1) 46 1 (.slice av la cv) la vs := own_belowF (own_baseK hO1 (Nat.le_refl _)) hb2
      have hO2 : q2.ownsRow (q.heap.size + 1 + 1) 46 1 (.slice aw lb cw) lb us := own_baseK hO2 (by have := hb1.size; omega)
      refine wpAnyY_one (i := 4) (by kernel_rfl) rfl (fun K hK => ?_)
      simp only [List.getElem_toArray, List.getElem_cons_succ, List.getElem_cons_zero]
      obtain ⟨u0, u1, u2, u3⟩ := hSq2.1.cells
      have f0 := hSq2.1.frozK 0
      have f1 := hSq2.1.frozK 1
      have f2 := hSq2.1.frozK 2
      have f3 := hSq2.1.frozK 3
      obtain ⟨q3, hY⟩ : ∃ Y, (((q2.setCell ⟨W.heap.size, 0, none⟩ (.slice av la cv)).setCell ⟨W.heap.size, 1, none⟩ (.int .i64 r1)).setCell ⟨W.heap.size, 2, none⟩ (.int .i64 k1)).setCell ⟨W.heap.size, 3, none⟩ (.bool s1) = Y := ⟨_, rfl⟩
      obtain ⟨zA, oA⟩ := hSq2.1.fillK (.slice av la cv) r1 k1 s1 q3 hY
      have yA := oA.heap hSq2.2 (by simp)
      have hO1 : q3.ownsRow (q.heap.size + 1 + 1) 46 1 (.slice av la cv) la vs := by rw [← hY]; exact own_set (off := 3) (own_set (off := 2) (own_set (off := 1) (own_set (off := 0) hO1 (by omega) _) (by omega) _) (by omega) _) (by omega) _
      have hO2 : q3.ownsRow (q.heap.size + 1 + 1) 46 1 (.slice aw lb cw) lb us := by rw [← hY]; exact own_set (off := 3) (own_set (off := 2) (own_set (off := 1) (own_set (off := 0) hO2 (by omega) _) (by omega) _) (by omega) _) (by omega) _
      have hWq3 : Below W.heap.size W q3 := hWq2.trans (oA.below (by simp) hWq2.size)
      have HY := Lib.hid hY
      clear hY
      go_wp2
      rw [HY.out]
      refine hK _ _ (fun hj => absurd (by simp) hj) ?_
      clear hK K HY u0 u1 u2 u3 f0 f1 f2 f3
      refine wpAnyY_one (i := 5) (by kernel_rfl) rfl (fun K hK => ?_)
      simp only [List.getElem_toArray, List.getElem_cons_succ, List.getElem_cons_zero]
      obtain ⟨u0, u1, u2, u3⟩ := (show FBI q3 (W.heap.size + 1) (.slice a2 n2 c2) r2 k2 s2 from yA).cells
      have f0 := (show FBI q3 (W.heap.size + 1) (.slice a2 n2 c2) r2 k2 s2 from yA).frozK 0
      have f1 := (show FBI q3 (W.heap.size + 1) (.slice a2 n2 c2) r2 k2 s2 from yA).frozK 1
      have f2 := (show FBI q3 (W.heap.size + 1) (.slice a2 n2 c2) r2 k2 s2 from yA).frozK 2
      have f3 := (show FBI q3 (W.heap.size + 1) (.slice a2 n2 c2) r2 k2 s2 from yA).frozK 3
      obtain ⟨q4, hY⟩ : ∃ Y, (((q3.setCell ⟨W.heap.size + 1, 0, none⟩ (.slice aw lb cw)).setCell ⟨W.heap.size + 1, 1, none⟩ (.int .i64 r2)).setCell ⟨W.heap.size + 1, 2, none⟩ (.int .i64 k2)).setCell ⟨W.heap.size + 1, 3, none⟩ (.bool s2) = Y := ⟨_, rfl⟩
      obtain ⟨zB, oB⟩ := (show FBI q3 (W.heap.size + 1) (.slice a2 n2 c2) r2 k2 s2 from yA).fillK (.slice aw lb cw) r2 k2 s2 q4 hY
      have yB := oB.heap zA (by simp)
      have hO1 : q4.ownsRow (q.heap.size + 1 + 1) 46 1 (.slice av la cv) la vs := by rw [← hY]; exact own_set (off := 3) (own_set (off := 2) (own_set (off := 1) (own_set (off := 0) hO1 (by omega) _) (by omega) _) (by omega) _) (by omega) _
      have hO2 : q4.ownsRow (q.heap.size + 1 + 1) 46 1 (.slice aw lb cw) lb us := by rw [← hY]; exact own_set (off := 3) (own_set (off := 2) (own_set (off := 1) (own_set (off := 0) hO2 (by omega) _) (by omega) _) (by omega) _) (by omega) _
      have hWq4 : Below W.heap.size W q4 := hWq3.trans (oB.below (by simp) hWq3.size)
      have HY := Lib.hid hY
      clear hY
      go_wp2
      rw [HY.out]
      refine hK _ _ (fun hj => absurd (by simp) hj) ?_
      clear hK K HY u0 u1 u2 u3 f0 f1 f2 f3
      refine wpAnyY_end (by kernel_rfl) ?_
      go_wp2
      go_meet
      exact ⟨rfl, av, cv, aw, cw, yB, zB, hV1.rows hWq4 hO1, hV2.rows hWq4 hO2, hWq4⟩
  case rest =>
    obtain ⟨rfl, av, cv, aw, cw, zA, zB, hRA, hRB, hWc⟩ := hcut
    obtain ⟨w0, hw0⟩ : ∃ x, x = wc := ⟨_, rfl⟩
    subst hw0
    have hLl : (linesR (fewR A)).length = la := by unfold linesR; rw [List.length_map, HLA.out]
    have sA1 : ∀ M ∈ fewR A, M.length ≤ 1000 ∧ (lineT M).length ≤ 2000000 := fun M hM => ⟨(HFA.out M hM).1, Nat.le_trans (HFA.out M hM).2 (by omega)⟩
    have CT1 := texts_any (cap := cv) hRA (by omega) sA1 r1 k1 s1 most (by omega)
    have CT2 := fun (Y : World) (hY : Below w0.heap.size w0 Y) => texts_any (cap := cv) (hRA.below hY) (by omega) sA1 r1 k1 s1 100 (by omega)
    obtain ⟨L, hL⟩ : ∃ L, L = linesR (fewR A) := ⟨_, rfl⟩
    rw [← hL] at hLl
    simp only [← hL] at CT1 CT2
    have hL100 : L.take 100 = L := List.take_of_length_le (by omega)
    simp only [hL100] at CT2
    obtain ⟨m1, hm1⟩ : ∃ m, m = (L.take most).length := ⟨_, rfl⟩
    have hm2 : m1 = min most la := by rw [hm1, List.length_take, hLl]
    have CT1 := Lib.hid CT1
    have CT2 := Lib.hid CT2
    have HM2 := Lib.hid hm2
    have HM1 := Lib.hid hm1
    have HL := Lib.hid hL
    clear hm2 hm1
    have HRA := Lib.hid hRA
    have HRB := Lib.hid hRB
    obtain ⟨u0, u1, u2, u3⟩ := zA.cells
    obtain ⟨v0, v1, v2, v3⟩ := zB.cells
    clear hL hL100 sA1 hRA hRB
    go_upto_region 3 with (go_at_call 20; refine (CT1.out).mono ?_; rintro e w1 ⟨p1, rfl, ho1, hb1⟩)
    rw [← HM1.out] at ho1
    obtain ⟨x1, y1, rfl⟩ := own_sliceF ho1
    clear u0 u1 u2 u3 v0 v1 v2 v3
    obtain ⟨u0, u1, u2, u3⟩ := (zA.below hb1).cells
    go_upto_region 4 with (go_at_call 20; refine (CT2.out _ hb1).mono ?_; rintro e w2 ⟨p2, rfl, ho2, hb2⟩)
    rw [hLl] at ho2
    obtain ⟨x2, y2, rfl⟩ := own_sliceF ho2
    have b2 := bto hb1 hb2 hb1.size
    clear u0 u1 u2 u3
    obtain ⟨u0, u1, u2, u3⟩ := (zA.below b2).cells
    have hmi : min (la : Int) (most : Int) = (m1 : Int) := by have := HM2.out; omega
    have hne1 : ((la : Int) != (la : Int)) = false := by simp
    have hne2 : ((m1 : Int) != (m1 : Int)) = false := by simp
    go_upto_region 6 with (fail)
    have CLN := Lib.hid (fun (Y : World) (hY : Below w0.heap.size w0 Y) (j : Nat) (M : List GC) (a3 : Option Addr) (c3 : Nat) (h : (fewR A)[j]? = some M) (k : CellsAt Y a3 M.length M) => (by
      have h1 := HFA.out M (List.mem_of_getElem? h)
      exact rline_any (cap := c3) k (by omega) (Nat.le_trans h1.2 (by omega)) : Calls Try.prog 21 #[.slice a3 M.length c3] Y fun e w' => e = .returned (.string (S (lineT M))) ∧ Below Y.heap.size Y w'))
    have HO1 := Lib.hid ho1
    have HO2 := Lib.hid ho2
    have hm1la : m1 ≤ la := by have := HM2.out; omega
    clear u0 u1 u2 u3 ho1 ho2 hmi hne1 hne2 CT1 CT2 hLl
    go_wp2
    go_loopw [11] (fun iv wr => ∃ j : Nat, j ≤ la ∧ iv = .int .i64 j ∧ Below w2.heap.size w2 wr) (fun iv _ => la - (intOf iv).toNat)
    case atStart => exact ⟨0, Nat.zero_le _, rfl, Below.refl _ _⟩
    case round =>
      obtain ⟨j, hj, rfl, hbr⟩ := hrel
      by_cases hlt : j < la
      · obtain ⟨M, hM⟩ : ∃ M, M = nth [] (fewR A) j := ⟨_, rfl⟩
        have hla0 := HLA.out
        have hM' : (fewR A)[j]? = some M := by rw [hM, nth_eq _ _ _ (by omega)]; exact List.getElem?_eq_getElem (by omega)
        obtain ⟨b, off, a3, c3, rfl, hbl, hc0, _, hcell⟩ := HRA.out.at_ j M hM'
        have hLj : L[j]? = some (lineT M) := by rw [HL.out]; unfold linesR; rw [List.getElem?_map, hM']; rfl
        obtain ⟨T, hT⟩ : ∃ T, T = lineT M := ⟨_, rfl⟩
        rw [← hT] at hLj
        have hsv : (strV L)[j]? = some (.string (S T)) := by unfold strV; rw [List.getElem?_map, hLj]; rfl
        obtain ⟨g2, d2, hv2, _, _, _⟩ := own_neK HO2.out (by omega)
        simp only [Value.slice.injEq, true_and] at hv2
        obtain ⟨rfl, rfl⟩ := hv2
        have kc := (own_getK HO2.out hsv).1
        have hg2 : g2 < w2.heap.size := World.block_lt_of_cell? _ _ kc
        have br := bto b2 hbr b2.size
        obtain ⟨q, hq⟩ : ∃ q, wr.drew = q := ⟨_, rfl⟩
        have dB : Below wr.heap.size wr q := by rw [← hq]; exact (Below.refl _ _).drew
        have bq := bto br dB br.size
        have bq2 := bto hbr dB hbr.size
        have hbq : b < q.heap.size := Nat.lt_of_lt_of_le hbl bq.size
        have hg2q : g2 < q.heap.size := Nat.lt_of_lt_of_le hg2 bq2.size
        have zq := zA.below bq
        have rq := (bq.cell (p := ⟨b, off + j, none⟩) hbl).trans hc0
        have kq := (bq2.cell (p := ⟨g2, j, none⟩) hg2).trans kc
        have CLq := CLN.out q bq j M a3 c3 hM' (hcell.below bq)
        obtain ⟨m, hm⟩ : ∃ m, m = M.length := ⟨_, rfl⟩
        rw [← hm] at rq CLq
        rw [← hT] at CLq
        have CLq := Lib.hid CLq
        obtain ⟨u0, u1, u2, u3⟩ := (zA.below br).cells
        have hji : (j : Int) < (la : Int) := by omega
        by_cases hjm : j < m1
        · have hsv1 : (strV (L.take most))[j]? = some (.string (S T)) := by
            have h1 := HO1.out.1
            have h2 : (strV (L.take most)).length = m1 := by simpa using h1
            have h3 : (L.take most).length = m1 := by rw [← h2]; unfold strV; rw [List.length_map]
            have h4 : j < most := by rw [List.length_take] at h3; omega
            unfold strV
            rw [List.getElem?_map, List.getElem?_take, if_pos h4, hLj]
            rfl
          obtain ⟨g1, d1, hv1, _, _, _⟩ := own_neK HO1.out (by omega)
          simp only [Value.slice.injEq, true_and] at hv1
          obtain ⟨rfl, rfl⟩ := hv1
          have lc := (own_getK HO1.out hsv1).1
          have hg1 : g1 < w1.heap.size := World.block_lt_of_cell? _ _ lc
          have bq1 := bto hb2 bq2 hb2.size
          have hg1q : g1 < q.heap.size := Nat.lt_of_lt_of_le hg1 bq1.size
          have lq := (bq1.cell (p := ⟨g1, j, none⟩) hg1).trans lc
          have hS0 : (fun Y => FBI Y W.heap.size (.slice (some ⟨b, off, none⟩) la cv) r1 k1 s1 ∧ Y.cell? ⟨b, off + j, none⟩ = some (.slice a3 m c3) ∧ Y.cell? ⟨g2, j, none⟩ = some (.string (S T)) ∧ Y.cell? ⟨g1, j, none⟩ = some (.string (S T))) wr.drew := by rw [hq]; exact ⟨zq, rq, kq, lq⟩
          have HQ := Lib.hid hq
          have hjmi : (j : Int) < (m1 : Int) := by omega
          clear hq hM hM' hLj hsv hsv1 hT hm kc lc hc0 hcell hla0
          go_wp2_with fail
          refine wp_region_mix2 [(true, 0), (true, 1), (true, 2), (true, 3), (true, 4), (true, 5), (true, 6), (true, 7), (true, 8), (false, 9), (true, 10), (true, 11), (true, 12), (true, 13), (true, 14), (true, 15), (true, 16), (true, 17), (true, 18), (true, 19), (true, 20), (true, 21), (true, 22), (true, 23), (true, 24), (true, 25), (true, 26), (true, 27)] (fun Y => FBI Y W.heap.size (.slice (some ⟨b, off, none⟩) la cv) r1 k1 s1 ∧ Y.cell? ⟨b, off + j, none⟩ = some (.slice a3 m c3) ∧ Y.cell? ⟨g2, j, none⟩ = some (.string (S T)) ∧ Y.cell? ⟨g1, j, none⟩ = some (.string (S T))) (by kernel_rfl) (by kernel_rfl) (by rfl) (by kernel_rfl) (by kernel_rfl) (fun _ _ d _ _ h => by cases d <;> exact h) hS0 ?_
          simp only [mixL, List.getElem?_cons_succ, List.getElem?_cons_zero]
          rw [HQ.out]
          iterate 9 (refine' wpMix2_read (v := _) rfl ?_ ?_; rotate_left 1; (intro w' hw'; obtain ⟨h1, h2, h3, h4⟩ := hw'; obtain ⟨e0, e1, e2, e3⟩ := h1.cells; go_simp; try with_reducible rfl); try simp only [Act.put, List.setIfInBounds_toArray, List.set_cons_zero, List.set_cons_succ])
          refine wpMix2_act (fun K hK => ?_)
          go_wp2_with fail
          refine (CLq.out).mono ?_
          rintro e q5 ⟨rfl, hb5⟩
          have hS5 : (fun Y => FBI Y W.heap.size (.slice (some ⟨b, off, none⟩) la cv) r1 k1 s1 ∧ Y.cell? ⟨b, off + j, none⟩ = some (.slice a3 m c3) ∧ Y.cell? ⟨g2, j, none⟩ = some (.string (S T)) ∧ Y.cell? ⟨g1, j, none⟩ = some (.string (S T))) q5 := ⟨zq.below hb5, (hb5.cell (p := ⟨b, off + j, none⟩) hbq).trans rq, (hb5.cell (p := ⟨g2, j, none⟩) hg2q).trans kq, (hb5.cell (p := ⟨g1, j, none⟩) hg1q).trans lq⟩
          go_wp2
          refine hK _ _ hS5 ?_
          clear hK K
          iterate 5 (refine' wpMix2_read (v := _) rfl ?_ ?_; rotate_left 1; (intro w' hw'; obtain ⟨h1, h2, h3, h4⟩ := hw'; obtain ⟨e0, e1, e2, e3⟩ := h1.cells; go_simp; try with_reducible rfl); try simp only [Act.put, List.setIfInBounds_toArray, List.set_cons_zero, List.set_cons_succ])
          refine' wpMix2_read (v := .bool true) rfl ?_ ?_
          · intro w' hw'; go_simp; try (simp; omega)
          try simp only [Act.put, List.setIfInBounds_toArray, List.set_cons_zero, List.set_cons_succ]
          repeat (first
            | (refine wpMix2_skip rfl ?_; try simp only [Act.put, List.setIfInBounds_toArray, List.set_cons_zero, List.set_cons_succ])
            | (refine' wpMix2_read (v := _) rfl ?_ ?_; rotate_left 1; (intro w' hw'; obtain ⟨h1, h2, h3, h4⟩ := hw'; obtain ⟨e0, e1, e2, e3⟩ := h1.cells; go_simp; try with_reducible rfl); try simp only [Act.put, List.setIfInBounds_toArray, List.set_cons_zero, List.set_cons_succ]))
          refine wpMix2_nil ?_
          go_wp2
          go_roundw
          case rel => exact ⟨j + 1, hlt, by go_num, bto hbr (bto dB hb5 dB.size) hbr.size⟩
          case measure => simp [intOf]; omega
        · have hS0 : (fun Y => FBI Y W.heap.size (.slice (some ⟨b, off, none⟩) la cv) r1 k1 s1 ∧ Y.cell? ⟨b, off + j, none⟩ = some (.slice a3 m c3) ∧ Y.cell? ⟨g2, j, none⟩ = some (.string (S T))) wr.drew := by rw [hq]; exact ⟨zq, rq, kq⟩
          have HQ := Lib.hid hq
          have hjmi : (m1 : Int) ≤ (j : Int) := by omega
          clear hq hM hM' hLj hsv hT hm kc hc0 hcell hla0
          go_wp2_with fail
          refine wp_region_mix2 [(true, 0), (true, 1), (true, 2), (true, 3), (true, 4), (true, 5), (true, 6), (true, 7), (true, 8), (false, 9), (true, 10), (true, 11), (true, 12), (true, 13), (true, 14), (true, 15), (true, 16), (true, 17), (true, 18), (true, 19), (true, 20), (true, 21), (true, 22), (true, 23), (true, 24), (true, 25), (true, 26), (true, 27)] (fun Y => FBI Y W.heap.size (.slice (some ⟨b, off, none⟩) la cv) r1 k1 s1 ∧ Y.cell? ⟨b, off + j, none⟩ = some (.slice a3 m c3) ∧ Y.cell? ⟨g2, j, none⟩ = some (.string (S T))) (by kernel_rfl) (by kernel_rfl) (by rfl) (by kernel_rfl) (by kernel_rfl) (fun _ _ d _ _ h => by cases d <;> exact h) hS0 ?_
          simp only [mixL, List.getElem?_cons_succ, List.getElem?_cons_zero]
          rw [HQ.out]
          iterate 9 (refine' wpMix2_read (v := _) rfl ?_ ?_; rotate_left 1; (intro w' hw'; obtain ⟨h1, h2, h3⟩ := hw'; obtain ⟨e0, e1, e2, e3⟩ := h1.cells; go_simp; try with_reducible rfl); try simp only [Act.put, List.setIfInBounds_toArray, List.set_cons_zero, List.set_cons_succ])
          refine wpMix2_act (fun K hK => ?_)
          go_wp2_with fail
          refine (CLq.out).mono ?_
          rintro e q5 ⟨rfl, hb5⟩
          have hS5 : (fun Y => FBI Y W.heap.size (.slice (some ⟨b, off, none⟩) la cv) r1 k1 s1 ∧ Y.cell? ⟨b, off + j, none⟩ = some (.slice a3 m c3) ∧ Y.cell? ⟨g2, j, none⟩ = some (.string (S T))) q5 := ⟨zq.below hb5, (hb5.cell (p := ⟨b, off + j, none⟩) hbq).trans rq, (hb5.cell (p := ⟨g2, j, none⟩) hg2q).trans kq⟩
          go_wp2
          refine hK _ _ hS5 ?_
          clear hK K
          iterate 5 (refine' wpMix2_read (v := _) rfl ?_ ?_; rotate_left 1; (intro w' hw'; obtain ⟨h1, h2, h3⟩ := hw'; obtain ⟨e0, e1, e2, e3⟩ := h1.cells; go_simp; try with_reducible rfl); try simp only [Act.put, List.setIfInBounds_toArray, List.set_cons_zero, List.set_cons_succ])
          refine' wpMix2_read (v := .bool false) rfl ?_ ?_
          · intro w' hw'; go_simp; try (simp; omega)
          try simp only [Act.put, List.setIfInBounds_toArray, List.set_cons_zero, List.set_cons_succ]
          repeat (first
            | (refine wpMix2_skip rfl ?_; try simp only [Act.put, List.setIfInBounds_toArray, List.set_cons_zero, List.set_cons_succ])
            | (refine' wpMix2_read (v := _) rfl ?_ ?_; rotate_left 1; (intro w' hw'; obtain ⟨h1, h2, h3⟩ := hw'; obtain ⟨e0, e1, e2, e3⟩ := h1.cells; go_simp; try with_reducible rfl); try simp only [Act.put, List.setIfInBounds_toArray, List.set_cons_zero, List.set_cons_succ]))
          refine wpMix2_nil ?_
          go_wp2
          go_roundw
          case rel => exact ⟨j + 1, hlt, by go_num, bto hbr (bto dB hb5 dB.size) hbr.size⟩
          case measure => simp [intOf]; omega
      · obtain rfl : la = j := by omega
        have br := bto b2 hbr b2.size
        go_wp2_with fail
        have tA : ∀ M ∈ fewR A, ∀ c ∈ M, c.s.size ≤ 1100000 := fun M hM c hc => Nat.le_trans (lineT_mem hc) (HFA.out M hM).2
        have mA : ∀ M ∈ fewR A, M.length ≤ 1000000 := fun M hM => Nat.le_trans (HFA.out M hM).1 (by omega)
        have mB : ∀ M ∈ fewR B, M.length ≤ 1000000 := fun M hM => Nat.le_trans (HFB.out M hM).1 (by omega)
        have nA : la ≤ maxLen := by unfold maxLen; omega
        have CCk := fun (Y : World) (hY : Below w0.heap.size w0 Y) => check_any (cap := cv) (HRA.out.below hY) nA tA r1 k1 s1
        have CIs := fun (Y : World) (hY : Below w0.heap.size w0 Y) => ris_any (cap := cv) (HRA.out.below hY) nA tA r1 k1 s1
        have CF := fun (Y : World) (hY : Below w0.heap.size w0 Y) => fsame_any (c1 := cv) (c2 := cw) (HRA.out.below hY) (HRB.out.below hY) mA mB nA r1 r2 k1 k2 s1 s2
        have CR := fun (Y : World) (hY : Below w0.heap.size w0 Y) => rsame_any (c1 := cv) (c2 := cw) (HRA.out.below hY) (HRB.out.below hY) mA mB nA r1 r2 k1 k2 s1 s2
        have hself : (decide (la = la ∧ r1 = r1 ∧ k1 = k1 ∧ s1 = s1) && eqR (fewR A) (fewR A)) = true := by rw [eqR_self]; simp
        have CA := fun (Y : World) (hY : Below w0.heap.size w0 Y) => (by
          have := fsame_any (c1 := cv) (c2 := cv) (HRA.out.below hY) (HRA.out.below hY) mA mA nA r1 r1 k1 k1 s1 s1
          rw [hself] at this
          exact this : Calls Try.prog 24 #[.agg #[.slice av la cv, .int .i64 r1, .int .i64 k1, .bool s1], .agg #[.slice av la cv, .int .i64 r1, .int .i64 k1, .bool s1]] Y fun e w' => e = .returned (.bool true) ∧ Below Y.heap.size Y w')
        obtain ⟨zz, hzz⟩ : ∃ z, z = (decide (la = lb ∧ r1 = r2 ∧ k1 = k2 ∧ s1 = s2) && eqR (fewR A) (fewR B)) := ⟨_, rfl⟩
        simp only [← hzz] at CF CR
        obtain ⟨yy, hyy⟩ : ∃ z, z = okF (fewR A) r1 k1 := ⟨_, rfl⟩
        simp only [← hyy] at CCk CIs
        cases yy
        all_goals cases zz
        all_goals
          simp only [errF, Bool.false_eq_true, if_false, if_true] at CCk
          have CCk := Lib.hid CCk
          have CIs := Lib.hid CIs
          have CF := Lib.hid CF
          have CR := Lib.hid CR
          have CA := Lib.hid CA
          clear hself hzz hyy tA mA mB CLN
          have zA' := zA.below br
          have zB' := zB.below br
          go_cut [6] (fun v wx => v = .bool true ∧ Below wr.heap.size wr wx)
          case first =>
            have Bq0 : Below wr.heap.size wr wr.drew := (Below.refl _ _).drew
            refine wp_region_mix2 [(true, 0), (true, 3), (false, 1), (true, 2), (false, 4), (true, 5), (true, 6), (true, 7), (true, 8), (true, 10), (true, 11), (false, 9), (false, 12), (true, 13), (true, 14), (true, 15), (true, 16), (true, 17), (false, 18), (true, 19), (true, 20), (false, 21), (true, 22), (true, 23)] (fun Y => Below wr.heap.size wr Y) (by kernel_rfl) (by kernel_rfl) (by rfl) (by kernel_rfl) (by kernel_rfl) (fun _ _ d _ _ h => by cases d <;> exact h) Bq0 ?_
            simp only [mixL, List.getElem?_cons_succ, List.getElem?_cons_zero]
            obtain ⟨q0, hq0⟩ : ∃ q, wr.drew = q := ⟨_, rfl⟩
            rw [hq0] at Bq0 ⊢
            clear hq0
            refine' wpMix2_read (v := _) rfl ?_ ?_
            rotate_left 1
            · intro w' hw'; obtain ⟨g0, g1, g2, g3⟩ := (zA'.below hw').cells; obtain ⟨e0, e1, e2, e3⟩ := (zB'.below hw').cells; go_simp; try with_reducible rfl
            try simp only [Act.put, List.setIfInBounds_toArray, List.set_cons_zero, List.set_cons_succ]
            refine' wpMix2_read (v := _) rfl ?_ ?_
            rotate_left 1
            · intro w' hw'; obtain ⟨g0, g1, g2, g3⟩ := (zA'.below hw').cells; obtain ⟨e0, e1, e2, e3⟩ := (zB'.below hw').cells; go_simp; try with_reducible rfl
            try simp only [Act.put, List.setIfInBounds_toArray, List.set_cons_zero, List.set_cons_succ]
            refine wpMix2_act (fun K hK => ?_)
            go_wp2_with fail
            refine (CCk.out _ (bto br Bq0 br.size)).mono ?_
            rintro e q1 ⟨rfl, hbq1⟩
            have Bq1 : Below wr.heap.size wr q1 := bto Bq0 hbq1 Bq0.size
            go_wp2
            refine hK _ _ Bq1 ?_
            clear hK K
            refine' wpMix2_read (v := _) rfl ?_ ?_
            rotate_left 1
            · intro w' hw'; obtain ⟨g0, g1, g2, g3⟩ := (zA'.below hw').cells; obtain ⟨e0, e1, e2, e3⟩ := (zB'.below hw').cells; go_simp; try with_reducible rfl
            try simp only [Act.put, List.setIfInBounds_toArray, List.set_cons_zero, List.set_cons_succ]
            refine wpMix2_act (fun K hK => ?_)
            go_wp2_with fail
            refine (CIs.out _ (bto br Bq1 br.size)).mono ?_
            rintro e q2 ⟨rfl, hbq2⟩
            have Bq2 : Below wr.heap.size wr q2 := bto Bq1 hbq2 Bq1.size
            go_wp2
            refine hK _ _ Bq2 ?_
            clear hK K
            refine' wpMix2_read (v := _) rfl ?_ ?_
            rotate_left 1
            · intro w' hw'; obtain ⟨g0, g1, g2, g3⟩ := (zA'.below hw').cells; obtain ⟨e0, e1, e2, e3⟩ := (zB'.below hw').cells; go_simp; try with_reducible rfl
            try simp only [Act.put, List.setIfInBounds_toArray, List.set_cons_zero, List.set_cons_succ]
            refine' wpMix2_read (v := _) rfl ?_ ?_
            rotate_left 1
            · intro w' hw'; obtain ⟨g0, g1, g2, g3⟩ := (zA'.below hw').cells; obtain ⟨e0, e1, e2, e3⟩ := (zB'.below hw').cells; go_simp; try with_reducible rfl
            try simp only [Act.put, List.setIfInBounds_toArray, List.set_cons_zero, List.set_cons_succ]
            refine' wpMix2_read (v := _) rfl ?_ ?_
            rotate_left 1
            · intro w' hw'; obtain ⟨g0, g1, g2, g3⟩ := (zA'.below hw').cells; obtain ⟨e0, e1, e2, e3⟩ := (zB'.below hw').cells; go_simp; try with_reducible rfl
            try simp only [Act.put, List.setIfInBounds_toArray, List.set_cons_zero, List.set_cons_succ]
            refine' wpMix2_read (v := _) rfl ?_ ?_
            rotate_left 1
            · intro w' hw'; obtain ⟨g0, g1, g2, g3⟩ := (zA'.below hw').cells; obtain ⟨e0, e1, e2, e3⟩ := (zB'.below hw').cells; go_simp; try with_reducible rfl
            try simp only [Act.put, List.setIfInBounds_toArray, List.set_cons_zero, List.set_cons_succ]
            refine' wpMix2_read (v := _) rfl ?_ ?_
            rotate_left 1
            · intro w' hw'; obtain ⟨g0, g1, g2, g3⟩ := (zA'.below hw').cells; obtain ⟨e0, e1, e2, e3⟩ := (zB'.below hw').cells; go_simp; try with_reducible rfl
            try simp only [Act.put, List.setIfInBounds_toArray, List.set_cons_zero, List.set_cons_succ]
            refine' wpMix2_read (v := _) rfl ?_ ?_
            rotate_left 1
            · intro w' hw'; obtain ⟨g0, g1, g2, g3⟩ := (zA'.below hw').cells; obtain ⟨e0, e1, e2, e3⟩ := (zB'.below hw').cells; go_simp; try with_reducible rfl
            try simp only [Act.put, List.setIfInBounds_toArray, List.set_cons_zero, List.set_cons_succ]
            refine wpMix2_act (fun K hK => ?_)
            go_wp2_with fail
            refine (CF.out _ (bto br Bq2 br.size)).mono ?_
            rintro e q3 ⟨rfl, hbq3⟩
            have Bq3 : Below wr.heap.size wr q3 := bto Bq2 hbq3 Bq2.size
            go_wp2
            refine hK _ _ Bq3 ?_
            clear hK K
            refine wpMix2_act (fun K hK => ?_)
            go_wp2_with fail
            refine (CR.out _ (bto br Bq3 br.size)).mono ?_
            rintro e q4 ⟨rfl, hbq4⟩
            have Bq4 : Below wr.heap.size wr q4 := bto Bq3 hbq4 Bq3.size
            go_wp2
            refine hK _ _ Bq4 ?_
            clear hK K
            refine' wpMix2_read (v := _) rfl ?_ ?_
            rotate_left 1
            · intro w' hw'; obtain ⟨g0, g1, g2, g3⟩ := (zA'.below hw').cells; obtain ⟨e0, e1, e2, e3⟩ := (zB'.below hw').cells; go_simp; try with_reducible rfl
            try simp only [Act.put, List.setIfInBounds_toArray, List.set_cons_zero, List.set_cons_succ]
            refine' wpMix2_read (v := _) rfl ?_ ?_
            rotate_left 1
            · intro w' hw'; obtain ⟨g0, g1, g2, g3⟩ := (zA'.below hw').cells; obtain ⟨e0, e1, e2, e3⟩ := (zB'.below hw').cells; go_simp; try with_reducible rfl
            try simp only [Act.put, List.setIfInBounds_toArray, List.set_cons_zero, List.set_cons_succ]
            refine' wpMix2_read (v := _) rfl ?_ ?_
            rotate_left 1
            · intro w' hw'; obtain ⟨g0, g1, g2, g3⟩ := (zA'.below hw').cells; obtain ⟨e0, e1, e2, e3⟩ := (zB'.below hw').cells; go_simp; try with_reducible rfl
            try simp only [Act.put, List.setIfInBounds_toArray, List.set_cons_zero, List.set_cons_succ]
            refine' wpMix2_read (v := _) rfl ?_ ?_
            rotate_left 1
            · intro w' hw'; obtain ⟨g0, g1, g2, g3⟩ := (zA'.below hw').cells; obtain ⟨e0, e1, e2, e3⟩ := (zB'.below hw').cells; go_simp; try with_reducible rfl
            try simp only [Act.put, List.setIfInBounds_toArray, List.set_cons_zero, List.set_cons_succ]
            refine' wpMix2_read (v := _) rfl ?_ ?_
            rotate_left 1
            · intro w' hw'; obtain ⟨g0, g1, g2, g3⟩ := (zA'.below hw').cells; obtain ⟨e0, e1, e2, e3⟩ := (zB'.below hw').cells; go_simp; try with_reducible rfl
            try simp only [Act.put, List.setIfInBounds_toArray, List.set_cons_zero, List.set_cons_succ]
            refine wpMix2_act (fun K hK => ?_)
            go_wp2_with fail
            refine (CA.out _ (bto br Bq4 br.size)).mono ?_
            rintro e q5 ⟨rfl, hbq5⟩
            have Bq5 : Below wr.heap.size wr q5 := bto Bq4 hbq5 Bq4.size
            go_wp2
            refine hK _ _ Bq5 ?_
            clear hK K
            refine' wpMix2_read (v := _) rfl ?_ ?_
            rotate_left 1
            · intro w' hw'; obtain ⟨g0, g1, g2, g3⟩ := (zA'.below hw').cells; obtain ⟨e0, e1, e2, e3⟩ := (zB'.below hw').cells; go_simp; try with_reducible rfl
            try simp only [Act.put, List.setIfInBounds_toArray, List.set_cons_zero, List.set_cons_succ]
            refine' wpMix2_read (v := _) rfl ?_ ?_
            rotate_left 1
            · intro w' hw'; obtain ⟨g0, g1, g2, g3⟩ := (zA'.below hw').cells; obtain ⟨e0, e1, e2, e3⟩ := (zB'.below hw').cells; go_simp; try with_reducible rfl
            try simp only [Act.put, List.setIfInBounds_toArray, List.set_cons_zero, List.set_cons_succ]
            refine wpMix2_act (fun K hK => ?_)
            go_wp2_with fail
            refine (awake09_any _).mono ?_
            rintro e q6 ⟨rfl, hbq6⟩
            have Bq6 : Below wr.heap.size wr q6 := bto Bq5 hbq6 Bq5.size
            go_wp2
            refine hK _ _ Bq6 ?_
            clear hK K
            refine' wpMix2_read (v := _) rfl ?_ ?_
            rotate_left 1
            · intro w' hw'; obtain ⟨g0, g1, g2, g3⟩ := (zA'.below hw').cells; obtain ⟨e0, e1, e2, e3⟩ := (zB'.below hw').cells; go_simp; try with_reducible rfl
            try simp only [Act.put, List.setIfInBounds_toArray, List.set_cons_zero, List.set_cons_succ]
            refine' wpMix2_read (v := _) rfl ?_ ?_
            rotate_left 1
            · intro w' hw'; obtain ⟨g0, g1, g2, g3⟩ := (zA'.below hw').cells; obtain ⟨e0, e1, e2, e3⟩ := (zB'.below hw').cells; go_simp; try with_reducible rfl
            try simp only [Act.put, List.setIfInBounds_toArray, List.set_cons_zero, List.set_cons_succ]
            refine wpMix2_nil ?_
            go_wp2
            go_meet
            exact ⟨rfl, Bq6⟩
          case rest =>
            obtain ⟨rfl, hcb⟩ := hcut
            go_wp2
            go_ret
            exact ⟨rfl, bto hWc (bto br hcb br.size) hWc.size⟩
end Go.Proofs.Ytekodpcedjpnjaa
