/- The program's region: Draw, Shown. No condition but that the strings are not too long for a cut. Printed by gen_rn6.py. -/
import Derived.Test.YtjkajojjehgmdaaGreatRE43
set_option linter.unusedVariables false
set_option linter.unusedSimpArgs false
namespace Go.Proofs.YtjkajojjehgmdaaGreat
open Go.RowKit Go.Shelf Go.Maps
set_option maxRecDepth 100000 in
theorem gdraw_bad {W : World} {b : Nat} {x : RSt} (z : RgI W b x) (h0 : x.ph ≠ 0) (hp : x.ph ≠ 2) (a : Option Addr) (n cap : Nat) (r c : Int) (s : Bool) : Calls Tryz.prog 10 #[.pointer (some ⟨b, 0, none⟩), .agg #[.slice a n cap, .int .i64 r, .int .i64 c, .bool s]] W fun e w' => e = .returned (.tuple #[.string ⟨#[]⟩, .int .i64 110]) ∧ Below W.heap.size W w' := by
 obtain ⟨av, cp, zB, hA, hc1, hc2⟩ := z
 obtain ⟨X, hX⟩ : ∃ X, W.alloc (.cells #[.slice a n cap, .int .i64 r, .int .i64 c, .bool s] 42) = X := ⟨_, rfl⟩
 have bX : Below W.heap.size W X := by rw [← hX]; exact (Below.refl _ _).alloc (Nat.le_refl _) _
 have zX := zB.below bX
 obtain ⟨c0, c1, c2, c3, c4, c5, c6, c7⟩ := zX.cells
 have CM := Lib.hid (gmade_any zX (by omega))
 have hpi : ¬ ((x.ph : Int) = 2) := by omega
 have HX := Lib.hid hX
 clear zB hA zX
 go_enter Tryz.func10, Tryz.ntmps10
 go_upto_region 1 with (fail)
 try rw [HX.out]
 go_wp2_with (go_at_call 31; refine CM.out.mono ?_; rintro e X ⟨rfl, rfl⟩)
 go_ret2
 exact ⟨rfl, bX⟩
def mayD (x : RSt) (B : List (List GC)) (r c : Int) : Bool := okF B r c && (decide (B.length = x.rows) && decide ((nth [] B 0).length = x.w))
set_option maxRecDepth 100000 in
set_option maxHeartbeats 16000000 in
theorem gdraw_frame {W : World} {b : Nat} {x : RSt} (z : RgI W b x) (k : OkR x) (hp : x.ph = 2) {a : Option Addr} {n cap : Nat} {B : List (List GC)} (hR : RowsAt W a n B) (hn : n ≤ maxLen) (hs : ∀ M ∈ B, ∀ c ∈ M, c.s.size ≤ 1100000) (r c : Int) (s : Bool) (hd : mayD x B r c = false) :
    Calls Tryz.prog 10 #[.pointer (some ⟨b, 0, none⟩), .agg #[.slice a n cap, .int .i64 r, .int .i64 c, .bool s]] W fun e w' => e = .returned (.tuple #[.string ⟨#[]⟩, .int .i64 90]) ∧ Below W.heap.size W w' := by
 obtain ⟨av, cp, zB, hA, hc1, hc2⟩ := z
 obtain ⟨h1, h2, h3⟩ := k.op hp
 obtain ⟨n1, n2, n3⟩ := k.rows
 obtain ⟨X, hX⟩ : ∃ X, W.alloc (.cells #[.slice a n cap, .int .i64 r, .int .i64 c, .bool s] 42) = X := ⟨_, rfl⟩
 have zf : FBI X W.heap.size (.slice a n cap) r c s := by rw [← hX]; exact World.alloc_heap_new W _
 have bX : Below W.heap.size W X := by rw [← hX]; exact (Below.refl _ _).alloc (Nat.le_refl _) _
 have hXs : W.heap.size < X.heap.size := zf.lt
 have zX := zB.below bX
 have hAX := hA.below bX
 have hRX := hR.below bX
 have hbW := zB.lt
 have HX := Lib.hid hX
 have CM := Lib.hid (gmade_any zX (by omega))
 have CK := fun (Y : World) (hY : Below X.heap.size X Y) => check_any (cap := cap) (hRX.below hY) hn hs r c s
 have CR := Lib.hid (fun (Y : World) (hY : Below X.heap.size X Y) => (by
  have := grows_any (zX.below hY)
  rw [n3] at this
  exact this : Calls Tryz.prog 38 #[.pointer (some ⟨b, 0, none⟩)] Y fun e w' => e = .returned (.int .i64 x.rows) ∧ Below Y.heap.size Y w'))
 have hpi : (x.ph : Int) = 2 := by omega
 have hRl := hRX.len
 have hrow : okF B r c = false ∨ (okF B r c = true ∧ ∃ b0 off a2 c2, a = some ⟨b0, off, none⟩ ∧ b0 < X.heap.size ∧ X.cell? ⟨b0, off, none⟩ = some (.slice a2 (nth [] B 0).length c2) ∧ 1 ≤ n) := by
  cases ho : okF B r c with
  | false => exact .inl rfl
  | true =>
   obtain ⟨p1, _⟩ := okF_pos ho
   have e0 : B[0]? = some (nth [] B 0) := by rw [nth_eq _ _ _ (by omega)]; exact List.getElem?_eq_getElem (by omega)
   obtain ⟨b0, off, a2, c2, q1, q2, q3, _⟩ := hRX.at_ 0 _ e0
   exact .inr ⟨rfl, b0, off, a2, c2, q1, q2, q3, by omega⟩
 have hd' : okF B r c = true → ¬ (n = x.rows) ∨ (n = x.rows ∧ ¬ ((nth [] B 0).length = x.w)) := fun ho => by
  unfold mayD at hd
  rw [ho, hRl] at hd
  by_cases hnr : n = x.rows
  ·refine .inr ⟨hnr, fun hw => ?_⟩
   rw [decide_eq_true hnr, decide_eq_true hw] at hd
   cases hd
  ·exact .inl hnr
 obtain ⟨m, hm⟩ : ∃ m, m = (nth [] B 0).length := ⟨_, rfl⟩
 obtain ⟨q, hq⟩ : ∃ q, q = x.rows := ⟨_, rfl⟩
 simp only [← hm, ← hq] at hrow hd' CR
 clear hm hq hd
 rcases hrow with ho | ⟨ho, b0, off, a2, c2, rfl, hbl, hrow, hn1⟩
 ·rw [ho] at CK
  simp only [errF, Bool.false_eq_true, if_false] at CK
  have CK := Lib.hid CK
  obtain ⟨b0, hb0⟩ : ∃ b0, b0 = W.heap.size := ⟨_, rfl⟩
  obtain ⟨off, hoff⟩ : ∃ o, o = 0 := ⟨0, rfl⟩
  have hbl : b0 < X.heap.size := by omega
  have hrow : X.cell? ⟨b0, off, none⟩ = some (.slice a n cap) := by rw [hb0, hoff]; exact zf.cells.1
  clear hb0 hoff
  obtain ⟨c0, c1, c2, c3, c4, c5, c6, c7⟩ := zX.cells
  rw [hpi] at c7
  go_enter Tryz.func10, Tryz.ntmps10
  go_upto_region 1 with (fail)
  try rw [HX.out]
  go_upto_region 5 with (go_at_call 31; refine CM.out.mono ?_; rintro e X ⟨rfl, rfl⟩)
  clear c0 c1 c2 c3 c4 c5 c6 c7
  ·skip
   refine wp_region_mix2 [(true, 0), (false, 1), (true, 2), (true, 3), (true, 4), (true, 5), (true, 6), (true, 7), (false, 8), (true, 9), (true, 10), (true, 11), (true, 12), (true, 13), (true, 14), (true, 15), (true, 16), (true, 17), (true, 18), (true, 19), (true, 20), (true, 21), (true, 22)] (fun Y => Below X.heap.size X Y) (by kernel_rfl) (by kernel_rfl) (by rfl) (by kernel_rfl) (by kernel_rfl) (fun _ _ d _ _ h => by cases d <;> exact h) ((Below.refl _ _).drew) ?_
   simp only [mixL, List.getElem?_cons_succ, List.getElem?_cons_zero]
   obtain ⟨q0, hq0⟩ : ∃ q, X.drew = q := ⟨_, rfl⟩
   have Bq0 : Below X.heap.size X q0 := by rw [← hq0]; exact (Below.refl _ _).drew
   rw [hq0]
   clear hq0
   iterate 1 (first | (refine wpMix2_skip rfl ?_; try simp only [Act.put, List.setIfInBounds_toArray, List.set_cons_zero, List.set_cons_succ]) | (refine' wpMix2_read (v := _) rfl ?_ ?_; rotate_left 1; (intro w' hw'; obtain ⟨c0, c1, c2, c3, c4, c5, c6, c7⟩ := (zX.below hw').cells; obtain ⟨g0, g1, g2, g3⟩ := (zf.below hw').cells; have gr := (hw'.cell (p := ⟨b0, off, none⟩) hbl).trans hrow; go_simp; try with_reducible rfl); try simp only [Act.put, List.setIfInBounds_toArray, List.set_cons_zero, List.set_cons_succ]))
   refine wpMix2_act (fun K hK => ?_)
   go_wp2_with fail
   refine (CK.out _ Bq0).mono ?_
   rintro e q1 ⟨rfl, hq1⟩
   have Bq1 : Below X.heap.size X q1 := bto Bq0 hq1 Bq0.size
   go_wp2
   refine hK _ _ Bq1 ?_
   clear hK K
   iterate 6 (first | (refine wpMix2_skip rfl ?_; try simp only [Act.put, List.setIfInBounds_toArray, List.set_cons_zero, List.set_cons_succ]) | (refine' wpMix2_read (v := _) rfl ?_ ?_; rotate_left 1; (intro w' hw'; obtain ⟨c0, c1, c2, c3, c4, c5, c6, c7⟩ := (zX.below hw').cells; obtain ⟨g0, g1, g2, g3⟩ := (zf.below hw').cells; have gr := (hw'.cell (p := ⟨b0, off, none⟩) hbl).trans hrow; go_simp; try with_reducible rfl); try simp only [Act.put, List.setIfInBounds_toArray, List.set_cons_zero, List.set_cons_succ]))
   refine wpMix2_act (fun K hK => ?_)
   go_wp2
   refine hK _ _ Bq1 ?_
   clear hK K
   have Bq2 := Bq1
   iterate 14 (first | (refine wpMix2_skip rfl ?_; try simp only [Act.put, List.setIfInBounds_toArray, List.set_cons_zero, List.set_cons_succ]) | (refine' wpMix2_read (v := _) rfl ?_ ?_; rotate_left 1; (intro w' hw'; obtain ⟨c0, c1, c2, c3, c4, c5, c6, c7⟩ := (zX.below hw').cells; obtain ⟨g0, g1, g2, g3⟩ := (zf.below hw').cells; have gr := (hw'.cell (p := ⟨b0, off, none⟩) hbl).trans hrow; go_simp; try with_reducible rfl); try simp only [Act.put, List.setIfInBounds_toArray, List.set_cons_zero, List.set_cons_succ]))
   refine wpMix2_nil ?_
   go_wp2
   go_ret2
   exact ⟨rfl, bto bX Bq2 bX.size⟩
 ·rw [ho] at CK
  simp only [errF, if_true] at CK
  have CK := Lib.hid CK
  rcases hd' ho with hne | ⟨he, hne⟩
  ·have hne' : ¬ ((n : Int) = (q : Int)) := by omega
   obtain ⟨c0, c1, c2, c3, c4, c5, c6, c7⟩ := zX.cells
   rw [hpi] at c7
   go_enter Tryz.func10, Tryz.ntmps10
   go_upto_region 1 with (fail)
   try rw [HX.out]
   go_upto_region 5 with (go_at_call 31; refine CM.out.mono ?_; rintro e X ⟨rfl, rfl⟩)
   clear c0 c1 c2 c3 c4 c5 c6 c7
   refine wp_region_mix2 [(true, 0), (false, 1), (true, 2), (true, 3), (true, 4), (true, 5), (true, 6), (true, 7), (false, 8), (true, 9), (true, 10), (true, 11), (true, 12), (true, 13), (true, 14), (true, 15), (true, 16), (true, 17), (true, 18), (true, 19), (true, 20), (true, 21), (true, 22)] (fun Y => Below X.heap.size X Y) (by kernel_rfl) (by kernel_rfl) (by rfl) (by kernel_rfl) (by kernel_rfl) (fun _ _ d _ _ h => by cases d <;> exact h) ((Below.refl _ _).drew) ?_
   simp only [mixL, List.getElem?_cons_succ, List.getElem?_cons_zero]
   obtain ⟨q0, hq0⟩ : ∃ q, X.drew = q := ⟨_, rfl⟩
   have Bq0 : Below X.heap.size X q0 := by rw [← hq0]; exact (Below.refl _ _).drew
   rw [hq0]
   clear hq0
   iterate 1 (first | (refine wpMix2_skip rfl ?_; try simp only [Act.put, List.setIfInBounds_toArray, List.set_cons_zero, List.set_cons_succ]) | (refine' wpMix2_read (v := _) rfl ?_ ?_; rotate_left 1; (intro w' hw'; obtain ⟨c0, c1, c2, c3, c4, c5, c6, c7⟩ := (zX.below hw').cells; obtain ⟨g0, g1, g2, g3⟩ := (zf.below hw').cells; have gr := (hw'.cell (p := ⟨b0, off, none⟩) hbl).trans hrow; go_simp; try with_reducible rfl); try simp only [Act.put, List.setIfInBounds_toArray, List.set_cons_zero, List.set_cons_succ]))
   refine wpMix2_act (fun K hK => ?_)
   go_wp2_with fail
   refine (CK.out _ Bq0).mono ?_
   rintro e q1 ⟨rfl, hq1⟩
   have Bq1 : Below X.heap.size X q1 := bto Bq0 hq1 Bq0.size
   go_wp2
   refine hK _ _ Bq1 ?_
   clear hK K
   iterate 6 (first | (refine wpMix2_skip rfl ?_; try simp only [Act.put, List.setIfInBounds_toArray, List.set_cons_zero, List.set_cons_succ]) | (refine' wpMix2_read (v := _) rfl ?_ ?_; rotate_left 1; (intro w' hw'; obtain ⟨c0, c1, c2, c3, c4, c5, c6, c7⟩ := (zX.below hw').cells; obtain ⟨g0, g1, g2, g3⟩ := (zf.below hw').cells; have gr := (hw'.cell (p := ⟨b0, off, none⟩) hbl).trans hrow; go_simp; try with_reducible rfl); try simp only [Act.put, List.setIfInBounds_toArray, List.set_cons_zero, List.set_cons_succ]))
   refine wpMix2_act (fun K hK => ?_)
   go_wp2_with fail
   refine (CR.out _ Bq1).mono ?_
   rintro e q2 ⟨rfl, hq2⟩
   have Bq2 : Below X.heap.size X q2 := bto Bq1 hq2 Bq1.size
   go_wp2
   refine hK _ _ Bq2 ?_
   clear hK K
   refine' wpMix2_read (v := (.bool true)) rfl ?_ ?_
   ·intro w' hw'; obtain ⟨c0, c1, c2, c3, c4, c5, c6, c7⟩ := (zX.below hw').cells; obtain ⟨g0, g1, g2, g3⟩ := (zf.below hw').cells; have gr := (hw'.cell (p := ⟨b0, off, none⟩) hbl).trans hrow; go_simp; first | done | (simp; omega) | (simpa using hne')
   try simp only [Act.put, List.setIfInBounds_toArray, List.set_cons_zero, List.set_cons_succ]
   iterate 13 (first | (refine wpMix2_skip rfl ?_; try simp only [Act.put, List.setIfInBounds_toArray, List.set_cons_zero, List.set_cons_succ]) | (refine' wpMix2_read (v := _) rfl ?_ ?_; rotate_left 1; (intro w' hw'; obtain ⟨c0, c1, c2, c3, c4, c5, c6, c7⟩ := (zX.below hw').cells; obtain ⟨g0, g1, g2, g3⟩ := (zf.below hw').cells; have gr := (hw'.cell (p := ⟨b0, off, none⟩) hbl).trans hrow; go_simp; try with_reducible rfl); try simp only [Act.put, List.setIfInBounds_toArray, List.set_cons_zero, List.set_cons_succ]))
   refine wpMix2_nil ?_
   go_wp2
   go_ret2
   exact ⟨rfl, bto bX Bq2 bX.size⟩
  ·have HE : Hid ((n : Int) = (q : Int)) := Lib.hid (by omega)
   clear he
   have hn0 : 0 < n := hn1
   have hne' : ¬ ((m : Int) = (x.w : Int)) := by omega
   obtain ⟨c0, c1, c2, c3, c4, c5, c6, c7⟩ := zX.cells
   rw [hpi] at c7
   go_enter Tryz.func10, Tryz.ntmps10
   go_upto_region 1 with (fail)
   try rw [HX.out]
   go_upto_region 5 with (go_at_call 31; refine CM.out.mono ?_; rintro e X ⟨rfl, rfl⟩)
   clear c0 c1 c2 c3 c4 c5 c6 c7
   refine wp_region_mix2 [(true, 0), (false, 1), (true, 2), (true, 3), (true, 4), (true, 5), (true, 6), (true, 7), (false, 8), (true, 9), (true, 10), (true, 11), (true, 12), (true, 13), (true, 14), (true, 15), (true, 16), (true, 17), (true, 18), (true, 19), (true, 20), (true, 21), (true, 22)] (fun Y => Below X.heap.size X Y) (by kernel_rfl) (by kernel_rfl) (by rfl) (by kernel_rfl) (by kernel_rfl) (fun _ _ d _ _ h => by cases d <;> exact h) ((Below.refl _ _).drew) ?_
   simp only [mixL, List.getElem?_cons_succ, List.getElem?_cons_zero]
   obtain ⟨q0, hq0⟩ : ∃ q, X.drew = q := ⟨_, rfl⟩
   have Bq0 : Below X.heap.size X q0 := by rw [← hq0]; exact (Below.refl _ _).drew
   rw [hq0]
   clear hq0
   iterate 1 (first | (refine wpMix2_skip rfl ?_; try simp only [Act.put, List.setIfInBounds_toArray, List.set_cons_zero, List.set_cons_succ]) | (refine' wpMix2_read (v := _) rfl ?_ ?_; rotate_left 1; (intro w' hw'; obtain ⟨c0, c1, c2, c3, c4, c5, c6, c7⟩ := (zX.below hw').cells; obtain ⟨g0, g1, g2, g3⟩ := (zf.below hw').cells; have gr := (hw'.cell (p := ⟨b0, off, none⟩) hbl).trans hrow; go_simp; try with_reducible rfl); try simp only [Act.put, List.setIfInBounds_toArray, List.set_cons_zero, List.set_cons_succ]))
   refine wpMix2_act (fun K hK => ?_)
   go_wp2_with fail
   refine (CK.out _ Bq0).mono ?_
   rintro e q1 ⟨rfl, hq1⟩
   have Bq1 : Below X.heap.size X q1 := bto Bq0 hq1 Bq0.size
   go_wp2
   refine hK _ _ Bq1 ?_
   clear hK K
   iterate 6 (first | (refine wpMix2_skip rfl ?_; try simp only [Act.put, List.setIfInBounds_toArray, List.set_cons_zero, List.set_cons_succ]) | (refine' wpMix2_read (v := _) rfl ?_ ?_; rotate_left 1; (intro w' hw'; obtain ⟨c0, c1, c2, c3, c4, c5, c6, c7⟩ := (zX.below hw').cells; obtain ⟨g0, g1, g2, g3⟩ := (zf.below hw').cells; have gr := (hw'.cell (p := ⟨b0, off, none⟩) hbl).trans hrow; go_simp; try with_reducible rfl); try simp only [Act.put, List.setIfInBounds_toArray, List.set_cons_zero, List.set_cons_succ]))
   refine wpMix2_act (fun K hK => ?_)
   go_wp2_with fail
   refine (CR.out _ Bq1).mono ?_
   rintro e q2 ⟨rfl, hq2⟩
   have Bq2 : Below X.heap.size X q2 := bto Bq1 hq2 Bq1.size
   go_wp2
   refine hK _ _ Bq2 ?_
   clear hK K
   refine' wpMix2_read (v := (.bool false)) rfl ?_ ?_
   ·intro w' hw'; obtain ⟨c0, c1, c2, c3, c4, c5, c6, c7⟩ := (zX.below hw').cells; obtain ⟨g0, g1, g2, g3⟩ := (zf.below hw').cells; have gr := (hw'.cell (p := ⟨b0, off, none⟩) hbl).trans hrow; go_simp; first | done | exact HE.out | (have := HE.out; omega) | (have := HE.out; simp; omega)
   try simp only [Act.put, List.setIfInBounds_toArray, List.set_cons_zero, List.set_cons_succ]
   iterate 11 (first | (refine wpMix2_skip rfl ?_; try simp only [Act.put, List.setIfInBounds_toArray, List.set_cons_zero, List.set_cons_succ]) | (refine' wpMix2_read (v := _) rfl ?_ ?_; rotate_left 1; (intro w' hw'; obtain ⟨c0, c1, c2, c3, c4, c5, c6, c7⟩ := (zX.below hw').cells; obtain ⟨g0, g1, g2, g3⟩ := (zf.below hw').cells; have gr := (hw'.cell (p := ⟨b0, off, none⟩) hbl).trans hrow; go_simp; try with_reducible rfl); try simp only [Act.put, List.setIfInBounds_toArray, List.set_cons_zero, List.set_cons_succ]))
   refine' wpMix2_read (v := (.bool true)) rfl ?_ ?_
   ·intro w' hw'; obtain ⟨c0, c1, c2, c3, c4, c5, c6, c7⟩ := (zX.below hw').cells; obtain ⟨g0, g1, g2, g3⟩ := (zf.below hw').cells; have gr := (hw'.cell (p := ⟨b0, off, none⟩) hbl).trans hrow; go_simp; first | done | (simp; omega)
   try simp only [Act.put, List.setIfInBounds_toArray, List.set_cons_zero, List.set_cons_succ]
   iterate 1 (first | (refine wpMix2_skip rfl ?_; try simp only [Act.put, List.setIfInBounds_toArray, List.set_cons_zero, List.set_cons_succ]) | (refine' wpMix2_read (v := _) rfl ?_ ?_; rotate_left 1; (intro w' hw'; obtain ⟨c0, c1, c2, c3, c4, c5, c6, c7⟩ := (zX.below hw').cells; obtain ⟨g0, g1, g2, g3⟩ := (zf.below hw').cells; have gr := (hw'.cell (p := ⟨b0, off, none⟩) hbl).trans hrow; go_simp; try with_reducible rfl); try simp only [Act.put, List.setIfInBounds_toArray, List.set_cons_zero, List.set_cons_succ]))
   refine wpMix2_nil ?_
   go_wp2
   go_ret2
   exact ⟨rfl, bto bX Bq2 bX.size⟩
end Go.Proofs.YtjkajojjehgmdaaGreat
