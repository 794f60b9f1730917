/- The program's region: Draw, Shown. No condition but that the strings are not too long for a cut. Printed by gen_rn6.py. The program's region: Draw of a frame that may be drawn; Shown. No condition but that the strings are not too long for a cut. Printed by gen_rn7.py. -/
import Derived.Test.YtekodpcedjpnjaaGreatRC41
set_option linter.unusedVariables false
set_option linter.unusedSimpArgs false
namespace Go.Proofs.YtekodpcedjpnjaaGreat
open Go.RowKit Go.Shelf Go.Maps
set_option maxRecDepth 100000 in
theorem gdraw_bad {W : World} {b : Nat} {x : RSt} (z : RgI W b x) (h0 : x.ph ≠ 0) (hp : x.ph ≠ 2) (a : Option Addr) (n cap : Nat) (r c : Int) (s : Bool) : Calls Tryz.prog 62 #[.pointer (some ⟨b, 0, none⟩), .agg #[.slice a n cap, .int .i64 r, .int .i64 c, .bool s]] W fun e w' => e = .returned (.tuple #[.string ⟨#[]⟩, .int .i64 110]) ∧ Below W.heap.size W w' := by
  obtain ⟨av, cp, zB, hA, hc1, hc2⟩ := z
  obtain ⟨X, hX⟩ : ∃ X, W.alloc (.cells #[.slice a n cap, .int .i64 r, .int .i64 c, .bool s] 52) = X := ⟨_, rfl⟩
  have bX : Below W.heap.size W X := by rw [← hX]; exact (Below.refl _ _).alloc (Nat.le_refl _) _
  have zX := zB.below bX
  obtain ⟨c0, c1, c2, c3, c4, c5, c6, c7⟩ := zX.cells
  have CM := Lib.hid (gmade_any zX (by omega))
  have hpi : ¬ ((x.ph : Int) = 2) := by omega
  have HX := Lib.hid hX
  clear zB hA zX
  go_enter Tryz.func62, Tryz.ntmps62
  go_upto_region 1 with (fail)
  try rw [HX.out]
  go_wp2_with (go_at_call 128; refine CM.out.mono ?_; rintro e X ⟨rfl, rfl⟩)
  go_ret2
  exact ⟨rfl, bX⟩
def mayD (x : RSt) (B : List (List GC)) (r c : Int) : Bool := okF B r c && (decide (B.length = x.rows) && decide ((nth [] B 0).length = x.w))
set_option maxRecDepth 100000 in
set_option maxHeartbeats 16000000 in
theorem gdraw_frame {W : World} {b : Nat} {x : RSt} (z : RgI W b x) (k : OkR x) (hp : x.ph = 2) {a : Option Addr} {n cap : Nat} {B : List (List GC)} (hR : RowsAt W a n B) (hn : n ≤ maxLen) (hs : ∀ M ∈ B, ∀ c ∈ M, c.s.size ≤ 1100000) (r c : Int) (s : Bool) (hd : mayD x B r c = false) :
    Calls Tryz.prog 62 #[.pointer (some ⟨b, 0, none⟩), .agg #[.slice a n cap, .int .i64 r, .int .i64 c, .bool s]] W fun e w' => e = .returned (.tuple #[.string ⟨#[]⟩, .int .i64 90]) ∧ Below W.heap.size W w' := by
  obtain ⟨av, cp, zB, hA, hc1, hc2⟩ := z
  obtain ⟨h1, h2, h3⟩ := k.op hp
  obtain ⟨n1, n2, n3⟩ := k.rows
  obtain ⟨X, hX⟩ : ∃ X, W.alloc (.cells #[.slice a n cap, .int .i64 r, .int .i64 c, .bool s] 52) = X := ⟨_, rfl⟩
  have zf : FBI X W.heap.size (.slice a n cap) r c s := by rw [← hX]; exact World.alloc_heap_new W _
  have bX : Below W.heap.size W X := by rw [← hX]; exact (Below.refl _ _).alloc (Nat.le_refl _) _
  have hXs : W.heap.size < X.heap.size := zf.lt
  have zX := zB.below bX
  have hAX := hA.below bX
  have hRX := hR.below bX
  have hbW := zB.lt
  have HX := Lib.hid hX
  have CM := Lib.hid (gmade_any zX (by omega))
  have CK := fun (Y : World) (hY : Below X.heap.size X Y) => check_any (cap := cap) (hRX.below hY) hn hs r c s
  have CR := Lib.hid (fun (Y : World) (hY : Below X.heap.size X Y) => (by
    have := grows_any (zX.below hY)
    rw [n3] at this
    exact this : Calls Tryz.prog 133 #[.pointer (some ⟨b, 0, none⟩)] Y fun e w' => e = .returned (.int .i64 x.rows) ∧ Below Y.heap.size Y w'))
  have hpi : (x.ph : Int) = 2 := by omega
  have hRl := hRX.len
  have hrow : okF B r c = false ∨ (okF B r c = true ∧ ∃ b0 off a2 c2, a = some ⟨b0, off, none⟩ ∧ b0 < X.heap.size ∧ X.cell? ⟨b0, off, none⟩ = some (.slice a2 (nth [] B 0).length c2) ∧ 1 ≤ n) := by
    cases ho : okF B r c with
    | false => exact .inl rfl
    | true =>
      obtain ⟨p1, _⟩ := okF_pos ho
      have e0 : B[0]? = some (nth [] B 0) := by rw [nth_eq _ _ _ (by omega)]; exact List.getElem?_eq_getElem (by omega)
      obtain ⟨b0, off, a2, c2, q1, q2, q3, _⟩ := hRX.at_ 0 _ e0
      exact .inr ⟨rfl, b0, off, a2, c2, q1, q2, q3, by omega⟩
  have hd' : okF B r c = true → ¬ (n = x.rows) ∨ (n = x.rows ∧ ¬ ((nth [] B 0).length = x.w)) := fun ho => by
    unfold mayD at hd
    rw [ho, hRl] at hd
    by_cases hnr : n = x.rows
    · refine .inr ⟨hnr, fun hw => ?_⟩
      rw [decide_eq_true hnr, decide_eq_true hw] at hd
      cases hd
    · exact .inl hnr
  obtain ⟨m, hm⟩ : ∃ m, m = (nth [] B 0).length := ⟨_, rfl⟩
  obtain ⟨q, hq⟩ : ∃ q, q = x.rows := ⟨_, rfl⟩
  simp only [← hm, ← hq] at hrow hd' CR
  clear hm hq hd
  rcases hrow with ho | ⟨ho, b0, off, a2, c2, rfl, hbl, hrow, hn1⟩
  · rw [ho] at CK
    simp only [errF, Bool.false_eq_true, if_false] at CK
    have CK := Lib.hid CK
    obtain ⟨b0, hb0⟩ : ∃ b0, b0 = W.heap.size := ⟨_, rfl⟩
    obtain ⟨off, hoff⟩ : ∃ o, o = 0 := ⟨0, rfl⟩
    have hbl : b0 < X.heap.size := by omega
    have hrow : X.cell? ⟨b0, off, none⟩ = some (.slice a n cap) := by rw [hb0, hoff]; exact zf.cells.1
    clear hb0 hoff
    obtain ⟨c0, c1, c2, c3, c4, c5, c6, c7⟩ := zX.cells
    rw [hpi] at c7
    go_enter Tryz.func62, Tryz.ntmps62
    go_upto_region 1 with (fail)
    try rw [HX.out]
    go_upto_region 5 with (go_at_call 128; refine CM.out.mono ?_; rintro e X ⟨rfl, rfl⟩)
    clear c0 c1 c2 c3 c4 c5 c6 c7
    · skip
      refine wp_region_mix2 [(true, 0), (false, 1), (true, 2), (true, 3), (true, 4), (true, 5), (true, 6), (true, 7), (false, 8), (true, 9), (true, 10), (true, 11), (true, 12), (true, 13), (true, 14), (true, 15), (true, 16), (true, 17), (true, 18), (true, 19), (true, 20), (true, 21), (true, 22)] (fun Y => Below X.heap.size X Y) (by kernel_rfl) (by kernel_rfl) (by rfl) (by kernel_rfl) (by kernel_rfl) (fun _ _ d _ _ h => by cases d <;> exact h) ((Below.refl _ _).drew) ?_
      simp only [mixL, List.getElem?_cons_succ, List.getElem?_cons_zero]
      obtain ⟨q0, hq0⟩ : ∃ q, X.drew = q := ⟨_, rfl⟩
      have Bq0 : Below X.heap.size X q0 := by rw [← hq0]; exact (Below.refl _ _).drew
      rw [hq0]
      clear hq0
      iterate 1 (first | (refine wpMix2_skip rfl ?_; try simp only [Act.put, List.setIfInBounds_toArray, List.set_cons_zero, List.set_cons_succ]) | (refine' wpMix2_read (v := _) rfl ?_ ?_; rotate_left 1; (intro w' hw'; obtain ⟨c0, c1, c2, c3, c4, c5, c6, c7⟩ := (zX.below hw').cells; obtain ⟨g0, g1, g2, g3⟩ := (zf.below hw').cells; have gr := (hw'.cell (p := ⟨b0, off, none⟩) hbl).trans hrow; go_simp; try with_reducible rfl); try simp only [Act.put, List.setIfInBounds_toArray, List.set_cons_zero, List.set_cons_succ]))
      refine wpMix2_act (fun K hK => ?_)
      go_wp2_with fail
      refine (CK.out _ Bq0).mono ?_
      rintro e q1 ⟨rfl, hq1⟩
      have Bq1 : Below X.heap.size X q1 := bto Bq0 hq1 Bq0.size
      go_wp2
      refine hK _ _ Bq1 ?_
      clear hK K
      iterate 6 (first | (refine wpMix2_skip rfl ?_; try simp only [Act.put, List.setIfInBounds_toArray, List.set_cons_zero, List.set_cons_succ]) | (refine' wpMix2_read (v := _) rfl ?_ ?_; rotate_left 1; (intro w' hw'; obtain ⟨c0, c1, c2, c3, c4, c5, c6, c7⟩ := (zX.below hw').cells; obtain ⟨g0, g1, g2, g3⟩ := (zf.below hw').cells; have gr := (hw'.cell (p := ⟨b0, off, none⟩) hbl).trans hrow; go_simp; try with_reducible rfl); try simp only [Act.put, List.setIfInBounds_toArray, List.set_cons_zero, List.set_cons_succ]))
      refine wpMix2_act (fun K hK => ?_)
      go_wp2
      refine hK _ _ Bq1 ?_
      clear hK K
      have Bq2 := Bq1
      iterate 14 (first | (refine wpMix2_skip rfl ?_; try simp only [Act.put, List.setIfInBounds_toArray, List.set_cons_zero, List.set_cons_succ]) | (refine' wpMix2_read (v := _) rfl ?_ ?_; rotate_left 1; (intro w' hw'; obtain ⟨c0, c1, c2, c3, c4, c5, c6, c7⟩ := (zX.below hw').cells; obtain ⟨g0, g1, g2, g3⟩ := (zf.below hw').cells; have gr := (hw'.cell (p := ⟨b0, off, none⟩) hbl).trans hrow; go_simp; try with_reducible rfl); try simp only [Act.put, List.setIfInBounds_toArray, List.set_cons_zero, List.set_cons_succ]))
      refine wpMix2_nil ?_
      go_wp2
      go_ret2
      exact ⟨rfl, bto bX Bq2 bX.size⟩
  · rw [ho] at CK
    simp only [errF, if_true] at CK
    have CK := Lib.hid CK
    rcases hd' ho with hne | ⟨he, hne⟩
    · have hne' : ¬ ((n : Int) = (q : Int)) := by omega
      obtain ⟨c0, c1, c2, c3, c4, c5, c6, c7⟩ := zX.cells
      rw [hpi] at c7
      go_enter Tryz.func62, Tryz.ntmps62
      go_upto_region 1 with (fail)
      try rw [HX.out]
      go_upto_region 5 with (go_at_call 128; refine CM.out.mono ?_; rintro e X ⟨rfl, rfl⟩)
      clear c0 c1 c2 c3 c4 c5 c6 c7
      refine wp_region_mix2 [(true, 0), (false, 1), (true, 2), (true, 3), (true, 4), (true, 5), (true, 6), (true, 7), (false, 8), (true, 9), (true, 10), (true, 11), (true, 12), (true, 13), (true, 14), (true, 15), (true, 16), (true, 17), (true, 18), (true, 19), (true, 20), (true, 21), (true, 22)] (fun Y => Below X.heap.size X Y) (by kernel_rfl) (by kernel_rfl) (by rfl) (by kernel_rfl) (by kernel_rfl) (fun _ _ d _ _ h => by cases d <;> exact h) ((Below.refl _ _).drew) ?_
      simp only [mixL, List.getElem?_cons_succ, List.getElem?_cons_zero]
      obtain ⟨q0, hq0⟩ : ∃ q, X.drew = q := ⟨_, rfl⟩
      have Bq0 : Below X.heap.size X q0 := by rw [← hq0]; exact (Below.refl _ _).drew
      rw [hq0]
      clear hq0
      iterate 1 (first | (refine wpMix2_skip rfl ?_; try simp only [Act.put, List.setIfInBounds_toArray, List.set_cons_zero, List.set_cons_succ]) | (refine' wpMix2_read (v := _) rfl ?_ ?_; rotate_left 1; (intro w' hw'; obtain ⟨c0, c1, c2, c3, c4, c5, c6, c7⟩ := (zX.below hw').cells; obtain ⟨g0, g1, g2, g3⟩ := (zf.below hw').cells; have gr := (hw'.cell (p := ⟨b0, off, none⟩) hbl).trans hrow; go_simp; try with_reducible rfl); try simp only [Act.put, List.setIfInBounds_toArray, List.set_cons_zero, List.set_cons_succ]))
      refine wpMix2_act (fun K hK => ?_)
      go_wp2_with fail
      refine (CK.out _ Bq0).mono ?_
      rintro e q1 ⟨rfl, hq1⟩
      have Bq1 : Below X.heap.size X q1 := bto Bq0 hq1 Bq0.size
      go_wp2
      refine hK _ _ Bq1 ?_
      clear hK K
      iterate 6 (first | (refine wpMix2_skip rfl ?_; try simp only [Act.put, List.setIfInBounds_toArray, List.set_cons_zero, List.set_cons_succ]) | (refine' wpMix2_read (v := _) rfl ?_ ?_; rotate_left 1; (intro w' hw'; obtain ⟨c0, c1, c2, c3, c4, c5, c6, c7⟩ := (zX.below hw').cells; obtain ⟨g0, g1, g2, g3⟩ := (zf.below hw').cells; have gr := (hw'.cell (p := ⟨b0, off, none⟩) hbl).trans hrow; go_simp; try with_reducible rfl); try simp only [Act.put, List.setIfInBounds_toArray, List.set_cons_zero, List.set_cons_succ]))
      refine wpMix2_act (fun K hK => ?_)
      go_wp2_with fail
      refine (CR.out _ Bq1).mono ?_
      rintro e q2 ⟨rfl, hq2⟩
      have Bq2 : Below X.heap.size X q2 := bto Bq1 hq2 Bq1.size
      go_wp2
      refine hK _ _ Bq2 ?_
      clear hK K
      refine' wpMix2_read (v := (.bool true)) rfl ?_ ?_
      · intro w' hw'; obtain ⟨c0, c1, c2, c3, c4, c5, c6, c7⟩ := (zX.below hw').cells; obtain ⟨g0, g1, g2, g3⟩ := (zf.below hw').cells; have gr := (hw'.cell (p := ⟨b0, off, none⟩) hbl).trans hrow; go_simp; first | done | (simp; omega) | (simpa using hne')
      try simp only [Act.put, List.setIfInBounds_toArray, List.set_cons_zero, List.set_cons_succ]
      iterate 13 (first | (refine wpMix2_skip rfl ?_; try simp only [Act.put, List.setIfInBounds_toArray, List.set_cons_zero, List.set_cons_succ]) | (refine' wpMix2_read (v := _) rfl ?_ ?_; rotate_left 1; (intro w' hw'; obtain ⟨c0, c1, c2, c3, c4, c5, c6, c7⟩ := (zX.below hw').cells; obtain ⟨g0, g1, g2, g3⟩ := (zf.below hw').cells; have gr := (hw'.cell (p := ⟨b0, off, none⟩) hbl).trans hrow; go_simp; try with_reducible rfl); try simp only [Act.put, List.setIfInBounds_toArray, List.set_cons_zero, List.set_cons_succ]))
      refine wpMix2_nil ?_
      go_wp2
      go_ret2
      exact ⟨rfl, bto bX Bq2 bX.size⟩
    · have HE : Hid ((n : Int) = (q : Int)) := Lib.hid (by omega)
      clear he
      have hn0 : 0 < n := hn1
      have hne' : ¬ ((m : Int) = (x.w : Int)) := by omega
      obtain ⟨c0, c1, c2, c3, c4, c5, c6, c7⟩ := zX.cells
      rw [hpi] at c7
      go_enter Tryz.func62, Tryz.ntmps62
      go_upto_region 1 with (fail)
      try rw [HX.out]
      go_upto_region 5 with (go_at_call 128; refine CM.out.mono ?_; rintro e X ⟨rfl, rfl⟩)
      clear c0 c1 c2 c3 c4 c5 c6 c7
      refine wp_region_mix2 [(true, 0), (false, 1), (true, 2), (true, 3), (true, 4), (true, 5), (true, 6), (true, 7), (false, 8), (true, 9), (true, 10), (true, 11), (true, 12), (true, 13), (true, 14), (true, 15), (true, 16), (true, 17), (true, 18), (true, 19), (true, 20), (true, 21), (true, 22)] (fun Y => Below X.heap.size X Y) (by kernel_rfl) (by kernel_rfl) (by rfl) (by kernel_rfl) (by kernel_rfl) (fun _ _ d _ _ h => by cases d <;> exact h) ((Below.refl _ _).drew) ?_
      simp only [mixL, List.getElem?_cons_succ, List.getElem?_cons_zero]
      obtain ⟨q0, hq0⟩ : ∃ q, X.drew = q := ⟨_, rfl⟩
      have Bq0 : Below X.heap.size X q0 := by rw [← hq0]; exact (Below.refl _ _).drew
      rw [hq0]
      clear hq0
      iterate 1 (first | (refine wpMix2_skip rfl ?_; try simp only [Act.put, List.setIfInBounds_toArray, List.set_cons_zero, List.set_cons_succ]) | (refine' wpMix2_read (v := _) rfl ?_ ?_; rotate_left 1; (intro w' hw'; obtain ⟨c0, c1, c2, c3, c4, c5, c6, c7⟩ := (zX.below hw').cells; obtain ⟨g0, g1, g2, g3⟩ := (zf.below hw').cells; have gr := (hw'.cell (p := ⟨b0, off, none⟩) hbl).trans hrow; go_simp; try with_reducible rfl); try simp only [Act.put, List.setIfInBounds_toArray, List.set_cons_zero, List.set_cons_succ]))
      refine wpMix2_act (fun K hK => ?_)
      go_wp2_with fail
      refine (CK.out _ Bq0).mono ?_
      rintro e q1 ⟨rfl, hq1⟩
      have Bq1 : Below X.heap.size X q1 := bto Bq0 hq1 Bq0.size
      go_wp2
      refine hK _ _ Bq1 ?_
      clear hK K
      iterate 6 (first | (refine wpMix2_skip rfl ?_; try simp only [Act.put, List.setIfInBounds_toArray, List.set_cons_zero, List.set_cons_succ]) | (refine' wpMix2_read (v := _) rfl ?_ ?_; rotate_left 1; (intro w' hw'; obtain ⟨c0, c1, c2, c3, c4, c5, c6, c7⟩ := (zX.below hw').cells; obtain ⟨g0, g1, g2, g3⟩ := (zf.below hw').cells; have gr := (hw'.cell (p := ⟨b0, off, none⟩) hbl).trans hrow; go_simp; try with_reducible rfl); try simp only [Act.put, List.setIfInBounds_toArray, List.set_cons_zero, List.set_cons_succ]))
      refine wpMix2_act (fun K hK => ?_)
      go_wp2_with fail
      refine (CR.out _ Bq1).mono ?_
      rintro e q2 ⟨rfl, hq2⟩
      have Bq2 : Below X.heap.size X q2 := bto Bq1 hq2 Bq1.size
      go_wp2
      refine hK _ _ Bq2 ?_
      clear hK K
      refine' wpMix2_read (v := (.bool false)) rfl ?_ ?_
      · intro w' hw'; obtain ⟨c0, c1, c2, c3, c4, c5, c6, c7⟩ := (zX.below hw').cells; obtain ⟨g0, g1, g2, g3⟩ := (zf.below hw').cells; have gr := (hw'.cell (p := ⟨b0, off, none⟩) hbl).trans hrow; go_simp; first | done | exact HE.out | (have := HE.out; omega) | (have := HE.out; simp; omega)
      try simp only [Act.put, List.setIfInBounds_toArray, List.set_cons_zero, List.set_cons_succ]
      iterate 11 (first | (refine wpMix2_skip rfl ?_; try simp only [Act.put, List.setIfInBounds_toArray, List.set_cons_zero, List.set_cons_succ]) | (refine' wpMix2_read (v := _) rfl ?_ ?_; rotate_left 1; (intro w' hw'; obtain ⟨c0, c1, c2, c3, c4, c5, c6, c7⟩ := (zX.below hw').cells; obtain ⟨g0, g1, g2, g3⟩ := (zf.below hw').cells; have gr := (hw'.cell (p := ⟨b0, off, none⟩) hbl).trans hrow; go_simp; try with_reducible rfl); try simp only [Act.put, List.setIfInBounds_toArray, List.set_cons_zero, List.set_cons_succ]))
      refine' wpMix2_read (v := (.bool true)) rfl ?_ ?_
      · intro w' hw'; obtain ⟨c0, c1, c2, c3, c4, c5, c6, c7⟩ := (zX.below hw').cells; obtain ⟨g0, g1, g2, g3⟩ := (zf.below hw').cells; have gr := (hw'.cell (p := ⟨b0, off, none⟩) hbl).trans hrow; go_simp; first | done | (simp; omega)
      try simp only [Act.put, List.setIfInBounds_toArray, List.set_cons_zero, List.set_cons_succ]
      iterate 1 (first | (refine wpMix2_skip rfl ?_; try simp only [Act.put, List.setIfInBounds_toArray, List.set_cons_zero, List.set_cons_succ]) | (refine' wpMix2_read (v := _) rfl ?_ ?_; rotate_left 1; (intro w' hw'; obtain ⟨c0, c1, c2, c3, c4, c5, c6, c7⟩ := (zX.below hw').cells; obtain ⟨g0, g1, g2, g3⟩ := (zf.below hw').cells; have gr := (hw'.cell (p := ⟨b0, off, none⟩) hbl).trans hrow; go_simp; try with_reducible rfl); try simp only [Act.put, List.setIfInBounds_toArray, List.set_cons_zero, List.set_cons_succ]))
      refine wpMix2_nil ?_
      go_wp2
      go_ret2
      exact ⟨rfl, bto bX Bq2 bX.size⟩
end Go.Proofs.YtekodpcedjpnjaaGreat
namespace Go.Proofs.YtekodpcedjpnjaaGreat
open Go.RowKit Go.Shelf Go.Maps
def RgF (F : Nat → Prop) (W : World) (b : Nat) (x : RSt) : Prop := ∃ av cap, RgB W b (.slice av x.A.length cap) x.r x.c x.s x.w x.h x.want x.ph ∧ RowsF F W av x.A.length x.A ∧ x.A.length ≤ cap ∧ cap ≤ maxLen
theorem RgF.rgi {F : Nat → Prop} {W : World} {b : Nat} {x : RSt} (z : RgF F W b x) : RgI W b x := by
  obtain ⟨av, cap, h1, h2, h3⟩ := z
  exact ⟨av, cap, h1, h2.at, h3⟩
theorem mayD_pos {x : RSt} {B : List (List GC)} {r c : Int} (h : mayD x B r c = true) : okF B r c = true ∧ B.length = x.rows ∧ (nth [] B 0).length = x.w := by
  unfold mayD at h
  simp only [Bool.and_eq_true, decide_eq_true_eq] at h
  exact ⟨h.1, h.2.1, h.2.2⟩
def RSt.drawn (x : RSt) (B : List (List GC)) (r c : Int) (s : Bool) : RSt := { x with A := B, r := r, c := c, s := s }
theorem OkR.fit {x : RSt} (k : OkR x) (hp : x.ph = 2) {B : List (List GC)} {r c : Int} (h : mayD x B r c = true) : fitF x.A x.r x.c B r c = true := by
  obtain ⟨h1, h2, h3⟩ := k.op hp
  obtain ⟨d1, d2, d3⟩ := mayD_pos h
  unfold fitF
  rw [h1, d1, h2, d2, h3, d3]
  simp [RSt.rows]
theorem OkR.drawn {x : RSt} (k : OkR x) (hp : x.ph = 2) {B : List (List GC)} {r c : Int} (s : Bool) (h : mayD x B r c = true) : OkR (x.drawn B r c s) := by
  obtain ⟨d1, d2, d3⟩ := mayD_pos h
  exact { w := k.w, h := k.h, n := k.n, ph := k.ph, op := fun _ => ⟨d1, d2, d3⟩, cl := fun h => absurd hp h }
theorem whole_small {M : List GC} (h : wholeB M = true) : ∀ c ∈ M, c.s.size ≤ 64 :=
  whole_ind (P := fun M => ∀ c ∈ M, c.s.size ≤ 64) (fun c hc => by cases hc)
    (fun c t ho _ _ ih x hx => by
      rcases List.mem_cons.1 hx with rfl | hx
      · exact (okB_facts ho).2.2.2.2
      · exact ih x hx)
    (fun c t ho _ _ ih x hx => by
      rcases List.mem_cons.1 hx with rfl | hx
      · exact (okB_facts ho).2.2.2.2
      · rcases List.mem_cons.1 hx with rfl | hx
        · exact Nat.zero_le _
        · exact ih x hx) _ M (Nat.le_refl _) h
theorem ok_small {R : List (List GC)} {r c : Int} (h : okF R r c = true) : ∀ M ∈ R, ∀ c ∈ M, c.s.size ≤ 1100000 := fun M hM x hx => by
  obtain ⟨_, _, _, _, _, _, _, _, p9⟩ := okF_pos h
  exact Nat.le_trans (whole_small (p9 M hM).2 x hx) (by omega)
set_option maxRecDepth 100000 in
set_option maxHeartbeats 16000000 in
theorem gdraw_ok {W : World} {b : Nat} {x : RSt} (z : RgI W b x) (k : OkR x) (hp : x.ph = 2) {a : Option Addr} {n cap : Nat} {B : List (List GC)} (hR : RowsAt W a n B) (hn : n ≤ maxLen) (hs : ∀ M ∈ B, ∀ c ∈ M, c.s.size ≤ 1100000) (r c : Int) (s : Bool) (hd : mayD x B r c = true) :
    Calls Tryz.prog 62 #[.pointer (some ⟨b, 0, none⟩), .agg #[.slice a n cap, .int .i64 r, .int .i64 c, .bool s]] W fun e w' => e = .returned (.tuple #[.string (S (paintE x.A x.r x.c x.s B r c s false)), .int .i64 0]) ∧ Only [b] W w' ∧ RgF (fun g => W.heap.size ≤ g) w' b (x.drawn B r c s) := by
  obtain ⟨av, cp, zB, hA, hc1, hc2⟩ := z
  obtain ⟨h1, h2, h3⟩ := k.op hp
  obtain ⟨n1, n2, n3⟩ := k.rows
  obtain ⟨X, hX⟩ : ∃ X, W.alloc (.cells #[.slice a n cap, .int .i64 r, .int .i64 c, .bool s] 52) = X := ⟨_, rfl⟩
  have zf : FBI X W.heap.size (.slice a n cap) r c s := by rw [← hX]; exact World.alloc_heap_new W _
  have bX : Below W.heap.size W X := by rw [← hX]; exact (Below.refl _ _).alloc (Nat.le_refl _) _
  have hXs : W.heap.size < X.heap.size := zf.lt
  have zX := zB.below bX
  have hAX := hA.below bX
  have hRX := hR.below bX
  have hbW := zB.lt
  have HX := Lib.hid hX
  have CM := Lib.hid (gmade_any zX (by omega))
  have CK := fun (Y : World) (hY : Below X.heap.size X Y) => check_any (cap := cap) (hRX.below hY) hn hs r c s
  have CR := Lib.hid (fun (Y : World) (hY : Below X.heap.size X Y) => (by
    have := grows_any (zX.below hY)
    rw [n3] at this
    exact this : Calls Tryz.prog 133 #[.pointer (some ⟨b, 0, none⟩)] Y fun e w' => e = .returned (.int .i64 x.rows) ∧ Below Y.heap.size Y w'))
  have hpi : (x.ph : Int) = 2 := by omega
  have hRl := hRX.len
  obtain ⟨d1, d2, d3⟩ := mayD_pos hd
  have hfit := k.fit hp hd
  obtain ⟨p1, p2, p3, p4, p5, p6, p7, p8, p9⟩ := okF_pos d1
  have e0 : B[0]? = some (nth [] B 0) := by rw [nth_eq _ _ _ (by omega)]; exact List.getElem?_eq_getElem (by omega)
  obtain ⟨b0, off, a2, c2, rfl, hbl, hrow, _⟩ := hRX.at_ 0 _ e0
  rw [Nat.add_zero] at hrow
  have CD := fun (Y : World) (hY : Below X.heap.size X Y) => ddiff_any (c1 := cp) (c2 := cap) (hAX.below hY) (hRX.below hY) (by have := hc2; omega) hn (ok_small h1) hs x.r x.c r c x.s s
  rw [hfit, show errD true = 0 from rfl] at CD
  have CD := Lib.hid CD
  have CKp := Lib.hid (fun (Y : World) (hY : Below X.heap.size X Y) => gkept_any (cap := cap) (hRX.below hY) (by omega) (fun M hM => ⟨okF_ne d1 M hM, by rw [(p9 M hM).1]; omega⟩) r c s)
  obtain ⟨m, hm⟩ : ∃ m, m = (nth [] B 0).length := ⟨_, rfl⟩
  obtain ⟨q, hq⟩ : ∃ q, q = x.rows := ⟨_, rfl⟩
  simp only [← hm] at hrow
  simp only [← hq] at CR
  rw [d1] at CK
  simp only [errF, if_true] at CK
  have CK := Lib.hid CK
  have HE : Hid ((n : Int) = (q : Int)) := Lib.hid (by omega)
  have HW : Hid ((m : Int) = (x.w : Int)) := Lib.hid (by omega)
  have hn0 : 0 < n := by omega
  have HA := Lib.hid hA
  have HNE := Lib.hid (okF_ne d1)
  have HNA := Lib.hid (okF_ne h1)
  have HRL := Lib.hid hRl
  obtain ⟨str, hstr⟩ : ∃ t, t = paintE x.A x.r x.c x.s B r c s false := ⟨_, rfl⟩
  simp only [← hstr] at CD ⊢
  clear hstr hm hq hd hfit p1 p2 p3 p4 p5 p6 p7 p8 p9 e0 d1 d2 d3 h1 h2 h3 hRl hA hAX n1 n2 n3
  have zfX := zf
  obtain ⟨c0, c1, c2', c3, c4, c5, c6, c7⟩ := zX.cells
  rw [hpi] at c7
  go_enter Tryz.func62, Tryz.ntmps62
  go_upto_region 1 with (fail)
  try rw [HX.out]
  go_upto_region 5 with (go_at_call 128; refine CM.out.mono ?_; rintro e X ⟨rfl, rfl⟩)
  clear c0 c1 c2' c3 c4 c5 c6 c7
  · skip
    refine wp_region_mix2 [(true, 0), (false, 1), (true, 2), (true, 3), (true, 4), (true, 5), (true, 6), (true, 7), (false, 8), (true, 9), (true, 10), (true, 11), (true, 12), (true, 13), (true, 14), (true, 15), (true, 16), (true, 17), (true, 18), (true, 19), (true, 20), (true, 21), (true, 22)] (fun Y => Below X.heap.size X Y) (by kernel_rfl) (by kernel_rfl) (by rfl) (by kernel_rfl) (by kernel_rfl) (fun _ _ d _ _ h => by cases d <;> exact h) ((Below.refl _ _).drew) ?_
    simp only [mixL, List.getElem?_cons_succ, List.getElem?_cons_zero]
    obtain ⟨q0, hq0⟩ : ∃ q, X.drew = q := ⟨_, rfl⟩
    have Bq0 : Below X.heap.size X q0 := by rw [← hq0]; exact (Below.refl _ _).drew
    rw [hq0]
    clear hq0
    iterate 1 (first | (refine wpMix2_skip rfl ?_; try simp only [Act.put, List.setIfInBounds_toArray, List.set_cons_zero, List.set_cons_succ]) | (refine' wpMix2_read (v := _) rfl ?_ ?_; rotate_left 1; (intro w' hw'; obtain ⟨c0, c1, c2, c3, c4, c5, c6, c7⟩ := (zX.below hw').cells; obtain ⟨g0, g1, g2, g3⟩ := (zf.below hw').cells; have gr := (hw'.cell (p := ⟨b0, off, none⟩) hbl).trans hrow; go_simp; try with_reducible rfl); try simp only [Act.put, List.setIfInBounds_toArray, List.set_cons_zero, List.set_cons_succ]))
    refine wpMix2_act (fun K hK => ?_)
    go_wp2_with fail
    refine (CK.out _ Bq0).mono ?_
    rintro e q1 ⟨rfl, hq1⟩
    have Bq1 : Below X.heap.size X q1 := bto Bq0 hq1 Bq0.size
    go_wp2
    refine hK _ _ Bq1 ?_
    clear hK K
    iterate 6 (first | (refine wpMix2_skip rfl ?_; try simp only [Act.put, List.setIfInBounds_toArray, List.set_cons_zero, List.set_cons_succ]) | (refine' wpMix2_read (v := _) rfl ?_ ?_; rotate_left 1; (intro w' hw'; obtain ⟨c0, c1, c2, c3, c4, c5, c6, c7⟩ := (zX.below hw').cells; obtain ⟨g0, g1, g2, g3⟩ := (zf.below hw').cells; have gr := (hw'.cell (p := ⟨b0, off, none⟩) hbl).trans hrow; go_simp; try with_reducible rfl); try simp only [Act.put, List.setIfInBounds_toArray, List.set_cons_zero, List.set_cons_succ]))
    refine wpMix2_act (fun K hK => ?_)
    go_wp2_with fail
    refine (CR.out _ Bq1).mono ?_
    rintro e q2 ⟨rfl, hq2⟩
    have Bq2 : Below X.heap.size X q2 := bto Bq1 hq2 Bq1.size
    go_wp2
    refine hK _ _ Bq2 ?_
    clear hK K
    refine' wpMix2_read (v := (.bool false)) rfl ?_ ?_
    · intro w' hw'; obtain ⟨c0, c1, c2, c3, c4, c5, c6, c7⟩ := (zX.below hw').cells; obtain ⟨g0, g1, g2, g3⟩ := (zf.below hw').cells; have gr := (hw'.cell (p := ⟨b0, off, none⟩) hbl).trans hrow; go_simp; first | done | exact HE.out | (have := HE.out; omega) | (have := HE.out; simp; omega)
    try simp only [Act.put, List.setIfInBounds_toArray, List.set_cons_zero, List.set_cons_succ]
    iterate 11 (first | (refine wpMix2_skip rfl ?_; try simp only [Act.put, List.setIfInBounds_toArray, List.set_cons_zero, List.set_cons_succ]) | (refine' wpMix2_read (v := _) rfl ?_ ?_; rotate_left 1; (intro w' hw'; obtain ⟨c0, c1, c2, c3, c4, c5, c6, c7⟩ := (zX.below hw').cells; obtain ⟨g0, g1, g2, g3⟩ := (zf.below hw').cells; have gr := (hw'.cell (p := ⟨b0, off, none⟩) hbl).trans hrow; go_simp; try with_reducible rfl); try simp only [Act.put, List.setIfInBounds_toArray, List.set_cons_zero, List.set_cons_succ]))
    refine' wpMix2_read (v := (.bool false)) rfl ?_ ?_
    · intro w' hw'; obtain ⟨c0, c1, c2, c3, c4, c5, c6, c7⟩ := (zX.below hw').cells; obtain ⟨g0, g1, g2, g3⟩ := (zf.below hw').cells; have gr := (hw'.cell (p := ⟨b0, off, none⟩) hbl).trans hrow; go_simp; first | done | exact HW.out | (have := HW.out; omega) | (have := HW.out; simp; omega)
    try simp only [Act.put, List.setIfInBounds_toArray, List.set_cons_zero, List.set_cons_succ]
    iterate 1 (first | (refine wpMix2_skip rfl ?_; try simp only [Act.put, List.setIfInBounds_toArray, List.set_cons_zero, List.set_cons_succ]) | (refine' wpMix2_read (v := _) rfl ?_ ?_; rotate_left 1; (intro w' hw'; obtain ⟨c0, c1, c2, c3, c4, c5, c6, c7⟩ := (zX.below hw').cells; obtain ⟨g0, g1, g2, g3⟩ := (zf.below hw').cells; have gr := (hw'.cell (p := ⟨b0, off, none⟩) hbl).trans hrow; go_simp; try with_reducible rfl); try simp only [Act.put, List.setIfInBounds_toArray, List.set_cons_zero, List.set_cons_succ]))
    refine wpMix2_nil ?_
    go_wp2_with fail
    have zY := zX.below Bq2
    have zg := zf.below Bq2
    have CD2 := Lib.hid (fun (Y : World) (hY : Below q2.heap.size q2 Y) => CD.out Y (bto Bq2 hY Bq2.size))
    have CD := CD2
    refine wp_region_mix2 [(true, 0), (true, 1), (true, 2), (true, 3), (true, 4), (true, 5), (false, 6), (true, 7), (true, 8), (true, 9), (true, 10), (true, 11)] (fun Y => Below q2.heap.size q2 Y) (by kernel_rfl) (by kernel_rfl) (by rfl) (by kernel_rfl) (by kernel_rfl) (fun _ _ d _ _ h => by cases d <;> exact h) ((Below.refl _ _).drew) ?_
    simp only [mixL, List.getElem?_cons_succ, List.getElem?_cons_zero]
    obtain ⟨y0, hy0⟩ : ∃ q, q2.drew = q := ⟨_, rfl⟩
    have By0 : Below q2.heap.size q2 y0 := by rw [← hy0]; exact (Below.refl _ _).drew
    rw [hy0]
    clear hy0
    iterate 6 (refine' wpMix2_read (v := _) rfl ?_ ?_; rotate_left 1; (intro w' hw'; obtain ⟨c0, c1, c2, c3, c4, c5, c6, c7⟩ := (zY.below hw').cells; obtain ⟨g0, g1, g2, g3⟩ := (zg.below hw').cells; go_simp; try with_reducible rfl); try simp only [Act.put, List.setIfInBounds_toArray, List.set_cons_zero, List.set_cons_succ])
    refine wpMix2_act (fun K hK => ?_)
    go_wp2_with fail
    refine (CD.out _ By0).mono ?_
    rintro e y1 ⟨rfl, hy1⟩
    have By1 : Below q2.heap.size q2 y1 := bto By0 hy1 By0.size
    go_wp2
    refine hK _ _ By1 ?_
    clear hK K
    iterate 5 (refine' wpMix2_read (v := _) rfl ?_ ?_; rotate_left 1; (intro w' hw'; obtain ⟨c0, c1, c2, c3, c4, c5, c6, c7⟩ := (zY.below hw').cells; obtain ⟨g0, g1, g2, g3⟩ := (zg.below hw').cells; go_simp; try with_reducible rfl); try simp only [Act.put, List.setIfInBounds_toArray, List.set_cons_zero, List.set_cons_succ])
    refine wpMix2_nil ?_
    have By := bto Bq2 By1 Bq2.size
    have CK2 := Lib.hid (CKp.out _ By)
    have zg1 := zf.below By
    obtain ⟨g0, g1, g2, g3⟩ := zg1.cells
    go_wp2_with (go_at_call 134; refine CK2.out.mono ?_; rintro e w3 ⟨a5, c5, rfl, hR5, hc5, hb5⟩; have B3 := bto By hb5 By.size; have z3 := zX.below B3; obtain ⟨c0, c1, c2', c3, c4, c5', c6, c7⟩ := z3.cells; have f0 := z3.froz 0; have f1 := z3.froz 1; have f2 := z3.froz 2; have f3 := z3.froz 3)
    go_ret2
    obtain ⟨zW, oW⟩ := z3.fill (.slice a5 B.length c5) r c s _ rfl
    have bW3 := bto bX B3 bX.size
    refine ⟨rfl, (Only.of_below bW3).trans oW, a5, c5, zW, ?_, hc5⟩
    have hBs := By.size
    have h6 := hR5.keep (Y := (((w3.setCell ⟨b, 0, none⟩ (.slice a5 B.length c5)).setCell ⟨b, 1, none⟩ (.int .i64 r)).setCell ⟨b, 2, none⟩ (.int .i64 c)).setCell ⟨b, 3, none⟩ (.bool s)) oW.size (fun g hg hlt => oW.block g hlt (by simp; omega))
    exact h6.mono (fun g hg _ => by omega)
end Go.Proofs.YtekodpcedjpnjaaGreat
