/- The law's example holds. No condition. -/
import Derived.Test.YtekodpcedjpnjaaGreatBs47
set_option linter.unusedVariables false
set_option linter.unusedSimpArgs false
namespace Go.Proofs.YtekodpcedjpnjaaGreat
open Go.RowKit Go.Shelf Go.Maps
theorem bytes_conv2 (w : World) (l : List UInt8) (hl : l.length ≤ maxLen) : ∃ cap W1, (convert 9 61 (.string (S l))).run Tryz.prog w = .ok (.slice (some ⟨w.heap.size, 0, none⟩) l.length cap) W1 ∧ Below w.heap.size w W1 ∧ HA W1 (.slice (some ⟨w.heap.size, 0, none⟩) l.length cap) l := by
  obtain ⟨cap, W1, h1, h2, _, h3, h4, _⟩ := bytes_conv w l
  refine ⟨cap, W1, h1, h2, .inl (.inr ⟨w.heap.size, 0, l.length, cap, rfl, rfl, ⟨h4, ?_⟩, h3, trivial⟩)⟩
  have h := run_bytes_of_string (P := Tryz.prog) w 9 61 5 (S l) Tryz.underlying9 Tryz.underlying61 Tryz.underlying5
  rw [h1] at h
  injection h with h5
  injection h5 with _ _ h6
  rw [h6]
  exact grownCap_le_maxLen _ _ _ _ (by rw [S_size]; exact hl)
theorem cell_lt {W : World} {g o : Nat} {v : Value} (h : W.cell? ⟨g, o, none⟩ = some v) : g < W.heap.size := by
  refine Classical.byContradiction fun hn => ?_
  unfold World.cell? at h
  dsimp only at h
  rw [Array.getElem?_eq_none (by omega)] at h
  simp at h
def FrOne (R : List (List GC)) (W : World) (e : Ending) (w' : World) : Prop := ∃ a cap, e = .returned (.agg #[.slice a 1 cap, .int .i64 0, .int .i64 0, .bool true]) ∧ RowsAt w' a 1 R ∧ (1 ≤ cap ∧ cap ≤ maxLen) ∧ Below W.heap.size W w'
theorem row_abc (X : World) : Calls Tryz.prog 103 #[.string ⟨#[97, 98, 99]⟩] X (FrOne awA X) := by
  refine (row10_any (W := X) [97, 98, 99] (by decide)).mono ?_
  rintro e w' ⟨a, cap, he, h1, h2, h3⟩
  exact ⟨a, cap, he, h1, h2, h3⟩
theorem row_axc (X : World) : Calls Tryz.prog 103 #[.string ⟨#[97, 120, 99]⟩] X (FrOne awB X) := by
  refine (row10_any (W := X) [97, 120, 99] (by decide)).mono ?_
  rintro e w' ⟨a, cap, he, h1, h2, h3⟩
  exact ⟨a, cap, he, h1, h2, h3⟩
set_option maxRecDepth 100000 in
set_option maxHeartbeats 16000000 in
theorem awake10_any (W : World) : Calls Tryz.prog 31 #[] W fun e w' => e = .returned (.bool true) ∧ Below W.heap.size W w' := by
  have RA := Lib.hid row_abc
  have RB := Lib.hid row_axc
  go_enter Tryz.func31, Tryz.ntmps31
  go_wp2_with fail
  refine (RA.out _).mono ?_
  rintro e w1 ⟨a1, c1, rfl, hR1, hc1, hb1⟩
  go_wp2_with fail
  refine (RB.out _).mono ?_
  rintro e w2 ⟨a2, c2, rfl, hR2, hc2, hb2⟩
  have CS := pspans_any (c1 := c1) (c2 := c2) (hR1.below hb2) hR2 (by decide) (by decide) awA_small awB_small 0 0 0 0 true true
  rw [awAB_fit, awAB_sp, show errD true = 0 from rfl] at CS
  have CS := Lib.hid CS
  go_wp2_with fail
  refine (CS.out).mono ?_
  rintro e w3 ⟨v, rfl, hown, hb3⟩
  obtain ⟨g, cg, rfl, hg1, hg2, hg3⟩ := own_neS hown (by decide)
  have b3 := bto (bto hb1 hb2 hb1.size) hb3 (bto hb1 hb2 hb1.size).size
  have s0 := (own_get hown (j := 0) rfl).1
  have s1 := (own_get hown (j := 1) rfl).1
  have s2 := (own_get hown (j := 2) rfl).1
  have hgl := (own_block hown).2
  clear hR1 hR2 CS hown hb1 hb2 hb3
  go_wp2_with fail
  refine (RA.out _).mono ?_
  rintro e w4 ⟨a4, c4, rfl, hR4, hc4, hb4⟩
  have CW := dwhole_any (cap := c4) hR4 (by decide) awA_small 0 0 true
  rw [awA_ok, show errD true = 0 from rfl] at CW
  have CW := Lib.hid CW
  go_wp2_with fail
  refine (CW.out).mono ?_
  rintro e w5 ⟨rfl, hb5⟩
  have b5 := bto (bto b3 hb4 b3.size) hb5 (bto b3 hb4 b3.size).size
  clear CW hR4
  go_wp2_with fail
  refine (RA.out _).mono ?_
  rintro e w6 ⟨a6, c6, rfl, hR6, hc6, hb6⟩
  go_wp2_with fail
  refine (RB.out _).mono ?_
  rintro e w7 ⟨a7, c7, rfl, hR7, hc7, hb7⟩
  have CD := ddiff_any (c1 := c6) (c2 := c7) (hR6.below hb7) hR7 (by decide) (by decide) awA_small awB_small 0 0 0 0 true true
  rw [awAB_fit, show errD true = 0 from rfl] at CD
  have CD := Lib.hid CD
  go_wp2_with fail
  refine (CD.out).mono ?_
  rintro e w8 ⟨rfl, hb8⟩
  have b7 := bto (bto b5 hb6 b5.size) hb7 (bto b5 hb6 b5.size).size
  have b8 := bto b7 hb8 b7.size
  clear CD hR6 hR7
  obtain ⟨l1, hl1⟩ : ∃ l, l = wholeE awA 0 0 true := ⟨_, rfl⟩
  obtain ⟨l2, hl2⟩ : ∃ l, l = paintE awA 0 0 true awB 0 0 true false := ⟨_, rfl⟩
  rw [← hl1, ← hl2]
  have HL1 := Lib.hid hl1
  have HL2 := Lib.hid hl2
  clear hl1 hl2
  have CSC := Lib.hid (rscreen_any (F := fun _ => True) (W := w8) (fun _ _ => trivial) 3 1 (by omega) (by omega))
  go_wp2_with fail
  refine (CSC.out).mono ?_
  rintro e w9 ⟨a9, c9, bv9, rfl, g9, hv9, hb9⟩
  have b9 := bto b8 hb9 b8.size
  obtain ⟨es, hw9⟩ := shw_screen (w := 3) (n := 1) (by omega) (by omega)
  obtain ⟨u0, hu0⟩ : ∃ u, u = runT (TS.new 3 (1 + 2)) scrB := ⟨_, rfl⟩
  rw [← hu0] at es hw9 g9 hv9 ⊢
  rw [es] at hv9
  have hln1 : l1.length ≤ 360 := by rw [HL1.out]; exact awW_len
  have hln2 : 0 < l2.length ∧ l2.length ≤ 141 := by rw [HL2.out]; exact awD_len
  obtain ⟨k1, W1, hcv1, hcb1, hha1⟩ := bytes_conv2 w9 l1 (by unfold maxLen; omega)
  have CW1 := rwrite_any (F := fun _ => True) (fun _ _ => trivial) (l := []) (hv9.below hcb1) hha1 hw9.k (by simp; omega) (by rw [hw9.gone]; omega) (by rw [hw9.bells]; omega) (g9.below hcb1)
  rw [List.nil_append] at CW1
  have bW1 := bto b9 hcb1 b9.size
  have hwh := whole_shw (s := true) awA_ok
  rw [show (nth [] awA 0).length = 3 from rfl, show awA.length + 2 = 1 + 2 from rfl, show awA.length = 1 from rfl, ← hu0, ← HL1.out] at hwh
  obtain ⟨y1, hy1⟩ : ∃ y, y = runT u0.1 l1 := ⟨_, rfl⟩
  rw [← hy1] at CW1 hwh
  have CW1 := Lib.hid CW1
  clear hu0 hy1
  go_wp2_with fail
  refine (CW1.out).mono ?_
  rintro e w10 ⟨a10, c10, bv10, rfl, g10, hv10, hb10⟩
  rw [hwh.1] at hv10
  have b10 := bto bW1 hb10 bW1.size
  have pn : TBx (w10.alloc (.cells zCells 63)) w10.heap.size zCells := TBx.new _ _
  have bz : Below w10.heap.size w10 (w10.alloc (.cells zCells 63)) := (Below.refl _ _).alloc (Nat.le_refl _) _
  go_upto_region 5 with (refine wpList_tstore rfl _ _ rfl w10.heap.size rfl (tCells a10 c10 y1.1 bv10) rfl zCells ?_ rfl rfl (tCells_one _ _ _ hv10.one) ?_; exact pn; intro w11 p11 o11)
  have b11' : Below w10.heap.size w10 w11 := bz.trans (o11.below (by simp) bz.size)
  have b11 := bto b10 b11' b10.size
  have g11 := g10.below b11'
  have hv11 := hv10.below b11'
  obtain ⟨k2, W2, hcv2, hcb2, hha2⟩ := bytes_conv2 w11 l2 (by unfold maxLen; omega)
  have CW2 := rwrite_any (F := fun _ => True) (fun _ _ => trivial) (l := []) (hv11.below hcb2) hha2 hwh.2.1.k (by simp; omega) (by rw [hwh.2.1.gone]; omega) (by rw [hwh.2.1.bells]; omega) (g11.below hcb2)
  rw [List.nil_append] at CW2
  have hsh := shw_run (A := awA) (B := awB) (r1 := 0) (k1 := 0) (r2 := 0) (k2 := 0) (s1 := true) (s2 := true) (al := false) awAB_fit (t := y1.1) hwh.2.1
  rw [← HL2.out] at hsh
  obtain ⟨y2, hy2⟩ : ∃ y, y = runT y1.1 l2 := ⟨_, rfl⟩
  rw [← hy2] at CW2 hsh
  have CW2 := Lib.hid CW2
  clear hy2
  have b2' := bto b11 hcb2 b11.size
  go_upto_region 6 with (first
    | (refine wpList_tload rfl _ rfl w10.heap.size rfl (tCells a10 c10 y1.1 bv10) ?_ rfl ?_; exact p11)
    | (go_at_call 32; refine (CW2.out).mono ?_; rintro e w12 ⟨a12, c12, bv12, rfl, g12, hv12, hb12⟩; have pn2 : TBx (w12.alloc (.cells zCells 63)) w12.heap.size zCells := TBx.new _ _)
    | (refine wpList_tstore rfl _ _ rfl w12.heap.size rfl (tCells a12 c12 y2.1 bv12) rfl zCells ?_ rfl rfl (tCells_one _ _ _ hv12.one) ?_; exact pn2; intro w13 p13 o13))
  rw [hsh.1] at hv12
  have b12 := bto b2' hb12 b2'.size
  have bz2 : Below w12.heap.size w12 (w12.alloc (.cells zCells 63)) := (Below.refl _ _).alloc (Nat.le_refl _) _
  have b13' : Below w12.heap.size w12 w13 := bz2.trans (o13.below (by simp) bz2.size)
  have b13 := bto b12 b13' b12.size
  have p10 : TBx w13 w10.heap.size (tCells a10 c10 y1.1 bv10) := ((p11.below hcb2).below hb12).below b13'
  have dB : Below w13.heap.size w13 w13.drew := (Below.refl _ _).drew
  have b3d : Below w3.heap.size w3 w13.drew := by
    have e5 := bto hb4 hb5 hb4.size
    have e6 := bto e5 hb6 e5.size
    have e7 := bto e6 hb7 e6.size
    have e8 := bto e7 hb8 e7.size
    have e9 := bto e8 hb9 e8.size
    have f1 := bto e9 hcb1 e9.size
    have f2 := bto f1 hb10 f1.size
    have f3 := bto f2 b11' f2.size
    have f4 := bto f3 hcb2 f3.size
    have f5 := bto f4 hb12 f4.size
    have f6 := bto f5 b13' f5.size
    exact bto f6 dB f6.size
  have bX1 : Below w10.heap.size w10 w13.drew := by
    have f4 := bto b11' hcb2 b11'.size
    have f5 := bto f4 hb12 f4.size
    have f6 := bto f5 b13' f5.size
    exact bto f6 dB f6.size
  have bX2 : Below w12.heap.size w12 w13.drew := bto b13' dB b13'.size
  have hS0 : (fun Y => TBx Y w10.heap.size (tCells a10 c10 y1.1 bv10) ∧ TBx Y w12.heap.size (tCells a12 c12 y2.1 bv12) ∧ Y.cell? ⟨g, 0, none⟩ = some (.int .i64 0) ∧ Y.cell? ⟨g, 1, none⟩ = some (.int .i64 1) ∧ Y.cell? ⟨g, 2, none⟩ = some (.int .i64 2)) w13.drew := ⟨p10.below dB, p13.below dB, (b3d.cell (p := ⟨g, 0, none⟩) hgl).trans s0, (b3d.cell (p := ⟨g, 1, none⟩) hgl).trans s1, (b3d.cell (p := ⟨g, 2, none⟩) hgl).trans s2⟩
  have hln2' : (0 : Int) < ((S l2).size : Int) := by rw [S_size]; omega
  have hln3 : 0 < l2.length := hln2.1
  have HSB := Lib.hid (fun (Y Z : World) (h : (fun Y => TBx Y w10.heap.size (tCells a10 c10 y1.1 bv10) ∧ TBx Y w12.heap.size (tCells a12 c12 y2.1 bv12) ∧ Y.cell? ⟨g, 0, none⟩ = some (.int .i64 0) ∧ Y.cell? ⟨g, 1, none⟩ = some (.int .i64 1) ∧ Y.cell? ⟨g, 2, none⟩ = some (.int .i64 2)) Y) (hY : Below Y.heap.size Y Z) => (⟨h.1.below hY, h.2.1.below hY, (hY.cell (p := ⟨g, 0, none⟩) (cell_lt h.2.2.1)).trans h.2.2.1, (hY.cell (p := ⟨g, 1, none⟩) (cell_lt h.2.2.1)).trans h.2.2.2.1, (hY.cell (p := ⟨g, 2, none⟩) (cell_lt h.2.2.1)).trans h.2.2.2.2⟩ : (fun Y => TBx Y w10.heap.size (tCells a10 c10 y1.1 bv10) ∧ TBx Y w12.heap.size (tCells a12 c12 y2.1 bv12) ∧ Y.cell? ⟨g, 0, none⟩ = some (.int .i64 0) ∧ Y.cell? ⟨g, 1, none⟩ = some (.int .i64 1) ∧ Y.cell? ⟨g, 2, none⟩ = some (.int .i64 2)) Z))
  have hSp := hS0
  refine wp_region_mix2 [(true, 0), (true, 1), (true, 2), (true, 3), (true, 4), (true, 5), (true, 6), (true, 7), (true, 8), (true, 9), (true, 10), (true, 11), (true, 12), (true, 13), (true, 14), (true, 15), (true, 16), (true, 17), (true, 18), (true, 19), (true, 20), (true, 21), (true, 22), (true, 23), (false, 24), (false, 25), (true, 26), (true, 27), (true, 28), (false, 29), (false, 30), (true, 31), (true, 32), (true, 33), (true, 34), (true, 35), (true, 36), (true, 37)] (fun Y => TBx Y w10.heap.size (tCells a10 c10 y1.1 bv10) ∧ TBx Y w12.heap.size (tCells a12 c12 y2.1 bv12) ∧ Y.cell? ⟨g, 0, none⟩ = some (.int .i64 0) ∧ Y.cell? ⟨g, 1, none⟩ = some (.int .i64 1) ∧ Y.cell? ⟨g, 2, none⟩ = some (.int .i64 2)) (by kernel_rfl) (by kernel_rfl) (by rfl) (by kernel_rfl) (by kernel_rfl) (fun _ _ d _ _ h => by cases d <;> exact h) hS0 ?_
  simp only [mixL, List.getElem?_cons_succ, List.getElem?_cons_zero]
  repeat (first
    | (refine' wpMix2_read (v := .agg (tCells a10 c10 y1.1 bv10)) rfl ?_ ?_; (intro w' hw'; exact run_tload _ rfl w10.heap.size rfl _ hw'.1 rfl); try simp only [Act.put, List.setIfInBounds_toArray, List.set_cons_zero, List.set_cons_succ])
    | (refine' wpMix2_read (v := .agg (tCells a12 c12 y2.1 bv12)) rfl ?_ ?_; (intro w' hw'; exact run_tload _ rfl w12.heap.size rfl _ hw'.2.1 rfl); try simp only [Act.put, List.setIfInBounds_toArray, List.set_cons_zero, List.set_cons_succ])
    | (refine wpMix2_skip rfl ?_; try simp only [Act.put, List.setIfInBounds_toArray, List.set_cons_zero, List.set_cons_succ])
    | (refine' wpMix2_read (v := _) rfl ?_ ?_; rotate_left 1; (intro w' hw'; obtain ⟨j1, j2, j3, j4, j5⟩ := hw'; go_simp; try with_reducible rfl); try simp only [Act.put, List.setIfInBounds_toArray, List.set_cons_zero, List.set_cons_succ]))
  refine wpMix2_act (fun K hK => ?_)
  go_wp2_with fail
  refine (RA.out _).mono ?_
  rintro e w14 ⟨a14, c14, rfl, hRw14, hcw14, hbw14⟩
  have bAw14 := bto (Below.refl w13.drew.heap.size w13.drew) hbw14 (Below.refl w13.drew.heap.size w13.drew).size
  have hSw14 := HSB.out _ _ hSp hbw14
  clear hSp
  have hSp := hSw14
  have CSw14 := rshows_ok (F := fun _ => True) (w := 3) (n := 1) (cB := c14) (g10.below (bto bX1 (bAw14) bX1.size)) hwh.2.1.R hRw14 (by decide) (by omega) (by omega) 0 0 true (by omega) (by omega) hwh.2.1.row hwh.2.1.col hwh.2.1.pend hwh.2.1.y hwh.2.1.seen hwh.2.1.marked hwh.2.1.bells hwh.2.1.gone (hv10.below (bto bX1 (bAw14) bX1.size))
  go_wp2
  refine hK _ _ hSp ?_
  clear hK K
  refine wpMix2_act (fun K hK => ?_)
  go_wp2_with fail
  refine (CSw14).mono ?_
  rintro e w15 ⟨rfl, hbw15⟩
  have bAw15 := bto bAw14 hbw15 bAw14.size
  have hSw15 := HSB.out _ _ hSp hbw15
  clear hSp
  have hSp := hSw15
  go_wp2
  refine hK _ _ hSp ?_
  clear hK K CSw14
  repeat (first
    | (refine' wpMix2_read (v := .agg (tCells a10 c10 y1.1 bv10)) rfl ?_ ?_; (intro w' hw'; exact run_tload _ rfl w10.heap.size rfl _ hw'.1 rfl); try simp only [Act.put, List.setIfInBounds_toArray, List.set_cons_zero, List.set_cons_succ])
    | (refine' wpMix2_read (v := .agg (tCells a12 c12 y2.1 bv12)) rfl ?_ ?_; (intro w' hw'; exact run_tload _ rfl w12.heap.size rfl _ hw'.2.1 rfl); try simp only [Act.put, List.setIfInBounds_toArray, List.set_cons_zero, List.set_cons_succ])
    | (refine wpMix2_skip rfl ?_; try simp only [Act.put, List.setIfInBounds_toArray, List.set_cons_zero, List.set_cons_succ])
    | (refine' wpMix2_read (v := _) rfl ?_ ?_; rotate_left 1; (intro w' hw'; obtain ⟨j1, j2, j3, j4, j5⟩ := hw'; go_simp; try with_reducible rfl); try simp only [Act.put, List.setIfInBounds_toArray, List.set_cons_zero, List.set_cons_succ]))
  refine wpMix2_act (fun K hK => ?_)
  go_wp2_with fail
  refine (RB.out _).mono ?_
  rintro e w16 ⟨a16, c16, rfl, hRw16, hcw16, hbw16⟩
  have bAw16 := bto bAw15 hbw16 bAw15.size
  have hSw16 := HSB.out _ _ hSp hbw16
  clear hSp
  have hSp := hSw16
  have CSw16 := rshows_ok (F := fun _ => True) (w := 3) (n := 1) (cB := c16) (g12.below (bto bX2 (bAw16) bX2.size)) hsh.2.R hRw16 (by decide) (by omega) (by omega) 0 0 true (by omega) (by omega) hsh.2.row hsh.2.col hsh.2.pend hsh.2.y hsh.2.seen hsh.2.marked hsh.2.bells hsh.2.gone (hv12.below (bto bX2 (bAw16) bX2.size))
  go_wp2
  refine hK _ _ hSp ?_
  clear hK K
  refine wpMix2_act (fun K hK => ?_)
  go_wp2_with fail
  refine (CSw16).mono ?_
  rintro e w17 ⟨rfl, hbw17⟩
  have bAw17 := bto bAw16 hbw17 bAw16.size
  have hSw17 := HSB.out _ _ hSp hbw17
  clear hSp
  have hSp := hSw17
  go_wp2
  refine hK _ _ hSp ?_
  clear hK K CSw16
  repeat (first
    | (refine' wpMix2_read (v := .agg (tCells a10 c10 y1.1 bv10)) rfl ?_ ?_; (intro w' hw'; exact run_tload _ rfl w10.heap.size rfl _ hw'.1 rfl); try simp only [Act.put, List.setIfInBounds_toArray, List.set_cons_zero, List.set_cons_succ])
    | (refine' wpMix2_read (v := .agg (tCells a12 c12 y2.1 bv12)) rfl ?_ ?_; (intro w' hw'; exact run_tload _ rfl w12.heap.size rfl _ hw'.2.1 rfl); try simp only [Act.put, List.setIfInBounds_toArray, List.set_cons_zero, List.set_cons_succ])
    | (refine wpMix2_skip rfl ?_; try simp only [Act.put, List.setIfInBounds_toArray, List.set_cons_zero, List.set_cons_succ])
    | (refine' wpMix2_read (v := _) rfl ?_ ?_; rotate_left 1; (intro w' hw'; obtain ⟨j1, j2, j3, j4, j5⟩ := hw'; go_simp; try with_reducible rfl); try simp only [Act.put, List.setIfInBounds_toArray, List.set_cons_zero, List.set_cons_succ]))
  refine wpMix2_nil ?_
  have bFin := bto (bto b13 dB b13.size) bAw17 (bto b13 dB b13.size).size
  have hfin : decide (0 < (S l2).size) = true := decide_eq_true (by rw [S_size]; exact hln3)
  have HFI := Lib.hid hfin
  clear hfin
  go_wp2
  go_ret
  exact ⟨congrArg (fun x => Ending.returned (Value.bool x)) HFI.out, bFin⟩
end Go.Proofs.YtekodpcedjpnjaaGreat
