/- The reference's Same: of two grids with the same rows; of two terminals that stand alike, where nothing waits. No condition. Printed by gen_rs1.py. -/
import Derived.Test.YtjkajojjehgmdaaGreatRE03
import Derived.Test.YtjkajojjehgmdaaGreatRE38
import Derived.Test.YtjkajojjehgmdaaGreatRE47
set_option linter.unusedVariables false
set_option linter.unusedSimpArgs false
namespace Go.Proofs.YtjkajojjehgmdaaGreat
open Go.RowKit Go.Shelf Go.Maps
set_option maxRecDepth 100000 in
set_option maxHeartbeats 8000000 in
theorem rsame04_true {F1 F2 : Nat → Prop} {W : World} {a1 a2 : Option Addr} {c1 c2 w h : Nat} {R : List (List GC)} (g1 : RG F1 W a1 c1 w h R) (g2 : RG F2 W a2 c2 w h R) (hw : w ≤ 1000) (hh : h ≤ 1000) :
    Calls Tryz.prog 44 #[.agg #[.int .i64 w, .int .i64 h, .slice a1 h c1], .agg #[.int .i64 w, .int .i64 h, .slice a2 h c2]] W fun e w' => e = .returned (.bool true) ∧ Below W.heap.size W w' := by
 have hl := g1.rows.len
 have CS := Lib.hid (fun (X : World) (hX : Below W.heap.size W X) (k : Nat) (hk : k < h) => (by
  have hM : R[k]? = some (nth [] R k) := by rw [nth_eq _ _ _ (by omega)]; exact List.getElem?_eq_getElem _
  obtain ⟨b1, o1, u1, d1, e1, ⟨f1, _⟩, q1, _, k1, _⟩ := (g1.below hX).rows.at_ k _ hM
  obtain ⟨b2, o2, u2, d2, e2, ⟨f2, _⟩, q2, _, k2, _⟩ := (g2.below hX).rows.at_ k _ hM
  have hm : (nth [] R k).length = w := g1.ok.at hk
  have hc := fun (Y : World) (hY : Below X.heap.size X Y) => sameCells_any (c1 := d1) (c2 := d2) (k1.below hY) (k2.below hY) (by omega) (by omega)
  simp only [eqL_self] at hc
  exact ⟨b1, o1, u1, d1, b2, o2, u2, d2, (nth [] R k).length, e1, f1, q1, e2, f2, q2, hc⟩ :
  ∃ b1 o1 u1 d1 b2 o2 u2 d2 m, a1 = some ⟨b1, o1, none⟩ ∧ b1 < X.heap.size ∧ X.cell? ⟨b1, o1 + k, none⟩ = some (.slice u1 m d1) ∧ a2 = some ⟨b2, o2, none⟩ ∧ b2 < X.heap.size ∧ X.cell? ⟨b2, o2 + k, none⟩ = some (.slice u2 m d2) ∧
   ∀ Y, Below X.heap.size X Y → Calls Tryz.prog 13 #[.slice u1 m d1, .slice u2 m d2] Y fun e w' => e = .returned (.bool true) ∧ Below Y.heap.size Y w'))
 clear g1 g2 hl
 have z1 : GBox (W.alloc (.cells #[.int .i64 w, .int .i64 h, .slice a1 h c1] 30)) W.heap.size w h a1 h c1 := World.alloc_heap_new W _
 have b1 : Below W.heap.size W (W.alloc (.cells #[.int .i64 w, .int .i64 h, .slice a1 h c1] 30)) := (Below.refl _ _).alloc (Nat.le_refl _) _
 obtain ⟨X1, hX1⟩ : ∃ X1, (W.alloc (.cells #[.int .i64 w, .int .i64 h, .slice a1 h c1] 30)) = X1 := ⟨_, rfl⟩
 have s1 : X1.heap.size = W.heap.size + 1 := by rw [← hX1]; simp
 rw [hX1] at z1 b1
 obtain ⟨X2, hX2⟩ : ∃ X2, X1.alloc (.cells #[.int .i64 w, .int .i64 h, .slice a2 h c2] 30) = X2 := ⟨_, rfl⟩
 have z2 : GBox X2 (W.heap.size + 1) w h a2 h c2 := by rw [← hX2, ← s1]; exact World.alloc_heap_new X1 _
 have b12 : Below X1.heap.size X1 X2 := by rw [← hX2]; exact (Below.refl _ _).alloc (Nat.le_refl _) _
 have q1 := z1.below b12
 have b2 := bto b1 b12 b1.size
 have HX1 := Lib.hid hX1
 have HX2 := Lib.hid hX2
 have S1 := Lib.hid s1
 clear hX1 hX2 s1 z1 b1 b12
 obtain ⟨x0, x1, x2, x3⟩ := q1.cells
 obtain ⟨y0, y1, y2, y3⟩ := z2.cells
 go_enter Tryz.func44, Tryz.ntmps44
 go_upto_region 1 with (fail)
 try rw [HX1.out]
 try rw [HX2.out]
 try rw [S1.out]
 go_wp2
 go_loopw [5] (fun i wr => ∃ k : Nat, k ≤ h ∧ i = .int .i64 k ∧ Below X2.heap.size X2 wr) (fun i _ => h - (intOf i).toNat)
 case atStart => exact ⟨0, Nat.zero_le _, rfl, Below.refl _ _⟩
 case round =>
  obtain ⟨k, hk, rfl, hb⟩ := hrel
  have HC := Lib.hid (fun (Y : World) (hY : Below X2.heap.size X2 Y) => (⟨(q1.below hY).cells, (z2.below hY).cells⟩ : _ ∧ _))
  obtain ⟨⟨x0, x1, x2, x3⟩, ⟨y0, y1, y2, y3⟩⟩ := HC.out wr hb
  by_cases hkn : k < h
  ·have hki : (k : Int) < (h : Int) := by omega
   obtain ⟨b3, o3, u3, d3, b4, o4, u4, d4, m, rfl, hb3, hc3, rfl, hb4, hc4, hcall⟩ := CS.out wr (bto b2 hb b2.size) k hkn
   have HCL := Lib.hid hcall
   clear hcall
   go_upto_region 6 with (fail)
   refine wp_region_mix2 [(true, 0), (true, 1), (true, 2), (true, 3), (true, 4), (true, 5), (true, 6), (true, 7), (true, 8), (true, 9), (true, 10), (true, 11), (false, 12), (true, 13)] (fun Y => Below wr.heap.size wr Y) (by kernel_rfl) (by kernel_rfl) (by rfl) (by kernel_rfl) (by kernel_rfl) (fun _ _ d _ _ h => by cases d <;> exact h) ((Below.refl _ _).drew) ?_
   simp only [mixL, List.getElem?_cons_succ, List.getElem?_cons_zero]
   obtain ⟨q0, hq0⟩ : ∃ q, wr.drew = q := ⟨_, rfl⟩
   have Bq0 : Below wr.heap.size wr q0 := by rw [← hq0]; exact (Below.refl _ _).drew
   rw [hq0]
   clear hq0
   iterate 12 (refine' wpMix2_read (v := _) rfl ?_ ?_; rotate_left 1; (intro w' hw'; obtain ⟨⟨x0, x1, x2, x3⟩, ⟨y0, y1, y2, y3⟩⟩ := HC.out w' (bto hb hw' hb.size); have hc3 := (hw'.cell (p := ⟨b3, o3 + k, none⟩) hb3).trans hc3; have hc4 := (hw'.cell (p := ⟨b4, o4 + k, none⟩) hb4).trans hc4; go_simp; try with_reducible rfl); try simp only [Act.put, List.setIfInBounds_toArray, List.set_cons_zero, List.set_cons_succ])
   refine wpMix2_act (fun K hK => ?_)
   go_wp2_with fail
   refine (HCL.out _ Bq0).mono ?_
   rintro e q1 ⟨rfl, hq1⟩
   have Bq1 : Below wr.heap.size wr q1 := bto Bq0 hq1 Bq0.size
   go_wp2
   refine hK _ _ Bq1 ?_
   clear hK K
   iterate 1 (refine' wpMix2_read (v := _) rfl ?_ ?_; rotate_left 1; (intro w' hw'; obtain ⟨⟨x0, x1, x2, x3⟩, ⟨y0, y1, y2, y3⟩⟩ := HC.out w' (bto hb hw' hb.size); have hc3 := (hw'.cell (p := ⟨b3, o3 + k, none⟩) hb3).trans hc3; have hc4 := (hw'.cell (p := ⟨b4, o4 + k, none⟩) hb4).trans hc4; go_simp; try with_reducible rfl); try simp only [Act.put, List.setIfInBounds_toArray, List.set_cons_zero, List.set_cons_succ])
   refine wpMix2_nil ?_
   have bq := bto hb Bq1 hb.size
   clear x0 x1 x2 x3 y0 y1 y2 y3
   go_wp2
   go_roundw
   case rel => exact ⟨k + 1, hkn, by go_num, bq⟩
   case measure => simp [intOf]; omega
  ·obtain rfl : k = h := by omega
   go_wp2
   go_ret
   exact ⟨rfl, bto b2 hb b2.size⟩
theorem eql_styS (y : Sy) (W : World) : (binOp .eql 32 (.agg #[.bool y.b, .bool y.u, .bool y.i, .int .i64 y.f, .int .i64 y.g]) (.agg #[.bool y.b, .bool y.u, .bool y.i, .int .i64 y.f, .int .i64 y.g])).run Tryz.prog W = .ok (.bool true) W := by
 go_simp
theorem tin2 (W : World) (c d : Array Value) : TBx ((W.alloc (.cells c 34)).alloc (.cells d 34)) W.heap.size c ∧ TBx ((W.alloc (.cells c 34)).alloc (.cells d 34)) (W.heap.size + 1) d ∧ Below W.heap.size W ((W.alloc (.cells c 34)).alloc (.cells d 34)) := by
 have b1 : Below W.heap.size W (W.alloc (.cells c 34)) := (Below.refl _ _).alloc (Nat.le_refl _) _
 have b2 : Below (W.alloc (.cells c 34)).heap.size (W.alloc (.cells c 34)) ((W.alloc (.cells c 34)).alloc (.cells d 34)) := (Below.refl _ _).alloc (Nat.le_refl _) _
 have s1 : (W.alloc (.cells c 34)).heap.size = W.heap.size + 1 := by simp
 refine ⟨(TBx.new W c).below b2, ?_, bto b1 b2 b1.size⟩
 rw [← s1]
 exact TBx.new _ d
set_option maxRecDepth 100000 in
set_option maxHeartbeats 8000000 in
theorem rsame11_true {F1 F2 : Nat → Prop} {W : World} {a1 a2 : Option Addr} {c1 c2 : Nat} {t u : TS} {bv1 bv2 : Value} (g1 : RG F1 W a1 c1 t.W t.H t.R) (g2 : RG F2 W a2 c2 u.W u.H u.R) (h1 : HB F1 W bv1 []) (h2 : HB F2 W bv2 []) (ok : TOk t) (he : t.core = u.core) :
    Calls Tryz.prog 18 #[.agg (tCells a1 c1 t bv1), .agg (tCells a2 c2 u bv2)] W fun e w' => e = .returned (.bool true) ∧ Below W.heap.size W w' := by
 obtain ⟨e1, e2, e3, e4, e5, e6, e7, e8, e9, e10, e11⟩ := core_eq he
 obtain ⟨ba1, bc1, hv1⟩ := h1.slice
 obtain ⟨ba2, bc2, hv2⟩ := h2.slice
 rw [List.length_nil] at hv1 hv2
 rw [← e1, ← e2, ← e3] at g2
 have CS := Lib.hid (fun (X : World) (hX : Below W.heap.size W X) => rsame04_true (g1.below hX) (g2.below hX) (Nat.le_trans ok.w2 (by omega)) (Nat.le_trans ok.h2 (by omega)))
 have hq := eql_styS t.y
 have hh : Hid (TBx ((W.alloc (.cells (tCells a1 c1 t bv1) 34)).alloc (.cells (tCells a2 c2 u bv2) 34)) W.heap.size (tCells a1 c1 t bv1) ∧ TBx ((W.alloc (.cells (tCells a1 c1 t bv1) 34)).alloc (.cells (tCells a2 c2 u bv2) 34)) (W.heap.size + 1) (tCells a2 c2 u bv2) ∧ Below W.heap.size W ((W.alloc (.cells (tCells a1 c1 t bv1) 34)).alloc (.cells (tCells a2 c2 u bv2) 34))) := Lib.hid (tin2 W _ _)
 have HV1 := Lib.hid hv1
 have HV2 := Lib.hid hv2
 have HE := Lib.hid (⟨⟨e1, e2, e4, e5, e6⟩, e7, e8, e9, e10, e11⟩ : (_ ∧ _ ∧ _ ∧ _ ∧ _) ∧ _ ∧ _ ∧ _ ∧ _ ∧ _)
 clear g1 g2 h1 h2 e1 e2 e3 e4 e5 e6 e7 e8 e9 e10 e11 he hv1 hv2 ok
 go_enter Tryz.func18, Tryz.ntmps18
 go_upto_region 0 with (fail)
 go_cut [2, 3] (fun v1 v2 wx => v1 = .pointer (some ⟨W.heap.size, 0, none⟩) ∧ v2 = .pointer (some ⟨W.heap.size + 1, 0, none⟩) ∧ TBx wx W.heap.size (tCells a1 c1 t bv1) ∧ TBx wx (W.heap.size + 1) (tCells a2 c2 u bv2) ∧ Below W.heap.size W wx)
 case first =>
  go_wp2
  go_meet
  exact ⟨rfl, rfl, hh.out⟩
 case rest =>
  obtain ⟨rfl, rfl, p1, p2, bX⟩ := hcut
  obtain ⟨⟨e1, e2, e4, e5, e6⟩, e7, e8, e9, e10, e11⟩ := HE.out
  obtain ⟨c0, c1', c2', c3, c4, c5, c6, c7, c8, c9, c10, c11, c12, c13, c14, c15, c16, c17, c18, fz⟩ := p1.tc
  obtain ⟨d0, d1, d2, d3, d4, d5, d6, d7, d8, d9, d10, d11, d12, d13, d14, d15, d16, d17, d18, fy⟩ := p2.tc
  rw [HV1.out] at c15
  rw [HV2.out] at d15
  rw [← e1] at d0
  rw [← e2] at d1 d2
  rw [← e4] at d3
  rw [← e5] at d4
  rw [← e6] at d5 d6 d7 d8 d9
  rw [← e7] at d10
  rw [← e8] at d11
  rw [← e9] at d12
  rw [← e10] at d13
  rw [← e11] at d14
  have CS1 := Lib.hid (CS.out _ bX)
  clear e1 e2 e4 e5 e6 e7 e8 e9 e10 e11 c16 c17 c18 d16 d17 d18 fz fy HE p1 p2 CS
  go_wp2_with (go_at_call 44; refine (CS1.out).mono ?_; rintro e w2 ⟨rfl, hb2⟩)
  go_ret
  exact ⟨rfl, bto bX hb2 bX.size⟩
end Go.Proofs.YtjkajojjehgmdaaGreat
