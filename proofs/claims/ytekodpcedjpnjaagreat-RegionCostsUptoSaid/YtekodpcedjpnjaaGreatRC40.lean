/- The program's region: Start, Resize; what a region that nobody made does. No condition. Printed by gen_rn2.py. The program's region: kept, laid, Above, End, Draw, Shown. No condition but on the lengths. Printed by gen_rn3.py. -/
import Derived.Test.YtekodpcedjpnjaaGreatRC38
import Derived.Test.YtekodpcedjpnjaaGreatRC39
set_option linter.unusedVariables false
set_option linter.unusedSimpArgs false
namespace Go.Proofs.YtekodpcedjpnjaaGreat
open Go.RowKit Go.Shelf Go.Maps
theorem pasteB_mode (on : Bool) : modeL [50, 48, 48, 52] on = pasteB on := by cases on <;> rfl
theorem seen_B (on : Bool) (w : World) : Calls Tryz.prog 131 #[.bool on] w fun r w' => r = .returned (.string (S (seenB on))) ∧ w = w' := by
  have := seen_any on w
  rw [seenB_mode] at this
  exact this
theorem paste_B (on : Bool) (w : World) : Calls Tryz.prog 132 #[.bool on] w fun r w' => r = .returned (.string (S (pasteB on))) ∧ w = w' := by
  have := paste_any on w
  rw [pasteB_mode] at this
  exact this
theorem reserveB_len {n : Nat} (h : n ≤ 60) : (reserveB n).length ≤ 75 := by
  unfold reserveB belowB
  have := byL_len ((n : Int) - 1) 65
  simp only [List.length_append, List.length_cons, List.length_nil, List.length_replicate]
  omega
structure OkR (x : RSt) : Prop where
  w : 1 ≤ x.w ∧ x.w ≤ 500
  h : 1 ≤ x.h ∧ x.h ≤ 500
  n : 1 ≤ x.want ∧ x.want ≤ 60
  ph : 1 ≤ x.ph ∧ x.ph ≤ 3
  op : x.ph = 2 → okF x.A x.r x.c = true ∧ x.A.length = min x.want x.h ∧ (nth [] x.A 0).length = x.w
  cl : x.ph ≠ 2 → x.A = [] ∧ x.r = 0 ∧ x.c = 0 ∧ x.s = false
def RSt.rows (x : RSt) : Nat := min x.want x.h
theorem OkR.rows {x : RSt} (k : OkR x) : 1 ≤ x.rows ∧ x.rows ≤ 60 ∧ (min (x.want : Int) (x.h : Int) = (x.rows : Int)) := by
  have h1 := k.h
  have h2 := k.n
  unfold RSt.rows
  refine ⟨by omega, by omega, by omega⟩
def RSt.blank (x : RSt) : RSt := { x with A := blankM x.w x.rows, r := 0, c := 0, s := true, ph := 2 }
theorem blankM_nth {w n : Nat} (hn : 1 ≤ n) : nth [] (blankM w n) 0 = List.replicate w GC.blank := by
  unfold blankM nth
  obtain ⟨k, rfl⟩ : ∃ k, n = k + 1 := ⟨n - 1, by omega⟩
  rw [List.replicate_succ]
  rfl
theorem OkR.blank {x : RSt} (k : OkR x) : OkR x.blank :=
  { w := k.w, h := k.h, n := k.n, ph := ⟨(by decide : 1 ≤ 2), (by decide : 2 ≤ 3)⟩
    op := fun _ => ⟨blankM_ok k.w ⟨k.rows.1, k.rows.2.1⟩, by show (blankM x.w x.rows).length = _; unfold blankM; rw [List.length_replicate]; rfl, by show (nth [] (blankM x.w x.rows) 0).length = x.w; rw [blankM_nth k.rows.1, List.length_replicate]⟩
    cl := fun h => absurd rfl h }
set_option maxRecDepth 100000 in
set_option maxHeartbeats 4000000 in
theorem gstart_ok {W : World} {b : Nat} {x : RSt} (z : RgI W b x) (k : OkR x) (hp : x.ph = 1) : Calls Tryz.prog 61 #[.pointer (some ⟨b, 0, none⟩)] W fun e w' => e = .returned (.tuple #[.string (S (startB x.rows)), .int .i64 0]) ∧ Only [b] W w' ∧ RgI w' b x.blank := by
  obtain ⟨av, cap, zB, hA, hc1, hc2⟩ := z
  obtain ⟨n1, n2, n3⟩ := k.rows
  obtain ⟨c0, c1, c2, c3, c4, c5, c6, c7⟩ := zB.cells
  have CM := Lib.hid (gmade_any zB (by omega))
  have CB := Lib.hid (gblank_any zB hA n3 n1 n2 k.w)
  have CR := Lib.hid (fun (Y : World) (av' : Option Addr) (cap' : Nat) (zY : RgB Y b (.slice av' (blankM x.w x.rows).length cap') 0 0 true x.w x.h x.want 2) => greserve_any zY n3 n1 n2)
  have hl := S_le (reserveB x.rows) 75 (reserveB_len n2)
  have hl2 := S_le (seenB true) 10 (by decide)
  have hl3 := S_le (pasteB true) 10 (by decide)
  have hl4 : ((S (reserveB x.rows)).size : Int) ≤ 75 := by omega
  have hpi : (x.ph : Int) = 1 := by omega
  rw [hpi] at c7
  clear zB hA
  go_enter Tryz.func61, Tryz.ntmps61
  go_wp2_with (first
    | (go_at_call 128; refine CM.out.mono ?_; rintro e X ⟨rfl, rfl⟩)
    | (go_at_call 129; refine CB.out.mono ?_; rintro e w1 ⟨rfl, o1, av', cap', z1, hR1, hcap1⟩)
    | (go_at_call 130; refine (CR.out _ _ _ z1).mono ?_; rintro e w2 ⟨rfl, hb2⟩)
    | (go_at_call 131; refine (seen_B true _).mono ?_; rintro e w3 ⟨rfl, rfl⟩)
    | (go_at_call 132; refine (paste_B true _).mono ?_; rintro e w4 ⟨rfl, rfl⟩))
  go_ret2
  refine ⟨?_, o1.trans (Only.of_below hb2), av', cap', z1.below hb2, hR1.below hb2, hcap1⟩
  have e1 : S [27, 91, 48, 109] ++ S (reserveB x.rows) ++ S (seenB true) ++ S (pasteB true) = S (startB x.rows) := by
    rw [S_append, S_append, S_append]
    unfold startB usualB
    simp only [List.append_assoc]
  rw [← e1]
  rfl
set_option maxRecDepth 100000 in
theorem gstart_badB {W : World} {b : Nat} {v : Value} {r c : Int} {s : Bool} {w h want ph : Int} (z : RgB W b v r c s w h want ph) (h0 : ph ≠ 0) (hp : ¬ (ph = 1)) : Calls Tryz.prog 61 #[.pointer (some ⟨b, 0, none⟩)] W fun e w' => e = .returned (.tuple #[.string ⟨#[]⟩, .int .i64 110]) ∧ W = w' := by
  obtain ⟨c0, c1, c2, c3, c4, c5, c6, c7⟩ := z.cells
  have CM := Lib.hid (gmade_any z h0)
  clear z
  go_enter Tryz.func61, Tryz.ntmps61
  go_wp2_with (go_at_call 128; refine CM.out.mono ?_; rintro e X ⟨rfl, rfl⟩)
  go_ret2
  exact ⟨rfl, rfl⟩
theorem gstart_bad {W : World} {b : Nat} {x : RSt} (z : RgI W b x) (h0 : x.ph ≠ 0) (hp : x.ph ≠ 1) : Calls Tryz.prog 61 #[.pointer (some ⟨b, 0, none⟩)] W fun e w' => e = .returned (.tuple #[.string ⟨#[]⟩, .int .i64 110]) ∧ W = w' := by
  obtain ⟨av, cap, zB, hA, hc1, hc2⟩ := z
  exact gstart_badB zB (by omega) (by omega)
def RSt.size (x : RSt) (w h : Nat) : RSt := { x with w := w, h := h }
theorem okF_ne {R : List (List GC)} {r c : Int} (h : okF R r c = true) : ∀ M ∈ R, M ≠ [] := fun M hM e => by
  obtain ⟨_, _, p3, _, _, _, _, _, p9⟩ := okF_pos h
  have := (p9 M hM).1
  rw [e] at this
  simp at this
  omega
set_option maxRecDepth 100000 in
set_option maxHeartbeats 4000000 in
theorem gresize_ok {W : World} {b : Nat} {x : RSt} (z : RgI W b x) (k : OkR x) (hp : x.ph = 2) (m n : Nat) (hm : 1 ≤ m ∧ m ≤ 500) (hn : 1 ≤ n ∧ n ≤ 500) : Calls Tryz.prog 80 #[.pointer (some ⟨b, 0, none⟩), .int .i64 m, .int .i64 n] W fun e w' => e = .returned (.tuple #[.string (S (sizedB x.r.toNat (x.size m n).rows)), .int .i64 0]) ∧ Only [b] W w' ∧ RgI w' b (x.size m n).blank := by
  obtain ⟨av, cap, zB, hA, hc1, hc2⟩ := z
  obtain ⟨h1, h2, h3⟩ := k.op hp
  obtain ⟨p1, p2, p3, p4, p5, p6, p7, p8, p9⟩ := okF_pos h1
  have hne := okF_ne h1
  have hnn : 1 ≤ (x.size m n).rows ∧ (x.size m n).rows ≤ 60 ∧ (min (x.want : Int) (n : Int) = ((x.size m n).rows : Int)) := by
    have := k.n
    unfold RSt.rows RSt.size
    dsimp only
    refine ⟨by omega, by omega, by omega⟩
  obtain ⟨n1, n2, n3⟩ := hnn
  obtain ⟨c0, c1, c2, c3, c4, c5, c6, c7⟩ := zB.cells
  have CM := Lib.hid (gmade_any zB (by omega))
  have CS := rgsize_any (m : Int) (n : Int) W
  rw [show sideOk (m : Int) (n : Int) = true from decide_eq_true (by omega)] at CS
  have CS := Lib.hid CS
  have CF := Lib.hid (gfirst_any zB p5 (by omega))
  obtain ⟨q, hq⟩ : ∃ q, q = (x.size m n).rows := ⟨_, rfl⟩
  rw [← hq] at n1 n2 n3 ⊢
  have CR := Lib.hid (fun (Y : World) (zY : RgB Y b (.slice av x.A.length cap) x.r x.c x.s m n x.want x.ph) => greserve_any zY n3 n1 n2)
  have CB := Lib.hid (fun (Y : World) (zY : RgB Y b (.slice av x.A.length cap) x.r x.c x.s m n x.want x.ph) (hY : RowsAt Y av x.A.length x.A) => gblank_any zY hY n3 n1 n2 hm)
  have hl := S_le (reserveB q) 75 (reserveB_len n2)
  have hl2 := S_le (seenB true) 10 (by decide)
  have hl3 := S_le (byL x.r 65 ++ [13]) 10 (by have := byL_len x.r 65; simp; omega)
  have hpi : (x.ph : Int) = 2 := by omega
  have c7' := c7
  rw [hpi] at c7
  have ZB := Lib.hid zB
  have HA := Lib.hid hA
  have HQ := Lib.hid hq
  clear zB hA c7' p1 p2 p3 p4 p6 p7 p8 p9 hq
  go_enter Tryz.func80, Tryz.ntmps80
  go_upto_region 8 with (first
    | (go_at_call 128; refine CM.out.mono ?_; rintro e X ⟨rfl, rfl⟩)
    | (go_at_call 127; refine CS.out.mono ?_; rintro e X ⟨rfl, rfl⟩)
    | (go_at_call 135; refine CF.out.mono ?_; rintro e w1 ⟨rfl, hb1⟩))
  have z1 := ZB.out.below hb1
  have hA1 := HA.out.below hb1
  clear c0 c1 c2 c3 c4 c5 c6 c7
  obtain ⟨c0, c1, c2, c3, c4, c5, c6, c7⟩ := z1.cells
  have f4 := z1.froz 4
  have f5 := z1.froz 5
  obtain ⟨Y, hY⟩ : ∃ Y, (w1.setCell ⟨b, 4, none⟩ (.int .i64 m)).setCell ⟨b, 5, none⟩ (.int .i64 n) = Y := ⟨_, rfl⟩
  obtain ⟨zY, oY⟩ := z1.side m n Y hY
  have hAY := hA1.reg z1 hA1 oY hne
  have HY := Lib.hid hY
  clear hY
  go_upto_region 9 with (fail)
  rw [HY.out]
  clear c0 c1 c2 c3 c4 c5 c6 c7 f4 f5
  go_wp2_with (first
    | (go_at_call 130; refine (CR.out _ zY).mono ?_; rintro e w2 ⟨rfl, hb2⟩)
    | (go_at_call 131; refine (seen_B true _).mono ?_; rintro e w3 ⟨rfl, rfl⟩)
    | (go_at_call 129; refine (CB.out _ (zY.below hb2) (hAY.below hb2)).mono ?_; rintro e w4 ⟨rfl, o4, av', cap', z4, hR4, hcap4⟩))
  go_ret2
  refine ⟨?_, ((Only.of_below hb1).trans oY).trans ((Only.of_below hb2).trans o4), av', cap', by rw [HQ.out] at z4; exact z4, by rw [HQ.out] at hR4; exact hR4, by rw [HQ.out] at hcap4; exact hcap4⟩
  have e1 : S (byL x.r 65 ++ [13]) ++ S (reserveB q) ++ S (seenB true) = S (sizedB x.r.toNat q) := by
    rw [S_append, S_append]
    unfold sizedB
    rw [show ((x.r.toNat : Nat) : Int) = x.r by omega]
    simp only [List.append_assoc]
  rw [← e1]
  rfl
set_option maxRecDepth 100000 in
theorem gresize_arg {W : World} {b : Nat} {x : RSt} (z : RgI W b x) (h0 : x.ph ≠ 0) (m n : Int) (hs : sideOk m n = false) : Calls Tryz.prog 80 #[.pointer (some ⟨b, 0, none⟩), .int .i64 m, .int .i64 n] W fun e w' => e = .returned (.tuple #[.string ⟨#[]⟩, .int .i64 1]) ∧ W = w' := by
  obtain ⟨av, cap, zB, hA, hc1, hc2⟩ := z
  have CM := Lib.hid (gmade_any zB (by omega))
  have CS := rgsize_any m n W
  rw [hs] at CS
  have CS := Lib.hid CS
  clear zB hA
  go_enter Tryz.func80, Tryz.ntmps80
  go_wp2_with (first
    | (go_at_call 128; refine CM.out.mono ?_; rintro e X ⟨rfl, rfl⟩)
    | (go_at_call 127; refine CS.out.mono ?_; rintro e X ⟨rfl, rfl⟩))
  go_ret2
  exact ⟨rfl, rfl⟩
set_option maxRecDepth 100000 in
theorem gresize_bad {W : World} {b : Nat} {x : RSt} (z : RgI W b x) (h0 : x.ph ≠ 0) (hp : x.ph ≠ 2) (m n : Int) (hs : sideOk m n = true) : Calls Tryz.prog 80 #[.pointer (some ⟨b, 0, none⟩), .int .i64 m, .int .i64 n] W fun e w' => e = .returned (.tuple #[.string ⟨#[]⟩, .int .i64 110]) ∧ W = w' := by
  obtain ⟨av, cap, zB, hA, hc1, hc2⟩ := z
  obtain ⟨c0, c1, c2, c3, c4, c5, c6, c7⟩ := zB.cells
  have CM := Lib.hid (gmade_any zB (by omega))
  have CS := rgsize_any m n W
  rw [hs] at CS
  have CS := Lib.hid CS
  have hpi : ¬ ((x.ph : Int) = 2) := by omega
  clear zB hA
  go_enter Tryz.func80, Tryz.ntmps80
  go_wp2_with (first
    | (go_at_call 128; refine CM.out.mono ?_; rintro e X ⟨rfl, rfl⟩)
    | (go_at_call 127; refine CS.out.mono ?_; rintro e X ⟨rfl, rfl⟩))
  go_ret2
  exact ⟨rfl, rfl⟩
end Go.Proofs.YtekodpcedjpnjaaGreat
namespace Go.Proofs.YtekodpcedjpnjaaGreat
open Go.RowKit Go.Shelf Go.Maps
set_option maxRecDepth 100000 in
set_option maxHeartbeats 16000000 in
theorem gkept_any {W : World} {a : Option Addr} {n cap : Nat} {R : List (List GC)} (hR : RowsAt W a n R) (hn : n ≤ 1000) (hne : ∀ M ∈ R, M ≠ [] ∧ M.length ≤ 1000) (r c : Int) (s : Bool) :
    Calls Tryz.prog 134 #[.agg #[.slice a n cap, .int .i64 r, .int .i64 c, .bool s]] W (FrOwn R r c s W) := by
  obtain ⟨i0, hi, hz0, hz1, hz2⟩ := info_parts infoCells
  obtain ⟨i1, hi1, hz01, hz11, hz21⟩ := info_parts infoCell
  have hl := hR.len
  have HR := Lib.hid hR
  have HNE := Lib.hid hne
  clear hR hne
  have t1 : FBI (W.alloc (.cells #[.slice a n cap, .int .i64 r, .int .i64 c, .bool s] 52)) W.heap.size (.slice a n cap) r c s := World.alloc_heap_new W _
  go_enter Tryz.func134, Tryz.ntmps134
  go_upto_region 1 with (fail)
  obtain ⟨X1, hX1⟩ : ∃ X, W.alloc (.cells #[.slice a n cap, .int .i64 r, .int .i64 c, .bool s] 52) = X := ⟨_, rfl⟩
  have s1 : X1.heap.size = W.heap.size + 1 := by rw [← hX1]; simp
  have b1 : Below W.heap.size W X1 := by rw [← hX1]; exact (Below.refl _ _).alloc (Nat.le_refl _) _
  rw [hX1] at t1 ⊢
  clear hX1
  have bX1 : Below X1.heap.size X1 (X1.alloc (.cells #[.slice none 0 0, .int .i64 0, .int .i64 0, .bool false] 52)) := (Below.refl _ _).alloc (Nat.le_refl _) _
  have t2 : FBI (X1.alloc (.cells #[.slice none 0 0, .int .i64 0, .int .i64 0, .bool false] 52)) (W.heap.size + 1) (.slice none 0 0) 0 0 false := by rw [← s1]; exact World.alloc_heap_new X1 _
  obtain ⟨X, hX⟩ : ∃ X, X1.alloc (.cells #[.slice none 0 0, .int .i64 0, .int .i64 0, .bool false] 52) = X := ⟨_, rfl⟩
  have s2 : X.heap.size = W.heap.size + 1 + 1 := by rw [← hX]; simp [s1]
  rw [hX] at bX1 t2
  rw [hX]
  clear hX
  replace t1 := t1.below bX1
  have bX := bto b1 bX1 b1.size
  clear b1 bX1 s1
  obtain ⟨u0, u1, u2, u3⟩ := t1.cells
  obtain ⟨Y, hmk, oY, gY⟩ := run_make_own (P := Tryz.prog) X (W.heap.size + 1 + 1) 50 60 i0 (.slice none 0 0) 1 Tryz.underlying50 hi hz0 hz1 .i64 .i64 n (by rw [hz2]; omega) (by unfold maxLen; omega) (by omega)
  have bY0 : Below X.heap.size X Y := (Below.refl _ X).grown gY (Nat.le_refl _) (fun k e => by cases e)
  rw [s2] at oY hmk
  go_upto_region 2 with (fail)
  have bY := bY0
  have y1 := t1.below bY
  have y2 := t2.below bY
  have bWY := bto bX bY bX.size
  have CR0 : CRow (fun b => W.heap.size + 1 + 1 ≤ b) (W.heap.size + 1 + 1) Y (.slice (some ⟨W.heap.size + 1 + 1, 0, none⟩) 0 n) 0 [] := ⟨[], fun _ => False, oY, VRows.nil _ _, fun _ h => h.elim, fun _ _ h => h⟩
  clear u0 u1 u2 u3 t1 t2 oY gY
  obtain ⟨u0, u1, u2, u3⟩ := y1.cells
  have hYs := bY.size
  go_wp2
  clear u0 u1 u2 u3
  go_loopw [3, 13] (fun v iv wr => ∃ (j : Nat) (av : Option Addr) (cv : Nat), j ≤ n ∧ v = .slice av j cv ∧ iv = .int .i64 j ∧ FBI wr W.heap.size (.slice a n cap) r c s ∧ FBI wr (W.heap.size + 1) (.slice none 0 0) 0 0 false ∧ CRow (fun b => W.heap.size + 1 + 1 ≤ b) (W.heap.size + 1 + 1) wr (.slice av j cv) j (R.take j) ∧ Below W.heap.size W wr) (fun _ iv _ => n - (intOf iv).toNat)
  case atStart => exact ⟨0, _, _, Nat.zero_le _, rfl, rfl, y1, y2, CR0, bWY⟩
  case round =>
    obtain ⟨j, av, cv, hj, rfl, rfl, x1, x2, hcr0, hb⟩ := hrel
    have hx2 := x2.lt
    have HCR := Lib.hid hcr0
    by_cases hlt : j < n
    · obtain ⟨M, hM⟩ : ∃ M, M = nth [] R j := ⟨_, rfl⟩
      have hM' : R[j]? = some M := by rw [hM, nth_eq _ _ _ (by omega)]; exact List.getElem?_eq_getElem (by omega)
      obtain ⟨hMne, hMl⟩ := HNE.out M (List.mem_of_getElem? hM')
      obtain ⟨b, off, a2, c2, rfl, hbl, hc0, ⟨hc1, hc2⟩, hcell⟩ := HR.out.at_ j M hM'
      have HSN : Hid (R.take (j + 1) = R.take j ++ [M]) := Lib.hid (by
        rw [List.take_succ_eq_append_getElem (by omega)]
        congr 2
        exact (List.getElem?_eq_some_iff.1 hM').2)
      obtain ⟨m, hm⟩ : ∃ m, m = M.length := ⟨_, rfl⟩
      have hm1 : 1 ≤ m := by cases M with | nil => exact absurd rfl hMne | cons _ _ => rw [hm]; simp
      rw [← hm] at hc0 hc1 hMl
      unfold maxLen at hc2
      obtain ⟨b2, o2, rfl, _⟩ := hcell.addr (by omega)
      have hcr := (hb.cell (p := ⟨b, off + j, none⟩) hbl).trans hc0
      have hji : (j : Int) < (n : Int) := by omega
      have HFL : Hid ((flatV M).length = m * 7) := Lib.hid (by rw [flatV_length, ← hm, Nat.mul_comm])
      have HC2 := Lib.hid (fun (Y : World) (hY : Below wr.heap.size wr Y) => (hcell.below (bto hb hY hb.size)).news)
      have HM := Lib.hid hm
      have oE := World.ownsRow_made (base := wr.heap.size) (e := 171) (size := 7) wr #[] 0 (Nat.le_refl _) (by unfold maxLen; omega) rfl
      obtain ⟨q1, hq1⟩ : ∃ Y, wr.alloc (.cells #[] 171) = Y := ⟨_, rfl⟩
      have d1 : Below wr.heap.size wr q1 := by rw [← hq1]; exact (Below.refl _ _).alloc (Nat.le_refl _) _
      have e1 := d1.size
      rw [hq1] at oE
      clear hM hM' hm hc0 hcell hMne hcr0
      go_upto_region 5 with (fail)
      go_wp2_with (first
        | (at_builtin
           refine wpList_append_own_at _ rfl _ _ 60 rfl wr.heap.size 171 i1 GC.zero.v 7 48 Tryz.underlying60 hi1 hz01 hz11 hz21 rfl (by decide) _ _ _ rfl oE ⟨b2, o2, none⟩ m c2 (flatV M) rfl HFL.out (HC2.out _ d1) (flatV_one _) (by unfold maxLen; omega) (by omega) (by omega) ?_; intro v2 q2 oC hg2 _ _
           rw [Nat.zero_add, List.nil_append] at oC
           have d2 : Below wr.heap.size wr q2 := d1.grown hg2 (by omega) (fun k e => by have h' : some wr.heap.size = some k := e; injection h' with h'; omega)
           obtain ⟨ax, cx, rfl⟩ := own_sliceF oC
           obtain ⟨hC, hcx1, hcx2⟩ := CellsAt.of_own HM.out.symm oC
           have ha3 : ∀ b o, ax = some ⟨b, o, none⟩ → b < q2.heap.size ∧ wr.heap.size ≤ b := fun b o e => by
             obtain ⟨g1, cur, g2⟩ := own_cells oC b (congrArg (fun x => (Value.slice x m cx).ownBlock) e)
             exact ⟨(Array.getElem?_eq_some_iff.1 g2).1, g1⟩
           have hcn := row_oneK q2 (.slice ax m cx) 60
           obtain ⟨q3, hq3⟩ : ∃ Y, q2.alloc (.cells #[.slice ax m cx] 60) = Y := ⟨_, rfl⟩
           have d3' : Below q2.heap.size q2 q3 := by rw [← hq3]; exact (Below.refl _ _).alloc (Nat.le_refl _) _
           have e3 := d3'.size
           rw [hq3] at hcn
           have d3 := bto d2 d3' d2.size
           have hbs := hb.size
           have hs2 := d2.size
           have HOWN := Lib.hid (fun b o (e : ax = some ⟨b, o, none⟩) => (by
             obtain ⟨h1, h2⟩ := ha3 b o e
             refine ⟨by omega, by omega, fun e2 => ?_⟩
             have := (HCR.out.own b e2).2
             omega : b < q3.heap.size ∧ W.heap.size + 1 + 1 ≤ b ∧ (Value.slice av j cv).ownBlock ≠ some b))
           have HC3 := Lib.hid (hC.below d3')
           clear hC ha3 hg2 oC oE)
        | (at_builtin; refine wpList_append_cells rfl _ _ rfl (fun b => W.heap.size + 1 + 1 ≤ b) (W.heap.size + 1 + 1) (.slice av j cv) j (R.take j) rfl (HCR.out.below d3) q2.heap.size rfl ax m cx M hcn HC3.out HM.out.symm ⟨hcx1, hcx2⟩ (fun b o e => HOWN.out b o e) (by omega) (by omega) ?_; intro gq c' w5 hR5 hg5 hb5))
      have x5 : FBI w5 W.heap.size (.slice (some ⟨b, off, none⟩) n cap) r c s := (hb5.block _ (by omega)).trans (x1.below d3)
      have z5 : FBI w5 (W.heap.size + 1) (.slice none 0 0) 0 0 false := (hb5.block _ (by omega)).trans (x2.below d3)
      go_roundw
      case rel => exact ⟨j + 1, some ⟨gq, 0, none⟩, c', hlt, rfl, by go_num, x5, z5, by rw [HSN.out]; exact hR5, (bto hb d3 hb.size).trans (hb5.mono (by omega))⟩
      case measure => simp [intOf]; omega
    · obtain rfl : j = n := by omega
      rw [List.take_of_length_le (by omega)] at hcr0
      obtain ⟨Y1, hY1⟩ : ∃ Y, wr.setCell ⟨W.heap.size, 0, none⟩ (.slice av j cv) = Y := ⟨_, rfl⟩
      have v1 : FBI Y1 W.heap.size (.slice av j cv) r c s := by rw [← hY1]; exact x1.setRows _
      have v2 : FBI Y1 (W.heap.size + 1) (.slice none 0 0) 0 0 false := by rw [← hY1]; exact x2.oth (by omega) _
      have vo : CRow (fun b => W.heap.size + 1 + 1 ≤ b) (W.heap.size + 1 + 1) Y1 (.slice av j cv) j R := by rw [← hY1]; exact hcr0.setCell (b := W.heap.size) (by omega) (by omega) 0 _
      have vb : Below W.heap.size W Y1 := by rw [← hY1]; exact hb.setCell (p := ⟨W.heap.size, 0, none⟩) (Nat.le_refl _) _
      obtain ⟨Y, hY⟩ : ∃ Y, (((Y1.setCell ⟨W.heap.size + 1, 0, none⟩ (.slice av j cv)).setCell ⟨W.heap.size + 1, 1, none⟩ (.int .i64 r)).setCell ⟨W.heap.size + 1, 2, none⟩ (.int .i64 c)).setCell ⟨W.heap.size + 1, 3, none⟩ (.bool s) = Y := ⟨_, rfl⟩
      obtain ⟨zY, oY⟩ := v2.fillK (.slice av j cv) r c s Y hY
      have yo : CRow (fun b => W.heap.size + 1 + 1 ≤ b) (W.heap.size + 1 + 1) Y (.slice av j cv) j R := by
        rw [← hY]
        exact (((vo.setCell (b := W.heap.size + 1) (by omega) (by omega) 0 _).setCell (b := W.heap.size + 1) (by omega) (by omega) 1 _).setCell (b := W.heap.size + 1) (by omega) (by omega) 2 _).setCell (b := W.heap.size + 1) (by omega) (by omega) 3 _
      obtain ⟨ro, rc1, rc2⟩ := (yo.mono (F' := fun b => W.heap.size ≤ b) (fun b hb => by omega)).rows hl (fun b hb => by omega)
      have yb := vb.trans (oY.below (by simp) vb.size)
      have HRO := Lib.hid ro
      have HY1 := Lib.hid hY1
      have HY := Lib.hid hY
      have HKE := Lib.hid hl
      obtain ⟨u0, u1, u2, u3⟩ := x1.cells
      have f0 := x1.frozK 0
      obtain ⟨e0, e1, e2, e3⟩ := v1.cells
      have f4 := v2.frozK 0
      have f5 := v2.frozK 1
      have f6 := v2.frozK 2
      have f7 := v2.frozK 3
      obtain ⟨d0, d1, d2, d3⟩ := v2.cells
      clear hY1 hY oY hcr0 x2 yo vo ro HCR hl
      go_upto_region 8 with (fail)
      try rw [HY1.out]
      go_wp2
      try rw [HY.out]
      refine bodyPost_ret (results_cell_row rfl _ _ (W.heap.size + 1) 52 _ (0, 0) _ rfl zY Tryz.underlying52 rfl (by kernel_rfl)) rfl ?_
      exact ⟨av, cv, by rw [HKE.out], by rw [HKE.out]; exact HRO.out, by rw [HKE.out]; exact ⟨rc1, rc2⟩, yb⟩
end Go.Proofs.YtekodpcedjpnjaaGreat
