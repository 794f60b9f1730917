/- The program's Blank, Whole, Diff. No condition but that the strings are not too long for a cut. The program's Whole. No condition but that the strings are not too long for a cut. Behind the bytes from a frame to another one a terminal that showed the first shows the other; how many bytes these are. Plain. No condition. What a region's bytes make of a terminal: rows laid one behind the other, lines, a band reserved. Plain. No condition. -/
import Derived.Test.YtjkajojjehgmdaaGreatRE23
import Derived.Test.YtjkajojjehgmdaaGreatRE31
set_option linter.unusedVariables false
set_option linter.unusedSimpArgs false
namespace Go.Proofs.YtjkajojjehgmdaaGreat
open Go.RowKit Go.Shelf Go.Maps
theorem BAt_rows (w h : Nat) : rowsG (List.replicate (w * h) GC.blank) w h = List.replicate h (List.replicate w GC.blank) := by
 have h1 := (RowsOk.blank w h).rows
 rw [List.flatten_replicate_replicate, Nat.mul_comm] at h1
 exact h1
theorem FBI.load {W : World} {F : Nat} {v : Value} {r c : Int} {s : Bool} (h : FBI W F v r c s) : (loadVar 42 ⟨F, 0, none⟩).run Tryz.prog W = .ok (.agg #[v, .int .i64 r, .int .i64 c, .bool s]) W :=
 run_loadVar_row (P := Tryz.prog) W F _ 42 _ (0, 0) _ h Tryz.underlying42 rfl (by kernel_rfl)
theorem FBI.froz {W : World} {F : Nat} {v : Value} {r c : Int} {s : Bool} (h : FBI W F v r c s) : ∀ j, W.frozen? ⟨F, j, none⟩ = false := fun j => by
 unfold FBI at h
 simp [World.frozen?, h]
theorem FBI.fill {W : World} {b : Nat} {v : Value} {r c : Int} {s : Bool} (g : FBI W b v r c s) (v' : Value) (r' c' : Int) (s' : Bool) (X : World)
    (hX : (((W.setCell ⟨b, 0, none⟩ v').setCell ⟨b, 1, none⟩ (.int .i64 r')).setCell ⟨b, 2, none⟩ (.int .i64 c')).setCell ⟨b, 3, none⟩ (.bool s') = X) : FBI X b v' r' c' s' ∧ Only [b] W X := by
 subst hX
 refine ⟨?_, ((((Only.refl [b] W).setCell (.inl (by simp)) _).setCell (.inl (by simp)) _).setCell (.inl (by simp)) _).setCell (.inl (by simp)) _⟩
 unfold FBI at g ⊢
 simp only [World.setCell, Array.getElem?_modify, if_true, g, Option.map_some]
 rfl
theorem FBI.set3 {W : World} {b : Nat} {v : Value} {r c : Int} {s : Bool} (g : FBI W b v r c s) (s' : Bool) : FBI (W.setCell ⟨b, 3, none⟩ (.bool s')) b v r c s' := by
 unfold FBI at g ⊢
 simp only [World.setCell, Array.getElem?_modify, if_true, g, Option.map_some]
 rfl
theorem cellB {W X : World} {k j : Nat} (h : X.heap[k]? = W.heap[k]?) : X.cell? ⟨k, j, none⟩ = W.cell? ⟨k, j, none⟩ := by
 unfold World.cell?
 dsimp only
 rw [h]
theorem FBI.at_ {W : World} {F : Nat} {v : Value} {r c : Int} {s : Bool} (z : FBI W F v r c s) {j : Nat} {u : Value} (h : W.cell? ⟨F, j, none⟩ = some u) : u = v ∨ u = .int .i64 r ∨ u = .int .i64 c ∨ u = .bool s := by
 rw [cell_of_row W F j _ _ _ z] at h
 have h1 := (Array.mem_of_getElem? h)
 simpa using h1
theorem RowsAt.box {W X : World} {a : Option Addr} {n : Nat} {R : List (List GC)} (h : RowsAt W a n R) {F : Nat} {r c : Int} {s : Bool} (z : FBI W F (.slice none 0 0) r c s) (ho : Only [F] W X) (hne : ∀ M ∈ R, M ≠ []) : RowsAt X a n R :=
 ⟨h.len, fun i M hi => by
  obtain ⟨b, off, a2, c2, h1, h2, h3, h4, h5⟩ := h.at_ i M hi
  have hM := hne M (List.mem_of_getElem? hi)
  have hbF : b ≠ F := fun e => by
   subst e
   have h5l := h5.at_ 0 (M[0]'(by cases M with | nil => exact absurd rfl hM | cons _ _ => simp)) (List.getElem?_eq_getElem _)
   obtain ⟨_, _, e2, _⟩ := h5l
   subst e2
   rcases z.at_ h3 with h | h | h | h <;> cases h
  refine ⟨b, off, a2, c2, h1, Nat.lt_of_lt_of_le h2 ho.size, (cellB (ho.block b h2 (by simp; exact hbF))).trans h3, h4, h5.len, fun k x hk => ?_⟩
  obtain ⟨b', o', e1, e2, e3⟩ := h5.at_ k x hk
  have hbF' : b' ≠ F := fun e => by
   subst e
   have := e3 0 (.string x.s) rfl
   rcases z.at_ this with h | h | h | h <;> cases h
  exact ⟨b', o', e1, Nat.lt_of_lt_of_le e2 ho.size, fun j v hv => (cellB (ho.block b' e2 (by simp; exact hbF'))).trans (e3 j v hv)⟩⟩
def blankM (w h : Nat) : List (List GC) := List.replicate h (List.replicate w GC.blank)
def FrPost2 (R : List (List GC)) (r c : Nat) (s : Bool) (w : World) (e : Ending) (w' : World) : Prop :=
 ∃ a cap, e = .returned (.tuple #[.agg #[.slice a R.length cap, .int .i64 r, .int .i64 c, .bool s], .int .i64 0]) ∧ RowsAt w' a R.length R ∧ (R.length ≤ cap ∧ cap ≤ maxLen) ∧ Below w.heap.size w w'
set_option maxRecDepth 100000 in
set_option maxHeartbeats 4000000 in
theorem dblank_ok (a b : Nat) (h : 1 ≤ a ∧ a ≤ 500 ∧ 1 ≤ b ∧ b ≤ 60) (W : World) :
    Calls Tryz.prog 55 #[.int .i64 a, .int .i64 b] W (FrPost2 (blankM a b) 0 0 true W) := by
 have CN := Lib.hid (fun X => fnew_ok a b h X)
 have HM : Hid (rowsG (List.replicate (a * b) GC.blank) a b = blankM a b) := Lib.hid (BAt_rows a b)
 have hb := h.2.2.2
 have ha1 := h.1
 clear h
 have z0 : FBI (W.alloc (.cells #[.slice none 0 0, .int .i64 0, .int .i64 0, .bool false] 42)) W.heap.size (.slice none 0 0) 0 0 false := World.alloc_heap_new W _
 have b0 : Below W.heap.size W (W.alloc (.cells #[.slice none 0 0, .int .i64 0, .int .i64 0, .bool false] 42)) := (Below.refl _ _).alloc (Nat.le_refl _) _
 go_enter Tryz.func55, Tryz.ntmps55
 go_upto_region 1 with (fail)
 obtain ⟨X, hX⟩ : ∃ X, W.alloc (.cells #[.slice none 0 0, .int .i64 0, .int .i64 0, .bool false] 42) = X := ⟨_, rfl⟩
 rw [hX] at z0 b0 ⊢
 clear hX
 go_upto_region 4 with (go_at_call 76; refine (CN.out _).mono ?_; rintro e w1 ⟨z, p, q, rfl, ba, hge, hb1⟩)
 have CF := frame_any ba hb (by omega) (by omega)
 rw [HM.out] at CF
 have CF := Lib.hid CF
 go_upto_region 5 with (go_at_call 77; refine (CF.out).mono ?_; rintro e w2 ⟨aa, cap, rfl, hR, hcap, hb2⟩)
 have z2 := (z0.below hb1).below hb2
 have b2 := bto (bto b0 hb1 b0.size) hb2 (bto b0 hb1 b0.size).size
 have hbN : Below w2.heap.size w2 (w2.alloc (.cells #[.slice aa (blankM a b).length cap, .int .i64 0, .int .i64 0, .bool false] 42)) := (Below.refl _ _).alloc (Nat.le_refl _) _
 have zN : FBI (w2.alloc (.cells #[.slice aa (blankM a b).length cap, .int .i64 0, .int .i64 0, .bool false] 42)) w2.heap.size (.slice aa (blankM a b).length cap) 0 0 false := World.alloc_heap_new w2 _
 obtain ⟨V, hV⟩ : ∃ V, w2.alloc (.cells #[.slice aa (blankM a b).length cap, .int .i64 0, .int .i64 0, .bool false] 42) = V := ⟨_, rfl⟩
 rw [hV] at hbN zN ⊢
 clear hV
 have z3 := z2.below hbN
 have hlt2 := z2.lt
 have hf3 := zN.froz 3
 obtain ⟨_, _, _, n3⟩ := zN.cells
 have zM := zN.set3 true
 have oM : Only [w2.heap.size] V (V.setCell ⟨w2.heap.size, 3, none⟩ (.bool true)) := (Only.refl _ V).setCell (.inl (by simp)) _
 have z4 : FBI (V.setCell ⟨w2.heap.size, 3, none⟩ (.bool true)) W.heap.size (.slice none 0 0) 0 0 false := oM.heap z3 (by simp; omega)
 have hR4 : RowsAt V aa (blankM a b).length (blankM a b) := hR.below hbN
 have hb4 : Below w2.heap.size w2 (V.setCell ⟨w2.heap.size, 3, none⟩ (.bool true)) := hbN.trans (oM.below (by simp) hbN.size)
 have hR4 := hR.below hb4
 go_upto_region 6 with (fail)
 obtain ⟨V1, hV1⟩ : ∃ V1, V.setCell ⟨w2.heap.size, 3, none⟩ (.bool true) = V1 := ⟨_, rfl⟩
 rw [hV1] at zM z4 hR4 hb4 ⊢
 clear hV1 n3 hf3 oM zN z3
 obtain ⟨Y, hY⟩ : ∃ Y, (((V1.setCell ⟨W.heap.size, 0, none⟩ (.slice aa (blankM a b).length cap)).setCell ⟨W.heap.size, 1, none⟩ (.int .i64 0)).setCell ⟨W.heap.size, 2, none⟩ (.int .i64 0)).setCell ⟨W.heap.size, 3, none⟩ (.bool true) = Y := ⟨_, rfl⟩
 obtain ⟨zY, oY⟩ := z4.fill (.slice aa (blankM a b).length cap) 0 0 true Y hY
 obtain ⟨m0, m1, m2, m3⟩ := zM.cells
 obtain ⟨u0, u1, u2, u3⟩ := z4.cells
 have f0 := z4.froz 0
 have f1 := z4.froz 1
 have f2 := z4.froz 2
 have f3 := z4.froz 3
 have hne : W.heap.size ≠ w2.heap.size := by omega
 have HL := Lib.hid zY.load
 have HY := Lib.hid hY
 have hbW := bto b2 hb4 b2.size
 have FIN : Hid (Below W.heap.size W Y ∧ RowsAt Y aa (blankM a b).length (blankM a b)) := Lib.hid ⟨hbW.trans (oY.below (by simp) hbW.size), hR4.box z4 oY (fun M hM e => by
  have := (RowsOk.blank a b).w M hM
  rw [e] at this
  simp at this
  omega)⟩
 clear zY oY zM z4 hR4 hR hb4 hbW hY CN CF ba
 go_wp2
 rw [HY.out]
 refine bodyPost_ret (results_row2 rfl _ _ W.heap.size _ rfl HL.out) rfl ?_
 exact ⟨aa, cap, rfl, FIN.out.2, hcap, FIN.out.1⟩
set_option maxRecDepth 100000 in
set_option maxHeartbeats 4000000 in
theorem ddiff_any {W : World} {a1 a2 : Option Addr} {n1 n2 c1 c2 : Nat} {A B : List (List GC)} (hA : RowsAt W a1 n1 A) (hB : RowsAt W a2 n2 B) (hn1 : n1 ≤ maxLen) (hn2 : n2 ≤ maxLen) (sA : ∀ M ∈ A, ∀ c ∈ M, c.s.size ≤ 1100000) (sB : ∀ M ∈ B, ∀ c ∈ M, c.s.size ≤ 1100000) (r1 k1 r2 k2 : Int) (s1 s2 : Bool) :
    Calls Tryz.prog 39 #[.agg #[.slice a1 n1 c1, .int .i64 r1, .int .i64 k1, .bool s1], .agg #[.slice a2 n2 c2, .int .i64 r2, .int .i64 k2, .bool s2]] W fun e w' => e = .returned (.tuple #[.string (S (paintE A r1 k1 s1 B r2 k2 s2 false)), .int .i64 (errD (fitF A r1 k1 B r2 k2))]) ∧ Below W.heap.size W w' := by
 have bX : Below W.heap.size W ((W.alloc (.cells #[.slice a1 n1 c1, .int .i64 r1, .int .i64 k1, .bool s1] 42)).alloc (.cells #[.slice a2 n2 c2, .int .i64 r2, .int .i64 k2, .bool s2] 42)) := ((Below.refl _ _).alloc (Nat.le_refl _) _).alloc (by simp) _
 have CP := Lib.hid (paint_any (c1 := c1) (c2 := c2) (hA.below bX) (hB.below bX) hn1 hn2 sA sB r1 k1 r2 k2 s1 s2 false)
 have hsz : ((W.alloc (.cells #[.slice a1 n1 c1, .int .i64 r1, .int .i64 k1, .bool s1] 42)).alloc (.cells #[.slice a2 n2 c2, .int .i64 r2, .int .i64 k2, .bool s2] 42)).heap.size = W.heap.size + 1 + 1 := by simp
 clear hA hB sA sB
 go_enter Tryz.func39, Tryz.ntmps39
 go_wp2_with (go_at_call 64; refine (CP.out).mono ?_; rintro e w1 ⟨rfl, hb1⟩)
 go_ret2
 exact ⟨rfl, bto bX hb1 bX.size⟩
theorem wholeB_blank : ∀ w : Nat, wholeB (List.replicate w GC.blank) = true
 | 0 => rfl
 | w + 1 => by
  rw [List.replicate_succ, wholeB_cons, wholeB_blank w]
  kernel_rfl
theorem blankM_ok {w h : Nat} (hw : 1 ≤ w ∧ w ≤ 500) (hh : 1 ≤ h ∧ h ≤ 60) : okF (blankM w h) 0 0 = true := by
 have h0 : nth [] (blankM w h) 0 = List.replicate w GC.blank := by
  rw [nth_eq _ _ _ (by unfold blankM; simp; omega)]
  unfold blankM
  simp
 have hl : (blankM w h).length = h := by unfold blankM; simp
 unfold okF
 rw [h0, hl, List.length_replicate, decide_eq_true (by omega), Bool.true_and]
 unfold rowsOkB
 rw [List.all_eq_true]
 intro M hM
 rw [List.eq_of_mem_replicate (show M ∈ List.replicate h (List.replicate w GC.blank) from hM)]
 simp [wholeB_blank]
end Go.Proofs.YtjkajojjehgmdaaGreat
namespace Go.Proofs.YtjkajojjehgmdaaGreat
open Go.RowKit Go.Maps
theorem two_of {A B : List (List GC)} {r1 k1 r2 k2 : Int} (h : fitF A r1 k1 B r2 k2 = true) : TwoF A B (nth [] B 0).length := by
 obtain ⟨hA, hB, hn, hw⟩ := fitF_pos h
 obtain ⟨_, _, _, _, _, _, _, _, p9⟩ := okF_pos hA
 obtain ⟨_, _, _, _, _, _, _, _, q9⟩ := okF_pos hB
 rw [hw] at p9
 exact ⟨hn, p9, q9⟩
theorem paintE_len {A B : List (List GC)} {r1 k1 r2 k2 : Int} {s1 s2 al : Bool} : (paintE A r1 k1 s1 B r2 k2 s2 al).length ≤ 100 * sumS (spansE A r1 k1 B r2 k2) + 41 := by
 unfold paintE spansE
 cases h : fitF A r1 k1 B r2 k2 with
 | false => simp
 | true =>
  have TW := two_of h
  rw [if_pos rfl, if_pos rfl, List.length_append]
  have h1 := paintB_len (nth [] B 0).length B (fun M hM => whole_okC (TW.b M hM).2) r1.toNat k1.toNat (spansM A B) (fun s hs => (TW.bd hs).2.lt) r2.toNat k2.toNat
  have h2 : (if al || (s1 != s2) then seenB s2 else []).length ≤ 6 := by
   split
   ·cases s2 <;> decide
   ·exact Nat.zero_le _
  omega
theorem spansE_sum {A B : List (List GC)} {r1 k1 r2 k2 : Int} (h : fitF A r1 k1 B r2 k2 = true) : sumS (spansE A r1 k1 B r2 k2) ≤ (nth [] B 0).length * B.length := by
 have := (two_of h).sum
 rw [(fitF_pos h).2.2.1] at this
 unfold spansE
 rw [if_pos h]
 exact this
theorem whole_cells : ∀ C : List (List UInt8), (∀ c ∈ C, Clu c) → wholeB (cellsOf Sy.zero C) = true
 | [], _ => rfl
 | c :: C, h => by
  have hc := h c (List.mem_cons_self ..)
  have ih := whole_cells C (fun x hx => h x (List.mem_cons_of_mem _ hx))
  have ho := okB_clu (y := Sy.zero) hc rfl
  have hb := hc.cols
  show wholeB (cellOf Sy.zero c ++ cellsOf Sy.zero C) = true
  unfold cellOf
  split
  ·rename_i h2
   rw [h2] at ho
   show wholeB (⟨S c, 2, Sy.zero⟩ :: GC.tail Sy.zero :: cellsOf Sy.zero C) = true
   rw [wholeB_cons, ho, Bool.true_and, if_neg (show ¬ (2 : Int) = 1 by decide)]
   show (eqC (GC.tail Sy.zero) (GC.tail Sy.zero) && wholeB (cellsOf Sy.zero C)) = true
   rw [ih, Bool.and_true]
   exact eqC_self _
  ·have h1 : colsL c = 1 := by omega
   rw [h1] at ho
   show wholeB (⟨S c, 1, Sy.zero⟩ :: cellsOf Sy.zero C) = true
   rw [wholeB_cons, ho, Bool.true_and, if_pos rfl]
   exact ih
theorem cellsB_of : ∀ C : List (List UInt8), cellsB Sy.zero (cellsOf Sy.zero C) = C.flatten ∧ lastY Sy.zero (cellsOf Sy.zero C) = Sy.zero
 | [] => ⟨rfl, rfl⟩
 | c :: C => by
  obtain ⟨h1, h2⟩ := cellsB_of C
  have e : (S c).data.toList = c := by simp [S]
  have h0 : cellsOf Sy.zero (c :: C) = cellOf Sy.zero c ++ cellsOf Sy.zero C := rfl
  rw [h0]
  unfold cellOf
  split
  ·simp only [List.cons_append, List.nil_append, cellsB, lastY, if_neg (show ¬ (2 : Int) = 0 by decide), if_true, styB_self, e, h1, h2, List.flatten_cons, and_self]
  ·simp only [List.cons_append, List.nil_append, cellsB, lastY, if_neg (show ¬ (1 : Int) = 0 by decide), styB_self, e, h1, h2, List.flatten_cons, and_self]
def blR (w : Nat) : List GC := List.replicate w GC.blank
def txtR (w : Nat) (C : List (List UInt8)) : List GC := cellsOf Sy.zero C ++ List.replicate (w - (sumC C).toNat) GC.blank
structure Vr (t0 : TS) (V : List (List GC)) (t : TS) : Prop where
 k : TOk t
 W : t.W = t0.W
 H : t.H = t0.H
 R : t.R = V.drop (V.length - t0.H) ++ List.replicate (t0.H - (V.length - (V.length - t0.H))) (blR t0.W)
 row : t.row + (V.length - t0.H) + 1 = V.length
 y : t.y = Sy.zero
 gone : t.gone = t0.gone + (V.length - t0.H)
 seen : t.seen = t0.seen
 marked : t.marked = t0.marked
 bells : t.bells = t0.bells
theorem Vr.cr {t0 t : TS} {V : List (List GC)} (v : Vr t0 V t) : Vr t0 V (t.at_ t.row 0) :=
 { k := v.k.at_ v.k.row v.k.w1, W := v.W, H := v.H, R := v.R, row := v.row, y := v.y, gone := v.gone, seen := v.seen, marked := v.marked, bells := v.bells }
theorem Vr.off {t0 t : TS} {V : List (List GC)} (v : Vr t0 V t) : Vr t0 V t.off :=
 { k := v.k.off, W := v.W, H := v.H, R := v.R, row := v.row, y := v.y, gone := v.gone, seen := v.seen, marked := v.marked, bells := v.bells }
theorem Vr.lf {t0 t : TS} {V : List (List GC)} (v : Vr t0 V t) : Vr t0 (V ++ [blR t0.W]) t.off.feed ∧ t.off.feed.col = t.col ∧ t.off.feed.pend = false := by
 have hk := v.k.off.control 10
 have ek : t.off.control 10 = t.off.feed := rfl
 rw [ek] at hk
 have hr := v.row
 have hH := v.H
 have h1 := v.k.h1
 have hlen : (V ++ [blR t0.W]).length = V.length + 1 := by simp
 obtain ⟨g, hg⟩ : ∃ g, g = V.length - t0.H := ⟨_, rfl⟩
 by_cases hlt : t.row + 1 < t.H
 ·have e : t.off.feed = { t.off with pend := false, row := t.row + 1 } := if_pos hlt
  rw [e] at hk ⊢
  have hg0 : V.length - t0.H = 0 := by omega
  have hg1 : V.length + 1 - t0.H = 0 := by omega
  refine ⟨{ k := hk, W := v.W, H := v.H, R := ?_, row := ?_, y := v.y, gone := ?_, seen := v.seen, marked := v.marked, bells := v.bells }, rfl, rfl⟩
  ·show t.R = _
   rw [v.R, hlen, hg1, hg0, List.drop_zero, List.drop_zero, List.append_assoc]
   congr 1
   rw [show t0.H - (V.length - 0) = (t0.H - (V.length + 1 - 0)) + 1 by omega, List.replicate_succ]
   rfl
  ·show t.row + 1 + _ + 1 = _
   rw [hlen, hg1]; omega
  ·show t.gone = _
   rw [v.gone, hlen, hg1, hg0]
 ·have e : t.off.feed = { t.off with pend := false, R := scrollR t.W t.R 1, gone := t.gone + 1 } := if_neg hlt
  rw [e] at hk ⊢
  have hge : t0.H ≤ V.length := by omega
  have hg1 : V.length + 1 - t0.H = V.length - t0.H + 1 := by omega
  refine ⟨{ k := hk, W := v.W, H := v.H, R := ?_, row := ?_, y := v.y, gone := ?_, seen := v.seen, marked := v.marked, bells := v.bells }, rfl, rfl⟩
  ·show scrollR t.W t.R 1 = _
   unfold scrollR
   rw [v.R, v.W, hlen, hg1, show t0.H - (V.length - (V.length - t0.H)) = 0 by omega, show t0.H - (V.length + 1 - (V.length - t0.H + 1)) = 0 by omega, List.replicate_zero, List.append_nil, List.append_nil, List.drop_drop, List.drop_append_of_le_length (by omega)]
   rfl
  ·show t.row + _ + 1 = _
   rw [hlen, hg1]; omega
  ·show t.gone + 1 = _
   rw [v.gone, hlen, hg1]; omega
theorem Vr.lfs {t0 : TS} : ∀ (n : Nat) (t : TS) (V : List (List GC)), Vr t0 V t → t.pend = false → ∃ u, (∀ x, runT t (List.replicate n 10 ++ x) = runT u x) ∧ Vr t0 (V ++ List.replicate n (blR t0.W)) u ∧ u.col = t.col ∧ u.pend = false
 | 0, t, V, v, hp => ⟨t, fun _ => rfl, by rw [List.replicate_zero, List.append_nil]; exact v, rfl, hp⟩
 | n + 1, t, V, v, hp => by
  obtain ⟨h1, h2, h3⟩ := v.lf
  obtain ⟨u, u1, u2, u3, u4⟩ := Vr.lfs n _ _ h1 h3
  refine ⟨u, fun x => ?_, ?_, u3.trans h2, u4⟩
  ·rw [List.replicate_succ, show (10 :: List.replicate n 10) ++ x = [10] ++ (List.replicate n 10 ++ x) from rfl, run_lf, u1]
  ·rw [List.replicate_succ, show V ++ blR t0.W :: List.replicate n (blR t0.W) = V ++ [blR t0.W] ++ List.replicate n (blR t0.W) by rw [List.append_assoc]; rfl]
   exact u2
theorem Vr.split {t0 t : TS} {V : List (List GC)} {M : List GC} (v : Vr t0 (V ++ [M]) t) : ∃ B, t.R = V.drop (V.length + 1 - t0.H) ++ ([M] ++ List.replicate B (blR t0.W)) ∧ t.row = (V.drop (V.length + 1 - t0.H)).length ∧ (V.drop (V.length + 1 - t0.H)).length = V.length - (V.length + 1 - t0.H) ∧ B = t0.H - (V.length + 1 - (V.length + 1 - t0.H)) ∧ V.length + 1 - t0.H ≤ V.length := by
 have hR := v.R
 have hr := v.row
 have h1 := v.k.h1
 have hH := v.H
 rw [List.length_append, List.length_singleton] at hR hr
 rw [List.drop_append_of_le_length (by omega), List.append_assoc] at hR
 refine ⟨_, hR, ?_, List.length_drop, rfl, by omega⟩
 rw [List.length_drop]
 omega
theorem nth_midV {α : Type} (d : α) (P Q : List α) (x : α) : nth d (P ++ ([x] ++ Q)) P.length = x := by
 unfold nth
 rw [List.getD_eq_getElem?_getD, List.getElem?_append_right (Nat.le_refl _)]
 simp
theorem set_midV {α : Type} (P Q : List α) (x y : α) : (P ++ ([x] ++ Q)).set P.length y = P ++ ([y] ++ Q) := by
 rw [List.set_append_right _ _ (Nat.le_refl _)]
 simp
theorem seg_blank : ∀ n : Nat, Seg (List.replicate n GC.blank)
 | 0 => .nil
 | n + 1 => by rw [List.replicate_succ]; exact .one _ _ rfl (seg_blank n)
theorem Vr.text {t0 t : TS} {V : List (List GC)} (v : Vr t0 (V ++ [blR t0.W]) t) (hc : t.col = 0) (hp : t.pend = false) (C : List (List UInt8)) (hC : ∀ c ∈ C, Clu c) (hs : sumC C ≤ t0.W) :
    ∃ u, (∀ x, runT t (C.flatten ++ x) = runT u x) ∧ Vr t0 (V ++ [txtR t0.W C]) u := by
 obtain ⟨B, hR, hrow, hl, hB, hle⟩ := v.split
 have hcl := cellsOf_len Sy.zero C hC
 obtain ⟨e1, e2⟩ := cellsB_of C
 have hb := sumC_bd C
 have hw1 := v.k.w1
 obtain ⟨m, hm⟩ : ∃ m, m = (cellsOf Sy.zero C).length := ⟨_, rfl⟩
 have hm2 : m ≤ t0.W := by omega
 have hm3 : (sumC C).toNat = m := by omega
 have hnth : nth [] t.R t.row = [] ++ (List.replicate m GC.blank ++ List.replicate (t0.W - m) GC.blank) := by
  rw [hR, hrow, nth_midV, List.nil_append, List.replicate_append_replicate, show m + (t0.W - m) = t0.W by omega]
  rfl
 have hWW := v.W
 obtain ⟨u, u1, u2, u3, u4, u5, u6, u7⟩ := run_cells _ (cellsOf Sy.zero C) (List.replicate m GC.blank) [] (List.replicate (t0.W - m) GC.blank) t (Nat.le_refl _) (whole_cells C hC) (seg_blank m) (by rw [List.length_replicate, hm]) v.k (by rw [v.y]; exact may_zero) hnth ⟨by rw [hc]; simp, by rw [hp]; exact (decide_eq_false (by simp; omega)).symm⟩
 rw [v.y, e1] at u1
 refine ⟨u, u1, { k := u2, W := u7.W.trans v.W, H := u7.H.trans v.H, R := ?_, row := ?_, y := ?_, gone := ?_, seen := u7.seen.trans v.seen, marked := u7.marked.trans v.marked, bells := u7.bells.trans v.bells }⟩
 ·rw [u3, hR, hrow, set_midV, List.length_append, List.length_singleton, List.drop_append_of_le_length (by omega), List.append_assoc, hB]
  unfold txtR
  rw [hm3]
  rfl
 ·rw [u7.row]
  have := v.row
  simpa using this
 ·rw [u5, v.y, e2]
 ·rw [u7.gone]
  have := v.gone
  simpa using this
def linesB (L : List (List (List UInt8))) : List UInt8 := L.flatMap fun C => C.flatten ++ [13, 10]
theorem Vr.lines {t0 : TS} : ∀ (L : List (List (List UInt8))) (t : TS) (V : List (List GC)), Vr t0 (V ++ [blR t0.W]) t → t.col = 0 → t.pend = false → (∀ C ∈ L, (∀ c ∈ C, Clu c) ∧ sumC C ≤ t0.W) →
    ∃ u, (∀ x, runT t (linesB L ++ x) = runT u x) ∧ Vr t0 (V ++ L.map (txtR t0.W) ++ [blR t0.W]) u ∧ u.col = 0 ∧ u.pend = false
 | [], t, V, v, hc, hp, _ => ⟨t, fun _ => rfl, by rw [List.map_nil, List.append_nil]; exact v, hc, hp⟩
 | C :: L, t, V, v, hc, hp, h => by
  obtain ⟨hC, hs⟩ := h C (List.mem_cons_self ..)
  obtain ⟨a, a1, a2⟩ := v.text hc hp C hC hs
  obtain ⟨b1, b2, b3⟩ := a2.cr.lf
  obtain ⟨u, u1, u2, u3, u4⟩ := Vr.lines L _ _ b1 (b2.trans rfl) b3 (fun D hD => h D (List.mem_cons_of_mem _ hD))
  refine ⟨u, fun x => ?_, ?_, u3, u4⟩
  ·show runT t (C.flatten ++ [13, 10] ++ linesB L ++ x) = _
   rw [List.append_assoc, List.append_assoc, a1, show [13, 10] ++ (linesB L ++ x) = [13] ++ ([10] ++ (linesB L ++ x)) from rfl, run_cr, run_lf, u1]
  ·rw [List.map_cons, show V ++ txtR t0.W C :: L.map (txtR t0.W) = V ++ [txtR t0.W C] ++ L.map (txtR t0.W) by rw [List.append_assoc]; rfl]
   exact u2
theorem rep_snoc {α : Type} (n : Nat) (x : α) (T : List α) : List.replicate n x ++ x :: T = List.replicate (n + 1) x ++ T := by
 rw [List.replicate_succ', List.append_assoc]; rfl
theorem wipe_lead (w i : Nat) (c : GC) (T : List GC) : ∃ T', T'.length = T.length ∧ wipeL (List.replicate i GC.blank ++ c :: T) 0 w i = List.replicate (i + 1) GC.blank ++ T' := by
 have e1 : (List.replicate i GC.blank ++ c :: T).set i GC.blank = List.replicate (i + 1) GC.blank ++ T := by
  rw [List.set_append_right _ _ (by simp), List.length_replicate, Nat.sub_self, List.set_cons_zero, rep_snoc]
 unfold wipeL
 dsimp only
 rw [Nat.zero_add, Nat.zero_add, Nat.zero_add, e1]
 split
 ·refine ⟨T.set 0 GC.blank, by simp, ?_⟩
  rw [List.set_append_right _ _ (by simp), List.length_replicate, Nat.sub_self]
 ·split
  ·refine ⟨T, rfl, ?_⟩
   rw [List.set_append_left _ _ (by simp; omega), List.set_replicate_self]
  ·exact ⟨T, rfl, rfl⟩
theorem wipes_lead (w : Nat) : ∀ (n i : Nat) (T : List GC), T.length = n → wipes 0 w i n (List.replicate i GC.blank ++ T) = List.replicate (i + n) GC.blank
 | 0, i, T, h => by
  rw [List.length_eq_zero_iff.1 h, List.append_nil]
  rfl
 | n + 1, i, [], h => by cases h
 | n + 1, i, c :: T, h => by
  obtain ⟨T', h1, h2⟩ := wipe_lead w i c T
  rw [wipes, h2, wipes_lead w n (i + 1) T' (by rw [h1]; simpa using h)]
  congr 1
  omega
theorem erase_all {w : Nat} {M : List GC} (h : M.length = w) : eraseL M 0 w 0 w = blR w := by
 unfold eraseL
 rw [show (max (0 : Int) 0).toNat = 0 from rfl, show (min (w : Int) (w : Int)).toNat - 0 = w by omega]
 have := wipes_lead w w 0 M h
 rw [Nat.zero_add] at this
 exact this
theorem erase_row {w h : Nat} {R : List (List GC)} (ok : RowsOk w h R) {i : Nat} (hi : i < h) : eraseR w h R i 0 w = R.set i (blR w) := by
 unfold eraseR
 rw [if_pos ⟨by omega, by omega⟩]
 congr 1
 rw [show ((i : Int)).toNat = i by omega]
 exact erase_all (ok.at hi)
theorem erase_rows {w h : Nat} : ∀ (n i : Nat) (R : List (List GC)), RowsOk w h R → i + n = h → eraseRowsR w h i n R = R.take i ++ List.replicate n (blR w)
 | 0, i, R, ok, hn => by
  rw [List.replicate_zero, List.append_nil, List.take_of_length_le (by rw [ok.n]; omega)]
  rfl
 | n + 1, i, R, ok, hn => by
  show eraseRowsR w h (i + 1) n (eraseR w h R i 0 w) = _
  rw [erase_rows n (i + 1) _ (ok.erase _ _ _) (by omega), erase_row ok (by omega), List.replicate_succ, List.take_succ_eq_append_getElem (by rw [List.length_set, ok.n]; omega), List.append_assoc]
  congr 1
  ·rw [List.take_set_of_le (Nat.le_refl _)]
  ·rw [List.getElem_set_self]; rfl
def belowB : List UInt8 := [27, 91, 74]
theorem run_below {t : TS} (k : TOk t) (hc : t.col = 0) (x : List UInt8) : runT t (belowB ++ x) = runT { t with R := t.R.take t.row ++ List.replicate (t.H - t.row) (blR t.W), last := false } x := by
 have h1 := run_csi t [] x 74 (fun _ h => by cases h) (by decide) (by decide)
 rw [show ([27, 91] ++ [] ++ [74] ++ x : List UInt8) = belowB ++ x from rfl] at h1
 rw [h1]
 congr 1
 have hr := k.row
 show ({ t.off with R := eraseRowsR t.W t.H (t.row + 1) (t.H - (t.row + 1)) (eraseR t.W t.H t.R t.row t.col t.W) } : TS) = _
 have e : eraseRowsR t.W t.H (t.row + 1) (t.H - (t.row + 1)) (eraseR t.W t.H t.R t.row t.col t.W) = t.R.take t.row ++ List.replicate (t.H - t.row) (blR t.W) := by
  rw [hc]
  show eraseRowsR t.W t.H (t.row + 1) (t.H - (t.row + 1)) (eraseR t.W t.H t.R t.row 0 t.W) = _
  have := erase_rows ((t.H - (t.row + 1)) + 1) t.row t.R k.ok (by omega)
  rw [show t.H - t.row = (t.H - (t.row + 1)) + 1 by omega, ← this]
  rfl
 rw [e]
 rfl
end Go.Proofs.YtjkajojjehgmdaaGreat
