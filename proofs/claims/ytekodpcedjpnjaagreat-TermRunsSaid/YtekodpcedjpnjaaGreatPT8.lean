/- The program's terminal in memory; feed and moveTo. No condition but that the counters are not at their ends. The program's terminal: control. No condition but that the counters are not at their ends. The program's terminal: print. No condition but that the counters are not at their ends. The program's terminal: rune. No condition but that the counters are not at their ends. The program's terminal: move, eraseRows, eraseAll, eraseLine. No condition but that the counters are not at their ends. The program's terminal: move. No condition. -/
import Derived.Test.YtekodpcedjpnjaaGreatTermP
import Derived.Test.YtekodpcedjpnjaaGreatGridE
import Derived.Test.YtekodpcedjpnjaaGreatGrid8
import Derived.Test.YtekodpcedjpnjaaGreatRune5
import Derived.Test.YtekodpcedjpnjaaGreatRegT
import Derived.Test.YtekodpcedjpnjaaGreatClus6
import Derived.Test.YtekodpcedjpnjaaGreatRegM
namespace Go.Proofs.YtekodpcedjpnjaaGreat
set_option linter.unusedVariables false
set_option linter.unusedSimpArgs false
open Go.RowKit Go.Maps
def pCells (hv : Value) (p : Nat) (t : TS) : Array Value :=
  #[hv, .pointer (some ⟨p, 0, none⟩), .int .i64 t.row, .int .i64 t.col, .bool t.y.b, .bool t.y.u, .bool t.y.i, .int .i64 t.y.f, .int .i64 t.y.g, .bool t.pend, .bool (!t.seen), .bool t.marked, .int .i64 t.bells, .int .i64 t.gone, .bool t.last, .int .i64 t.lrow, .int .i64 t.lcol]
/-- A terminal that New made: its block, its grid's two. -/
structure TmAt (W : World) (b p q : Nat) (hv : Value) (t : TS) : Prop where
  blk : W.heap[b]? = some (.cells (pCells hv p t) 185 (0, 0))
  g : GridAt W p q t.W t.H t.R.flatten
  bp : b ≠ p
  bq : b ≠ q
theorem TmAt.only {W W' : World} {b p q : Nat} {hv : Value} {t : TS} {S : List Nat} (a : TmAt W b p q hv t) (ho : Only S W W') (h1 : b ∉ S) (h2 : p ∉ S) (h3 : q ∉ S) : TmAt W' b p q hv t :=
  ⟨ho.heap a.blk h1, a.g.only ho h2 h3, a.bp, a.bq⟩
theorem TmAt.below {W W' : World} {b p q : Nat} {hv : Value} {t : TS} (a : TmAt W b p q hv t) (hb : Below W.heap.size W W') : TmAt W' b p q hv t :=
  a.only (Only.of_below (S := []) hb) (by simp) (by simp) (by simp)
theorem TmAt.lt {W : World} {b p q : Nat} {hv : Value} {t : TS} (a : TmAt W b p q hv t) : b < W.heap.size ∧ p < W.heap.size ∧ q < W.heap.size :=
  ⟨(Array.getElem?_eq_some_iff.1 a.blk).1, (Array.getElem?_eq_some_iff.1 a.g.head).1, a.g.blk.lt⟩
theorem TmAt.cells {W : World} {b p q : Nat} {hv : Value} {t : TS} (a : TmAt W b p q hv t) :
    W.cell? ⟨b, 0, none⟩ = some hv ∧ W.cell? ⟨b, 1, none⟩ = some (.pointer (some ⟨p, 0, none⟩)) ∧ W.cell? ⟨b, 2, none⟩ = some (.int .i64 t.row) ∧ W.cell? ⟨b, 3, none⟩ = some (.int .i64 t.col) ∧ W.cell? ⟨b, 4, none⟩ = some (.bool t.y.b) ∧ W.cell? ⟨b, 5, none⟩ = some (.bool t.y.u) ∧
    W.cell? ⟨b, 6, none⟩ = some (.bool t.y.i) ∧ W.cell? ⟨b, 7, none⟩ = some (.int .i64 t.y.f) ∧ W.cell? ⟨b, 8, none⟩ = some (.int .i64 t.y.g) ∧ W.cell? ⟨b, 9, none⟩ = some (.bool t.pend) ∧ W.cell? ⟨b, 10, none⟩ = some (.bool (!t.seen)) ∧ W.cell? ⟨b, 11, none⟩ = some (.bool t.marked) ∧
    W.cell? ⟨b, 12, none⟩ = some (.int .i64 t.bells) ∧ W.cell? ⟨b, 13, none⟩ = some (.int .i64 t.gone) ∧ W.cell? ⟨b, 14, none⟩ = some (.bool t.last) ∧ W.cell? ⟨b, 15, none⟩ = some (.int .i64 t.lrow) ∧ W.cell? ⟨b, 16, none⟩ = some (.int .i64 t.lcol) ∧ ∀ j, W.frozen? ⟨b, j, none⟩ = false := by
  have h := a.blk
  refine ⟨?_, ?_, ?_, ?_, ?_, ?_, ?_, ?_, ?_, ?_, ?_, ?_, ?_, ?_, ?_, ?_, ?_, fun j => by simp [World.frozen?, h]⟩ <;> rw [cell_of_row W b _ _ _ _ h] <;> rfl
/-- A cell of the terminal is written. -/
theorem TmAt.put {W : World} {b p q : Nat} {hv : Value} {t : TS} (a : TmAt W b p q hv t) (o : Nat) (v : Value) (hv' : Value) (t' : TS) (he : (pCells hv p t).setIfInBounds o v = pCells hv' p t') (hW : t'.W = t.W) (hH : t'.H = t.H) (hR : t'.R = t.R) : TmAt (W.setCell ⟨b, o, none⟩ v) b p q hv' t' :=
  have o1 : Only [b] W (W.setCell ⟨b, o, none⟩ v) := (Only.refl [b] W).setCell (.inl (by simp)) v
  ⟨by rw [set_at a.blk, he], by rw [hW, hH, hR]; exact a.g.only o1 (by simpa using Ne.symm a.bp) (by simpa using Ne.symm a.bq), a.bp, a.bq⟩
/-- The grid is written. -/
theorem TmAt.grid {W W' : World} {b p q : Nat} {hv : Value} {t : TS} (a : TmAt W b p q hv t) (o : Only [q] W W') (R : List (List GC)) (g : GridAt W' p q t.W t.H R.flatten) : TmAt W' b p q hv { t with R := R } :=
  ⟨o.heap a.blk (by simp; exact a.bq), g, a.bp, a.bq⟩
theorem Only.ob {b q : Nat} {W W' : World} (h : Only [b] W W') : Only [b, q] W W' := h.mono (by simp)
theorem Only.oq {b q : Nat} {W W' : World} (h : Only [q] W W') : Only [b, q] W W' := h.mono (by simp)
theorem Only.on {b q : Nat} {W W' : World} (h : Below W.heap.size W W') : Only [b, q] W W' := Only.of_below h
theorem set_only (W : World) (b o : Nat) (v : Value) : Only [b] W (W.setCell ⟨b, o, none⟩ v) := (Only.refl [b] W).setCell (.inl (by simp)) v
/-- What a method that tells nothing leaves. -/
def TmPost (b p q : Nat) (hv : Value) (t : TS) (W : World) (e : Ending) (w' : World) : Prop := e = .returned (.tuple #[]) ∧ TmAt w' b p q hv t ∧ Only [b, q] W w'
theorem moved_at {X : World} {b p q : Nat} {hv : Value} {t : TS} (a : TmAt X b p q hv t) (r c x y : Int) (hx : x = max 0 (min r ((t.H : Int) - 1))) (hy : y = max 0 (min c ((t.W : Int) - 1))) :
    TmAt (((X.setCell ⟨b, 2, none⟩ (.int .i64 x)).setCell ⟨b, 3, none⟩ (.int .i64 y)).setCell ⟨b, 9, none⟩ (.bool false)) b p q hv (t.moved r c) ∧ Only [b] X (((X.setCell ⟨b, 2, none⟩ (.int .i64 x)).setCell ⟨b, 3, none⟩ (.int .i64 y)).setCell ⟨b, 9, none⟩ (.bool false)) := by
  refine ⟨?_, ((set_only _ _ _ _).trans (set_only _ _ _ _)).trans (set_only _ _ _ _)⟩
  have ex : x = (((max 0 (min r ((t.H : Int) - 1))).toNat : Nat) : Int) := by omega
  have ey : y = (((max 0 (min c ((t.W : Int) - 1))).toNat : Nat) : Int) := by omega
  rw [ex, ey]
  exact ((a.put 2 _ hv { t with row := (max 0 (min r ((t.H : Int) - 1))).toNat } rfl rfl rfl rfl).put 3 _ hv { t with row := (max 0 (min r ((t.H : Int) - 1))).toNat, col := (max 0 (min c ((t.W : Int) - 1))).toNat } rfl rfl rfl rfl).put 9 _ hv (t.moved r c) rfl rfl rfl rfl
set_option maxRecDepth 100000 in
set_option maxHeartbeats 4000000 in
theorem pmoveTo_any {W : World} {b p q : Nat} {hv : Value} {t : TS} (a : TmAt W b p q hv t) (ok : TO0 t) (r c : Int) (hr : -1000000 ≤ r ∧ r ≤ 1000000) (hc : -1000000 ≤ c ∧ c ≤ 1000000) :
    Calls Tryz.prog 125 #[.pointer (some ⟨b, 0, none⟩), .int .i64 r, .int .i64 c] W (TmPost b p q hv (t.moved r c) W) := by
  obtain ⟨c0, c1, c2, c3, c4, c5, c6, c7, c8, c9, c10, c11, c12, c13, c14, c15, c16, fz⟩ := a.cells
  have CS := Lib.hid (gsize_any a.g)
  have AA := Lib.hid a
  have hw2 := ok.w2
  have hh2 := ok.h2
  have hw1 := ok.w1
  have hh1 := ok.h1
  clear a ok
  go_enter Tryz.func125, Tryz.ntmps125
  go_upto_region 1 with (go_at_call 86; refine (CS.out).mono ?_; rintro e X ⟨rfl, hb⟩)
  have aX := AA.out.below hb
  clear c0 c1 c2 c3 c4 c5 c6 c7 c8 c9 c10 c11 c12 c13 c14 c15 c16 fz
  obtain ⟨c0, c1, c2, c3, c4, c5, c6, c7, c8, c9, c10, c11, c12, c13, c14, c15, c16, fz⟩ := aX.cells
  clear AA CS
  go_wp2
  all_goals
    go_end0
    refine ⟨rfl, (moved_at aX r c _ _ ?_ ?_).1, (Only.on hb).trans (moved_at aX r c _ _ ?_ ?_).2.ob⟩ <;> omega
set_option maxRecDepth 100000 in
set_option maxHeartbeats 4000000 in
theorem pfeed_any {W : World} {b p q : Nat} {hv : Value} {t : TS} (a : TmAt W b p q hv t) (ok : TO0 t) (hg : t.gone < 4611686018427387904) :
    Calls Tryz.prog 225 #[.pointer (some ⟨b, 0, none⟩)] W (TmPost b p q hv t.feed W) := by
  obtain ⟨c0, c1, c2, c3, c4, c5, c6, c7, c8, c9, c10, c11, c12, c13, c14, c15, c16, fz⟩ := a.cells
  have CS := Lib.hid (gsize_any a.g)
  have AA := Lib.hid a
  have hw2 := ok.w2
  have hh2 := ok.h2
  have hw1 := ok.w1
  have hh1 := ok.h1
  have hrow := ok.row
  have HOK := Lib.hid ok.ok
  clear a ok
  go_enter Tryz.func225, Tryz.ntmps225
  go_upto_region 1 with (go_at_call 86; refine (CS.out).mono ?_; rintro e X ⟨rfl, hb⟩)
  have aX := AA.out.below hb
  clear c0 c1 c2 c3 c4 c5 c6 c7 c8 c9 c10 c11 c12 c13 c14 c15 c16 fz AA CS
  obtain ⟨c0, c1, c2, c3, c4, c5, c6, c7, c8, c9, c10, c11, c12, c13, c14, c15, c16, fz⟩ := aX.cells
  have a1 := aX.put 9 (.bool false) hv { t with pend := false } rfl rfl rfl rfl
  have o1 := set_only X b 9 (.bool false)
  by_cases hlt : t.row + 1 < t.H
  · have hli : (t.row : Int) + 1 < (t.H : Int) := by omega
    have HT : Hid (t.feed = { t with pend := false, row := t.row + 1 }) := Lib.hid (by unfold TS.feed; rw [if_pos hlt])
    have a2 := a1.put 2 (.int .i64 ((t.row + 1 : Nat) : Int)) hv { t with pend := false, row := t.row + 1 } rfl rfl rfl rfl
    have o2 := set_only (X.setCell ⟨b, 9, none⟩ (.bool false)) b 2 (.int .i64 ((t.row + 1 : Nat) : Int))
    go_wp2
    (try simp only [Exit.inBlock, Exit.then]); refine bodyPost_ret (results_none rfl _ _ _) rfl ?_
    have e1 : ((t.row : Int) + 1) = ((t.row + 1 : Nat) : Int) := by omega
    rw [e1]
    exact ⟨rfl, by rw [HT.out]; exact a2, (Only.on hb).trans (o1.trans o2).ob⟩
  · have hli : ¬ (t.row : Int) + 1 < (t.H : Int) := by omega
    have HT : Hid (t.feed = { t with pend := false, R := scrollR t.W t.R 1, gone := t.gone + 1 }) := Lib.hid (by unfold TS.feed; rw [if_neg hlt])
    have CC := scroll_any a1.g 1 1 (by show (1 : Int) = max 0 (min 1 (t.H : Int)); omega)
    have CC := Lib.hid CC
    have hf : (scrollR t.W t.R 1).flatten = scrollL t.R.flatten t.W 1 := HOK.out.scroll_flat (by omega)
    go_wp2_with (go_at_call 260; refine (CC.out).mono ?_; rintro e Y ⟨rfl, gY, oY⟩; have aY := a1.grid oY (scrollR t.W t.R 1) (by rw [hf]; exact gY); obtain ⟨_, d1, d2, d3, d4, d5, d6, d7, d8, d9, d10, d11, d12, d13, d14, d15, d16, fy⟩ := aY.cells)
    have a2 := aY.put 13 (.int .i64 ((t.gone + 1 : Nat) : Int)) hv { t with pend := false, R := scrollR t.W t.R 1, gone := t.gone + 1 } rfl rfl rfl rfl
    have o2 := set_only Y b 13 (.int .i64 ((t.gone + 1 : Nat) : Int))
    go_end0
    exact ⟨rfl, by rw [HT.out]; exact a2, (Only.on hb).trans (o1.ob.trans (oY.oq.trans o2.ob))⟩
end Go.Proofs.YtekodpcedjpnjaaGreat
namespace Go.Proofs.YtekodpcedjpnjaaGreat
set_option linter.unusedVariables false
set_option linter.unusedSimpArgs false
open Go.RowKit Go.Maps
theorem col_at {X : World} {b p q : Nat} {hv : Value} {t : TS} (a : TmAt X b p q hv t) (c' : Nat) (x : Int) (hx : x = (c' : Int)) :
    TmAt ((X.setCell ⟨b, 3, none⟩ (.int .i64 x)).setCell ⟨b, 9, none⟩ (.bool false)) b p q hv { t with col := c', pend := false } ∧ Only [b] X ((X.setCell ⟨b, 3, none⟩ (.int .i64 x)).setCell ⟨b, 9, none⟩ (.bool false)) := by
  subst hx
  exact ⟨(a.put 3 _ hv { t with col := c' } rfl rfl rfl rfl).put 9 _ hv { t with col := c', pend := false } rfl rfl rfl rfl, (set_only _ _ _ _).trans (set_only _ _ _ _)⟩
set_option maxRecDepth 100000 in
set_option maxHeartbeats 4000000 in
theorem pctl7 {W : World} {b p q : Nat} {hv : Value} {t : TS} (a : TmAt W b p q hv t) (ok : TO0 t) (hg : t.gone < 4611686018427387904) (hbl : t.bells < 4611686018427387904) :
    Calls Tryz.prog 184 #[.pointer (some ⟨b, 0, none⟩), .int .u8 7] W (TmPost b p q hv ({ t with last := false, bells := t.bells + 1 }) W) := by
  obtain ⟨c0, c1, c2, c3, c4, c5, c6, c7, c8, c9, c10, c11, c12, c13, c14, c15, c16, fz⟩ := a.cells
  have a1 := a.put 14 (.bool false) hv { t with last := false } rfl rfl rfl rfl
  have o1 := set_only W b 14 (.bool false)
  have CS := Lib.hid (gsize_any a1.g)
  have OK := Lib.hid ok
  have hw2 := ok.w2
  have hh2 := ok.h2
  have hw1 := ok.w1
  have hh1 := ok.h1
  have hcol := ok.col
  clear ok a
  go_enter Tryz.func184, Tryz.ntmps184
  go_upto_region 2 with (go_at_call 86; refine (CS.out).mono ?_; rintro e X ⟨rfl, hb⟩)
  have aX := a1.below hb
  have oX : Only [b, q] W X := (o1.ob (q := q)).trans (Only.on hb)
  clear c0 c1 c2 c3 c4 c5 c6 c7 c8 c9 c10 c11 c12 c13 c14 c15 c16 fz CS a1
  obtain ⟨c0, c1, c2, c3, c4, c5, c6, c7, c8, c9, c10, c11, c12, c13, c14, c15, c16, fz⟩ := aX.cells
  dsimp only at c1 c2 c3 c4 c5 c6 c7 c8 c9 c10 c11 c12 c13 c14 c15 c16 fz
  have hbi : (t.bells : Int) + 1 < 9223372036854775807 := by omega
  go_wp2
  go_end0
  have e1 : ((t.bells : Int) + 1) = ((t.bells + 1 : Nat) : Int) := by omega
  rw [e1]
  exact ⟨rfl, aX.put 12 _ hv { t with last := false, bells := t.bells + 1 } rfl rfl rfl rfl, oX.trans (set_only _ _ _ _).ob⟩
set_option maxRecDepth 100000 in
set_option maxHeartbeats 4000000 in
theorem pctl8 {W : World} {b p q : Nat} {hv : Value} {t : TS} (a : TmAt W b p q hv t) (ok : TO0 t) (hg : t.gone < 4611686018427387904) (hbl : t.bells < 4611686018427387904) (C' : Nat) (hC' : (C' : Int) = max 0 ((t.col : Int) - 1)) :
    Calls Tryz.prog 184 #[.pointer (some ⟨b, 0, none⟩), .int .u8 8] W (TmPost b p q hv ({ t with last := false, col := C', pend := false }) W) := by
  obtain ⟨c0, c1, c2, c3, c4, c5, c6, c7, c8, c9, c10, c11, c12, c13, c14, c15, c16, fz⟩ := a.cells
  have a1 := a.put 14 (.bool false) hv { t with last := false } rfl rfl rfl rfl
  have o1 := set_only W b 14 (.bool false)
  have CS := Lib.hid (gsize_any a1.g)
  have OK := Lib.hid ok
  have hw2 := ok.w2
  have hh2 := ok.h2
  have hw1 := ok.w1
  have hh1 := ok.h1
  have hcol := ok.col
  have HC := Lib.hid hC'
  clear ok a hC'
  go_enter Tryz.func184, Tryz.ntmps184
  go_upto_region 2 with (go_at_call 86; refine (CS.out).mono ?_; rintro e X ⟨rfl, hb⟩)
  have aX := a1.below hb
  have oX : Only [b, q] W X := (o1.ob (q := q)).trans (Only.on hb)
  clear c0 c1 c2 c3 c4 c5 c6 c7 c8 c9 c10 c11 c12 c13 c14 c15 c16 fz CS a1
  obtain ⟨c0, c1, c2, c3, c4, c5, c6, c7, c8, c9, c10, c11, c12, c13, c14, c15, c16, fz⟩ := aX.cells
  dsimp only at c1 c2 c3 c4 c5 c6 c7 c8 c9 c10 c11 c12 c13 c14 c15 c16 fz
  go_wp2
  all_goals
    go_end0
    refine ⟨rfl, (col_at aX C' _ ?_).1, oX.trans (col_at aX C' _ ?_).2.ob⟩ <;> (have := HC.out; omega)
set_option maxRecDepth 100000 in
set_option maxHeartbeats 4000000 in
theorem pctl9 {W : World} {b p q : Nat} {hv : Value} {t : TS} (a : TmAt W b p q hv t) (ok : TO0 t) (hg : t.gone < 4611686018427387904) (hbl : t.bells < 4611686018427387904) (C' : Nat) (hC' : (C' : Int) = min ((t.W : Int) - 1) ((t.col : Int) / 8 * 8 + 8)) :
    Calls Tryz.prog 184 #[.pointer (some ⟨b, 0, none⟩), .int .u8 9] W (TmPost b p q hv ({ t with last := false, col := C', pend := false }) W) := by
  obtain ⟨c0, c1, c2, c3, c4, c5, c6, c7, c8, c9, c10, c11, c12, c13, c14, c15, c16, fz⟩ := a.cells
  have a1 := a.put 14 (.bool false) hv { t with last := false } rfl rfl rfl rfl
  have o1 := set_only W b 14 (.bool false)
  have CS := Lib.hid (gsize_any a1.g)
  have OK := Lib.hid ok
  have hw2 := ok.w2
  have hh2 := ok.h2
  have hw1 := ok.w1
  have hh1 := ok.h1
  have hcol := ok.col
  have HC := Lib.hid hC'
  have hq : 0 ≤ (t.col : Int) := by omega
  clear ok a hC'
  go_enter Tryz.func184, Tryz.ntmps184
  go_upto_region 2 with (go_at_call 86; refine (CS.out).mono ?_; rintro e X ⟨rfl, hb⟩)
  have aX := a1.below hb
  have oX : Only [b, q] W X := (o1.ob (q := q)).trans (Only.on hb)
  clear c0 c1 c2 c3 c4 c5 c6 c7 c8 c9 c10 c11 c12 c13 c14 c15 c16 fz CS a1
  obtain ⟨c0, c1, c2, c3, c4, c5, c6, c7, c8, c9, c10, c11, c12, c13, c14, c15, c16, fz⟩ := aX.cells
  dsimp only at c1 c2 c3 c4 c5 c6 c7 c8 c9 c10 c11 c12 c13 c14 c15 c16 fz
  go_wp2
  all_goals
    go_end0
    refine ⟨rfl, (col_at aX C' _ ?_).1, oX.trans (col_at aX C' _ ?_).2.ob⟩ <;> (have := HC.out; omega)
set_option maxRecDepth 100000 in
set_option maxHeartbeats 4000000 in
theorem pctl10 {W : World} {b p q : Nat} {hv : Value} {t : TS} (a : TmAt W b p q hv t) (ok : TO0 t) (hg : t.gone < 4611686018427387904) (hbl : t.bells < 4611686018427387904) :
    Calls Tryz.prog 184 #[.pointer (some ⟨b, 0, none⟩), .int .u8 10] W (TmPost b p q hv (t.off.feed) W) := by
  obtain ⟨c0, c1, c2, c3, c4, c5, c6, c7, c8, c9, c10, c11, c12, c13, c14, c15, c16, fz⟩ := a.cells
  have a1 := a.put 14 (.bool false) hv { t with last := false } rfl rfl rfl rfl
  have o1 := set_only W b 14 (.bool false)
  have CS := Lib.hid (gsize_any a1.g)
  have OK := Lib.hid ok
  have hw2 := ok.w2
  have hh2 := ok.h2
  have hw1 := ok.w1
  have hh1 := ok.h1
  have hcol := ok.col
  clear ok a
  go_enter Tryz.func184, Tryz.ntmps184
  go_upto_region 2 with (go_at_call 86; refine (CS.out).mono ?_; rintro e X ⟨rfl, hb⟩)
  have aX := a1.below hb
  have oX : Only [b, q] W X := (o1.ob (q := q)).trans (Only.on hb)
  clear c0 c1 c2 c3 c4 c5 c6 c7 c8 c9 c10 c11 c12 c13 c14 c15 c16 fz CS a1
  obtain ⟨c0, c1, c2, c3, c4, c5, c6, c7, c8, c9, c10, c11, c12, c13, c14, c15, c16, fz⟩ := aX.cells
  dsimp only at c1 c2 c3 c4 c5 c6 c7 c8 c9 c10 c11 c12 c13 c14 c15 c16 fz
  have okX : TO0 { t with last := false } := ⟨OK.out.w1, OK.out.w2, OK.out.h1, OK.out.h2, OK.out.ok, OK.out.ro, OK.out.row, OK.out.col⟩
  have CF := Lib.hid (pfeed_any aX okX hg)
  go_wp2_with (go_at_call 225; refine (CF.out).mono ?_; rintro e Y ⟨rfl, aY, oY⟩)
  go_end0
  exact ⟨rfl, aY, oX.trans oY⟩
set_option maxRecDepth 100000 in
set_option maxHeartbeats 4000000 in
theorem pctl13 {W : World} {b p q : Nat} {hv : Value} {t : TS} (a : TmAt W b p q hv t) (ok : TO0 t) (hg : t.gone < 4611686018427387904) (hbl : t.bells < 4611686018427387904) :
    Calls Tryz.prog 184 #[.pointer (some ⟨b, 0, none⟩), .int .u8 13] W (TmPost b p q hv ({ t with last := false, col := 0, pend := false }) W) := by
  obtain ⟨c0, c1, c2, c3, c4, c5, c6, c7, c8, c9, c10, c11, c12, c13, c14, c15, c16, fz⟩ := a.cells
  have a1 := a.put 14 (.bool false) hv { t with last := false } rfl rfl rfl rfl
  have o1 := set_only W b 14 (.bool false)
  have CS := Lib.hid (gsize_any a1.g)
  have OK := Lib.hid ok
  have hw2 := ok.w2
  have hh2 := ok.h2
  have hw1 := ok.w1
  have hh1 := ok.h1
  have hcol := ok.col
  clear ok a
  go_enter Tryz.func184, Tryz.ntmps184
  go_upto_region 2 with (go_at_call 86; refine (CS.out).mono ?_; rintro e X ⟨rfl, hb⟩)
  have aX := a1.below hb
  have oX : Only [b, q] W X := (o1.ob (q := q)).trans (Only.on hb)
  clear c0 c1 c2 c3 c4 c5 c6 c7 c8 c9 c10 c11 c12 c13 c14 c15 c16 fz CS a1
  obtain ⟨c0, c1, c2, c3, c4, c5, c6, c7, c8, c9, c10, c11, c12, c13, c14, c15, c16, fz⟩ := aX.cells
  dsimp only at c1 c2 c3 c4 c5 c6 c7 c8 c9 c10 c11 c12 c13 c14 c15 c16 fz
  go_wp2
  go_end0
  exact ⟨rfl, (col_at aX 0 0 rfl).1, oX.trans (col_at aX 0 0 rfl).2.ob⟩
set_option maxRecDepth 100000 in
set_option maxHeartbeats 4000000 in
theorem pctl0 {W : World} {b p q : Nat} {hv : Value} {t : TS} (a : TmAt W b p q hv t) (ok : TO0 t) (hg : t.gone < 4611686018427387904) (hbl : t.bells < 4611686018427387904) (n : Nat) (hn : n < 256) (k7 : ((n : Int) == 7) = false) (k8 : ((n : Int) == 8) = false) (k9 : ((n : Int) == 9) = false) (k10 : ((n : Int) == 10) = false) (k13 : ((n : Int) == 13) = false) :
    Calls Tryz.prog 184 #[.pointer (some ⟨b, 0, none⟩), .int .u8 (n : Int)] W (TmPost b p q hv ({ t with last := false }) W) := by
  obtain ⟨c0, c1, c2, c3, c4, c5, c6, c7, c8, c9, c10, c11, c12, c13, c14, c15, c16, fz⟩ := a.cells
  have a1 := a.put 14 (.bool false) hv { t with last := false } rfl rfl rfl rfl
  have o1 := set_only W b 14 (.bool false)
  have CS := Lib.hid (gsize_any a1.g)
  have OK := Lib.hid ok
  have hw2 := ok.w2
  have hh2 := ok.h2
  have hw1 := ok.w1
  have hh1 := ok.h1
  have hcol := ok.col
  clear ok a
  go_enter Tryz.func184, Tryz.ntmps184
  go_upto_region 2 with (go_at_call 86; refine (CS.out).mono ?_; rintro e X ⟨rfl, hb⟩)
  have aX := a1.below hb
  have oX : Only [b, q] W X := (o1.ob (q := q)).trans (Only.on hb)
  clear c0 c1 c2 c3 c4 c5 c6 c7 c8 c9 c10 c11 c12 c13 c14 c15 c16 fz CS a1
  obtain ⟨c0, c1, c2, c3, c4, c5, c6, c7, c8, c9, c10, c11, c12, c13, c14, c15, c16, fz⟩ := aX.cells
  dsimp only at c1 c2 c3 c4 c5 c6 c7 c8 c9 c10 c11 c12 c13 c14 c15 c16 fz
  go_wp2
  go_end0
  exact ⟨rfl, aX, oX⟩
theorem pcontrol_any {W : World} {b p q : Nat} {hv : Value} {t : TS} (a : TmAt W b p q hv t) (ok : TO0 t) (hg : t.gone < 4611686018427387904) (hbl : t.bells < 4611686018427387904) (n : Nat) (hn : n < 256) :
    Calls Tryz.prog 184 #[.pointer (some ⟨b, 0, none⟩), .int .u8 (n : Int)] W (TmPost b p q hv (t.control n) W) := by
  unfold TS.control
  by_cases h7 : n = 7
  · subst h7; rw [if_pos rfl]; exact pctl7 (t := t) a ok hg hbl
  rw [if_neg h7]
  by_cases h8 : n = 8
  · subst h8; rw [if_pos rfl]; exact pctl8 (t := t) a ok hg hbl _ (by omega)
  rw [if_neg h8]
  by_cases h9 : n = 9
  · subst h9; rw [if_pos rfl]; exact pctl9 (t := t) a ok hg hbl _ (by have := ok.w1; omega)
  rw [if_neg h9]
  by_cases h10 : n = 10
  · subst h10; rw [if_pos rfl]; exact pctl10 a ok hg hbl
  rw [if_neg h10]
  by_cases h13 : n = 13
  · subst h13; rw [if_pos rfl]; exact pctl13 (t := t) a ok hg hbl
  rw [if_neg h13]
  exact pctl0 (t := t) a ok hg hbl n hn (by simpa using by omega) (by simpa using by omega) (by simpa using by omega) (by simpa using by omega) (by simpa using by omega)
end Go.Proofs.YtekodpcedjpnjaaGreat
namespace Go.Proofs.YtekodpcedjpnjaaGreat
set_option linter.unusedVariables false
set_option linter.unusedSimpArgs false
open Go.RowKit Go.Maps
/-- The terminal's block. -/
def PBk (W : World) (b : Nat) (cs : Array Value) : Prop := W.heap[b]? = some (.cells cs 185 (0, 0))
theorem PBk.lt {W : World} {b : Nat} {cs : Array Value} (h : PBk W b cs) : b < W.heap.size := (Array.getElem?_eq_some_iff.1 h).1
theorem PBk.below {W W' : World} {b : Nat} {cs : Array Value} (h : PBk W b cs) (hb : Below W.heap.size W W') : PBk W' b cs := (hb.block b h.lt).trans h
theorem PBk.cells {W : World} {b p : Nat} {hv : Value} {t : TS} (h : PBk W b (pCells hv p t)) :
    W.cell? ⟨b, 0, none⟩ = some hv ∧ W.cell? ⟨b, 1, none⟩ = some (.pointer (some ⟨p, 0, none⟩)) ∧ W.cell? ⟨b, 2, none⟩ = some (.int .i64 t.row) ∧ W.cell? ⟨b, 3, none⟩ = some (.int .i64 t.col) ∧ W.cell? ⟨b, 4, none⟩ = some (.bool t.y.b) ∧ W.cell? ⟨b, 5, none⟩ = some (.bool t.y.u) ∧
    W.cell? ⟨b, 6, none⟩ = some (.bool t.y.i) ∧ W.cell? ⟨b, 7, none⟩ = some (.int .i64 t.y.f) ∧ W.cell? ⟨b, 8, none⟩ = some (.int .i64 t.y.g) ∧ W.cell? ⟨b, 9, none⟩ = some (.bool t.pend) ∧ W.cell? ⟨b, 10, none⟩ = some (.bool (!t.seen)) ∧ W.cell? ⟨b, 11, none⟩ = some (.bool t.marked) ∧
    W.cell? ⟨b, 12, none⟩ = some (.int .i64 t.bells) ∧ W.cell? ⟨b, 13, none⟩ = some (.int .i64 t.gone) ∧ W.cell? ⟨b, 14, none⟩ = some (.bool t.last) ∧ W.cell? ⟨b, 15, none⟩ = some (.int .i64 t.lrow) ∧ W.cell? ⟨b, 16, none⟩ = some (.int .i64 t.lcol) ∧ ∀ j, W.frozen? ⟨b, j, none⟩ = false := by
  unfold PBk at h
  refine ⟨?_, ?_, ?_, ?_, ?_, ?_, ?_, ?_, ?_, ?_, ?_, ?_, ?_, ?_, ?_, ?_, ?_, fun j => by simp [World.frozen?, h]⟩ <;> rw [cell_of_row W b _ _ _ _ h] <;> rfl
theorem lay_off (t : TS) (r : Nat) (z : Int) : ((t.off.room z).lay r z) = ((t.room z).lay r z) := by
  unfold TS.room TS.off TS.feed TS.lay
  dsimp only
  split <;> (try split) <;> rfl
set_option maxRecDepth 100000 in
set_option maxHeartbeats 8000000 in
theorem pprint_wide {W : World} {b p q : Nat} {hv : Value} {t : TS} (a : TmAt W b p q hv t) (r : Int) (z : Int) (hw : (t.W : Int) < z) :
    Calls Tryz.prog 227 #[.pointer (some ⟨b, 0, none⟩), .int .i32 r, .int .i64 z] W (TmPost b p q hv t.off W) := by
  obtain ⟨c0, c1, c2, c3, c4, c5, c6, c7, c8, c9, c10, c11, c12, c13, c14, c15, c16, fz⟩ := a.cells
  have CS := Lib.hid (gsize_any a.g)
  have AA := Lib.hid a
  clear a
  go_enter Tryz.func227, Tryz.ntmps227
  go_upto_region 1 with (go_at_call 86; refine (CS.out).mono ?_; rintro e X ⟨rfl, hb⟩)
  have aX := AA.out.below hb
  clear c0 c1 c2 c3 c4 c5 c6 c7 c8 c9 c10 c11 c12 c13 c14 c15 c16 fz AA CS
  obtain ⟨c0, c1, c2, c3, c4, c5, c6, c7, c8, c9, c10, c11, c12, c13, c14, c15, c16, fz⟩ := aX.cells
  go_wp2
  (try simp only [Exit.inBlock, Exit.then]); refine bodyPost_ret (results_none rfl _ _ _) rfl ?_
  exact ⟨rfl, aX.put 14 (.bool false) hv t.off rfl rfl rfl rfl, (Only.on hb).trans (set_only _ _ _ _).ob⟩
/-- What stands behind the making of room. -/
def RoomQ (W : World) (b p q : Nat) (hv : Value) (t : TS) (X : World) : Prop := TmAt X b p q hv t ∧ Only [b, q] W X
set_option maxRecDepth 100000 in
set_option maxHeartbeats 8000000 in
theorem pprint_ok {W : World} {b p q : Nat} {hv : Value} {t : TS} (a : TmAt W b p q hv t) (ok : TOk t) (hg : t.gone < 4611686018427387904) (r : Nat) (hr : r ≤ 1114111) (hi : isR (r : Int) = true) (z : Int) (hz1 : 1 ≤ z) (hz2 : z ≤ 2) (hw : z ≤ t.W) :
    Calls Tryz.prog 227 #[.pointer (some ⟨b, 0, none⟩), .int .i32 (r : Int), .int .i64 z] W (TmPost b p q hv ((t.room z).lay r z) W) := by
  rw [← lay_off]
  obtain ⟨okr, hpr, hWr, hHr, hcr, _, hgr⟩ := ok.off.room (w := z) hz1 hw
  obtain ⟨T1, hT1⟩ : ∃ T1, T1 = t.off.room z := ⟨_, rfl⟩
  rw [← hT1] at okr hpr hWr hHr hcr hgr ⊢
  obtain ⟨c0, c1, c2, c3, c4, c5, c6, c7, c8, c9, c10, c11, c12, c13, c14, c15, c16, fz⟩ := a.cells
  have CS := Lib.hid (gsize_any a.g)
  have AA := Lib.hid a
  have OKR := Lib.hid okr
  have HPR := Lib.hid hpr
  have HWR := Lib.hid hWr
  have HCR := Lib.hid hcr
  have HT1 := Lib.hid hT1
  have OK := Lib.hid ok
  have hw2 := ok.w2
  have hw1 := ok.w1
  have hcol := ok.col
  have CB := Lib.hid (fun (X : World) => rbytes_at r hr hi X)
  clear a okr hpr hWr hHr hcr hgr hT1 ok
  go_enter Tryz.func227, Tryz.ntmps227
  go_upto_region 1 with (go_at_call 86; refine (CS.out).mono ?_; rintro e X ⟨rfl, hb⟩)
  have aX := AA.out.below hb
  clear c0 c1 c2 c3 c4 c5 c6 c7 c8 c9 c10 c11 c12 c13 c14 c15 c16 fz AA CS
  obtain ⟨c0, c1, c2, c3, c4, c5, c6, c7, c8, c9, c10, c11, c12, c13, c14, c15, c16, fz⟩ := aX.cells
  have a2 := aX.put 14 (.bool false) hv t.off rfl rfl rfl rfl
  have o2 : Only [b, q] W (X.setCell ⟨b, 14, none⟩ (.bool false)) := (Only.on hb).trans (set_only _ _ _ _).ob
  have hnw : ¬ (t.W : Int) < z := by omega
  go_upto_region 3 with (fail)
  obtain ⟨Y, hY⟩ : ∃ Y, X.setCell ⟨b, 14, none⟩ (.bool false) = Y := ⟨_, rfl⟩
  rw [hY] at a2 o2 ⊢
  clear c0 c1 c2 c3 c4 c5 c6 c7 c8 c9 c10 c11 c12 c13 c14 c15 c16 fz aX hb hY
  obtain ⟨c0, c1, c2, c3, c4, c5, c6, c7, c8, c9, c10, c11, c12, c13, c14, c15, c16, fz⟩ := a2.cells
  obtain ⟨nd, hnd⟩ : ∃ nd, nd = (t.pend || decide ((t.W : Int) < t.col + z)) := ⟨_, rfl⟩
  have HND := Lib.hid hnd
  clear hnd
  go_cut [36] (fun s wx => s = .bool nd ∧ Y = wx)
  case first =>
    dsimp only [TS.off] at c3 c9
    cases hp : t.pend with
    | true =>
      rw [hp] at c9
      have HN : Hid (nd = true) := Lib.hid (by rw [HND.out, hp]; rfl)
      clear hp
      go_wp2
      go_meet
      exact ⟨by rw [HN.out], rfl⟩
    | false =>
      rw [hp] at c9
      by_cases hlt : (t.W : Int) - t.col < z
      · have HN : Hid (nd = true) := Lib.hid (by rw [HND.out, hp]; simp; omega)
        clear hp
        go_wp2
        go_meet
        exact ⟨by rw [HN.out], rfl⟩
      · have HN : Hid (nd = false) := Lib.hid (by rw [HND.out, hp]; simp; omega)
        clear hp
        go_wp2
        go_meet
        exact ⟨by rw [HN.out], rfl⟩
  case rest =>
    obtain ⟨rfl, hwc⟩ := hcut
    subst hwc
    have HRM : Hid (T1 = if nd then TS.feed { t.off with col := 0 } else t.off) := Lib.hid (by rw [HT1.out, HND.out]; rfl)
    refine (‹∀ (a : Act) (w : World), Code.wp Tryz.prog _ _ a w → _›) _ _ ?_
    go_cut [36] (fun _ wx => RoomQ W b p q hv T1 wx)
    case first =>
      cases nd with
      | true =>
        have ok0 : TO0 { t.off with col := 0 } := ⟨OK.out.w1, OK.out.w2, OK.out.h1, OK.out.h2, OK.out.ok, OK.out.ro, OK.out.row, OK.out.w1⟩
        have a3 := a2.put 3 (.int .i64 ((0 : Nat) : Int)) hv { t.off with col := 0 } rfl rfl rfl rfl
        have o3 := set_only Y b 3 (.int .i64 ((0 : Nat) : Int))
        have CF := Lib.hid (pfeed_any a3 ok0 hg)
        have HR2 : Hid (T1 = TS.feed { t.off with col := 0 }) := Lib.hid (by rw [HRM.out]; rfl)
        clear ok0 a3
        go_wp2_with (go_at_call 225; refine (CF.out).mono ?_; rintro e Z ⟨rfl, aZ, oZ⟩)
        go_meet
        exact ⟨by rw [HR2.out]; exact aZ, o2.trans (o3.ob.trans oZ)⟩
      | false =>
        have HR2 : Hid (T1 = t.off) := Lib.hid (by rw [HRM.out]; rfl)
        go_wp2
        go_meet
        exact ⟨by rw [HR2.out]; exact a2, o2⟩
    case rest =>
      obtain ⟨a4, o4⟩ := hcut
      clear c0 c1 c2 c3 c4 c5 c6 c7 c8 c9 c10 c11 c12 c13 c14 c15 c16 fz a2 o2
      refine (‹∀ (a : Act) (w : World), Code.wp Tryz.prog _ _ a w → _›) _ _ ?_
      have hbl : PBk wc b (pCells hv p T1) := a4.blk
      have dB : Below wc.heap.size wc wc.drew := (Below.refl _ _).drew
      have hlt := hbl.lt
      have CV := Lib.hid (fun W => conv_newB W (bytesN r))
      go_wp2_with fail
      refine wp_region_mix2 [(true, 0), (true, 1), (true, 2), (true, 3), (true, 4), (true, 5), (true, 6), (true, 7), (true, 8), (true, 9), (true, 10), (true, 11), (true, 12), (true, 15), (true, 16), (true, 17), (true, 18), (true, 19), (false, 13), (false, 14), (false, 20)] (fun w' => PBk w' b (pCells hv p T1)) (by kernel_rfl) (by kernel_rfl) (by rfl) (by kernel_rfl) (by kernel_rfl) (fun _ _ d _ _ h => by cases d <;> exact h) (hbl.below dB) ?_
      simp only [mixL, List.getElem?_cons_succ, List.getElem?_cons_zero]
      repeat (refine' wpMix2_read (v := _) rfl ?_ ?_; rotate_left 1; (intro w' hw'; obtain ⟨c0, c1, c2, c3, c4, c5, c6, c7, c8, c9, c10, c11, c12, c13, c14, c15, c16, fz⟩ := hw'.cells; go_simp; try with_reducible rfl); try simp only [Act.put, List.setIfInBounds_toArray, List.set_cons_zero, List.set_cons_succ])
      refine wpMix2_act (fun K hK => ?_)
      go_wp2_with fail
      refine (CB.out _).mono ?_
      rintro e w5 ⟨k, hk, rfl, hw5⟩
      have hcv : (convert 61 9 (.slice (some ⟨wc.heap.size, 0, none⟩) k k)).run Tryz.prog w5 = .ok (.string (S (bytesN r))) w5 := by subst hk; rw [← hw5]; exact CV.out wc.drew
      have hb5 : Below wc.heap.size wc w5 := by rw [← hw5]; exact ((Below.refl wc.heap.size wc).drew).alloc (Nat.le_refl _) _
      have HCV := Lib.hid hcv
      clear hk hw5 hcv
      go_wp2
      refine hK _ _ (hbl.below hb5) ?_
      clear hK K
      refine wpMix2_act (fun K hK => ?_)
      have hcv := HCV.out
      go_wp2
      refine hK _ _ (hbl.below hb5) ?_
      clear hK K hcv
      refine wpMix2_act (fun K hK => ?_)
      have a5 := a4.below hb5
      have CP := Lib.hid (put_any a5.g (T1.row : Int) (T1.col : Int) (S (bytesN r)) z T1.y)
      go_wp2_with fail
      refine (CP.out).mono ?_
      rintro e w6 ⟨rfl, g6, o6⟩
      rw [← OKR.out.ok.put_flat] at g6
      have a6 := a5.grid o6 _ g6
      have hbl6 : PBk w6 b (pCells hv p T1) := a6.blk
      have o46 : Only [b, q] W w6 := o4.trans ((Only.on hb5).trans o6.oq)
      go_wp2
      refine hK _ _ hbl6 ?_
      clear hK K a5 g6 hbl
      refine wpMix2_nil ?_
      obtain ⟨R9, hR9⟩ : ∃ R9, putR T1.W T1.H T1.R T1.row T1.col (S (bytesN r)) z T1.y = R9 := ⟨_, rfl⟩
      rw [hR9] at a6
      have e9 : T1.lay r z = { T1 with R := R9, last := true, lrow := T1.row, lcol := T1.col, col := if (T1.W : Int) ≤ T1.col + z then T1.W - 1 else T1.col + z.toNat, pend := decide ((T1.W : Int) ≤ T1.col + z) || T1.pend } := by rw [← hR9]; rfl
      rw [HPR.out, Bool.or_false] at e9
      have E9 := Lib.hid e9
      clear e9 hR9 a4 o4 hb5
      have dB6 : Below w6.heap.size w6 w6.drew := (Below.refl _ _).drew
      go_wp2
      refine wp_region_mix [(true, 0), (true, 1), (true, 2), (true, 3), (true, 4), (true, 5), (true, 6), (true, 7), (true, 8), (true, 9), (false, 10), (false, 11), (false, 12)] (fun w' => PBk w' b (pCells hv p T1)) (by kernel_rfl) (by kernel_rfl) (by rfl) (by kernel_rfl) (by kernel_rfl) (fun _ _ d _ _ h => by cases d <;> exact h) (hbl6.below dB6) ?_
      simp only [mixL, List.getElem?_cons_succ, List.getElem?_cons_zero]
      repeat (refine' wpMix_read (v := _) rfl ?_ ?_; rotate_left 1; (intro w' hw'; obtain ⟨c0, c1, c2, c3, c4, c5, c6, c7, c8, c9, c10, c11, c12, c13, c14, c15, c16, fz⟩ := hw'.cells; go_simp; try with_reducible rfl); try simp only [Act.put, List.setIfInBounds_toArray, List.set_cons_zero, List.set_cons_succ])
      refine wpMix_act (fun K hK => ?_)
      go_wp2
      refine hK _ _ (fun _ => hbl6.below dB6) ?_
      clear hK K
      refine wpMix_act (fun K hK => ?_)
      go_wp2
      refine hK _ _ (fun _ => hbl6.below dB6) ?_
      clear hK K
      refine wpMix_act (fun K hK => ?_)
      have a6d := a6.below dB6
      obtain ⟨c0, c1, c2, c3, c4, c5, c6, c7, c8, c9, c10, c11, c12, c13, c14, c15, c16, fz⟩ := a6d.cells
      obtain ⟨e0, e1, e2, e3, e4, e5, e6, e7, e8, e9, e10, e11, e12, e13, e14, e15, e16, fy⟩ := hbl6.cells
      have a7 := ((a6.put 14 (.bool true) hv { T1 with R := R9, last := true } rfl rfl rfl rfl).put 15 (.int .i64 T1.row) hv { T1 with R := R9, last := true, lrow := T1.row } rfl rfl rfl rfl).put 16 (.int .i64 T1.col) hv { T1 with R := R9, last := true, lrow := T1.row, lcol := T1.col } rfl rfl rfl rfl
      have o7 := ((set_only w6 b 14 (.bool true)).trans (set_only _ b 15 (.int .i64 T1.row))).trans (set_only _ b 16 (.int .i64 T1.col))
      go_wp2
      refine hK _ _ (fun h => absurd rfl h) ?_
      clear hK K
      refine wpMix_nil ?_
      obtain ⟨Z, hZ⟩ : ∃ Z, (((w6.setCell ⟨b, 14, none⟩ (.bool true)).setCell ⟨b, 15, none⟩ (.int .i64 T1.row)).setCell ⟨b, 16, none⟩ (.int .i64 T1.col)).drew = Z := ⟨_, rfl⟩
      replace a7 := a7.below (Below.refl _ _).drew
      have o8 := (o46.trans o7.ob).trans (Only.on (Below.refl _ _).drew)
      rw [hZ] at a7 o8 ⊢
      have oZ : Only [b, q] W Z := o8
      clear c0 c1 c2 c3 c4 c5 c6 c7 c8 c9 c10 c11 c12 c13 c14 c15 c16 fz hZ a6 a6d o8 o7 o46 hbl6 o6 dB6 dB e0 e1 e2 e3 e4 e5 e6 e7 e8 e9 e10 e11 e12 e13 e14 e15 e16 fy
      obtain ⟨c0, c1, c2, c3, c4, c5, c6, c7, c8, c9, c10, c11, c12, c13, c14, c15, c16, fz⟩ := a7.cells
      have hw1' := OKR.out.w1
      have hw2' := OKR.out.w2
      have hcr : (T1.col : Int) + z ≤ t.W := HCR.out
      have hwz : wrap64 ((T1.col : Int) + z) = T1.col + z := by unfold wrap64; omega
      have hwr : T1.W = t.W := HWR.out
      have e8 : ((T1.col + z.toNat : Nat) : Int) = T1.col + z := by omega
      have a8 := a7.put 3 (.int .i64 ((T1.col + z.toNat : Nat) : Int)) hv { T1 with R := R9, last := true, lrow := T1.row, lcol := T1.col, col := T1.col + z.toNat } rfl rfl rfl rfl
      rw [e8] at a8
      have o9 := set_only Z b 3 (.int .i64 ((T1.col : Int) + z))
      refine (‹∀ (a : Act) (w : World), Code.wp Tryz.prog _ _ a w → _›) _ _ ?_
      by_cases hge : (T1.W : Int) ≤ T1.col + z
      · rw [hwr] at hge
        have E10 : Hid (T1.lay r z = { T1 with R := R9, last := true, lrow := T1.row, lcol := T1.col, col := T1.W - 1, pend := true }) := Lib.hid (by rw [E9.out, if_pos (by rw [hwr]; exact hge), decide_eq_true (by rw [hwr]; exact hge)])
        have e10 : ((T1.W - 1 : Nat) : Int) = (t.W : Int) - 1 := by omega
        have a9 := (a8.put 3 (.int .i64 ((T1.W - 1 : Nat) : Int)) hv { T1 with R := R9, last := true, lrow := T1.row, lcol := T1.col, col := T1.W - 1 } rfl rfl rfl rfl).put 9 (.bool true) hv { T1 with R := R9, last := true, lrow := T1.row, lcol := T1.col, col := T1.W - 1, pend := true } rfl rfl rfl rfl
        rw [e10] at a9
        clear e8 e10 hwr
        go_wp2
        go_end0
        exact ⟨rfl, by rw [E10.out]; exact a9, (oZ.trans o9.ob).trans ((set_only _ _ _ _).trans (set_only _ _ _ _)).ob⟩
      · rw [hwr] at hge
        have E10 : Hid (T1.lay r z = { T1 with R := R9, last := true, lrow := T1.row, lcol := T1.col, col := T1.col + z.toNat, pend := false }) := Lib.hid (by rw [E9.out, if_neg (by rw [hwr]; exact hge), decide_eq_false (by rw [hwr]; exact hge)])
        have hpe := HPR.out
        clear e8 hwr
        go_wp2
        go_end0
        refine ⟨rfl, ?_, oZ.trans o9.ob⟩
        rw [E10.out]
        have hT : ({ T1 with R := R9, last := true, lrow := T1.row, lcol := T1.col, col := T1.col + z.toNat, pend := false } : TS) = { T1 with R := R9, last := true, lrow := T1.row, lcol := T1.col, col := T1.col + z.toNat } := by rw [← hpe]
        rw [hT]
        exact a8
end Go.Proofs.YtekodpcedjpnjaaGreat
namespace Go.Proofs.YtekodpcedjpnjaaGreat
set_option linter.unusedVariables false
set_option linter.unusedSimpArgs false
open Go.RowKit Go.Maps
set_option maxRecDepth 100000 in
set_option maxHeartbeats 8000000 in
theorem prune_any {W : World} {b p q : Nat} {hv : Value} {t : TS} (a : TmAt W b p q hv t) (ok : TOk t) (hg : t.gone < 4611686018427387904) (r : Nat) (hr : r ≤ 1114111) (hi : isR (r : Int) = true) :
    Calls Tryz.prog 186 #[.pointer (some ⟨b, 0, none⟩), .int .i32 (r : Int)] W (TmPost b p q hv (t.rune r) W) := by
  have hbd := cols_bd (r : Int)
  have CO := Lib.hid (fun W => of_any (r : Int) W)
  have AA := Lib.hid a
  by_cases hpos : 0 < colsB (r : Int)
  · have HT : Hid (t.rune r = t.print r) := Lib.hid (by unfold TS.rune; rw [if_pos hpos])
    have CP : ∀ X, Below W.heap.size W X → Calls Tryz.prog 227 #[.pointer (some ⟨b, 0, none⟩), .int .i32 (r : Int), .int .i64 (colsB r)] X (TmPost b p q hv (t.print r) X) := fun X hX => by
      unfold TS.print
      by_cases hw : (t.W : Int) < colsB r
      · rw [if_pos hw]; exact pprint_wide (AA.out.below hX) r _ hw
      · rw [if_neg hw]; exact pprint_ok (AA.out.below hX) ok hg r hr hi _ (by omega) hbd.2 (by omega)
    have CP := Lib.hid CP
    obtain ⟨z, hz⟩ : ∃ z, z = colsB (r : Int) := ⟨_, rfl⟩
    rw [← hz] at CO CP hpos
    clear a ok hz hbd
    go_enter Tryz.func186, Tryz.ntmps186
    go_wp2_with (first
      | (go_at_call 203; refine (CO.out _).mono ?_; rintro e X ⟨rfl, hb⟩)
      | (go_at_call 227; refine (CP.out _ hb).mono ?_; rintro e Y ⟨rfl, aY, oY⟩))
    (try simp only [Exit.inBlock, Exit.then]); refine bodyPost_ret (results_none rfl _ _ _) rfl ?_
    exact ⟨rfl, by rw [HT.out]; exact aY, (Only.on hb).trans oY⟩
  have hz0 : colsB (r : Int) = 0 := by omega
  have CC := Lib.hid (fun W => control_any (r : Int) W)
  rw [hz0] at CO
  cases hct : ctrlB (r : Int) with
  | true =>
    have HT : Hid (t.rune r = t.off) := Lib.hid (by
      have hj : joinB (r : Int) = false := by unfold joinB; rw [hz0, hct]; simp
      unfold TS.rune; rw [if_neg hpos, hj]; rfl)
    rw [hct] at CC
    clear a ok hbd
    go_enter Tryz.func186, Tryz.ntmps186
    go_upto_region 3 with (first
      | (go_at_call 203; refine (CO.out _).mono ?_; rintro e X ⟨rfl, hb⟩))
    have aX := AA.out.below hb
    obtain ⟨c0, c1, c2, c3, c4, c5, c6, c7, c8, c9, c10, c11, c12, c13, c14, c15, c16, fz⟩ := aX.cells
    go_wp2_with (go_at_call 200; refine (CC.out _).mono ?_; rintro e X2 ⟨rfl, rfl⟩)
    (try simp only [Exit.inBlock, Exit.then]); refine bodyPost_ret (results_none rfl _ _ _) rfl ?_
    exact ⟨rfl, by rw [HT.out]; exact aX.put 14 (.bool false) hv t.off rfl rfl rfl rfl, (Only.on hb).trans (set_only _ _ _ _).ob⟩
  | false =>
    have hj : joinB (r : Int) = true := by unfold joinB; rw [hz0, hct, hi]; rfl
    rw [hct] at CC
    have HRO := Lib.hid ok.ro
    have HOK := Lib.hid ok.ok
    have CB := Lib.hid (fun (X : World) => rbytes_at r hr hi X)
    cases hl : t.last with
    | false =>
      have HT : Hid (t.rune r = t) := Lib.hid (by unfold TS.rune; rw [if_neg hpos, hj, hl]; rfl)
      clear a ok hbd
      go_enter Tryz.func186, Tryz.ntmps186
      go_upto_region 3 with (first
        | (go_at_call 203; refine (CO.out _).mono ?_; rintro e X ⟨rfl, hb⟩))
      have aX := AA.out.below hb
      obtain ⟨c0, c1, c2, c3, c4, c5, c6, c7, c8, c9, c10, c11, c12, c13, c14, c15, c16, fz⟩ := aX.cells
      rw [hl] at c14
      go_wp2_with (go_at_call 200; refine (CC.out _).mono ?_; rintro e X2 ⟨rfl, rfl⟩)
      go_end0
      exact ⟨rfl, by rw [HT.out]; exact aX, Only.on hb⟩
    | true =>
      have HT : Hid (t.rune r = { t with R := joinR t.W t.H t.R t.lrow t.lcol (S (bytesN r)) }) := Lib.hid (by unfold TS.rune; rw [if_neg hpos, hj, hl]; rfl)
      clear a ok hbd
      go_enter Tryz.func186, Tryz.ntmps186
      go_upto_region 3 with (first
        | (go_at_call 203; refine (CO.out _).mono ?_; rintro e X ⟨rfl, hb⟩))
      have aX := AA.out.below hb
      obtain ⟨c0, c1, c2, c3, c4, c5, c6, c7, c8, c9, c10, c11, c12, c13, c14, c15, c16, fz⟩ := aX.cells
      rw [hl] at c14
      have hbl : PBk X b (pCells hv p t) := aX.blk
      have dB : Below X.heap.size X X.drew := (Below.refl _ _).drew
      have CV := Lib.hid (fun W => conv_newB W (bytesN r))
      go_wp2_with (go_at_call 200; refine (CC.out _).mono ?_; rintro e X2 ⟨rfl, rfl⟩)
      refine wp_region_mix2 [(true, 0), (true, 1), (true, 2), (true, 3), (true, 4), (true, 5), (true, 6), (true, 7), (true, 8), (true, 9), (true, 10), (true, 11), (true, 12), (true, 13), (true, 14), (false, 15), (false, 16), (false, 17)] (fun w' => PBk w' b (pCells hv p t)) (by kernel_rfl) (by kernel_rfl) (by rfl) (by kernel_rfl) (by kernel_rfl) (fun _ _ d _ _ h => by cases d <;> exact h) (hbl.below dB) ?_
      simp only [mixL, List.getElem?_cons_succ, List.getElem?_cons_zero]
      repeat (refine' wpMix2_read (v := _) rfl ?_ ?_; rotate_left 1; (intro w' hw'; obtain ⟨c0, c1, c2, c3, c4, c5, c6, c7, c8, c9, c10, c11, c12, c13, c14, c15, c16, fz⟩ := hw'.cells; go_simp; try with_reducible rfl); try simp only [Act.put, List.setIfInBounds_toArray, List.set_cons_zero, List.set_cons_succ])
      refine wpMix2_act (fun K hK => ?_)
      go_wp2_with fail
      refine (CB.out _).mono ?_
      rintro e w5 ⟨k, hk, rfl, hw5⟩
      have hcv : (convert 61 9 (.slice (some ⟨X.heap.size, 0, none⟩) k k)).run Tryz.prog w5 = .ok (.string (S (bytesN r))) w5 := by subst hk; rw [← hw5]; exact CV.out X.drew
      have hb5 : Below X.heap.size X w5 := by rw [← hw5]; exact ((Below.refl X.heap.size X).drew).alloc (Nat.le_refl _) _
      have HCV := Lib.hid hcv
      clear hk hw5 hcv
      go_wp2
      refine hK _ _ (hbl.below hb5) ?_
      clear hK K
      refine wpMix2_act (fun K hK => ?_)
      have hcv := HCV.out
      go_wp2
      refine hK _ _ (hbl.below hb5) ?_
      clear hK K hcv
      refine wpMix2_act (fun K hK => ?_)
      have a5 := aX.below hb5
      have CJ := Lib.hid (join_any a5.g HRO.out.flat (t.lrow : Int) (t.lcol : Int) (S (bytesN r)))
      go_wp2_with fail
      refine (CJ.out).mono ?_
      rintro e w6 ⟨rfl, g6, o6⟩
      rw [← HOK.out.join_flat] at g6
      have a6 := a5.grid o6 _ g6
      have hbl6 : PBk w6 b (pCells hv p t) := a6.blk
      go_wp2
      refine hK _ _ hbl6 ?_
      clear hK K
      refine wpMix2_nil ?_
      go_wp2
      go_end0
      exact ⟨rfl, by rw [HT.out]; exact a6, (Only.on hb).trans ((Only.on hb5).trans o6.oq)⟩
end Go.Proofs.YtekodpcedjpnjaaGreat
namespace Go.Proofs.YtekodpcedjpnjaaGreat
set_option linter.unusedVariables false
set_option linter.unusedSimpArgs false
open Go.RowKit Go.Maps
theorem TmPost.trans {b p q : Nat} {hv : Value} {t t' : TS} {W X : World} (o : Only [b, q] W X) {e : Ending} {w' : World} (h : TmPost b p q hv t' X e w') : TmPost b p q hv t' W e w' := ⟨h.1, h.2.1, o.trans h.2.2⟩
set_option maxRecDepth 100000 in
set_option maxHeartbeats 4000000 in
theorem peraseRows_any {W : World} {b p q : Nat} {hv : Value} {t : TS} (a : TmAt W b p q hv t) (ok : TO0 t) (i m : Nat) (hm : m ≤ t.H) :
    Calls Tryz.prog 289 #[.pointer (some ⟨b, 0, none⟩), .int .i64 i, .int .i64 m] W (TmPost b p q hv { t with R := eraseRowsR t.W t.H i (m - i) t.R } W) := by
  obtain ⟨c0, c1, c2, c3, c4, c5, c6, c7, c8, c9, c10, c11, c12, c13, c14, c15, c16, fz⟩ := a.cells
  have CS := Lib.hid (gsize_any a.g)
  have AA := Lib.hid a
  have OK := Lib.hid ok
  have hh2 := ok.h2
  have hw2 := ok.w2
  obtain ⟨F, hF⟩ : ∃ F, F = eraseRowsR t.W t.H i (m - i) t.R := ⟨_, rfl⟩
  rw [← hF]
  have HF := Lib.hid hF
  clear hF
  clear a ok
  go_enter Tryz.func289, Tryz.ntmps289
  go_upto_region 1 with (go_at_call 86; refine (CS.out).mono ?_; rintro e X ⟨rfl, hb⟩)
  have aX := AA.out.below hb
  clear c0 c1 c2 c3 c4 c5 c6 c7 c8 c9 c10 c11 c12 c13 c14 c15 c16 fz AA CS
  go_wp2
  go_loopw [8] (fun x wr => ∃ (k : Nat) (R : List (List GC)), x = .int .i64 k ∧ (k ≤ m ∨ k = i) ∧ Hid (F = eraseRowsR t.W t.H k (m - k) R) ∧ Hid (RowsOk t.W t.H R) ∧ TmAt wr b p q hv { t with R := R } ∧ Only [b, q] W wr) (fun x _ => m - (intOf x).toNat)
  case atStart => exact ⟨i, t.R, rfl, .inr rfl, HF, Lib.hid OK.out.ok, aX, Only.on hb⟩
  case round =>
    obtain ⟨k, R, rfl, hk, hf, hr, ar, o⟩ := hrel
    by_cases hlt : k < m
    · obtain ⟨c0, c1, c2, c3, c4, c5, c6, c7, c8, c9, c10, c11, c12, c13, c14, c15, c16, fz⟩ := ar.cells
      have CE := Lib.hid (erase_any ar.g (k : Int) 0 (t.W : Int))
      have HF2 : Hid (F = eraseRowsR t.W t.H (k + 1) (m - (k + 1)) (eraseR t.W t.H R k 0 t.W)) := Lib.hid (by
        rw [hf.out, show m - k = (m - (k + 1)) + 1 by omega]; rfl)
      go_wp2_with fail
      refine (CE.out).mono ?_
      rintro e Y ⟨rfl, gY, oY⟩
      try dsimp only at gY
      rw [← hr.out.erase_flat] at gY
      have aY := ar.grid oY _ gY
      go_wp2
      go_roundw
      case rel => exact ⟨k + 1, _, by go_num, .inl hlt, HF2, Lib.hid (hr.out.erase _ _ _), aY, o.trans oY.oq⟩
      case measure => simp [intOf]; omega
    · have HR : Hid (F = R) := Lib.hid (by rw [hf.out, show m - k = 0 by omega]; rfl)
      go_wp2
      go_end0
      exact ⟨rfl, by rw [HR.out]; exact ar, o⟩
set_option maxRecDepth 100000 in
set_option maxHeartbeats 4000000 in
theorem peraseAll0 {W : World} {b p q : Nat} {hv : Value} {t : TS} (a : TmAt W b p q hv t) (ok : TO0 t) :
    Calls Tryz.prog 282 #[.pointer (some ⟨b, 0, none⟩), .int .i64 0] W (TmPost b p q hv (t.erased 0 false) W) := by
  obtain ⟨c0, c1, c2, c3, c4, c5, c6, c7, c8, c9, c10, c11, c12, c13, c14, c15, c16, fz⟩ := a.cells
  have CS := Lib.hid (gsize_any a.g)
  have AA := Lib.hid a
  have OK := Lib.hid ok
  have hh2 := ok.h2
  have hh1 := ok.h1
  have hw1 := ok.w1
  have hw2 := ok.w2
  have hrow := ok.row
  have hcol := ok.col
  clear a ok
  go_enter Tryz.func282, Tryz.ntmps282
  go_upto_region 1 with (go_at_call 86; refine (CS.out).mono ?_; rintro e X ⟨rfl, hb⟩)
  have aX := AA.out.below hb
  clear c0 c1 c2 c3 c4 c5 c6 c7 c8 c9 c10 c11 c12 c13 c14 c15 c16 fz CS AA
  obtain ⟨c0, c1, c2, c3, c4, c5, c6, c7, c8, c9, c10, c11, c12, c13, c14, c15, c16, fz⟩ := aX.cells
  have hbl : PBk X b (pCells hv p t) := aX.blk
  have dB : Below X.heap.size X X.drew := (Below.refl _ _).drew
  go_wp2_with fail
  refine wp_region_mix2 [(true, 0), (true, 1), (true, 2), (true, 3), (true, 4), (true, 5), (true, 6), (true, 7), (true, 8), (true, 9), (true, 10), (true, 11), (true, 12), (false, 13)] (fun w' => PBk w' b (pCells hv p t)) (by kernel_rfl) (by kernel_rfl) (by rfl) (by kernel_rfl) (by kernel_rfl) (fun _ _ d _ _ h => by cases d <;> exact h) (hbl.below dB) ?_
  simp only [mixL, List.getElem?_cons_succ, List.getElem?_cons_zero]
  repeat (refine' wpMix2_read (v := _) rfl ?_ ?_; rotate_left 1; (intro w' hw'; obtain ⟨c0, c1, c2, c3, c4, c5, c6, c7, c8, c9, c10, c11, c12, c13, c14, c15, c16, fz⟩ := hw'.cells; go_simp; try with_reducible rfl); try simp only [Act.put, List.setIfInBounds_toArray, List.set_cons_zero, List.set_cons_succ])
  refine wpMix2_act (fun K hK => ?_)
  have aD := aX.below dB
  have CE := Lib.hid (erase_any aD.g (t.row : Int) (t.col : Int) (t.W : Int))
  go_wp2_with fail
  refine (CE.out).mono ?_
  rintro e Y ⟨rfl, gY, oY⟩
  try dsimp only at gY
  rw [← (OK.out.ok).erase_flat] at gY
  have aY := aD.grid oY _ gY
  go_wp2
  refine hK _ _ aY.blk ?_
  clear hK K
  refine wpMix2_nil ?_
  have okY : TO0 { t with R := eraseR t.W t.H t.R t.row t.col t.W } := ⟨OK.out.w1, OK.out.w2, OK.out.h1, OK.out.h2, OK.out.ok.erase _ _ _, OK.out.ro.erase OK.out.ok _ _ _, OK.out.row, OK.out.col⟩
  have cr := peraseRows_any aY okY (t.row + 1) t.H (Nat.le_refl _)
  rw [show ((t.row + 1 : Nat) : Int) = (t.row : Int) + 1 by omega] at cr
  have CR := Lib.hid cr
  clear c0 c1 c2 c3 c4 c5 c6 c7 c8 c9 c10 c11 c12 c13 c14 c15 c16 fz cr
  obtain ⟨c0, c1, c2, c3, c4, c5, c6, c7, c8, c9, c10, c11, c12, c13, c14, c15, c16, fz⟩ := aY.cells
  go_wp2_with (go_at_call 289; refine (CR.out).mono ?_; rintro e Z ⟨rfl, aZ, oZ⟩)
  go_end0
  exact ⟨rfl, aZ, (Only.on hb).trans ((Only.on dB).trans (oY.oq.trans oZ))⟩
set_option maxRecDepth 100000 in
set_option maxHeartbeats 4000000 in
theorem peraseAll1 {W : World} {b p q : Nat} {hv : Value} {t : TS} (a : TmAt W b p q hv t) (ok : TO0 t) :
    Calls Tryz.prog 282 #[.pointer (some ⟨b, 0, none⟩), .int .i64 1] W (TmPost b p q hv (t.erased 1 false) W) := by
  obtain ⟨c0, c1, c2, c3, c4, c5, c6, c7, c8, c9, c10, c11, c12, c13, c14, c15, c16, fz⟩ := a.cells
  have CS := Lib.hid (gsize_any a.g)
  have AA := Lib.hid a
  have OK := Lib.hid ok
  have hh2 := ok.h2
  have hh1 := ok.h1
  have hw1 := ok.w1
  have hw2 := ok.w2
  have hrow := ok.row
  have hcol := ok.col
  clear a ok
  go_enter Tryz.func282, Tryz.ntmps282
  go_upto_region 1 with (go_at_call 86; refine (CS.out).mono ?_; rintro e X ⟨rfl, hb⟩)
  have aX := AA.out.below hb
  clear c0 c1 c2 c3 c4 c5 c6 c7 c8 c9 c10 c11 c12 c13 c14 c15 c16 fz CS AA
  obtain ⟨c0, c1, c2, c3, c4, c5, c6, c7, c8, c9, c10, c11, c12, c13, c14, c15, c16, fz⟩ := aX.cells
  have CR := Lib.hid (peraseRows_any aX OK.out 0 t.row (by omega))
  go_wp2_with (go_at_call 289; refine (CR.out).mono ?_; rintro e X2 ⟨rfl, aX2, oX2⟩)
  rw [Nat.sub_zero] at aX2
  clear c0 c1 c2 c3 c4 c5 c6 c7 c8 c9 c10 c11 c12 c13 c14 c15 c16 fz
  obtain ⟨c0, c1, c2, c3, c4, c5, c6, c7, c8, c9, c10, c11, c12, c13, c14, c15, c16, fz⟩ := aX2.cells
  have hrs : RowsOk t.W t.H (eraseRowsR t.W t.H 0 t.row t.R) := OK.out.ok.eraseRows _ _ _
  have HRS := Lib.hid hrs
  clear hrs
  have hbl : PBk X2 b (pCells hv p t) := aX2.blk
  have dB : Below X2.heap.size X2 X2.drew := (Below.refl _ _).drew
  go_wp2_with fail
  refine wp_region_mix2 [(true, 0), (true, 1), (true, 2), (true, 3), (true, 4), (true, 5), (true, 6), (true, 7), (true, 8), (true, 9), (true, 10), (true, 11), (true, 12), (false, 13)] (fun w' => PBk w' b (pCells hv p t)) (by kernel_rfl) (by kernel_rfl) (by rfl) (by kernel_rfl) (by kernel_rfl) (fun _ _ d _ _ h => by cases d <;> exact h) (hbl.below dB) ?_
  simp only [mixL, List.getElem?_cons_succ, List.getElem?_cons_zero]
  repeat (refine' wpMix2_read (v := _) rfl ?_ ?_; rotate_left 1; (intro w' hw'; obtain ⟨c0, c1, c2, c3, c4, c5, c6, c7, c8, c9, c10, c11, c12, c13, c14, c15, c16, fz⟩ := hw'.cells; go_simp; try with_reducible rfl); try simp only [Act.put, List.setIfInBounds_toArray, List.set_cons_zero, List.set_cons_succ])
  refine wpMix2_act (fun K hK => ?_)
  have aD := aX2.below dB
  have CE := Lib.hid (erase_any aD.g (t.row : Int) 0 ((t.col : Int) + 1))
  go_wp2_with fail
  refine (CE.out).mono ?_
  rintro e Y ⟨rfl, gY, oY⟩
  try dsimp only at gY
  rw [← (HRS.out).erase_flat] at gY
  have aY := aD.grid oY _ gY
  go_wp2
  refine hK _ _ aY.blk ?_
  clear hK K
  refine wpMix2_nil ?_
  go_wp2
  go_end0
  exact ⟨rfl, aY, (Only.on hb).trans (oX2.trans ((Only.on dB).trans oY.oq))⟩
set_option maxRecDepth 100000 in
set_option maxHeartbeats 4000000 in
theorem peraseAll2 {W : World} {b p q : Nat} {hv : Value} {t : TS} (a : TmAt W b p q hv t) (ok : TO0 t) :
    Calls Tryz.prog 282 #[.pointer (some ⟨b, 0, none⟩), .int .i64 2] W (TmPost b p q hv (t.erased 2 false) W) := by
  obtain ⟨c0, c1, c2, c3, c4, c5, c6, c7, c8, c9, c10, c11, c12, c13, c14, c15, c16, fz⟩ := a.cells
  have CS := Lib.hid (gsize_any a.g)
  have AA := Lib.hid a
  have OK := Lib.hid ok
  have hh2 := ok.h2
  have hh1 := ok.h1
  have hw1 := ok.w1
  have hw2 := ok.w2
  have hrow := ok.row
  have hcol := ok.col
  clear a ok
  go_enter Tryz.func282, Tryz.ntmps282
  go_upto_region 1 with (go_at_call 86; refine (CS.out).mono ?_; rintro e X ⟨rfl, hb⟩)
  have aX := AA.out.below hb
  clear c0 c1 c2 c3 c4 c5 c6 c7 c8 c9 c10 c11 c12 c13 c14 c15 c16 fz CS AA
  obtain ⟨c0, c1, c2, c3, c4, c5, c6, c7, c8, c9, c10, c11, c12, c13, c14, c15, c16, fz⟩ := aX.cells
  have CR := Lib.hid (peraseRows_any aX OK.out 0 t.H (Nat.le_refl _))
  go_wp2_with (go_at_call 289; refine (CR.out).mono ?_; rintro e X2 ⟨rfl, aX2, oX2⟩)
  go_end0
  exact ⟨rfl, aX2, (Only.on hb).trans oX2⟩
set_option maxRecDepth 100000 in
set_option maxHeartbeats 4000000 in
theorem peraseAllN {W : World} {b p q : Nat} {hv : Value} {t : TS} (a : TmAt W b p q hv t) (ok : TO0 t) (n : Nat) (hn : n ≤ 9999) (k0 : ((n : Int) == 0) = false) (k1 : ((n : Int) == 1) = false) (k2 : ((n : Int) == 2) = false) :
    Calls Tryz.prog 282 #[.pointer (some ⟨b, 0, none⟩), .int .i64 (n : Int)] W (TmPost b p q hv t W) := by
  obtain ⟨c0, c1, c2, c3, c4, c5, c6, c7, c8, c9, c10, c11, c12, c13, c14, c15, c16, fz⟩ := a.cells
  have CS := Lib.hid (gsize_any a.g)
  have AA := Lib.hid a
  have OK := Lib.hid ok
  have hh2 := ok.h2
  have hh1 := ok.h1
  have hw1 := ok.w1
  have hw2 := ok.w2
  have hrow := ok.row
  have hcol := ok.col
  clear a ok
  go_enter Tryz.func282, Tryz.ntmps282
  go_upto_region 1 with (go_at_call 86; refine (CS.out).mono ?_; rintro e X ⟨rfl, hb⟩)
  have aX := AA.out.below hb
  clear c0 c1 c2 c3 c4 c5 c6 c7 c8 c9 c10 c11 c12 c13 c14 c15 c16 fz CS AA
  obtain ⟨c0, c1, c2, c3, c4, c5, c6, c7, c8, c9, c10, c11, c12, c13, c14, c15, c16, fz⟩ := aX.cells
  go_wp2
  go_end0
  exact ⟨rfl, aX, Only.on hb⟩
theorem peraseAll_any {W : World} {b p q : Nat} {hv : Value} {t : TS} (a : TmAt W b p q hv t) (ok : TO0 t) (n : Nat) (hn : n ≤ 9999) :
    Calls Tryz.prog 282 #[.pointer (some ⟨b, 0, none⟩), .int .i64 (n : Int)] W (TmPost b p q hv (t.erased n false) W) := by
  by_cases h0 : n = 0
  · subst h0; exact peraseAll0 a ok
  by_cases h1 : n = 1
  · subst h1; exact peraseAll1 a ok
  by_cases h2 : n = 2
  · subst h2; exact peraseAll2 a ok
  have e : t.erased n false = t := by unfold TS.erased; rw [if_neg h0, if_neg h1, if_neg h2]
  rw [e]
  exact peraseAllN a ok n hn (by simpa using h0) (by simp; omega) (by simp; omega)
set_option maxRecDepth 100000 in
set_option maxHeartbeats 4000000 in
theorem peraseLine0 {W : World} {b p q : Nat} {hv : Value} {t : TS} (a : TmAt W b p q hv t) (ok : TO0 t) :
    Calls Tryz.prog 283 #[.pointer (some ⟨b, 0, none⟩), .int .i64 0] W (TmPost b p q hv (t.erased 0 true) W) := by
  obtain ⟨c0, c1, c2, c3, c4, c5, c6, c7, c8, c9, c10, c11, c12, c13, c14, c15, c16, fz⟩ := a.cells
  have CS := Lib.hid (gsize_any a.g)
  have AA := Lib.hid a
  have OK := Lib.hid ok
  have hh2 := ok.h2
  have hh1 := ok.h1
  have hw1 := ok.w1
  have hw2 := ok.w2
  have hrow := ok.row
  have hcol := ok.col
  clear a ok
  go_enter Tryz.func283, Tryz.ntmps283
  go_upto_region 1 with (go_at_call 86; refine (CS.out).mono ?_; rintro e X ⟨rfl, hb⟩)
  have aX := AA.out.below hb
  clear c0 c1 c2 c3 c4 c5 c6 c7 c8 c9 c10 c11 c12 c13 c14 c15 c16 fz CS AA
  obtain ⟨c0, c1, c2, c3, c4, c5, c6, c7, c8, c9, c10, c11, c12, c13, c14, c15, c16, fz⟩ := aX.cells
  have hbl : PBk X b (pCells hv p t) := aX.blk
  have dB : Below X.heap.size X X.drew := (Below.refl _ _).drew
  go_wp2_with fail
  refine wp_region_mix2 [(true, 0), (true, 1), (true, 2), (true, 3), (true, 4), (true, 5), (true, 6), (true, 7), (true, 8), (true, 9), (true, 10), (true, 11), (true, 12), (false, 13)] (fun w' => PBk w' b (pCells hv p t)) (by kernel_rfl) (by kernel_rfl) (by rfl) (by kernel_rfl) (by kernel_rfl) (fun _ _ d _ _ h => by cases d <;> exact h) (hbl.below dB) ?_
  simp only [mixL, List.getElem?_cons_succ, List.getElem?_cons_zero]
  repeat (refine' wpMix2_read (v := _) rfl ?_ ?_; rotate_left 1; (intro w' hw'; obtain ⟨c0, c1, c2, c3, c4, c5, c6, c7, c8, c9, c10, c11, c12, c13, c14, c15, c16, fz⟩ := hw'.cells; go_simp; try with_reducible rfl); try simp only [Act.put, List.setIfInBounds_toArray, List.set_cons_zero, List.set_cons_succ])
  refine wpMix2_act (fun K hK => ?_)
  have aD := aX.below dB
  have CE := Lib.hid (erase_any aD.g (t.row : Int) (t.col : Int) (t.W : Int))
  go_wp2_with fail
  refine (CE.out).mono ?_
  rintro e Y ⟨rfl, gY, oY⟩
  try dsimp only at gY
  rw [← (OK.out.ok).erase_flat] at gY
  have aY := aD.grid oY _ gY
  go_wp2
  refine hK _ _ aY.blk ?_
  clear hK K
  refine wpMix2_nil ?_
  go_wp2
  go_end0
  exact ⟨rfl, aY, (Only.on hb).trans ((Only.on dB).trans oY.oq)⟩
set_option maxRecDepth 100000 in
set_option maxHeartbeats 4000000 in
theorem peraseLine1 {W : World} {b p q : Nat} {hv : Value} {t : TS} (a : TmAt W b p q hv t) (ok : TO0 t) :
    Calls Tryz.prog 283 #[.pointer (some ⟨b, 0, none⟩), .int .i64 1] W (TmPost b p q hv (t.erased 1 true) W) := by
  obtain ⟨c0, c1, c2, c3, c4, c5, c6, c7, c8, c9, c10, c11, c12, c13, c14, c15, c16, fz⟩ := a.cells
  have CS := Lib.hid (gsize_any a.g)
  have AA := Lib.hid a
  have OK := Lib.hid ok
  have hh2 := ok.h2
  have hh1 := ok.h1
  have hw1 := ok.w1
  have hw2 := ok.w2
  have hrow := ok.row
  have hcol := ok.col
  clear a ok
  go_enter Tryz.func283, Tryz.ntmps283
  go_upto_region 1 with (go_at_call 86; refine (CS.out).mono ?_; rintro e X ⟨rfl, hb⟩)
  have aX := AA.out.below hb
  clear c0 c1 c2 c3 c4 c5 c6 c7 c8 c9 c10 c11 c12 c13 c14 c15 c16 fz CS AA
  obtain ⟨c0, c1, c2, c3, c4, c5, c6, c7, c8, c9, c10, c11, c12, c13, c14, c15, c16, fz⟩ := aX.cells
  have hbl : PBk X b (pCells hv p t) := aX.blk
  have dB : Below X.heap.size X X.drew := (Below.refl _ _).drew
  go_wp2_with fail
  refine wp_region_mix2 [(true, 0), (true, 1), (true, 2), (true, 3), (true, 4), (true, 5), (true, 6), (true, 7), (true, 8), (true, 9), (true, 10), (true, 11), (true, 12), (false, 13)] (fun w' => PBk w' b (pCells hv p t)) (by kernel_rfl) (by kernel_rfl) (by rfl) (by kernel_rfl) (by kernel_rfl) (fun _ _ d _ _ h => by cases d <;> exact h) (hbl.below dB) ?_
  simp only [mixL, List.getElem?_cons_succ, List.getElem?_cons_zero]
  repeat (refine' wpMix2_read (v := _) rfl ?_ ?_; rotate_left 1; (intro w' hw'; obtain ⟨c0, c1, c2, c3, c4, c5, c6, c7, c8, c9, c10, c11, c12, c13, c14, c15, c16, fz⟩ := hw'.cells; go_simp; try with_reducible rfl); try simp only [Act.put, List.setIfInBounds_toArray, List.set_cons_zero, List.set_cons_succ])
  refine wpMix2_act (fun K hK => ?_)
  have aD := aX.below dB
  have CE := Lib.hid (erase_any aD.g (t.row : Int) 0 ((t.col : Int) + 1))
  go_wp2_with fail
  refine (CE.out).mono ?_
  rintro e Y ⟨rfl, gY, oY⟩
  try dsimp only at gY
  rw [← (OK.out.ok).erase_flat] at gY
  have aY := aD.grid oY _ gY
  go_wp2
  refine hK _ _ aY.blk ?_
  clear hK K
  refine wpMix2_nil ?_
  go_wp2
  go_end0
  exact ⟨rfl, aY, (Only.on hb).trans ((Only.on dB).trans oY.oq)⟩
set_option maxRecDepth 100000 in
set_option maxHeartbeats 4000000 in
theorem peraseLine2 {W : World} {b p q : Nat} {hv : Value} {t : TS} (a : TmAt W b p q hv t) (ok : TO0 t) :
    Calls Tryz.prog 283 #[.pointer (some ⟨b, 0, none⟩), .int .i64 2] W (TmPost b p q hv (t.erased 2 true) W) := by
  obtain ⟨c0, c1, c2, c3, c4, c5, c6, c7, c8, c9, c10, c11, c12, c13, c14, c15, c16, fz⟩ := a.cells
  have CS := Lib.hid (gsize_any a.g)
  have AA := Lib.hid a
  have OK := Lib.hid ok
  have hh2 := ok.h2
  have hh1 := ok.h1
  have hw1 := ok.w1
  have hw2 := ok.w2
  have hrow := ok.row
  have hcol := ok.col
  clear a ok
  go_enter Tryz.func283, Tryz.ntmps283
  go_upto_region 1 with (go_at_call 86; refine (CS.out).mono ?_; rintro e X ⟨rfl, hb⟩)
  have aX := AA.out.below hb
  clear c0 c1 c2 c3 c4 c5 c6 c7 c8 c9 c10 c11 c12 c13 c14 c15 c16 fz CS AA
  obtain ⟨c0, c1, c2, c3, c4, c5, c6, c7, c8, c9, c10, c11, c12, c13, c14, c15, c16, fz⟩ := aX.cells
  have hbl : PBk X b (pCells hv p t) := aX.blk
  have dB : Below X.heap.size X X.drew := (Below.refl _ _).drew
  go_wp2_with fail
  refine wp_region_mix2 [(true, 0), (true, 1), (true, 2), (true, 3), (true, 4), (true, 5), (true, 6), (true, 7), (true, 8), (false, 9)] (fun w' => PBk w' b (pCells hv p t)) (by kernel_rfl) (by kernel_rfl) (by rfl) (by kernel_rfl) (by kernel_rfl) (fun _ _ d _ _ h => by cases d <;> exact h) (hbl.below dB) ?_
  simp only [mixL, List.getElem?_cons_succ, List.getElem?_cons_zero]
  repeat (refine' wpMix2_read (v := _) rfl ?_ ?_; rotate_left 1; (intro w' hw'; obtain ⟨c0, c1, c2, c3, c4, c5, c6, c7, c8, c9, c10, c11, c12, c13, c14, c15, c16, fz⟩ := hw'.cells; go_simp; try with_reducible rfl); try simp only [Act.put, List.setIfInBounds_toArray, List.set_cons_zero, List.set_cons_succ])
  refine wpMix2_act (fun K hK => ?_)
  have aD := aX.below dB
  have CE := Lib.hid (erase_any aD.g (t.row : Int) 0 (t.W : Int))
  go_wp2_with fail
  refine (CE.out).mono ?_
  rintro e Y ⟨rfl, gY, oY⟩
  try dsimp only at gY
  rw [← (OK.out.ok).erase_flat] at gY
  have aY := aD.grid oY _ gY
  go_wp2
  refine hK _ _ aY.blk ?_
  clear hK K
  refine wpMix2_nil ?_
  go_wp2
  go_end0
  exact ⟨rfl, aY, (Only.on hb).trans ((Only.on dB).trans oY.oq)⟩
set_option maxRecDepth 100000 in
set_option maxHeartbeats 4000000 in
theorem peraseLineN {W : World} {b p q : Nat} {hv : Value} {t : TS} (a : TmAt W b p q hv t) (ok : TO0 t) (n : Nat) (hn : n ≤ 9999) (k0 : ((n : Int) == 0) = false) (k1 : ((n : Int) == 1) = false) (k2 : ((n : Int) == 2) = false) :
    Calls Tryz.prog 283 #[.pointer (some ⟨b, 0, none⟩), .int .i64 (n : Int)] W (TmPost b p q hv t W) := by
  obtain ⟨c0, c1, c2, c3, c4, c5, c6, c7, c8, c9, c10, c11, c12, c13, c14, c15, c16, fz⟩ := a.cells
  have CS := Lib.hid (gsize_any a.g)
  have AA := Lib.hid a
  have OK := Lib.hid ok
  have hh2 := ok.h2
  have hh1 := ok.h1
  have hw1 := ok.w1
  have hw2 := ok.w2
  have hrow := ok.row
  have hcol := ok.col
  clear a ok
  go_enter Tryz.func283, Tryz.ntmps283
  go_upto_region 1 with (go_at_call 86; refine (CS.out).mono ?_; rintro e X ⟨rfl, hb⟩)
  have aX := AA.out.below hb
  clear c0 c1 c2 c3 c4 c5 c6 c7 c8 c9 c10 c11 c12 c13 c14 c15 c16 fz CS AA
  obtain ⟨c0, c1, c2, c3, c4, c5, c6, c7, c8, c9, c10, c11, c12, c13, c14, c15, c16, fz⟩ := aX.cells
  go_wp2
  go_end0
  exact ⟨rfl, aX, Only.on hb⟩
theorem peraseLine_any {W : World} {b p q : Nat} {hv : Value} {t : TS} (a : TmAt W b p q hv t) (ok : TO0 t) (n : Nat) (hn : n ≤ 9999) :
    Calls Tryz.prog 283 #[.pointer (some ⟨b, 0, none⟩), .int .i64 (n : Int)] W (TmPost b p q hv (t.erased n true) W) := by
  by_cases h0 : n = 0
  · subst h0; exact peraseLine0 a ok
  by_cases h1 : n = 1
  · subst h1; exact peraseLine1 a ok
  by_cases h2 : n = 2
  · subst h2; exact peraseLine2 a ok
  have e : t.erased n true = t := by unfold TS.erased; rw [if_neg h0, if_neg h1, if_neg h2]
  rw [e]
  exact peraseLineN a ok n hn (by simpa using h0) (by simp; omega) (by simp; omega)
end Go.Proofs.YtekodpcedjpnjaaGreat
namespace Go.Proofs.YtekodpcedjpnjaaGreat
set_option linter.unusedVariables false
set_option linter.unusedSimpArgs false
open Go.RowKit Go.Maps
/-- A move of the cursor. -/
def TS.mv (t : TS) (n m : Nat) (e : Nat) : TS :=
  if e = 65 then t.moved (t.row - max 1 (n : Int)) t.col
  else if e = 66 then t.moved (t.row + max 1 (n : Int)) t.col
  else if e = 67 then t.moved t.row (t.col + max 1 (n : Int))
  else if e = 68 then t.moved t.row (t.col - max 1 (n : Int))
  else if e = 71 then t.moved t.row (max 1 (n : Int) - 1)
  else if e = 72 then t.moved (max 1 (n : Int) - 1) (max 1 (m : Int) - 1)
  else t
set_option maxRecDepth 100000 in
set_option maxHeartbeats 4000000 in
theorem pmove65 {W : World} {b p q : Nat} {hv : Value} {t : TS} (a : TmAt W b p q hv t) (ok : TO0 t) (n m : Int) (hn : 0 ≤ n ∧ n ≤ 9999) (hm : 0 ≤ m ∧ m ≤ 9999) (N M : Int) (hN : N = max 1 n) (hM : M = max 1 m) :
    Calls Tryz.prog 281 #[.pointer (some ⟨b, 0, none⟩), .int .i64 n, .int .i64 m, .int .u8 65] W (TmPost b p q hv (t.moved ((t.row : Int) - N) (t.col : Int)) W) := by
  have hN2 : 1 ≤ N ∧ N ≤ 9999 := by omega
  have hM2 : 1 ≤ M ∧ M ≤ 9999 := by omega
  have HN := Lib.hid hN
  have HM := Lib.hid hM
  clear hM
  replace hN := hN.symm
  obtain ⟨c0, c1, c2, c3, c4, c5, c6, c7, c8, c9, c10, c11, c12, c13, c14, c15, c16, fz⟩ := a.cells
  have CS := Lib.hid (gsize_any a.g)
  have AA := Lib.hid a
  have OK := Lib.hid ok
  have hh2 := ok.h2
  have hh1 := ok.h1
  have hw1 := ok.w1
  have hw2 := ok.w2
  have hrow := ok.row
  have hcol := ok.col
  clear a ok
  go_enter Tryz.func281, Tryz.ntmps281
  have dB : Below W.heap.size W W.drew := (Below.refl _ _).drew
  have aD := AA.out.below dB
  have hbl : PBk W b (pCells hv p t) := AA.out.blk
  have CM := Lib.hid (pmoveTo_any aD OK.out ((t.row : Int) - N) (t.col : Int) (by omega) (by omega))
  go_wp2_with fail
  refine wp_region_mixT 8 [(true, 0), (true, 1), (true, 2), (true, 3), (true, 4), (true, 5), (true, 6), (true, 7), (true, 8), (true, 9), (true, 10), (false, 11)] (fun w' => PBk w' b (pCells hv p t)) (by kernel_rfl) (by kernel_rfl) (by rfl) (by kernel_rfl) (by kernel_rfl) (fun _ _ d _ _ h => by cases d <;> exact h) (hbl.below dB) ?_
  simp only [mixL, List.getElem?_cons_succ, List.getElem?_cons_zero]
  repeat (refine' wpMix_read (v := _) rfl ?_ ?_; rotate_left 1; (intro w' hw'; obtain ⟨c0, c1, c2, c3, c4, c5, c6, c7, c8, c9, c10, c11, c12, c13, c14, c15, c16, fz⟩ := hw'.cells; go_simp; try with_reducible rfl); try simp only [Act.put, List.setIfInBounds_toArray, List.set_cons_zero, List.set_cons_succ])
  refine wpMix_act (fun K hK => ?_)
  go_wp2_with fail
  refine (CM.out).mono ?_
  rintro e Y ⟨rfl, aY, oY⟩
  go_wp2
  refine hK _ _ (fun h => absurd rfl h) ?_
  clear hK K
  refine wpMix_nil ?_
  go_wp2
  go_end0
  exact ⟨rfl, aY, (Only.on dB).trans oY⟩
set_option maxRecDepth 100000 in
set_option maxHeartbeats 4000000 in
theorem pmove66 {W : World} {b p q : Nat} {hv : Value} {t : TS} (a : TmAt W b p q hv t) (ok : TO0 t) (n m : Int) (hn : 0 ≤ n ∧ n ≤ 9999) (hm : 0 ≤ m ∧ m ≤ 9999) (N M : Int) (hN : N = max 1 n) (hM : M = max 1 m) :
    Calls Tryz.prog 281 #[.pointer (some ⟨b, 0, none⟩), .int .i64 n, .int .i64 m, .int .u8 66] W (TmPost b p q hv (t.moved ((t.row : Int) + N) (t.col : Int)) W) := by
  have hN2 : 1 ≤ N ∧ N ≤ 9999 := by omega
  have hM2 : 1 ≤ M ∧ M ≤ 9999 := by omega
  have HN := Lib.hid hN
  have HM := Lib.hid hM
  clear hM
  replace hN := hN.symm
  obtain ⟨c0, c1, c2, c3, c4, c5, c6, c7, c8, c9, c10, c11, c12, c13, c14, c15, c16, fz⟩ := a.cells
  have CS := Lib.hid (gsize_any a.g)
  have AA := Lib.hid a
  have OK := Lib.hid ok
  have hh2 := ok.h2
  have hh1 := ok.h1
  have hw1 := ok.w1
  have hw2 := ok.w2
  have hrow := ok.row
  have hcol := ok.col
  clear a ok
  go_enter Tryz.func281, Tryz.ntmps281
  have dB : Below W.heap.size W W.drew := (Below.refl _ _).drew
  have aD := AA.out.below dB
  have hbl : PBk W b (pCells hv p t) := AA.out.blk
  have CM := Lib.hid (pmoveTo_any aD OK.out ((t.row : Int) + N) (t.col : Int) (by omega) (by omega))
  go_wp2_with fail
  refine wp_region_mixT 8 [(true, 0), (true, 1), (true, 2), (true, 3), (true, 4), (true, 5), (true, 6), (true, 7), (true, 8), (true, 9), (true, 10), (false, 11)] (fun w' => PBk w' b (pCells hv p t)) (by kernel_rfl) (by kernel_rfl) (by rfl) (by kernel_rfl) (by kernel_rfl) (fun _ _ d _ _ h => by cases d <;> exact h) (hbl.below dB) ?_
  simp only [mixL, List.getElem?_cons_succ, List.getElem?_cons_zero]
  repeat (refine' wpMix_read (v := _) rfl ?_ ?_; rotate_left 1; (intro w' hw'; obtain ⟨c0, c1, c2, c3, c4, c5, c6, c7, c8, c9, c10, c11, c12, c13, c14, c15, c16, fz⟩ := hw'.cells; go_simp; try with_reducible rfl); try simp only [Act.put, List.setIfInBounds_toArray, List.set_cons_zero, List.set_cons_succ])
  refine wpMix_act (fun K hK => ?_)
  go_wp2_with fail
  refine (CM.out).mono ?_
  rintro e Y ⟨rfl, aY, oY⟩
  go_wp2
  refine hK _ _ (fun h => absurd rfl h) ?_
  clear hK K
  refine wpMix_nil ?_
  go_wp2
  go_end0
  exact ⟨rfl, aY, (Only.on dB).trans oY⟩
set_option maxRecDepth 100000 in
set_option maxHeartbeats 4000000 in
theorem pmove67 {W : World} {b p q : Nat} {hv : Value} {t : TS} (a : TmAt W b p q hv t) (ok : TO0 t) (n m : Int) (hn : 0 ≤ n ∧ n ≤ 9999) (hm : 0 ≤ m ∧ m ≤ 9999) (N M : Int) (hN : N = max 1 n) (hM : M = max 1 m) :
    Calls Tryz.prog 281 #[.pointer (some ⟨b, 0, none⟩), .int .i64 n, .int .i64 m, .int .u8 67] W (TmPost b p q hv (t.moved (t.row : Int) ((t.col : Int) + N)) W) := by
  have hN2 : 1 ≤ N ∧ N ≤ 9999 := by omega
  have hM2 : 1 ≤ M ∧ M ≤ 9999 := by omega
  have HN := Lib.hid hN
  have HM := Lib.hid hM
  clear hM
  replace hN := hN.symm
  obtain ⟨c0, c1, c2, c3, c4, c5, c6, c7, c8, c9, c10, c11, c12, c13, c14, c15, c16, fz⟩ := a.cells
  have CS := Lib.hid (gsize_any a.g)
  have AA := Lib.hid a
  have OK := Lib.hid ok
  have hh2 := ok.h2
  have hh1 := ok.h1
  have hw1 := ok.w1
  have hw2 := ok.w2
  have hrow := ok.row
  have hcol := ok.col
  clear a ok
  go_enter Tryz.func281, Tryz.ntmps281
  have dB : Below W.heap.size W W.drew := (Below.refl _ _).drew
  have aD := AA.out.below dB
  have hbl : PBk W b (pCells hv p t) := AA.out.blk
  have CM := Lib.hid (pmoveTo_any aD OK.out (t.row : Int) ((t.col : Int) + N) (by omega) (by omega))
  go_wp2_with fail
  refine wp_region_mixT 8 [(true, 0), (true, 1), (true, 2), (true, 3), (true, 4), (true, 5), (true, 6), (true, 7), (true, 8), (true, 9), (true, 10), (false, 11)] (fun w' => PBk w' b (pCells hv p t)) (by kernel_rfl) (by kernel_rfl) (by rfl) (by kernel_rfl) (by kernel_rfl) (fun _ _ d _ _ h => by cases d <;> exact h) (hbl.below dB) ?_
  simp only [mixL, List.getElem?_cons_succ, List.getElem?_cons_zero]
  repeat (refine' wpMix_read (v := _) rfl ?_ ?_; rotate_left 1; (intro w' hw'; obtain ⟨c0, c1, c2, c3, c4, c5, c6, c7, c8, c9, c10, c11, c12, c13, c14, c15, c16, fz⟩ := hw'.cells; go_simp; try with_reducible rfl); try simp only [Act.put, List.setIfInBounds_toArray, List.set_cons_zero, List.set_cons_succ])
  refine wpMix_act (fun K hK => ?_)
  go_wp2_with fail
  refine (CM.out).mono ?_
  rintro e Y ⟨rfl, aY, oY⟩
  go_wp2
  refine hK _ _ (fun h => absurd rfl h) ?_
  clear hK K
  refine wpMix_nil ?_
  go_wp2
  go_end0
  exact ⟨rfl, aY, (Only.on dB).trans oY⟩
set_option maxRecDepth 100000 in
set_option maxHeartbeats 4000000 in
theorem pmove68 {W : World} {b p q : Nat} {hv : Value} {t : TS} (a : TmAt W b p q hv t) (ok : TO0 t) (n m : Int) (hn : 0 ≤ n ∧ n ≤ 9999) (hm : 0 ≤ m ∧ m ≤ 9999) (N M : Int) (hN : N = max 1 n) (hM : M = max 1 m) :
    Calls Tryz.prog 281 #[.pointer (some ⟨b, 0, none⟩), .int .i64 n, .int .i64 m, .int .u8 68] W (TmPost b p q hv (t.moved (t.row : Int) ((t.col : Int) - N)) W) := by
  have hN2 : 1 ≤ N ∧ N ≤ 9999 := by omega
  have hM2 : 1 ≤ M ∧ M ≤ 9999 := by omega
  have HN := Lib.hid hN
  have HM := Lib.hid hM
  clear hM
  replace hN := hN.symm
  obtain ⟨c0, c1, c2, c3, c4, c5, c6, c7, c8, c9, c10, c11, c12, c13, c14, c15, c16, fz⟩ := a.cells
  have CS := Lib.hid (gsize_any a.g)
  have AA := Lib.hid a
  have OK := Lib.hid ok
  have hh2 := ok.h2
  have hh1 := ok.h1
  have hw1 := ok.w1
  have hw2 := ok.w2
  have hrow := ok.row
  have hcol := ok.col
  clear a ok
  go_enter Tryz.func281, Tryz.ntmps281
  have dB : Below W.heap.size W W.drew := (Below.refl _ _).drew
  have aD := AA.out.below dB
  have hbl : PBk W b (pCells hv p t) := AA.out.blk
  have CM := Lib.hid (pmoveTo_any aD OK.out (t.row : Int) ((t.col : Int) - N) (by omega) (by omega))
  go_wp2_with fail
  refine wp_region_mixT 8 [(true, 0), (true, 1), (true, 2), (true, 3), (true, 4), (true, 5), (true, 6), (true, 7), (true, 8), (true, 9), (true, 10), (false, 11)] (fun w' => PBk w' b (pCells hv p t)) (by kernel_rfl) (by kernel_rfl) (by rfl) (by kernel_rfl) (by kernel_rfl) (fun _ _ d _ _ h => by cases d <;> exact h) (hbl.below dB) ?_
  simp only [mixL, List.getElem?_cons_succ, List.getElem?_cons_zero]
  repeat (refine' wpMix_read (v := _) rfl ?_ ?_; rotate_left 1; (intro w' hw'; obtain ⟨c0, c1, c2, c3, c4, c5, c6, c7, c8, c9, c10, c11, c12, c13, c14, c15, c16, fz⟩ := hw'.cells; go_simp; try with_reducible rfl); try simp only [Act.put, List.setIfInBounds_toArray, List.set_cons_zero, List.set_cons_succ])
  refine wpMix_act (fun K hK => ?_)
  go_wp2_with fail
  refine (CM.out).mono ?_
  rintro e Y ⟨rfl, aY, oY⟩
  go_wp2
  refine hK _ _ (fun h => absurd rfl h) ?_
  clear hK K
  refine wpMix_nil ?_
  go_wp2
  go_end0
  exact ⟨rfl, aY, (Only.on dB).trans oY⟩
set_option maxRecDepth 100000 in
set_option maxHeartbeats 4000000 in
theorem pmove71 {W : World} {b p q : Nat} {hv : Value} {t : TS} (a : TmAt W b p q hv t) (ok : TO0 t) (n m : Int) (hn : 0 ≤ n ∧ n ≤ 9999) (hm : 0 ≤ m ∧ m ≤ 9999) (N M : Int) (hN : N = max 1 n) (hM : M = max 1 m) :
    Calls Tryz.prog 281 #[.pointer (some ⟨b, 0, none⟩), .int .i64 n, .int .i64 m, .int .u8 71] W (TmPost b p q hv (t.moved (t.row : Int) (N - 1)) W) := by
  have hN2 : 1 ≤ N ∧ N ≤ 9999 := by omega
  have hM2 : 1 ≤ M ∧ M ≤ 9999 := by omega
  have HN := Lib.hid hN
  have HM := Lib.hid hM
  clear hM
  replace hN := hN.symm
  obtain ⟨c0, c1, c2, c3, c4, c5, c6, c7, c8, c9, c10, c11, c12, c13, c14, c15, c16, fz⟩ := a.cells
  have CS := Lib.hid (gsize_any a.g)
  have AA := Lib.hid a
  have OK := Lib.hid ok
  have hh2 := ok.h2
  have hh1 := ok.h1
  have hw1 := ok.w1
  have hw2 := ok.w2
  have hrow := ok.row
  have hcol := ok.col
  clear a ok
  go_enter Tryz.func281, Tryz.ntmps281
  have CM := Lib.hid (pmoveTo_any AA.out OK.out (t.row : Int) (N - 1) (by omega) (by omega))
  go_wp2_with (go_at_call 125; refine (CM.out).mono ?_; rintro e Y ⟨rfl, aY, oY⟩)
  go_end0
  exact ⟨rfl, aY, oY⟩
set_option maxRecDepth 100000 in
set_option maxHeartbeats 4000000 in
theorem pmove72 {W : World} {b p q : Nat} {hv : Value} {t : TS} (a : TmAt W b p q hv t) (ok : TO0 t) (n m : Int) (hn : 0 ≤ n ∧ n ≤ 9999) (hm : 0 ≤ m ∧ m ≤ 9999) (N M : Int) (hN : N = max 1 n) (hM : M = max 1 m) :
    Calls Tryz.prog 281 #[.pointer (some ⟨b, 0, none⟩), .int .i64 n, .int .i64 m, .int .u8 72] W (TmPost b p q hv (t.moved (N - 1) (M - 1)) W) := by
  have hN2 : 1 ≤ N ∧ N ≤ 9999 := by omega
  have hM2 : 1 ≤ M ∧ M ≤ 9999 := by omega
  have HN := Lib.hid hN
  have HM := Lib.hid hM
  clear hM
  replace hN := hN.symm
  have hM := HM.out.symm
  obtain ⟨c0, c1, c2, c3, c4, c5, c6, c7, c8, c9, c10, c11, c12, c13, c14, c15, c16, fz⟩ := a.cells
  have CS := Lib.hid (gsize_any a.g)
  have AA := Lib.hid a
  have OK := Lib.hid ok
  have hh2 := ok.h2
  have hh1 := ok.h1
  have hw1 := ok.w1
  have hw2 := ok.w2
  have hrow := ok.row
  have hcol := ok.col
  clear a ok
  go_enter Tryz.func281, Tryz.ntmps281
  have CM := Lib.hid (pmoveTo_any AA.out OK.out (N - 1) (M - 1) (by omega) (by omega))
  go_wp2_with (go_at_call 125; refine (CM.out).mono ?_; rintro e Y ⟨rfl, aY, oY⟩)
  go_end0
  exact ⟨rfl, aY, oY⟩
set_option maxRecDepth 100000 in
set_option maxHeartbeats 4000000 in
theorem pmoveN {W : World} {b p q : Nat} {hv : Value} {t : TS} (a : TmAt W b p q hv t) (ok : TO0 t) (n m : Int) (hn : 0 ≤ n ∧ n ≤ 9999) (hm : 0 ≤ m ∧ m ≤ 9999) (e : Nat) (he : e < 256) (k65 : ((e : Int) == 65) = false) (k66 : ((e : Int) == 66) = false) (k67 : ((e : Int) == 67) = false) (k68 : ((e : Int) == 68) = false) (k71 : ((e : Int) == 71) = false) (k72 : ((e : Int) == 72) = false) :
    Calls Tryz.prog 281 #[.pointer (some ⟨b, 0, none⟩), .int .i64 n, .int .i64 m, .int .u8 (e : Int)] W (TmPost b p q hv t W) := by
  obtain ⟨c0, c1, c2, c3, c4, c5, c6, c7, c8, c9, c10, c11, c12, c13, c14, c15, c16, fz⟩ := a.cells
  have CS := Lib.hid (gsize_any a.g)
  have AA := Lib.hid a
  have OK := Lib.hid ok
  have hh2 := ok.h2
  have hh1 := ok.h1
  have hw1 := ok.w1
  have hw2 := ok.w2
  have hrow := ok.row
  have hcol := ok.col
  clear a ok
  go_enter Tryz.func281, Tryz.ntmps281
  go_wp2
  go_end0
  exact ⟨rfl, AA.out, Only.refl _ _⟩
theorem pmove_any {W : World} {b p q : Nat} {hv : Value} {t : TS} (a : TmAt W b p q hv t) (ok : TO0 t) (n m : Nat) (hn : n ≤ 9999) (hm : m ≤ 9999) (e : Nat) (he : e < 256) :
    Calls Tryz.prog 281 #[.pointer (some ⟨b, 0, none⟩), .int .i64 (n : Int), .int .i64 (m : Int), .int .u8 (e : Int)] W (TmPost b p q hv (t.mv n m e) W) := by
  unfold TS.mv
  by_cases h65 : e = 65
  · subst h65; rw [if_pos rfl]; exact pmove65 a ok n m (by omega) (by omega) _ _ rfl rfl
  rw [if_neg h65]
  by_cases h66 : e = 66
  · subst h66; rw [if_pos rfl]; exact pmove66 a ok n m (by omega) (by omega) _ _ rfl rfl
  rw [if_neg h66]
  by_cases h67 : e = 67
  · subst h67; rw [if_pos rfl]; exact pmove67 a ok n m (by omega) (by omega) _ _ rfl rfl
  rw [if_neg h67]
  by_cases h68 : e = 68
  · subst h68; rw [if_pos rfl]; exact pmove68 a ok n m (by omega) (by omega) _ _ rfl rfl
  rw [if_neg h68]
  by_cases h71 : e = 71
  · subst h71; rw [if_pos rfl]; exact pmove71 a ok n m (by omega) (by omega) _ _ rfl rfl
  rw [if_neg h71]
  by_cases h72 : e = 72
  · subst h72; rw [if_pos rfl]; exact pmove72 a ok n m (by omega) (by omega) _ _ rfl rfl
  rw [if_neg h72]
  exact pmoveN a ok n m (by omega) (by omega) e he (by simp; omega) (by simp; omega) (by simp; omega) (by simp; omega) (by simp; omega) (by simp; omega)
end Go.Proofs.YtekodpcedjpnjaaGreat
