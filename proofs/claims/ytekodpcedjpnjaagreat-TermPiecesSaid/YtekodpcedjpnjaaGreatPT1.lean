/- The program's terminal in memory; feed and moveTo. No condition but that the counters are not at their ends. -/
import Derived.Test.YtekodpcedjpnjaaGreatTermP
import Derived.Test.YtekodpcedjpnjaaGreatGridE
import Derived.Test.YtekodpcedjpnjaaGreatGrid8
namespace Go.Proofs.YtekodpcedjpnjaaGreat
set_option linter.unusedVariables false
set_option linter.unusedSimpArgs false
open Go.RowKit Go.Maps
def pCells (hv : Value) (p : Nat) (t : TS) : Array Value :=
  #[hv, .pointer (some ⟨p, 0, none⟩), .int .i64 t.row, .int .i64 t.col, .bool t.y.b, .bool t.y.u, .bool t.y.i, .int .i64 t.y.f, .int .i64 t.y.g, .bool t.pend, .bool (!t.seen), .bool t.marked, .int .i64 t.bells, .int .i64 t.gone, .bool t.last, .int .i64 t.lrow, .int .i64 t.lcol]
/-- A terminal that New made: its block, its grid's two. -/
structure TmAt (W : World) (b p q : Nat) (hv : Value) (t : TS) : Prop where
  blk : W.heap[b]? = some (.cells (pCells hv p t) 185 (0, 0))
  g : GridAt W p q t.W t.H t.R.flatten
  bp : b ≠ p
  bq : b ≠ q
theorem TmAt.only {W W' : World} {b p q : Nat} {hv : Value} {t : TS} {S : List Nat} (a : TmAt W b p q hv t) (ho : Only S W W') (h1 : b ∉ S) (h2 : p ∉ S) (h3 : q ∉ S) : TmAt W' b p q hv t :=
  ⟨ho.heap a.blk h1, a.g.only ho h2 h3, a.bp, a.bq⟩
theorem TmAt.below {W W' : World} {b p q : Nat} {hv : Value} {t : TS} (a : TmAt W b p q hv t) (hb : Below W.heap.size W W') : TmAt W' b p q hv t :=
  a.only (Only.of_below (S := []) hb) (by simp) (by simp) (by simp)
theorem TmAt.lt {W : World} {b p q : Nat} {hv : Value} {t : TS} (a : TmAt W b p q hv t) : b < W.heap.size ∧ p < W.heap.size ∧ q < W.heap.size :=
  ⟨(Array.getElem?_eq_some_iff.1 a.blk).1, (Array.getElem?_eq_some_iff.1 a.g.head).1, a.g.blk.lt⟩
theorem TmAt.cells {W : World} {b p q : Nat} {hv : Value} {t : TS} (a : TmAt W b p q hv t) :
    W.cell? ⟨b, 0, none⟩ = some hv ∧ W.cell? ⟨b, 1, none⟩ = some (.pointer (some ⟨p, 0, none⟩)) ∧ W.cell? ⟨b, 2, none⟩ = some (.int .i64 t.row) ∧ W.cell? ⟨b, 3, none⟩ = some (.int .i64 t.col) ∧ W.cell? ⟨b, 4, none⟩ = some (.bool t.y.b) ∧ W.cell? ⟨b, 5, none⟩ = some (.bool t.y.u) ∧
    W.cell? ⟨b, 6, none⟩ = some (.bool t.y.i) ∧ W.cell? ⟨b, 7, none⟩ = some (.int .i64 t.y.f) ∧ W.cell? ⟨b, 8, none⟩ = some (.int .i64 t.y.g) ∧ W.cell? ⟨b, 9, none⟩ = some (.bool t.pend) ∧ W.cell? ⟨b, 10, none⟩ = some (.bool (!t.seen)) ∧ W.cell? ⟨b, 11, none⟩ = some (.bool t.marked) ∧
    W.cell? ⟨b, 12, none⟩ = some (.int .i64 t.bells) ∧ W.cell? ⟨b, 13, none⟩ = some (.int .i64 t.gone) ∧ W.cell? ⟨b, 14, none⟩ = some (.bool t.last) ∧ W.cell? ⟨b, 15, none⟩ = some (.int .i64 t.lrow) ∧ W.cell? ⟨b, 16, none⟩ = some (.int .i64 t.lcol) ∧ ∀ j, W.frozen? ⟨b, j, none⟩ = false := by
  have h := a.blk
  refine ⟨?_, ?_, ?_, ?_, ?_, ?_, ?_, ?_, ?_, ?_, ?_, ?_, ?_, ?_, ?_, ?_, ?_, fun j => by simp [World.frozen?, h]⟩ <;> rw [cell_of_row W b _ _ _ _ h] <;> rfl
/-- A cell of the terminal is written. -/
theorem TmAt.put {W : World} {b p q : Nat} {hv : Value} {t : TS} (a : TmAt W b p q hv t) (o : Nat) (v : Value) (hv' : Value) (t' : TS) (he : (pCells hv p t).setIfInBounds o v = pCells hv' p t') (hW : t'.W = t.W) (hH : t'.H = t.H) (hR : t'.R = t.R) : TmAt (W.setCell ⟨b, o, none⟩ v) b p q hv' t' :=
  have o1 : Only [b] W (W.setCell ⟨b, o, none⟩ v) := (Only.refl [b] W).setCell (.inl (by simp)) v
  ⟨by rw [set_at a.blk, he], by rw [hW, hH, hR]; exact a.g.only o1 (by simpa using Ne.symm a.bp) (by simpa using Ne.symm a.bq), a.bp, a.bq⟩
/-- The grid is written. -/
theorem TmAt.grid {W W' : World} {b p q : Nat} {hv : Value} {t : TS} (a : TmAt W b p q hv t) (o : Only [q] W W') (R : List (List GC)) (g : GridAt W' p q t.W t.H R.flatten) : TmAt W' b p q hv { t with R := R } :=
  ⟨o.heap a.blk (by simp; exact a.bq), g, a.bp, a.bq⟩
theorem Only.ob {b q : Nat} {W W' : World} (h : Only [b] W W') : Only [b, q] W W' := h.mono (by simp)
theorem Only.oq {b q : Nat} {W W' : World} (h : Only [q] W W') : Only [b, q] W W' := h.mono (by simp)
theorem Only.on {b q : Nat} {W W' : World} (h : Below W.heap.size W W') : Only [b, q] W W' := Only.of_below h
theorem set_only (W : World) (b o : Nat) (v : Value) : Only [b] W (W.setCell ⟨b, o, none⟩ v) := (Only.refl [b] W).setCell (.inl (by simp)) v
/-- What a method that tells nothing leaves. -/
def TmPost (b p q : Nat) (hv : Value) (t : TS) (W : World) (e : Ending) (w' : World) : Prop := e = .returned (.tuple #[]) ∧ TmAt w' b p q hv t ∧ Only [b, q] W w'
theorem moved_at {X : World} {b p q : Nat} {hv : Value} {t : TS} (a : TmAt X b p q hv t) (r c x y : Int) (hx : x = max 0 (min r ((t.H : Int) - 1))) (hy : y = max 0 (min c ((t.W : Int) - 1))) :
    TmAt (((X.setCell ⟨b, 2, none⟩ (.int .i64 x)).setCell ⟨b, 3, none⟩ (.int .i64 y)).setCell ⟨b, 9, none⟩ (.bool false)) b p q hv (t.moved r c) ∧ Only [b] X (((X.setCell ⟨b, 2, none⟩ (.int .i64 x)).setCell ⟨b, 3, none⟩ (.int .i64 y)).setCell ⟨b, 9, none⟩ (.bool false)) := by
  refine ⟨?_, ((set_only _ _ _ _).trans (set_only _ _ _ _)).trans (set_only _ _ _ _)⟩
  have ex : x = (((max 0 (min r ((t.H : Int) - 1))).toNat : Nat) : Int) := by omega
  have ey : y = (((max 0 (min c ((t.W : Int) - 1))).toNat : Nat) : Int) := by omega
  rw [ex, ey]
  exact ((a.put 2 _ hv { t with row := (max 0 (min r ((t.H : Int) - 1))).toNat } rfl rfl rfl rfl).put 3 _ hv { t with row := (max 0 (min r ((t.H : Int) - 1))).toNat, col := (max 0 (min c ((t.W : Int) - 1))).toNat } rfl rfl rfl rfl).put 9 _ hv (t.moved r c) rfl rfl rfl rfl
set_option maxRecDepth 100000 in
set_option maxHeartbeats 4000000 in
theorem pmoveTo_any {W : World} {b p q : Nat} {hv : Value} {t : TS} (a : TmAt W b p q hv t) (ok : TO0 t) (r c : Int) (hr : -1000000 ≤ r ∧ r ≤ 1000000) (hc : -1000000 ≤ c ∧ c ≤ 1000000) :
    Calls Tryz.prog 125 #[.pointer (some ⟨b, 0, none⟩), .int .i64 r, .int .i64 c] W (TmPost b p q hv (t.moved r c) W) := by
  obtain ⟨c0, c1, c2, c3, c4, c5, c6, c7, c8, c9, c10, c11, c12, c13, c14, c15, c16, fz⟩ := a.cells
  have CS := Lib.hid (gsize_any a.g)
  have AA := Lib.hid a
  have hw2 := ok.w2
  have hh2 := ok.h2
  have hw1 := ok.w1
  have hh1 := ok.h1
  clear a ok
  go_enter Tryz.func125, Tryz.ntmps125
  go_upto_region 1 with (go_at_call 86; refine (CS.out).mono ?_; rintro e X ⟨rfl, hb⟩)
  have aX := AA.out.below hb
  clear c0 c1 c2 c3 c4 c5 c6 c7 c8 c9 c10 c11 c12 c13 c14 c15 c16 fz
  obtain ⟨c0, c1, c2, c3, c4, c5, c6, c7, c8, c9, c10, c11, c12, c13, c14, c15, c16, fz⟩ := aX.cells
  clear AA CS
  go_wp2
  all_goals
    go_end0
    refine ⟨rfl, (moved_at aX r c _ _ ?_ ?_).1, (Only.on hb).trans (moved_at aX r c _ _ ?_ ?_).2.ob⟩ <;> omega
set_option maxRecDepth 100000 in
set_option maxHeartbeats 4000000 in
theorem pfeed_any {W : World} {b p q : Nat} {hv : Value} {t : TS} (a : TmAt W b p q hv t) (ok : TO0 t) (hg : t.gone < 4611686018427387904) :
    Calls Tryz.prog 225 #[.pointer (some ⟨b, 0, none⟩)] W (TmPost b p q hv t.feed W) := by
  obtain ⟨c0, c1, c2, c3, c4, c5, c6, c7, c8, c9, c10, c11, c12, c13, c14, c15, c16, fz⟩ := a.cells
  have CS := Lib.hid (gsize_any a.g)
  have AA := Lib.hid a
  have hw2 := ok.w2
  have hh2 := ok.h2
  have hw1 := ok.w1
  have hh1 := ok.h1
  have hrow := ok.row
  have HOK := Lib.hid ok.ok
  clear a ok
  go_enter Tryz.func225, Tryz.ntmps225
  go_upto_region 1 with (go_at_call 86; refine (CS.out).mono ?_; rintro e X ⟨rfl, hb⟩)
  have aX := AA.out.below hb
  clear c0 c1 c2 c3 c4 c5 c6 c7 c8 c9 c10 c11 c12 c13 c14 c15 c16 fz AA CS
  obtain ⟨c0, c1, c2, c3, c4, c5, c6, c7, c8, c9, c10, c11, c12, c13, c14, c15, c16, fz⟩ := aX.cells
  have a1 := aX.put 9 (.bool false) hv { t with pend := false } rfl rfl rfl rfl
  have o1 := set_only X b 9 (.bool false)
  by_cases hlt : t.row + 1 < t.H
  · have hli : (t.row : Int) + 1 < (t.H : Int) := by omega
    have HT : Hid (t.feed = { t with pend := false, row := t.row + 1 }) := Lib.hid (by unfold TS.feed; rw [if_pos hlt])
    have a2 := a1.put 2 (.int .i64 ((t.row + 1 : Nat) : Int)) hv { t with pend := false, row := t.row + 1 } rfl rfl rfl rfl
    have o2 := set_only (X.setCell ⟨b, 9, none⟩ (.bool false)) b 2 (.int .i64 ((t.row + 1 : Nat) : Int))
    go_wp2
    (try simp only [Exit.inBlock, Exit.then]); refine bodyPost_ret (results_none rfl _ _ _) rfl ?_
    have e1 : ((t.row : Int) + 1) = ((t.row + 1 : Nat) : Int) := by omega
    rw [e1]
    exact ⟨rfl, by rw [HT.out]; exact a2, (Only.on hb).trans (o1.trans o2).ob⟩
  · have hli : ¬ (t.row : Int) + 1 < (t.H : Int) := by omega
    have HT : Hid (t.feed = { t with pend := false, R := scrollR t.W t.R 1, gone := t.gone + 1 }) := Lib.hid (by unfold TS.feed; rw [if_neg hlt])
    have CC := scroll_any a1.g 1 1 (by show (1 : Int) = max 0 (min 1 (t.H : Int)); omega)
    have CC := Lib.hid CC
    have hf : (scrollR t.W t.R 1).flatten = scrollL t.R.flatten t.W 1 := HOK.out.scroll_flat (by omega)
    go_wp2_with (go_at_call 260; refine (CC.out).mono ?_; rintro e Y ⟨rfl, gY, oY⟩; have aY := a1.grid oY (scrollR t.W t.R 1) (by rw [hf]; exact gY); obtain ⟨_, d1, d2, d3, d4, d5, d6, d7, d8, d9, d10, d11, d12, d13, d14, d15, d16, fy⟩ := aY.cells)
    have a2 := aY.put 13 (.int .i64 ((t.gone + 1 : Nat) : Int)) hv { t with pend := false, R := scrollR t.W t.R 1, gone := t.gone + 1 } rfl rfl rfl rfl
    have o2 := set_only Y b 13 (.int .i64 ((t.gone + 1 : Nat) : Int))
    go_end0
    exact ⟨rfl, by rw [HT.out]; exact a2, (Only.on hb).trans (o1.ob.trans (oY.oq.trans o2.ob))⟩
end Go.Proofs.YtekodpcedjpnjaaGreat
