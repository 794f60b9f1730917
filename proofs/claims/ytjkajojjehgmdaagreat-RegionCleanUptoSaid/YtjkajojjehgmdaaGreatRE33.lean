/- The reference's terminal in memory: its struct in a box, loads and stores of it; feed. No condition. The reference's terminal: control, moved. No condition. The reference's terminal: control. No condition. The reference's terminal: a rune printed. No condition. -/
import Derived.Test.YtjkajojjehgmdaaGreatRE04
import Derived.Test.YtjkajojjehgmdaaGreatRE06
import Derived.Test.YtjkajojjehgmdaaGreatRE07
import Derived.Test.YtjkajojjehgmdaaGreatRE08
import Derived.Test.YtjkajojjehgmdaaGreatRE10
import Derived.Test.YtjkajojjehgmdaaGreatRE13
set_option linter.unusedVariables false
set_option linter.unusedSimpArgs false
namespace Go.Proofs.YtjkajojjehgmdaaGreat
open Go.RowKit Go.Shelf Go.Maps
def tCells (a : Option Addr) (cap : Nat) (t : TS) (bv : Value) : Array Value :=
 #[.int .i64 t.W, .int .i64 t.H, .slice a t.H cap, .int .i64 t.row, .int .i64 t.col, .bool t.y.b, .bool t.y.u, .bool t.y.i, .int .i64 t.y.f, .int .i64 t.y.g, .bool t.pend, .bool t.seen, .bool t.marked, .int .i64 t.bells, .int .i64 t.gone, bv, .bool t.last, .int .i64 t.lrow, .int .i64 t.lcol]
def zCells : Array Value := #[.int .i64 0, .int .i64 0, .slice none 0 0, .int .i64 0, .int .i64 0, .bool false, .bool false, .bool false, .int .i64 0, .int .i64 0, .bool false, .bool false, .bool false, .int .i64 0, .int .i64 0, .slice none 0 0, .bool false, .int .i64 0, .int .i64 0]
def OneV (v : Value) : Prop := v.oneCell' = true
theorem tCells_one (a : Option Addr) (cap : Nat) (t : TS) {bv : Value} (h : OneV bv) : ∀ v ∈ (tCells a cap t bv).toList, v.oneCell' = true := by
 intro v hv
 simp only [tCells, List.mem_cons, List.not_mem_nil, or_false] at hv
 rcases hv with h1 | h1 | h1 | h1 | h1 | h1 | h1 | h1 | h1 | h1 | h1 | h1 | h1 | h1 | h1 | h1 | h1 | h1 | h1 <;> subst h1 <;> first | rfl | exact h
def TBx (W : World) (b : Nat) (cs : Array Value) : Prop := W.heap[b]? = some (.cells cs 34 (0, 0))
theorem TBx.lt {W : World} {b : Nat} {cs : Array Value} (h : TBx W b cs) : b < W.heap.size := (Array.getElem?_eq_some_iff.1 h).1
theorem TBx.below {W W' : World} {b : Nat} {cs : Array Value} (h : TBx W b cs) (hb : Below W.heap.size W W') : TBx W' b cs := (hb.block b h.lt).trans h
theorem TBx.only {W W' : World} {b : Nat} {cs : Array Value} {S : List Nat} (h : TBx W b cs) (ho : Only S W W') (hS : b ∉ S) : TBx W' b cs := ho.heap h hS
theorem TBx.new (W : World) (cs : Array Value) : TBx (W.alloc (.cells cs 34)) W.heap.size cs := World.alloc_heap_new W _
theorem TBx.cell {W : World} {b : Nat} {cs : Array Value} (h : TBx W b cs) {o : Nat} {v : Value} (hv : cs[o]? = some v) : W.cell? ⟨b, o, none⟩ = some v := by rw [cell_of_row W b o _ _ _ h]; exact hv
theorem TBx.tc {W : World} {b : Nat} {a : Option Addr} {cap : Nat} {t : TS} {bv : Value} (h : TBx W b (tCells a cap t bv)) :
    W.cell? ⟨b, 0, none⟩ = some (.int .i64 t.W) ∧ W.cell? ⟨b, 1, none⟩ = some (.int .i64 t.H) ∧ W.cell? ⟨b, 2, none⟩ = some (.slice a t.H cap) ∧ W.cell? ⟨b, 3, none⟩ = some (.int .i64 t.row) ∧ W.cell? ⟨b, 4, none⟩ = some (.int .i64 t.col) ∧ W.cell? ⟨b, 5, none⟩ = some (.bool t.y.b) ∧ W.cell? ⟨b, 6, none⟩ = some (.bool t.y.u) ∧ W.cell? ⟨b, 7, none⟩ = some (.bool t.y.i) ∧ W.cell? ⟨b, 8, none⟩ = some (.int .i64 t.y.f) ∧ W.cell? ⟨b, 9, none⟩ = some (.int .i64 t.y.g) ∧ W.cell? ⟨b, 10, none⟩ = some (.bool t.pend) ∧ W.cell? ⟨b, 11, none⟩ = some (.bool t.seen) ∧ W.cell? ⟨b, 12, none⟩ = some (.bool t.marked) ∧ W.cell? ⟨b, 13, none⟩ = some (.int .i64 t.bells) ∧ W.cell? ⟨b, 14, none⟩ = some (.int .i64 t.gone) ∧ W.cell? ⟨b, 15, none⟩ = some bv ∧ W.cell? ⟨b, 16, none⟩ = some (.bool t.last) ∧ W.cell? ⟨b, 17, none⟩ = some (.int .i64 t.lrow) ∧ W.cell? ⟨b, 18, none⟩ = some (.int .i64 t.lcol) ∧ ∀ j, W.frozen? ⟨b, j, none⟩ = false := by
 refine ⟨?_, ?_, ?_, ?_, ?_, ?_, ?_, ?_, ?_, ?_, ?_, ?_, ?_, ?_, ?_, ?_, ?_, ?_, ?_, ?_⟩
 case refine_20 => intro j; unfold TBx at h; simp [World.frozen?, h]
 all_goals rw [cell_of_row W b _ _ _ _ h]; rfl
theorem TBx.free {W : World} {b : Nat} {cs : Array Value} (h : TBx W b cs) : ∀ j, W.frozen? ⟨b, j, none⟩ = false := fun j => by
 unfold TBx at h; simp [World.frozen?, h]
theorem TBx.set {W : World} {b : Nat} {cs : Array Value} (h : TBx W b cs) (o : Nat) (v : Value) (cs' : Array Value) (he : cs.setIfInBounds o v = cs') : TBx (W.setCell ⟨b, o, none⟩ v) b cs' ∧ Only [b] W (W.setCell ⟨b, o, none⟩ v) :=
 ⟨by subst he; exact set_at h o v, (Only.refl [b] W).setCell (.inl (by simp)) _⟩
theorem TBx.load {W : World} {b : Nat} {cs : Array Value} (h : TBx W b cs) (hs : cs.size = 19) : (loadVar 34 ⟨b, 0, none⟩).run Tryz.prog W = .ok (.agg cs) W :=
 run_loadVar_row (P := Tryz.prog) W b _ 34 cs (0, 0) _ h Tryz.underlying34 rfl (by rw [hs]; kernel_rfl)
theorem wpList_tload {ops : Array Oper} {rest : List Oper} {op : Oper} {a : Act} {w : World} {Q : Exit → Act → World → Prop} (hgd : op.guard = none) (x : Operand) (ho : op.op = .load 34 x)
    (b : Nat) (hx : a.eval x = .pointer (some ⟨b, 0, none⟩)) (cs : Array Value) (hb : TBx w b cs) (hs : cs.size = 19)
    (h : wpList Tryz.prog ops Q rest (a.put op.dst (.agg cs)) w) : wpList Tryz.prog ops Q (op :: rest) a w :=
 wpList_plain hgd fun K hK => by
  have hl := hb.load hs
  unfold Oper.wp execOp
  simp only [ho, hx, Sem.run_bind, Sem.run_pure, Result.andThen_ok, Instr.loadAt, Instr.sureAddr, asAddr, hl]
  exact hK _ _ h
theorem wpList_tstore {ops : Array Oper} {rest : List Oper} {op : Oper} {a : Act} {w : World} {Q : Exit → Act → World → Prop} (hgd : op.guard = none) (x y : Operand) (ho : op.op = .store 34 x y)
    (b : Nat) (hx : a.eval x = .pointer (some ⟨b, 0, none⟩)) (cs : Array Value) (hy : a.eval y = .agg cs) (cur : Array Value) (hb : TBx w b cur) (hs : cs.size = 19) (hc : cur.size = 19) (h1 : ∀ v ∈ cs.toList, v.oneCell' = true)
    (h : ∀ w', TBx w' b cs → Only [b] w w' → wpList Tryz.prog ops Q rest (a.put op.dst undef) w') : wpList Tryz.prog ops Q (op :: rest) a w :=
 wpList_plain hgd fun K hK => by
  have hst := run_storeCells_at Tryz.prog b 0 34 cs.toList 0 cur w hb (by rw [Array.length_toList, hs, hc]; omega) h1
  simp only [Nat.add_zero, List.take_zero, List.nil_append, Array.length_toList, hs, Nat.zero_add] at hst
  rw [List.drop_eq_nil_of_le (by rw [Array.length_toList, hc]; omega), List.append_nil, Array.toArray_toList] at hst
  have hi : (Tryz.prog.info? 34).map (·.size) = some 19 := by kernel_rfl
  have hrun : (Instr.storeAt 34 (.pointer (some ⟨b, 0, none⟩)) (.agg cs)).run Tryz.prog w = .ok () (w.setRow b cs) := by
   cases hq : Tryz.prog.info? 34 with
   | none => rw [hq] at hi; cases hi
   | some t =>
    have ht : t.size = 19 := by rw [hq] at hi; simpa using hi
    simp [Instr.storeAt, Instr.sureAddr, storeVar, sizeOf, typeInfo, hq, Value.cells, ht, hs, hst]
  unfold Oper.wp execOp
  simp only [ho, hx, hy, Sem.run_bind, Sem.run_pure, Result.andThen_ok, hrun]
  exact hK _ _ (h _ (setRow_heap w b _ _ _ _ hb) ((Only.refl [b] w).setRow (.inl (by simp)) _))
def TPost (F : Nat → Prop) (t : TS) (bv : Value) (W : World) (e : Ending) (w' : World) : Prop := ∃ a c, e = .returned (.agg (tCells a c t bv)) ∧ RG F w' a c t.W t.H t.R ∧ Below W.heap.size W w'
def TIn (W : World) (cs : Array Value) (X : World) : Prop := TBx X W.heap.size cs ∧ TBx X (W.heap.size + 1) zCells ∧ Below W.heap.size W X ∧ X.heap.size = W.heap.size + 1 + 1
theorem tin (W : World) (cs : Array Value) : TIn W cs ((W.alloc (.cells cs 34)).alloc (.cells zCells 34)) := by
 obtain ⟨X1, h1⟩ : ∃ X1, W.alloc (.cells cs 34) = X1 := ⟨_, rfl⟩
 have s1 : X1.heap.size = W.heap.size + 1 := by rw [← h1]; simp
 have t1 : TBx X1 W.heap.size cs := by rw [← h1]; exact TBx.new _ _
 have b1 : Below W.heap.size W X1 := by rw [← h1]; exact (Below.refl _ _).alloc (Nat.le_refl _) _
 rw [h1]
 refine ⟨t1.below ((Below.refl _ _).alloc (Nat.le_refl _) _), by rw [← s1]; exact TBx.new _ _, b1.alloc (by omega) _, by simp [s1]⟩
theorem tret {fn : Func} {p : Tmp} {R : Ending → World → Prop} {act : Act} {w : World} {b : Nat} {a : Option Addr} {cap : Nat} {t : TS} {bv : Value} (h : fn.results = #[.cell p 34]) (hp : act.tmps.getD p undef = .pointer (some ⟨b, 0, none⟩)) (hb : TBx w b (tCells a cap t bv)) (hd : act.defers = []) (hR : R (.returned (.agg (tCells a cap t bv))) w) :
    bodyPost Tryz.prog fn R Exit.ret act w := by
 refine bodyPost_ret (results_cell_row h _ _ b 34 _ (0, 0) _ hp hb Tryz.underlying34 rfl (by kernel_rfl)) hd ?_
 exact hR
set_option maxRecDepth 100000 in
set_option maxHeartbeats 8000000 in
theorem rfeed_any {F : Nat → Prop} {W : World} (hF : ∀ b, W.heap.size ≤ b → F b) {a : Option Addr} {cap : Nat} {t : TS} {bv : Value} (h1 : OneV bv) (ok : TO0 t) (hg : t.gone < 4611686018427387904) (g : RG F W a cap t.W t.H t.R) :
    Calls Tryz.prog 84 #[.agg (tCells a cap t bv)] W (TPost F t.feed bv W) := by
 obtain ⟨ow1, ow2, oh1, oh2, ook, oro, orow, ocol⟩ := ok
 by_cases hr : t.row + 1 < t.H
 ·have hft : t.feed = { t with pend := false, row := t.row + 1 } := by unfold TS.feed; rw [if_pos hr]
  rw [hft]
  have hri : (t.row : Int) < (t.H : Int) - 1 := by omega
  have G := Lib.hid g
  clear hft ook oro ocol hr g
  go_enter Tryz.func84, Tryz.ntmps84
  go_upto_region 0 with (fail)
  go_cut [1, 2] (fun u v wx => u = .pointer (some ⟨W.heap.size, 0, none⟩) ∧ v = .pointer (some ⟨W.heap.size + 1, 0, none⟩) ∧ TIn W (tCells a cap t bv) wx)
  case first =>
   go_wp2
   go_meet
   exact ⟨rfl, rfl, tin W _⟩
  case rest =>
   obtain ⟨rfl, rfl, p1, p2, bX, sX⟩ := hcut
   obtain ⟨c0, c1, c2, c3, c4, c5, c6, c7, c8, c9, c10, c11, c12, c13, c14, c15, c16, c17, c18, fz⟩ := p1.tc
   obtain ⟨pa, oa⟩ := p1.set 10 (.bool false) (tCells a cap { t with pend := false } bv) rfl
   obtain ⟨pb, ob⟩ := pa.set 3 (.int .i64 ((t.row + 1 : Nat) : Int)) (tCells a cap { t with pend := false, row := t.row + 1 } bv) rfl
   have q2 := (p2.only oa (by simp)).only ob (by simp)
   clear c5 c6 c7 c8 c9 c11 c12 c13 c15 c16 c17 c18
   go_wp2_with (first
    | (refine wpList_tload rfl _ rfl W.heap.size rfl (tCells a cap { t with pend := false, row := t.row + 1 } bv) ?_ rfl ?_; exact pb)
    | (refine wpList_tstore rfl _ _ rfl (W.heap.size + 1) rfl _ rfl zCells ?_ rfl rfl (tCells_one _ _ _ h1) ?_; exact q2; intro w5 p5 o5))
   have b5 : Below W.heap.size W w5 := ((bX.trans (oa.below (by simp) bX.size)).trans (ob.below (by simp) (by have := oa.size; have := bX.size; omega))).trans (o5.below (by simp) (by simp only [set_size]; exact bX.size))
   exact tret rfl rfl p5 rfl ⟨a, cap, rfl, G.out.below b5, b5⟩
 ·have hft : t.feed = { t with pend := false, R := scrollR t.W t.R 1, gone := t.gone + 1 } := by unfold TS.feed; rw [if_neg hr]
  rw [hft]
  have hri : (t.H : Int) - 1 ≤ (t.row : Int) := by omega
  have G := Lib.hid g
  have hm1 : ((1 : Nat) : Int) = max 0 (min 1 (t.H : Int)) := by omega
  have gF : RG (fun b => F b ∧ b ≠ W.heap.size ∧ b ≠ W.heap.size + 1) W a cap t.W t.H t.R := g.mono (fun b h1 h2 => ⟨h1, by omega, by omega⟩)
  have CS := Lib.hid (fun (X : World) (hX : Below W.heap.size W X) (hF' : ∀ b, X.heap.size ≤ b → F b ∧ b ≠ W.heap.size ∧ b ≠ W.heap.size + 1) => rscroll_any (F := fun b => F b ∧ b ≠ W.heap.size ∧ b ≠ W.heap.size + 1) hF' (gF.below hX) ⟨ow1, ow2⟩ ⟨oh1, oh2⟩ 1 1 hm1)
  clear hm1 gF
  clear hft ook oro ocol hr g
  go_enter Tryz.func84, Tryz.ntmps84
  go_upto_region 0 with (fail)
  go_cut [1, 2] (fun u v wx => u = .pointer (some ⟨W.heap.size, 0, none⟩) ∧ v = .pointer (some ⟨W.heap.size + 1, 0, none⟩) ∧ TIn W (tCells a cap t bv) wx)
  case first =>
   go_wp2
   go_meet
   exact ⟨rfl, rfl, tin W _⟩
  case rest =>
   obtain ⟨rfl, rfl, p1, p2, bX, sX⟩ := hcut
   obtain ⟨c0, c1, c2, c3, c4, c5, c6, c7, c8, c9, c10, c11, c12, c13, c14, c15, c16, c17, c18, fz⟩ := p1.tc
   obtain ⟨pa, oa⟩ := p1.set 10 (.bool false) (tCells a cap { t with pend := false } bv) rfl
   have q2 := p2.only oa (by simp)
   clear c5 c6 c7 c8 c9 c11 c12 c13 c15 c16 c17 c18
   go_wp2_with fail
   have ba : Below W.heap.size W (wc.setCell ⟨W.heap.size, 10, none⟩ (.bool false)) := bX.trans (oa.below (by simp) bX.size)
   have hsa := oa.size
   refine (CS.out _ ba (fun b hb => ⟨hF b (by omega), by omega, by omega⟩)).mono ?_
   rintro e w2 ⟨a2, cap2, rfl, g2, hb2⟩
   have pb := pa.below hb2
   have q3 := q2.below hb2
   have hs2 := hb2.size
   have b2 : Below W.heap.size W w2 := bto ba hb2 ba.size
   obtain ⟨w3, hw3⟩ : ∃ w3, ((w2.setCell ⟨W.heap.size, 0, none⟩ (.int .i64 t.W)).setCell ⟨W.heap.size, 1, none⟩ (.int .i64 t.H)).setCell ⟨W.heap.size, 2, none⟩ (.slice a2 t.H cap2) = w3 := ⟨_, rfl⟩
   obtain ⟨x0, y0⟩ := pb.set 0 (.int .i64 t.W) _ rfl
   obtain ⟨x1, y1⟩ := x0.set 1 (.int .i64 t.H) _ rfl
   obtain ⟨x2, y2⟩ := x1.set 2 (.slice a2 t.H cap2) (tCells a2 cap2 { t with pend := false, R := scrollR t.W t.R 1 } bv) rfl
   have o3 := (y0.trans y1).trans y2
   rw [hw3] at x2 o3
   have HW3 := Lib.hid hw3
   clear c0 c1 c2 c3 c4 c10 c14 fz x0 x1 y0 y1 y2 hw3
   obtain ⟨c0, c1, c2, c3, c4, c5, c6, c7, c8, c9, c10, c11, c12, c13, c14, c15, c16, c17, c18, fz⟩ := pb.tc
   go_upto_region 6 with (fail)
   rw [HW3.out]
   have b3 : Below W.heap.size W w3 := b2.trans (o3.below (by simp) b2.size)
   clear c0 c1 c2 c3 c4 c5 c6 c7 c8 c9 c10 c11 c12 c13 c14 c15 c16 c17 c18 fz
   obtain ⟨c0, c1, c2, c3, c4, c5, c6, c7, c8, c9, c10, c11, c12, c13, c14, c15, c16, c17, c18, fz⟩ := x2.tc
   clear c0 c1 c2 c3 c4 c5 c6 c7 c8 c9 c10 c11 c12 c13 c15 c16 c17 c18
   obtain ⟨x3, o4⟩ := x2.set 14 (.int .i64 ((t.gone + 1 : Nat) : Int)) (tCells a2 cap2 { t with pend := false, R := scrollR t.W t.R 1, gone := t.gone + 1 } bv) rfl
   have q4 := (q3.only o3 (by simp)).only o4 (by simp)
   have g4 := (g2.keep (Y := w3) o3.size (fun b hb hlt => o3.block b hlt (by simpa using hb.2.1))).keep o4.size (fun b hb hlt => o4.block b hlt (by simpa using hb.2.1))
   have hs3 := o3.size
   have hs4 := o4.size
   go_wp2_with (first
    | (refine wpList_tload rfl _ rfl W.heap.size rfl (tCells a2 cap2 { t with pend := false, R := scrollR t.W t.R 1, gone := t.gone + 1 } bv) ?_ rfl ?_; exact x3)
    | (refine wpList_tstore rfl _ _ rfl (W.heap.size + 1) rfl _ rfl zCells ?_ rfl rfl (tCells_one _ _ _ h1) ?_; exact q4; intro w5 p5 o5))
   have b5 : Below W.heap.size W w5 := (b3.trans (o4.below (by simp) b3.size)).trans (o5.below (by simp) (by simp only [set_size]; exact b3.size))
   exact tret rfl rfl p5 rfl ⟨a2, cap2, rfl, (g4.keep o5.size (fun b hb hlt => o5.block b hlt (by simpa using hb.2.2))).mono (fun b hb _ => hb.1), b5⟩
set_option maxRecDepth 100000 in
set_option maxHeartbeats 8000000 in
theorem rmoved_any {F : Nat → Prop} {W : World} {a : Option Addr} {cap : Nat} {t : TS} {bv : Value} (h1 : OneV bv) (ok : TO0 t) (g : RG F W a cap t.W t.H t.R) (r c : Int) (hr : -1000000 ≤ r ∧ r ≤ 1000000) (hc : -1000000 ≤ c ∧ c ≤ 1000000) :
    Calls Tryz.prog 155 #[.agg (tCells a cap t bv), .int .i64 r, .int .i64 c] W (TPost F (t.moved r c) bv W) := by
 obtain ⟨ow1, ow2, oh1, oh2, ook, oro, orow, ocol⟩ := ok
 have G := Lib.hid g
 obtain ⟨R', hR'⟩ : ∃ n : Nat, (n : Int) = max 0 (min r ((t.H : Int) - 1)) := ⟨(max 0 (min r ((t.H : Int) - 1))).toNat, by omega⟩
 obtain ⟨C', hC'⟩ : ∃ n : Nat, (n : Int) = max 0 (min c ((t.W : Int) - 1)) := ⟨(max 0 (min c ((t.W : Int) - 1))).toNat, by omega⟩
 have e : t.moved r c = { t with row := R', col := C', pend := false } := by unfold TS.moved; rw [← hR', ← hC', Int.toNat_natCast, Int.toNat_natCast]
 rw [e]
 have HR := Lib.hid hR'
 have HC := Lib.hid hC'
 obtain ⟨hr1, hr2⟩ := hr
 obtain ⟨hc1, hc2⟩ := hc
 clear e ook oro ocol orow g hR' hC'
 go_enter Tryz.func155, Tryz.ntmps155
 go_upto_region 0 with (fail)
 go_cut [3, 6] (fun u v wx => u = .pointer (some ⟨W.heap.size, 0, none⟩) ∧ v = .pointer (some ⟨W.heap.size + 1, 0, none⟩) ∧ TIn W (tCells a cap t bv) wx)
 case first =>
  go_wp2
  go_meet
  exact ⟨rfl, rfl, tin W _⟩
 case rest =>
  obtain ⟨rfl, rfl, p1, p2, bX, sX⟩ := hcut
  obtain ⟨c0, c1, c2, c3, c4, c5, c6, c7, c8, c9, c10, c11, c12, c13, c14, c15, c16, c17, c18, fz⟩ := p1.tc
  clear c2 c5 c6 c7 c8 c9 c11 c12 c13 c14 c15 c16 c17 c18
  have mov : ∀ x y, x = Value.int .i64 (R' : Int) → y = Value.int .i64 (C' : Int) → TBx ((wc.setCell ⟨W.heap.size, 3, none⟩ x).setCell ⟨W.heap.size, 4, none⟩ y) W.heap.size (tCells a cap { t with row := R', col := C' } bv) ∧ TBx ((wc.setCell ⟨W.heap.size, 3, none⟩ x).setCell ⟨W.heap.size, 4, none⟩ y) (W.heap.size + 1) zCells ∧ Below W.heap.size W ((wc.setCell ⟨W.heap.size, 3, none⟩ x).setCell ⟨W.heap.size, 4, none⟩ y) := fun x y hx hy => by
   subst hx hy
   obtain ⟨pa, oa⟩ := p1.set 3 (.int .i64 R') (tCells a cap { t with row := R' } bv) rfl
   obtain ⟨pb, ob⟩ := pa.set 4 (.int .i64 C') (tCells a cap { t with row := R', col := C' } bv) rfl
   exact ⟨pb, (p2.only oa (by simp)).only ob (by simp), bX.trans ((oa.trans ob).below (by simp) bX.size)⟩
  have MOV := Lib.hid mov
  clear mov
  go_upto_region 1 with (fail)
  go_cut [3] (fun u wx => u = .pointer (some ⟨W.heap.size, 0, none⟩) ∧ TBx wx W.heap.size (tCells a cap { t with row := R', col := C' } bv) ∧ TBx wx (W.heap.size + 1) zCells ∧ Below W.heap.size W wx)
  case first =>
   go_wp2
   all_goals (go_meet; exact ⟨rfl, MOV.out _ _ (congrArg (Value.int _) (by have := HR.out; omega)) (congrArg (Value.int _) (by have := HC.out; omega))⟩)
  case rest =>
   clear c0 c1 c3 c4 c10 fz p1 p2 bX sX MOV
   obtain ⟨rfl, p1, p2, bX⟩ := hcut
   obtain ⟨c0, c1, c2, c3, c4, c5, c6, c7, c8, c9, c10, c11, c12, c13, c14, c15, c16, c17, c18, fz⟩ := p1.tc
   clear c0 c1 c2 c3 c4 c5 c6 c7 c8 c9 c11 c12 c13 c14 c15 c16 c17 c18
   obtain ⟨x3, o4⟩ := p1.set 10 (.bool false) (tCells a cap { t with row := R', col := C', pend := false } bv) rfl
   have q4 := p2.only o4 (by simp)
   go_wp2_with (first
    | (refine wpList_tload rfl _ rfl W.heap.size rfl (tCells a cap { t with row := R', col := C', pend := false } bv) ?_ rfl ?_; exact x3)
    | (refine wpList_tstore rfl _ _ rfl (W.heap.size + 1) rfl _ rfl zCells ?_ rfl rfl (tCells_one _ _ _ h1) ?_; exact q4; intro w5 p5 o5))
   have b5 : Below W.heap.size W w5 := (bX.trans (o4.below (by simp) bX.size)).trans (o5.below (by simp) (by simp only [set_size]; exact bX.size))
   exact tret rfl rfl p5 rfl ⟨a, cap, rfl, G.out.below b5, b5⟩
set_option maxRecDepth 100000 in
set_option maxHeartbeats 8000000 in
theorem rctl7 {F : Nat → Prop} {W : World} (hF : ∀ b, W.heap.size ≤ b → F b) {a : Option Addr} {cap : Nat} {t : TS} {bv : Value} (h1 : OneV bv) (ok : TO0 t) (hg : t.gone < 4611686018427387904) (hbl : t.bells < 4611686018427387904) (g : RG F W a cap t.W t.H t.R) :
    Calls Tryz.prog 60 #[.agg (tCells a cap t bv), .int .u8 7] W (TPost F { t.off with bells := t.bells + 1 } bv W) := by
 obtain ⟨ow1, ow2, oh1, oh2, ook, oro, orow, ocol⟩ := ok
 have G := Lib.hid g
 clear ook oro orow g
 go_enter Tryz.func60, Tryz.ntmps60
 go_upto_region 0 with (fail)
 go_cut [2, 4] (fun u v wx => u = .pointer (some ⟨W.heap.size, 0, none⟩) ∧ v = .pointer (some ⟨W.heap.size + 1, 0, none⟩) ∧ TIn W (tCells a cap t bv) wx)
 case first =>
  go_wp2
  go_meet
  exact ⟨rfl, rfl, tin W _⟩
 case rest =>
  obtain ⟨rfl, rfl, p1, p2, bX, sX⟩ := hcut
  obtain ⟨c0, c1, c2, c3, c4, c5, c6, c7, c8, c9, c10, c11, c12, c13, c14, c15, c16, c17, c18, fz⟩ := p1.tc
  clear c1 c2 c3 c5 c6 c7 c8 c9 c11 c12 c14 c15 c17 c18
  obtain ⟨pa, oa⟩ := p1.set 16 (.bool false) (tCells a cap t.off bv) rfl
  obtain ⟨x3, ob⟩ := pa.set 13 (.int .i64 ((t.bells + 1 : Nat) : Int)) (tCells a cap { t.off with bells := t.bells + 1 } bv) rfl
  have q4 := (p2.only oa (by simp)).only ob (by simp)
  go_wp2_with (first
   | (refine wpList_tload rfl _ rfl W.heap.size rfl (tCells a cap { t.off with bells := t.bells + 1 } bv) ?_ rfl ?_; exact x3)
   | (refine wpList_tstore rfl _ _ rfl (W.heap.size + 1) rfl _ rfl zCells ?_ rfl rfl (tCells_one _ _ _ h1) ?_; exact q4; intro w5 p5 o5))
  have b5 : Below W.heap.size W w5 := (bX.trans ((oa.trans ob).below (by simp) bX.size)).trans (o5.below (by simp) (by simp only [set_size]; exact bX.size))
  exact tret rfl rfl p5 rfl ⟨a, cap, rfl, G.out.below b5, b5⟩
set_option maxRecDepth 100000 in
set_option maxHeartbeats 8000000 in
theorem rctl8 {F : Nat → Prop} {W : World} (hF : ∀ b, W.heap.size ≤ b → F b) {a : Option Addr} {cap : Nat} {t : TS} {bv : Value} (h1 : OneV bv) (ok : TO0 t) (hg : t.gone < 4611686018427387904) (hbl : t.bells < 4611686018427387904) (g : RG F W a cap t.W t.H t.R) (C' : Nat) (hC' : (C' : Int) = max 0 ((t.col : Int) - 1)) :
    Calls Tryz.prog 60 #[.agg (tCells a cap t bv), .int .u8 8] W (TPost F { t.off with col := C', pend := false } bv W) := by
 obtain ⟨ow1, ow2, oh1, oh2, ook, oro, orow, ocol⟩ := ok
 have G := Lib.hid g
 have HC := Lib.hid hC'
 clear hC'
 have hq : 0 ≤ (t.col : Int) := by omega
 clear ook oro orow g
 go_enter Tryz.func60, Tryz.ntmps60
 go_upto_region 0 with (fail)
 go_cut [2, 4] (fun u v wx => u = .pointer (some ⟨W.heap.size, 0, none⟩) ∧ v = .pointer (some ⟨W.heap.size + 1, 0, none⟩) ∧ TIn W (tCells a cap t bv) wx)
 case first =>
  go_wp2
  go_meet
  exact ⟨rfl, rfl, tin W _⟩
 case rest =>
  obtain ⟨rfl, rfl, p1, p2, bX, sX⟩ := hcut
  obtain ⟨c0, c1, c2, c3, c4, c5, c6, c7, c8, c9, c10, c11, c12, c13, c14, c15, c16, c17, c18, fz⟩ := p1.tc
  clear c1 c2 c3 c5 c6 c7 c8 c9 c11 c12 c13 c14 c15 c17 c18
  have mov : ∀ x, x = Value.int .i64 (C' : Int) → TBx (((wc.setCell ⟨W.heap.size, 16, none⟩ (.bool false)).setCell ⟨W.heap.size, 4, none⟩ x).setCell ⟨W.heap.size, 10, none⟩ (.bool false)) W.heap.size (tCells a cap { t.off with col := C', pend := false } bv) ∧ TBx (((wc.setCell ⟨W.heap.size, 16, none⟩ (.bool false)).setCell ⟨W.heap.size, 4, none⟩ x).setCell ⟨W.heap.size, 10, none⟩ (.bool false)) (W.heap.size + 1) zCells ∧ Below W.heap.size W (((wc.setCell ⟨W.heap.size, 16, none⟩ (.bool false)).setCell ⟨W.heap.size, 4, none⟩ x).setCell ⟨W.heap.size, 10, none⟩ (.bool false)) := fun x hx => by
   subst hx
   obtain ⟨pa, oa⟩ := p1.set 16 (.bool false) (tCells a cap t.off bv) rfl
   obtain ⟨pb, ob⟩ := pa.set 4 (.int .i64 C') (tCells a cap { t.off with col := C' } bv) rfl
   obtain ⟨pc, oc⟩ := pb.set 10 (.bool false) (tCells a cap { t.off with col := C', pend := false } bv) rfl
   exact ⟨pc, ((p2.only oa (by simp)).only ob (by simp)).only oc (by simp), bX.trans (((oa.trans ob).trans oc).below (by simp) bX.size)⟩
  have MOV := Lib.hid mov
  clear mov
  go_wp2_with (first
   | (refine wpList_tload rfl _ rfl W.heap.size rfl (tCells a cap { t.off with col := C', pend := false } bv) ?_ rfl ?_; exact (MOV.out _ (congrArg (Value.int _) (by have := HC.out; omega))).1)
   | (refine wpList_tstore rfl _ _ rfl (W.heap.size + 1) rfl _ rfl zCells ?_ rfl rfl (tCells_one _ _ _ h1) ?_; exact (MOV.out _ (congrArg (Value.int _) (by have := HC.out; omega))).2.1; intro w5 p5 o5))
  all_goals
   have b5 : Below W.heap.size W w5 := by
    refine Below.trans ?_ (o5.below (by simp) (by simp only [set_size]; exact bX.size))
    exact (MOV.out _ (congrArg (Value.int _) (by have := HC.out; omega))).2.2
   exact tret rfl rfl p5 rfl ⟨a, cap, rfl, G.out.below b5, b5⟩
set_option maxRecDepth 100000 in
set_option maxHeartbeats 8000000 in
theorem rctl9 {F : Nat → Prop} {W : World} (hF : ∀ b, W.heap.size ≤ b → F b) {a : Option Addr} {cap : Nat} {t : TS} {bv : Value} (h1 : OneV bv) (ok : TO0 t) (hg : t.gone < 4611686018427387904) (hbl : t.bells < 4611686018427387904) (g : RG F W a cap t.W t.H t.R) (C' : Nat) (hC' : (C' : Int) = min ((t.W : Int) - 1) ((t.col : Int) / 8 * 8 + 8)) :
    Calls Tryz.prog 60 #[.agg (tCells a cap t bv), .int .u8 9] W (TPost F { t.off with col := C', pend := false } bv W) := by
 obtain ⟨ow1, ow2, oh1, oh2, ook, oro, orow, ocol⟩ := ok
 have G := Lib.hid g
 have HC := Lib.hid hC'
 clear hC'
 have hq : 0 ≤ (t.col : Int) := by omega
 clear ook oro orow g
 go_enter Tryz.func60, Tryz.ntmps60
 go_upto_region 0 with (fail)
 go_cut [2, 4] (fun u v wx => u = .pointer (some ⟨W.heap.size, 0, none⟩) ∧ v = .pointer (some ⟨W.heap.size + 1, 0, none⟩) ∧ TIn W (tCells a cap t bv) wx)
 case first =>
  go_wp2
  go_meet
  exact ⟨rfl, rfl, tin W _⟩
 case rest =>
  obtain ⟨rfl, rfl, p1, p2, bX, sX⟩ := hcut
  obtain ⟨c0, c1, c2, c3, c4, c5, c6, c7, c8, c9, c10, c11, c12, c13, c14, c15, c16, c17, c18, fz⟩ := p1.tc
  clear c1 c2 c3 c5 c6 c7 c8 c9 c11 c12 c13 c14 c15 c17 c18
  have mov : ∀ x, x = Value.int .i64 (C' : Int) → TBx (((wc.setCell ⟨W.heap.size, 16, none⟩ (.bool false)).setCell ⟨W.heap.size, 4, none⟩ x).setCell ⟨W.heap.size, 10, none⟩ (.bool false)) W.heap.size (tCells a cap { t.off with col := C', pend := false } bv) ∧ TBx (((wc.setCell ⟨W.heap.size, 16, none⟩ (.bool false)).setCell ⟨W.heap.size, 4, none⟩ x).setCell ⟨W.heap.size, 10, none⟩ (.bool false)) (W.heap.size + 1) zCells ∧ Below W.heap.size W (((wc.setCell ⟨W.heap.size, 16, none⟩ (.bool false)).setCell ⟨W.heap.size, 4, none⟩ x).setCell ⟨W.heap.size, 10, none⟩ (.bool false)) := fun x hx => by
   subst hx
   obtain ⟨pa, oa⟩ := p1.set 16 (.bool false) (tCells a cap t.off bv) rfl
   obtain ⟨pb, ob⟩ := pa.set 4 (.int .i64 C') (tCells a cap { t.off with col := C' } bv) rfl
   obtain ⟨pc, oc⟩ := pb.set 10 (.bool false) (tCells a cap { t.off with col := C', pend := false } bv) rfl
   exact ⟨pc, ((p2.only oa (by simp)).only ob (by simp)).only oc (by simp), bX.trans (((oa.trans ob).trans oc).below (by simp) bX.size)⟩
  have MOV := Lib.hid mov
  clear mov
  go_wp2_with (first
   | (refine wpList_tload rfl _ rfl W.heap.size rfl (tCells a cap { t.off with col := C', pend := false } bv) ?_ rfl ?_; exact (MOV.out _ (congrArg (Value.int _) (by have := HC.out; omega))).1)
   | (refine wpList_tstore rfl _ _ rfl (W.heap.size + 1) rfl _ rfl zCells ?_ rfl rfl (tCells_one _ _ _ h1) ?_; exact (MOV.out _ (congrArg (Value.int _) (by have := HC.out; omega))).2.1; intro w5 p5 o5))
  all_goals
   have b5 : Below W.heap.size W w5 := by
    refine Below.trans ?_ (o5.below (by simp) (by simp only [set_size]; exact bX.size))
    exact (MOV.out _ (congrArg (Value.int _) (by have := HC.out; omega))).2.2
   exact tret rfl rfl p5 rfl ⟨a, cap, rfl, G.out.below b5, b5⟩
set_option maxRecDepth 100000 in
set_option maxHeartbeats 8000000 in
theorem rctl13 {F : Nat → Prop} {W : World} (hF : ∀ b, W.heap.size ≤ b → F b) {a : Option Addr} {cap : Nat} {t : TS} {bv : Value} (h1 : OneV bv) (ok : TO0 t) (hg : t.gone < 4611686018427387904) (hbl : t.bells < 4611686018427387904) (g : RG F W a cap t.W t.H t.R) :
    Calls Tryz.prog 60 #[.agg (tCells a cap t bv), .int .u8 13] W (TPost F { t.off with col := 0, pend := false } bv W) := by
 obtain ⟨ow1, ow2, oh1, oh2, ook, oro, orow, ocol⟩ := ok
 have G := Lib.hid g
 clear ook oro orow g
 go_enter Tryz.func60, Tryz.ntmps60
 go_upto_region 0 with (fail)
 go_cut [2, 4] (fun u v wx => u = .pointer (some ⟨W.heap.size, 0, none⟩) ∧ v = .pointer (some ⟨W.heap.size + 1, 0, none⟩) ∧ TIn W (tCells a cap t bv) wx)
 case first =>
  go_wp2
  go_meet
  exact ⟨rfl, rfl, tin W _⟩
 case rest =>
  obtain ⟨rfl, rfl, p1, p2, bX, sX⟩ := hcut
  obtain ⟨c0, c1, c2, c3, c4, c5, c6, c7, c8, c9, c10, c11, c12, c13, c14, c15, c16, c17, c18, fz⟩ := p1.tc
  clear c1 c2 c3 c5 c6 c7 c8 c9 c11 c12 c13 c14 c15 c17 c18
  obtain ⟨pa, oa⟩ := p1.set 16 (.bool false) (tCells a cap t.off bv) rfl
  obtain ⟨pb, ob⟩ := pa.set 4 (.int .i64 0) (tCells a cap { t.off with col := 0 } bv) rfl
  obtain ⟨x3, oc⟩ := pb.set 10 (.bool false) (tCells a cap { t.off with col := 0, pend := false } bv) rfl
  have q4 := ((p2.only oa (by simp)).only ob (by simp)).only oc (by simp)
  go_wp2_with (first
   | (refine wpList_tload rfl _ rfl W.heap.size rfl (tCells a cap { t.off with col := 0, pend := false } bv) ?_ rfl ?_; exact x3)
   | (refine wpList_tstore rfl _ _ rfl (W.heap.size + 1) rfl _ rfl zCells ?_ rfl rfl (tCells_one _ _ _ h1) ?_; exact q4; intro w5 p5 o5))
  have b5 : Below W.heap.size W w5 := (bX.trans (((oa.trans ob).trans oc).below (by simp) bX.size)).trans (o5.below (by simp) (by simp only [set_size]; exact bX.size))
  exact tret rfl rfl p5 rfl ⟨a, cap, rfl, G.out.below b5, b5⟩
set_option maxRecDepth 100000 in
set_option maxHeartbeats 8000000 in
theorem rctl0 {F : Nat → Prop} {W : World} (hF : ∀ b, W.heap.size ≤ b → F b) {a : Option Addr} {cap : Nat} {t : TS} {bv : Value} (h1 : OneV bv) (ok : TO0 t) (hg : t.gone < 4611686018427387904) (hbl : t.bells < 4611686018427387904) (g : RG F W a cap t.W t.H t.R) (n : Nat) (hn : n < 256) (k7 : ((n : Int) == 7) = false) (k8 : ((n : Int) == 8) = false) (k9 : ((n : Int) == 9) = false) (k10 : ((n : Int) == 10) = false) (k13 : ((n : Int) == 13) = false) :
    Calls Tryz.prog 60 #[.agg (tCells a cap t bv), .int .u8 (n : Int)] W (TPost F t.off bv W) := by
 obtain ⟨ow1, ow2, oh1, oh2, ook, oro, orow, ocol⟩ := ok
 have G := Lib.hid g
 clear ook oro orow g
 go_enter Tryz.func60, Tryz.ntmps60
 go_upto_region 0 with (fail)
 go_cut [2, 4] (fun u v wx => u = .pointer (some ⟨W.heap.size, 0, none⟩) ∧ v = .pointer (some ⟨W.heap.size + 1, 0, none⟩) ∧ TIn W (tCells a cap t bv) wx)
 case first =>
  go_wp2
  go_meet
  exact ⟨rfl, rfl, tin W _⟩
 case rest =>
  obtain ⟨rfl, rfl, p1, p2, bX, sX⟩ := hcut
  obtain ⟨c0, c1, c2, c3, c4, c5, c6, c7, c8, c9, c10, c11, c12, c13, c14, c15, c16, c17, c18, fz⟩ := p1.tc
  clear c1 c2 c3 c5 c6 c7 c8 c9 c11 c12 c13 c14 c15 c17 c18
  obtain ⟨x3, oa⟩ := p1.set 16 (.bool false) (tCells a cap t.off bv) rfl
  have q4 := p2.only oa (by simp)
  go_wp2_with (first
   | (refine wpList_tload rfl _ rfl W.heap.size rfl (tCells a cap t.off bv) ?_ rfl ?_; exact x3)
   | (refine wpList_tstore rfl _ _ rfl (W.heap.size + 1) rfl _ rfl zCells ?_ rfl rfl (tCells_one _ _ _ h1) ?_; exact q4; intro w5 p5 o5))
  have b5 : Below W.heap.size W w5 := (bX.trans (oa.below (by simp) bX.size)).trans (o5.below (by simp) (by simp only [set_size]; exact bX.size))
  exact tret rfl rfl p5 rfl ⟨a, cap, rfl, G.out.below b5, b5⟩
set_option maxRecDepth 100000 in
set_option maxHeartbeats 8000000 in
theorem rctl10 {F : Nat → Prop} {W : World} (hF : ∀ b, W.heap.size ≤ b → F b) {a : Option Addr} {cap : Nat} {t : TS} {bv : Value} (h1 : OneV bv) (ok : TO0 t) (hg : t.gone < 4611686018427387904) (hbl : t.bells < 4611686018427387904) (g : RG F W a cap t.W t.H t.R) :
    Calls Tryz.prog 60 #[.agg (tCells a cap t bv), .int .u8 10] W (TPost F t.off.feed bv W) := by
 obtain ⟨ow1, ow2, oh1, oh2, ook, oro, orow, ocol⟩ := ok
 have G := Lib.hid g
 have okf : TO0 t.off := ⟨ow1, ow2, oh1, oh2, ook, oro, orow, ocol⟩
 have CF := Lib.hid (fun (X : World) (hX : Below W.heap.size W X) (hF' : ∀ b, X.heap.size ≤ b → F b ∧ b ≠ W.heap.size ∧ b ≠ W.heap.size + 1) => rfeed_any (F := fun b => F b ∧ b ≠ W.heap.size ∧ b ≠ W.heap.size + 1) hF' h1 okf hg ((g.mono (F' := fun b => F b ∧ b ≠ W.heap.size ∧ b ≠ W.heap.size + 1) (fun b h1 h2 => ⟨h1, by omega, by omega⟩)).below hX))
 clear okf
 clear ook oro orow g
 go_enter Tryz.func60, Tryz.ntmps60
 go_upto_region 0 with (fail)
 go_cut [2, 4] (fun u v wx => u = .pointer (some ⟨W.heap.size, 0, none⟩) ∧ v = .pointer (some ⟨W.heap.size + 1, 0, none⟩) ∧ TIn W (tCells a cap t bv) wx)
 case first =>
  go_wp2
  go_meet
  exact ⟨rfl, rfl, tin W _⟩
 case rest =>
  obtain ⟨rfl, rfl, p1, p2, bX, sX⟩ := hcut
  obtain ⟨c0, c1, c2, c3, c4, c5, c6, c7, c8, c9, c10, c11, c12, c13, c14, c15, c16, c17, c18, fz⟩ := p1.tc
  clear c1 c2 c3 c5 c6 c7 c8 c9 c11 c12 c13 c14 c15 c17 c18
  obtain ⟨x3, oa⟩ := p1.set 16 (.bool false) (tCells a cap t.off bv) rfl
  have q4 := p2.only oa (by simp)
  have ba : Below W.heap.size W (wc.setCell ⟨W.heap.size, 16, none⟩ (.bool false)) := bX.trans (oa.below (by simp) bX.size)
  have hsa : W.heap.size + 1 + 1 ≤ (wc.setCell ⟨W.heap.size, 16, none⟩ (.bool false)).heap.size := by simp only [set_size]; omega
  go_wp2_with (first
   | (refine wpList_tload rfl _ rfl W.heap.size rfl (tCells a cap t.off bv) ?_ rfl ?_; exact x3)
   | (go_at_call 84; refine (CF.out _ ba (fun b hb => ⟨hF b (by omega), by omega, by omega⟩)).mono ?_; rintro e w2 ⟨a2, cap2, rfl, g2, hb2⟩; have x4 := x3.below hb2; have q5 := q4.below hb2)
   | (refine wpList_tstore rfl _ _ rfl W.heap.size rfl _ rfl (tCells a cap t.off bv) ?_ rfl rfl (tCells_one _ _ _ h1) ?_; exact x4; intro w3 p3 o3; have q6 := q5.only o3 (by simp))
   | (refine wpList_tload rfl _ rfl W.heap.size rfl (tCells a2 cap2 t.off.feed bv) ?_ rfl ?_; exact p3)
   | (refine wpList_tstore rfl _ _ rfl (W.heap.size + 1) rfl _ rfl zCells ?_ rfl rfl (tCells_one _ _ _ h1) ?_; exact q6; intro w5 p5 o5))
  have b2 : Below W.heap.size W w2 := bto ba hb2 ba.size
  have b3 : Below W.heap.size W w3 := b2.trans (o3.below (by simp) b2.size)
  have b5 : Below W.heap.size W w5 := b3.trans (o5.below (by simp) b3.size)
  exact tret rfl rfl p5 rfl ⟨a2, cap2, rfl, ((g2.keep o3.size (fun b hb hlt => o3.block b hlt (by simpa using hb.2.1))).keep o5.size (fun b hb hlt => o5.block b hlt (by simpa using hb.2.2))).mono (fun b hb _ => hb.1), b5⟩
theorem rcontrol_any {F : Nat → Prop} {W : World} (hF : ∀ b, W.heap.size ≤ b → F b) {a : Option Addr} {cap : Nat} {t : TS} {bv : Value} (h1 : OneV bv) (ok : TO0 t) (hg : t.gone < 4611686018427387904) (hbl : t.bells < 4611686018427387904) (g : RG F W a cap t.W t.H t.R) (n : Nat) (hn : n < 256) :
    Calls Tryz.prog 60 #[.agg (tCells a cap t bv), .int .u8 (n : Int)] W (TPost F (t.control n) bv W) := by
 unfold TS.control
 by_cases h7 : n = 7
 ·subst h7; rw [if_pos rfl]; exact rctl7 hF h1 ok hg hbl g
 rw [if_neg h7]
 by_cases h8 : n = 8
 ·subst h8; rw [if_pos rfl]; exact rctl8 hF h1 ok hg hbl g _ (by omega)
 rw [if_neg h8]
 by_cases h9 : n = 9
 ·subst h9; rw [if_pos rfl]; exact rctl9 hF h1 ok hg hbl g _ (by have := ok.w1; omega)
 rw [if_neg h9]
 by_cases h10 : n = 10
 ·subst h10; rw [if_pos rfl]; exact rctl10 hF h1 ok hg hbl g
 rw [if_neg h10]
 by_cases h13 : n = 13
 ·subst h13; rw [if_pos rfl]; exact rctl13 hF h1 ok hg hbl g
 rw [if_neg h13]
 exact rctl0 hF h1 ok hg hbl g n hn (by simpa using by omega) (by simpa using by omega) (by simpa using by omega) (by simpa using by omega) (by simpa using by omega)
set_option maxRecDepth 100000 in
set_option maxHeartbeats 8000000 in
theorem rprint_wide {F : Nat → Prop} {W : World} {a : Option Addr} {cap : Nat} {t : TS} {bv : Value} (h1 : OneV bv) (g : RG F W a cap t.W t.H t.R) (r : Int) (hw : (t.W : Int) < colsB r) :
    Calls Tryz.prog 89 #[.agg (tCells a cap t bv), .int .i32 r] W (TPost F t.off bv W) := by
 have G := Lib.hid g
 have CW := Lib.hid (fun X => refOf_any r X)
 obtain ⟨z, hz⟩ : ∃ z, z = colsB r := ⟨_, rfl⟩
 rw [← hz] at CW hw
 clear g hz
 go_enter Tryz.func89, Tryz.ntmps89
 go_upto_region 0 with (fail)
 go_cut [2, 4] (fun u v wx => u = .pointer (some ⟨W.heap.size, 0, none⟩) ∧ v = .pointer (some ⟨W.heap.size + 1, 0, none⟩) ∧ TIn W (tCells a cap t bv) wx)
 case first =>
  go_wp2
  go_meet
  exact ⟨rfl, rfl, tin W _⟩
 case rest =>
  obtain ⟨rfl, rfl, p1, p2, bX, sX⟩ := hcut
  obtain ⟨c0, c1, c2, c3, c4, c5, c6, c7, c8, c9, c10, c11, c12, c13, c14, c15, c16, c17, c18, fz⟩ := p1.tc
  go_wp2_with fail
  refine (CW.out _).mono ?_
  rintro e w1 ⟨rfl, hb1⟩
  replace p1 := p1.below hb1
  replace p2 := p2.below hb1
  have b1 : Below W.heap.size W w1 := bto bX hb1 bX.size
  clear c0 c1 c2 c3 c4 c5 c6 c7 c8 c9 c10 c11 c12 c13 c14 c15 c16 c17 c18 fz
  obtain ⟨c0, c1, c2, c3, c4, c5, c6, c7, c8, c9, c10, c11, c12, c13, c14, c15, c16, c17, c18, fz⟩ := p1.tc
  clear c1 c2 c3 c4 c5 c6 c7 c8 c9 c10 c11 c12 c13 c14 c15 c17 c18
  obtain ⟨x3, oa⟩ := p1.set 16 (.bool false) (tCells a cap t.off bv) rfl
  have q4 := p2.only oa (by simp)
  go_wp2_with (first
   | (refine wpList_tload rfl _ rfl W.heap.size rfl (tCells a cap t.off bv) ?_ rfl ?_; exact x3)
   | (refine wpList_tstore rfl _ _ rfl (W.heap.size + 1) rfl _ rfl zCells ?_ rfl rfl (tCells_one _ _ _ h1) ?_; exact q4; intro w5 p5 o5))
  have b5 : Below W.heap.size W w5 := (b1.trans (oa.below (by simp) b1.size)).trans (o5.below (by simp) (by simp only [set_size]; exact b1.size))
  exact tret rfl rfl p5 rfl ⟨a, cap, rfl, G.out.below b5, b5⟩
def RoomP (F : Nat → Prop) (W : World) (t : TS) (bv : Value) (X : World) : Prop :=
 ∃ a c, TBx X W.heap.size (tCells a c t bv) ∧ TBx X (W.heap.size + 1) zCells ∧ RG (fun b => F b ∧ b ≠ W.heap.size ∧ b ≠ W.heap.size + 1) X a c t.W t.H t.R ∧ Below W.heap.size W X
set_option maxRecDepth 100000 in
set_option maxHeartbeats 8000000 in
theorem rprint_ok {F : Nat → Prop} {W : World} (hF : ∀ b, W.heap.size ≤ b → F b) {a : Option Addr} {cap : Nat} {t : TS} {bv : Value} (h1 : OneV bv) (ok : TOk t) (hg : t.gone < 4611686018427387904) (g : RG F W a cap t.W t.H t.R) (r : Int) (hr : isR r = true) (hw : 1 ≤ colsB r) (hw2 : colsB r ≤ t.W) :
    Calls Tryz.prog 89 #[.agg (tCells a cap t bv), .int .i32 r] W (TPost F ((t.room (colsB r)).lay r.toNat (colsB r)) bv W) := by
 have CW := Lib.hid (fun X => refOf_any r X)
 have CB := Lib.hid (fun X => refBytes_any r X)
 have hbr : bytesR r = bytesN r.toNat := by unfold bytesR runeN; rw [if_pos hr]
 rw [hbr] at CB
 have hz2 := (cols_bd r).2
 obtain ⟨z, hz⟩ : ∃ z, z = colsB r := ⟨_, rfl⟩
 rw [← hz] at CW hw hw2 hz2 ⊢
 obtain ⟨okr, hpr, hWr, hHr, hcr, _, hgr⟩ := ok.room hw hw2
 have OKR := Lib.hid okr
 have HPR := Lib.hid hpr
 have HWR := Lib.hid hWr
 have HHR := Lib.hid hHr
 have HCR := Lib.hid hcr
 have gF : RG (fun b => F b ∧ b ≠ W.heap.size ∧ b ≠ W.heap.size + 1) W a cap t.W t.H t.R := g.mono (fun b h1 h2 => ⟨h1, by omega, by omega⟩)
 have G := Lib.hid gF
 have ok0 : TO0 { t with col := 0 } := { w1 := ok.w1, w2 := ok.w2, h1 := ok.h1, h2 := ok.h2, ok := ok.ok, ro := ok.ro, row := ok.row, col := ok.w1 }
 have CF := Lib.hid (fun (X : World) (hX : Below W.heap.size W X) (hF' : ∀ b, X.heap.size ≤ b → F b ∧ b ≠ W.heap.size ∧ b ≠ W.heap.size + 1) => rfeed_any (F := fun b => F b ∧ b ≠ W.heap.size ∧ b ≠ W.heap.size + 1) (t := { t with col := 0 }) hF' h1 ok0 hg (gF.below hX))
 have ow1 := ok.w1
 have ow2 := ok.w2
 have ocol := ok.col
 have HRM : Hid (t.room z = if t.pend || decide ((t.W : Int) < t.col + z) then TS.feed { t with col := 0 } else t) := Lib.hid rfl
 obtain ⟨T1, hT1⟩ : ∃ T1, T1 = t.room z := ⟨_, rfl⟩
 rw [← hT1] at OKR HPR HWR HHR HCR HRM ⊢
 have CV := Lib.hid (fun W => conv_newB W (bytesN r.toNat))
 have CP := Lib.hid (fun (X : World) (a : Option Addr) (cap : Nat) (hX : Below W.heap.size W X) (hs : W.heap.size + 1 + 1 ≤ X.heap.size) (g : RG (fun b => F b ∧ b ≠ W.heap.size ∧ b ≠ W.heap.size + 1) X a cap T1.W T1.H T1.R) => rput_any (F := fun b => F b ∧ b ≠ W.heap.size ∧ b ≠ W.heap.size + 1) (fun b hb => ⟨hF b (by omega), by omega, by omega⟩) g (by have := OKR.out.w2; omega) (by have := OKR.out.h2; omega) (T1.row : Int) (T1.col : Int) (S (bytesN r.toNat)) z T1.y)
 clear hr hbr hz okr hpr hWr hHr hcr g gF ok0 ok hT1 hgr
 go_enter Tryz.func89, Tryz.ntmps89
 go_upto_region 0 with (fail)
 go_cut [2, 4] (fun u v wx => u = .pointer (some ⟨W.heap.size, 0, none⟩) ∧ v = .pointer (some ⟨W.heap.size + 1, 0, none⟩) ∧ TIn W (tCells a cap t bv) wx)
 case first =>
  go_wp2
  go_meet
  exact ⟨rfl, rfl, tin W _⟩
 case rest =>
  obtain ⟨rfl, rfl, p1, p2, bX, sX⟩ := hcut
  obtain ⟨c0, c1, c2, c3, c4, c5, c6, c7, c8, c9, c10, c11, c12, c13, c14, c15, c16, c17, c18, fz⟩ := p1.tc
  go_wp2_with fail
  refine (CW.out _).mono ?_
  rintro e w1 ⟨rfl, hb1⟩
  replace p1 := p1.below hb1
  replace p2 := p2.below hb1
  have b1 : Below W.heap.size W w1 := bto bX hb1 bX.size
  have hs1 := hb1.size
  clear c0 c1 c2 c3 c4 c5 c6 c7 c8 c9 c10 c11 c12 c13 c14 c15 c16 c17 c18 fz
  obtain ⟨c0, c1, c2, c3, c4, c5, c6, c7, c8, c9, c10, c11, c12, c13, c14, c15, c16, c17, c18, fz⟩ := p1.tc
  clear c1 c2 c3 c5 c6 c7 c8 c9 c11 c12 c13 c14 c15 c16 c17 c18
  go_upto_region 5 with (fail)
  go_cut [26] (fun s wx => s = .bool (t.pend || decide ((t.W : Int) < t.col + z)) ∧ wx = w1)
  case first =>
   go_wp2
   all_goals (go_meet; exact ⟨congrArg Value.bool (by simp_all), rfl⟩)
  case rest =>
   clear c0 c4 c10 fz
   obtain ⟨rfl, rfl⟩ := hcut
   obtain ⟨v1, rfl⟩ : ∃ v1 : World, v1 = wc := ⟨_, rfl⟩
   obtain ⟨c0, c1, c2, c3, c4, c5, c6, c7, c8, c9, c10, c11, c12, c13, c14, c15, c16, c17, c18, fz⟩ := p1.tc
   clear c0 c1 c2 c3 c5 c6 c7 c8 c9 c10 c11 c12 c13 c14 c15 c16 c17 c18
   obtain ⟨B, hB⟩ : ∃ B, B = (t.pend || decide ((t.W : Int) < t.col + z)) := ⟨_, rfl⟩
   have hrm := HRM.out
   rw [← hB] at hrm ⊢
   have HRM2 := Lib.hid hrm
   clear hrm hB
   go_upto_if 26 with (fail)
   go_cut [2] (fun v wx => v = .pointer (some ⟨W.heap.size, 0, none⟩) ∧ RoomP F W T1 bv wx)
   case first =>
    cases B with
    | false =>
     have e1 : T1 = t := by rw [HRM2.out, if_neg (by decide)]
     have HP : Hid (RoomP F W T1 bv v1) := Lib.hid (by rw [e1]; exact ⟨a, cap, p1, p2, G.out.below b1, b1⟩)
     go_wp2
     go_meet
     exact ⟨rfl, HP.out⟩
    | true =>
     have e1 : T1 = TS.feed { t with col := 0 } := by rw [HRM2.out, if_pos rfl]
     have HE := Lib.hid e1
     clear e1
     obtain ⟨x3, oa⟩ := p1.set 4 (.int .i64 0) (tCells a cap { t with col := 0 } bv) rfl
     have q4 := p2.only oa (by simp)
     have ba := b1.trans (oa.below (by simp) b1.size)
     have hsa : W.heap.size + 1 + 1 ≤ (v1.setCell ⟨W.heap.size, 4, none⟩ (.int .i64 0)).heap.size := by simp only [set_size]; omega
     go_wp2_with (first
      | (refine wpList_tload rfl _ rfl W.heap.size rfl (tCells a cap { t with col := 0 } bv) ?_ rfl ?_; exact x3)
      | (go_at_call 84; refine (CF.out _ ba (fun b hb => ⟨hF b (by omega), by omega, by omega⟩)).mono ?_; rintro e w2 ⟨a2, cap2, rfl, g2, hb2⟩; have x4 := x3.below hb2; have q5 := q4.below hb2)
      | (refine wpList_tstore rfl _ _ rfl W.heap.size rfl _ rfl (tCells a cap { t with col := 0 } bv) ?_ rfl rfl (tCells_one _ _ _ h1) ?_; exact x4; intro w3 p3 o3))
     go_meet
     refine ⟨rfl, ?_⟩
     rw [HE.out]
     have b2 := bto ba hb2 ba.size
     exact ⟨a2, cap2, p3, q5.only o3 (by simp), g2.keep o3.size (fun b hb hlt => o3.block b hlt (by simpa using hb.2.1)), b2.trans (o3.below (by simp) b2.size)⟩
   case rest =>
    clear p1 p2 b1 c4 fz hb1 hs1 bX sX
    obtain ⟨rfl, a2, cap2, p1, p2, g2, b1⟩ := hcut
    obtain ⟨v2, rfl⟩ : ∃ v2 : World, v2 = wc := ⟨_, rfl⟩
    have hlt := p2.lt
    go_wp2
    refine wp_region_tree (fun j y y' => j ∉ [17] → TBx y W.heap.size (tCells a2 cap2 T1 bv) → TBx y' W.heap.size (tCells a2 cap2 T1 bv)) (by kernel_rfl) ?_
    have hSd : TBx v2.drew W.heap.size (tCells a2 cap2 T1 bv) := p1.below (Below.refl _ _).drew
    simp only [List.size_toArray, List.length_cons, List.length_nil, Nat.reduceAdd]
    refine' wpAnyY_read 0 (fun w' => TBx w' W.heap.size (tCells a2 cap2 T1 bv)) [17] (v := _) (by kernel_rfl) (fun _ _ d _ _ h => by cases d <;> exact h) (by kernel_rfl) rfl (fun j y y' hj h hs => h hj hs) (fun _ _ h => h) hSd rfl ?_ ?_
    rotate_left 1
    ·intro w' hw'; obtain ⟨c0, c1, c2, c3, c4, c5, c6, c7, c8, c9, c10, c11, c12, c13, c14, c15, c16, c17, c18, fz⟩ := hw'.tc; go_simp; try with_reducible rfl
    try simp only [Act.put, List.setIfInBounds_toArray, List.set_cons_zero, List.set_cons_succ]
    refine' wpAnyY_read 1 (fun w' => TBx w' W.heap.size (tCells a2 cap2 T1 bv)) [17] (v := _) (by kernel_rfl) (fun _ _ d _ _ h => by cases d <;> exact h) (by kernel_rfl) rfl (fun j y y' hj h hs => h hj hs) (fun _ _ h => h) hSd rfl ?_ ?_
    rotate_left 1
    ·intro w' hw'; obtain ⟨c0, c1, c2, c3, c4, c5, c6, c7, c8, c9, c10, c11, c12, c13, c14, c15, c16, c17, c18, fz⟩ := hw'.tc; go_simp; try with_reducible rfl
    try simp only [Act.put, List.setIfInBounds_toArray, List.set_cons_zero, List.set_cons_succ]
    refine' wpAnyY_read 2 (fun w' => TBx w' W.heap.size (tCells a2 cap2 T1 bv)) [17] (v := _) (by kernel_rfl) (fun _ _ d _ _ h => by cases d <;> exact h) (by kernel_rfl) rfl (fun j y y' hj h hs => h hj hs) (fun _ _ h => h) hSd rfl ?_ ?_
    rotate_left 1
    ·intro w' hw'; obtain ⟨c0, c1, c2, c3, c4, c5, c6, c7, c8, c9, c10, c11, c12, c13, c14, c15, c16, c17, c18, fz⟩ := hw'.tc; go_simp; try with_reducible rfl
    try simp only [Act.put, List.setIfInBounds_toArray, List.set_cons_zero, List.set_cons_succ]
    refine' wpAnyY_read 3 (fun w' => TBx w' W.heap.size (tCells a2 cap2 T1 bv)) [17] (v := _) (by kernel_rfl) (fun _ _ d _ _ h => by cases d <;> exact h) (by kernel_rfl) rfl (fun j y y' hj h hs => h hj hs) (fun _ _ h => h) hSd rfl ?_ ?_
    rotate_left 1
    ·intro w' hw'; obtain ⟨c0, c1, c2, c3, c4, c5, c6, c7, c8, c9, c10, c11, c12, c13, c14, c15, c16, c17, c18, fz⟩ := hw'.tc; go_simp; try with_reducible rfl
    try simp only [Act.put, List.setIfInBounds_toArray, List.set_cons_zero, List.set_cons_succ]
    refine' wpAnyY_read 4 (fun w' => TBx w' W.heap.size (tCells a2 cap2 T1 bv)) [17] (v := _) (by kernel_rfl) (fun _ _ d _ _ h => by cases d <;> exact h) (by kernel_rfl) rfl (fun j y y' hj h hs => h hj hs) (fun _ _ h => h) hSd rfl ?_ ?_
    rotate_left 1
    ·intro w' hw'; obtain ⟨c0, c1, c2, c3, c4, c5, c6, c7, c8, c9, c10, c11, c12, c13, c14, c15, c16, c17, c18, fz⟩ := hw'.tc; go_simp; try with_reducible rfl
    try simp only [Act.put, List.setIfInBounds_toArray, List.set_cons_zero, List.set_cons_succ]
    refine' wpAnyY_read 5 (fun w' => TBx w' W.heap.size (tCells a2 cap2 T1 bv)) [17] (v := _) (by kernel_rfl) (fun _ _ d _ _ h => by cases d <;> exact h) (by kernel_rfl) rfl (fun j y y' hj h hs => h hj hs) (fun _ _ h => h) hSd rfl ?_ ?_
    rotate_left 1
    ·intro w' hw'; obtain ⟨c0, c1, c2, c3, c4, c5, c6, c7, c8, c9, c10, c11, c12, c13, c14, c15, c16, c17, c18, fz⟩ := hw'.tc; go_simp; try with_reducible rfl
    try simp only [Act.put, List.setIfInBounds_toArray, List.set_cons_zero, List.set_cons_succ]
    refine' wpAnyY_read 6 (fun w' => TBx w' W.heap.size (tCells a2 cap2 T1 bv)) [17] (v := _) (by kernel_rfl) (fun _ _ d _ _ h => by cases d <;> exact h) (by kernel_rfl) rfl (fun j y y' hj h hs => h hj hs) (fun _ _ h => h) hSd rfl ?_ ?_
    rotate_left 1
    ·intro w' hw'; obtain ⟨c0, c1, c2, c3, c4, c5, c6, c7, c8, c9, c10, c11, c12, c13, c14, c15, c16, c17, c18, fz⟩ := hw'.tc; go_simp; try with_reducible rfl
    try simp only [Act.put, List.setIfInBounds_toArray, List.set_cons_zero, List.set_cons_succ]
    refine' wpAnyY_read 9 (fun w' => TBx w' W.heap.size (tCells a2 cap2 T1 bv)) [17] (v := _) (by kernel_rfl) (fun _ _ d _ _ h => by cases d <;> exact h) (by kernel_rfl) rfl (fun j y y' hj h hs => h hj hs) (fun _ _ h => h) hSd rfl ?_ ?_
    rotate_left 1
    ·intro w' hw'; obtain ⟨c0, c1, c2, c3, c4, c5, c6, c7, c8, c9, c10, c11, c12, c13, c14, c15, c16, c17, c18, fz⟩ := hw'.tc; go_simp; try with_reducible rfl
    try simp only [Act.put, List.setIfInBounds_toArray, List.set_cons_zero, List.set_cons_succ]
    refine' wpAnyY_read 10 (fun w' => TBx w' W.heap.size (tCells a2 cap2 T1 bv)) [17] (v := _) (by kernel_rfl) (fun _ _ d _ _ h => by cases d <;> exact h) (by kernel_rfl) rfl (fun j y y' hj h hs => h hj hs) (fun _ _ h => h) hSd rfl ?_ ?_
    rotate_left 1
    ·intro w' hw'; obtain ⟨c0, c1, c2, c3, c4, c5, c6, c7, c8, c9, c10, c11, c12, c13, c14, c15, c16, c17, c18, fz⟩ := hw'.tc; go_simp; try with_reducible rfl
    try simp only [Act.put, List.setIfInBounds_toArray, List.set_cons_zero, List.set_cons_succ]
    refine' wpAnyY_read 11 (fun w' => TBx w' W.heap.size (tCells a2 cap2 T1 bv)) [17] (v := _) (by kernel_rfl) (fun _ _ d _ _ h => by cases d <;> exact h) (by kernel_rfl) rfl (fun j y y' hj h hs => h hj hs) (fun _ _ h => h) hSd rfl ?_ ?_
    rotate_left 1
    ·intro w' hw'; obtain ⟨c0, c1, c2, c3, c4, c5, c6, c7, c8, c9, c10, c11, c12, c13, c14, c15, c16, c17, c18, fz⟩ := hw'.tc; go_simp; try with_reducible rfl
    try simp only [Act.put, List.setIfInBounds_toArray, List.set_cons_zero, List.set_cons_succ]
    clear hSd
    refine wpAnyY_one (i := 7) (by kernel_rfl) rfl (fun K hK => ?_)
    simp only [List.getElem_toArray, List.getElem_cons_succ, List.getElem_cons_zero]
    go_wp2_with fail
    refine (CB.out _).mono ?_
    rintro e w4 ⟨k, hk, rfl, hw4⟩
    have hcv : (convert 22 9 (.slice (some ⟨v2.heap.size, 0, none⟩) k k)).run Tryz.prog w4 = .ok (.string (S (bytesN r.toNat))) w4 := by subst hk; rw [← hw4]; exact CV.out v2.drew
    have hb4 : Below v2.heap.size v2 w4 := by rw [← hw4]; exact ((Below.refl v2.heap.size v2).drew).alloc (Nat.le_refl _) _
    have HCV := Lib.hid hcv
    clear hk hw4 hcv
    go_wp2
    refine hK _ _ (fun _ h => p1.below hb4) ?_
    clear hK K
    refine wpAnyY_one (i := 8) (by kernel_rfl) rfl (fun K hK => ?_)
    simp only [List.getElem_toArray, List.getElem_cons_succ, List.getElem_cons_zero]
    have hcv := HCV.out
    go_wp2
    refine hK _ _ (fun _ h => h) ?_
    clear hK K hcv
    refine wpAnyY_one (i := 12) (by kernel_rfl) rfl (fun K hK => ?_)
    simp only [List.getElem_toArray, List.getElem_cons_succ, List.getElem_cons_zero]
    have b4 := bto b1 hb4 b1.size
    have hs4 := hb4.size
    go_wp2_with fail
    refine (CP.out _ _ _ b4 (by omega) (g2.below hb4)).mono ?_
    rintro e w5 ⟨a5, c5, rfl, g5, hb5⟩
    go_wp2
    refine hK _ _ (fun _ h => h.below hb5) ?_
    clear hK K
    refine' wpAnyY_read 13 (fun _ => True) [] (v := _) (by kernel_rfl) (fun _ _ d _ _ h => by cases d <;> exact h) (by kernel_rfl) rfl (fun _ _ _ _ _ _ => trivial) (fun _ _ h => h) trivial rfl ?_ ?_
    rotate_left 1
    ·intro w' hw'; go_simp; try with_reducible rfl
    try simp only [Act.put, List.setIfInBounds_toArray, List.set_cons_zero, List.set_cons_succ]
    refine' wpAnyY_read 14 (fun _ => True) [] (v := _) (by kernel_rfl) (fun _ _ d _ _ h => by cases d <;> exact h) (by kernel_rfl) rfl (fun _ _ _ _ _ _ => trivial) (fun _ _ h => h) trivial rfl ?_ ?_
    rotate_left 1
    ·intro w' hw'; go_simp; try with_reducible rfl
    try simp only [Act.put, List.setIfInBounds_toArray, List.set_cons_zero, List.set_cons_succ]
    refine' wpAnyY_read 16 (fun _ => True) [] (v := _) (by kernel_rfl) (fun _ _ d _ _ h => by cases d <;> exact h) (by kernel_rfl) rfl (fun _ _ _ _ _ _ => trivial) (fun _ _ h => h) trivial rfl ?_ ?_
    rotate_left 1
    ·intro w' hw'; go_simp; try with_reducible rfl
    try simp only [Act.put, List.setIfInBounds_toArray, List.set_cons_zero, List.set_cons_succ]
    refine' wpAnyY_read 15 (fun _ => True) [] (v := _) (by kernel_rfl) (fun _ _ d _ _ h => by cases d <;> exact h) (by kernel_rfl) rfl (fun _ _ _ _ _ _ => trivial) (fun _ _ h => h) trivial rfl ?_ ?_
    rotate_left 1
    ·intro w' hw'; go_simp; try with_reducible rfl
    try simp only [Act.put, List.setIfInBounds_toArray, List.set_cons_zero, List.set_cons_succ]
    refine wpAnyY_one (i := 17) (by kernel_rfl) rfl (fun K hK => ?_)
    simp only [List.getElem_toArray, List.getElem_cons_succ, List.getElem_cons_zero]
    have b5 := bto b4 hb5 b4.size
    have q1 := p1.below (bto hb4 hb5 hs4)
    have q2 := p2.below (bto hb4 hb5 hs4)
    have hr2 := OKR.out.w2
    have hcr := HCR.out
    rw [← HWR.out] at hcr
    clear p1 p2 g2 b1 b4 hlt hs4
    obtain ⟨R9, hR9⟩ : ∃ R9, putR T1.W T1.H T1.R T1.row T1.col (S (bytesN r.toNat)) z T1.y = R9 := ⟨_, rfl⟩
    have e9 : T1.lay r.toNat z = { T1 with R := R9, last := true, lrow := T1.row, lcol := T1.col, col := if (T1.W : Int) ≤ T1.col + z then T1.W - 1 else T1.col + z.toNat, pend := decide ((T1.W : Int) ≤ T1.col + z) || T1.pend } := by rw [← hR9]; rfl
    rw [HPR.out, Bool.or_false] at e9
    rw [hR9] at g5
    have E9 := Lib.hid e9
    clear e9 hR9
    obtain ⟨w3, hw3⟩ : ∃ w3, ((w5.setCell ⟨W.heap.size, 0, none⟩ (.int .i64 T1.W)).setCell ⟨W.heap.size, 1, none⟩ (.int .i64 T1.H)).setCell ⟨W.heap.size, 2, none⟩ (.slice a5 T1.H c5) = w3 := ⟨_, rfl⟩
    obtain ⟨x0, y0⟩ := q1.set 0 (.int .i64 T1.W) _ rfl
    obtain ⟨x1, y1⟩ := x0.set 1 (.int .i64 T1.H) _ rfl
    obtain ⟨x2, y2⟩ := x1.set 2 (.slice a5 T1.H c5) (tCells a5 c5 { T1 with R := R9 } bv) rfl
    have o3 := (y0.trans y1).trans y2
    rw [hw3] at x2 o3
    have HW3 := Lib.hid hw3
    clear x0 x1 y0 y1 y2 hw3
    obtain ⟨c0, c1, c2, c3, c4, c5', c6, c7, c8, c9, c10, c11, c12, c13, c14, c15, c16, c17, c18, fz⟩ := q1.tc
    clear c3 c4 c5' c6 c7 c8 c9 c10 c11 c12 c13 c14 c15 c16 c17 c18
    go_wp2
    rw [HW3.out]
    refine hK _ _ (fun hn => absurd (by decide) hn) (wpAnyY_end (by kernel_rfl) ?_)
    clear hK K c0 c1 c2 fz
    have b3 : Below W.heap.size W w3 := b5.trans (o3.below (by simp) b5.size)
    have q3 := q2.only o3 (by simp)
    have g3 := g5.keep o3.size (fun b hb hlt => o3.block b hlt (by simpa using hb.2.1))
    obtain ⟨x3, y3⟩ := x2.set 16 (.bool true) (tCells a5 c5 { T1 with R := R9, last := true } bv) rfl
    obtain ⟨x4, y4⟩ := x3.set 17 (.int .i64 T1.row) (tCells a5 c5 { T1 with R := R9, last := true, lrow := T1.row } bv) rfl
    obtain ⟨x5, y5⟩ := x4.set 18 (.int .i64 T1.col) (tCells a5 c5 { T1 with R := R9, last := true, lrow := T1.row, lcol := T1.col } bv) rfl
    obtain ⟨x6, y6⟩ := x5.set 4 (.int .i64 ((T1.col + z.toNat : Nat) : Int)) (tCells a5 c5 { T1 with R := R9, last := true, lrow := T1.row, lcol := T1.col, col := T1.col + z.toNat } bv) rfl
    have o6 := ((y3.trans y4).trans y5).trans y6
    have e6 : ((T1.col + z.toNat : Nat) : Int) = T1.col + z := by omega
    rw [e6] at x6 o6
    obtain ⟨w6, hw6⟩ : ∃ w6, (((w3.setCell ⟨W.heap.size, 16, none⟩ (.bool true)).setCell ⟨W.heap.size, 17, none⟩ (.int .i64 T1.row)).setCell ⟨W.heap.size, 18, none⟩ (.int .i64 T1.col)).setCell ⟨W.heap.size, 4, none⟩ (.int .i64 (T1.col + z)) = w6 := ⟨_, rfl⟩
    rw [hw6] at x6 o6
    have HW6 := Lib.hid hw6
    clear x3 x4 x5 y3 y4 y5 y6 hw6 e6 hb4 hb5 b5 q1 q2 g5
    obtain ⟨c0, c1, c2, c3, c4, c5', c6, c7, c8, c9, c10, c11, c12, c13, c14, c15, c16, c17, c18, fz⟩ := x2.tc
    clear c1 c2 c5' c6 c7 c8 c9 c10 c11 c12 c13 c14 c15
    refine (‹∀ (a : Act) (w : World), Code.wp Tryz.prog _ _ a w → _›) _ _ ?_
    refine wp_seq_k ?_
    intro K2 hK2
    go_upto_region 11 with (fail)
    rw [HW6.out]
    have b6 : Below W.heap.size W w6 := b3.trans (o6.below (by simp) b3.size)
    have q6 := q3.only o6 (by simp)
    have g6 := g3.keep o6.size (fun b hb hlt => o6.block b hlt (by simpa using hb.2.1))
    have G6 := Lib.hid g6
    clear c0 c3 c4 c16 c17 c18 fz o3 x2 HW3 b3 q3 g3 g6
    obtain ⟨c0, c1, c2, c3, c4, c5', c6, c7, c8, c9, c10, c11, c12, c13, c14, c15, c16, c17, c18, fz⟩ := x6.tc
    clear c1 c2 c3 c5' c6 c7 c8 c9 c11 c12 c13 c14 c15 c16 c17 c18
    by_cases hge : (T1.W : Int) ≤ T1.col + z
    ·have hw1 := OKR.out.w1
     rw [if_pos hge, decide_eq_true hge] at E9
     obtain ⟨x7, y7⟩ := x6.set 4 (.int .i64 ((T1.W - 1 : Nat) : Int)) (tCells a5 c5 { T1 with R := R9, last := true, lrow := T1.row, lcol := T1.col, col := T1.W - 1 } bv) rfl
     obtain ⟨x8, y8⟩ := x7.set 10 (.bool true) (tCells a5 c5 { T1 with R := R9, last := true, lrow := T1.row, lcol := T1.col, col := T1.W - 1, pend := true } bv) rfl
     have o8 := y7.trans y8
     have e8 : ((T1.W - 1 : Nat) : Int) = T1.W - 1 := by omega
     rw [e8] at x8 o8
     have q8 := q6.only o8 (by simp)
     clear x7 y7 y8 e8
     go_wp2_with (first
      | (refine wpList_tload rfl _ rfl W.heap.size rfl (tCells a5 c5 { T1 with R := R9, last := true, lrow := T1.row, lcol := T1.col, col := T1.W - 1, pend := true } bv) ?_ rfl ?_; exact x8)
      | (refine wpList_tstore rfl _ _ rfl (W.heap.size + 1) rfl _ rfl zCells ?_ rfl rfl (tCells_one _ _ _ h1) ?_; exact q8; intro w7 p7 o7))
     have b8 := b6.trans (o8.below (by simp) b6.size)
     have b7 : Below W.heap.size W w7 := b8.trans (o7.below (by simp) b8.size)
     refine tret rfl rfl p7 rfl ?_
     rw [E9.out]
     exact ⟨a5, c5, rfl, ((G6.out.keep o8.size (fun b hb hlt => o8.block b hlt (by simpa using hb.2.1))).keep o7.size (fun b hb hlt => o7.block b hlt (by simpa using hb.2.2))).mono (fun b hb _ => hb.1), b7⟩
    ·rw [if_neg hge, decide_eq_false hge, ← HPR.out] at E9
     have hlt : T1.col + z < (T1.W : Int) := by omega
     go_wp2_with (first
      | (refine wpList_tload rfl _ rfl W.heap.size rfl (tCells a5 c5 { T1 with R := R9, last := true, lrow := T1.row, lcol := T1.col, col := T1.col + z.toNat } bv) ?_ rfl ?_; exact x6)
      | (refine wpList_tstore rfl _ _ rfl (W.heap.size + 1) rfl _ rfl zCells ?_ rfl rfl (tCells_one _ _ _ h1) ?_; exact q6; intro w7 p7 o7))
     have b7 : Below W.heap.size W w7 := b6.trans (o7.below (by simp) b6.size)
     refine tret rfl rfl p7 rfl ?_
     rw [E9.out]
     exact ⟨a5, c5, rfl, (G6.out.keep o7.size (fun b hb hlt => o7.block b hlt (by simpa using hb.2.2))).mono (fun b hb _ => hb.1), b7⟩
end Go.Proofs.YtjkajojjehgmdaaGreat
