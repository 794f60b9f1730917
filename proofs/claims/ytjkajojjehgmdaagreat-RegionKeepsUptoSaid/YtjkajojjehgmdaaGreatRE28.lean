/- The program's pen: move, in. No condition but that what is written stays below a bound. -/
import Derived.Test.YtjkajojjehgmdaaGreatRE12
import Derived.Test.YtjkajojjehgmdaaGreatRE22
import Derived.Test.YtjkajojjehgmdaaGreatRE26
import Derived.Test.YtjkajojjehgmdaaGreatRE27
set_option linter.unusedVariables false
set_option linter.unusedSimpArgs false
namespace Go.Proofs.YtjkajojjehgmdaaGreat
open Go.RowKit Go.Shelf Go.Maps
def penC (pv v : Value) (p : Pen) : Array Value := #[pv, v, .int .i64 p.row, .int .i64 p.col, .bool p.behind, .bool p.y.b, .bool p.y.u, .bool p.y.i, .int .i64 p.y.f, .int .i64 p.y.g]
def PenAt (n₀ b : Nat) (W : World) (p : Pen) (bs : List UInt8) : Prop := ∃ pv v, SB n₀ b 0 152 W (penC pv v p) pv v bs
theorem PenAt.below {n₀ b : Nat} {W X : World} {p : Pen} {bs : List UInt8} (h : PenAt n₀ b W p bs) (hb : Below W.heap.size W X) : PenAt n₀ b X p bs := by
 obtain ⟨pv, v, s⟩ := h
 exact ⟨pv, v, { blk := (hb.block b (Array.getElem?_eq_some_iff.1 s.blk).1).trans s.blk, hp := s.hp, hv := s.hv, pn := s.pn, lt := s.lt, le := Nat.le_trans s.le hb.size, own := own_belowF s.own hb }⟩
theorem PenAt.cells {n₀ b : Nat} {W : World} {p : Pen} {bs : List UInt8} (h : PenAt n₀ b W p bs) :
    (W.cell? ⟨b, 2, none⟩ = some (.int .i64 p.row) ∧ W.cell? ⟨b, 3, none⟩ = some (.int .i64 p.col) ∧ W.cell? ⟨b, 4, none⟩ = some (.bool p.behind) ∧ W.cell? ⟨b, 5, none⟩ = some (.bool p.y.b) ∧ W.cell? ⟨b, 6, none⟩ = some (.bool p.y.u) ∧ W.cell? ⟨b, 7, none⟩ = some (.bool p.y.i) ∧ W.cell? ⟨b, 8, none⟩ = some (.int .i64 p.y.f) ∧ W.cell? ⟨b, 9, none⟩ = some (.int .i64 p.y.g)) ∧ ∀ j, W.frozen? ⟨b, j, none⟩ = false := by
 obtain ⟨pv, v, s⟩ := h
 have hb := s.blk
 refine ⟨?_, fun j => by simp [World.frozen?, hb]⟩
 refine ⟨?_, ?_, ?_, ?_, ?_, ?_, ?_, ?_⟩ <;> rw [cell_of_row W b _ _ _ _ hb] <;> rfl
theorem PenAt.lt {n₀ b : Nat} {W : World} {p : Pen} {bs : List UInt8} (h : PenAt n₀ b W p bs) : b < n₀ ∧ n₀ ≤ W.heap.size := by
 obtain ⟨pv, v, s⟩ := h
 exact ⟨s.lt, s.le⟩
theorem penLies : liesAt Tryz.prog Tryz.prog.depth 152 (10 / Tryz.prog.cellsOf 152) 0 114 1 = true := by kernel_rfl
def PK (n₀ b : Nat) (W X : World) : Prop := But n₀ b W X ∧ KeepT b W X
theorem PK.refl (n₀ b : Nat) (W : World) : PK n₀ b W W := ⟨But.refl _ _ _, KeepT.refl _ _⟩
theorem PK.trans {n₀ b : Nat} {A B C : World} (h : PK n₀ b A B) (k : PK n₀ b B C) : PK n₀ b A C := ⟨h.1.trans k.1, h.2.trans k.2⟩
theorem PK.of_below {n₀ b : Nat} {A B : World} (hn : n₀ ≤ A.heap.size) (h : Below A.heap.size A B) : PK n₀ b A B := ⟨But.of_below hn h, KeepT.of_below h⟩
theorem PK.setCell {n₀ b : Nat} {A B : World} (h : PK n₀ b A B) (j : Nat) (u : Value) : PK n₀ b A (B.setCell ⟨b, j, none⟩ u) := ⟨h.1.setCell j u, h.2.setCell j u⟩
theorem PK.size {n₀ b : Nat} {A B : World} (h : PK n₀ b A B) : A.heap.size ≤ B.heap.size := h.1.size
theorem pen_write {n₀ b : Nat} {W : World} {p : Pen} {bs : List UInt8} (h : PenAt n₀ b W p bs) (l : List UInt8) (hlen : bs.length + l.length ≤ 100000000) :
    Calls Tryz.prog 67 #[.pointer (some ⟨b, 0, none⟩), .string (S l)] W fun e w' => e = .returned (.tuple #[.int .i64 l.length, .nilIface]) ∧ PenAt n₀ b w' p (bs ++ l) ∧ PK n₀ b W w' := by
 obtain ⟨pv, v, s⟩ := h
 refine (write_any s l penLies hlen).mono ?_
 rintro e w' ⟨rfl, v', s', hbut, hkt⟩
 exact ⟨rfl, ⟨_, v', s'⟩, hbut, hkt⟩
theorem PenAt.set {n₀ b : Nat} {W : World} {p : Pen} {bs : List UInt8} (h : PenAt n₀ b W p bs) (j : Nat) (u : Value) (p' : Pen) (he : ∀ pv v, (penC pv v p).setIfInBounds j u = penC pv v p') : PenAt n₀ b (W.setCell ⟨b, j, none⟩ u) p' bs ∧ PK n₀ b W (W.setCell ⟨b, j, none⟩ u) := by
 obtain ⟨pv, v, s⟩ := h
 refine ⟨⟨pv, v, { blk := ?_, hp := rfl, hv := rfl, pn := s.pn, lt := s.lt, le := by simp [World.setCell]; exact s.le, own := own_set s.own s.lt u }⟩, (PK.refl n₀ b W).setCell j u⟩
 have hb := s.blk
 unfold World.setCell
 dsimp only
 rw [Array.getElem?_modify, if_pos rfl, hb]
 simp only [Option.map_some]
 rw [← he pv v]
 rfl
theorem moveL_held (a b c d : Nat) (ha : a ≤ 9000) (hb : b ≤ 9000) (hc : c ≤ 9000) (hd : d ≤ 9000) : moveL (heldI a) (heldI b) (heldI c) (heldI d) = moveL a b c d := by
 have e : ∀ n : Nat, n ≤ 9000 → heldI n = n := fun n h => by unfold heldI; omega
 rw [e a ha, e b hb, e c hc, e d hd]
theorem S_empty {l : List UInt8} (h : l ≠ []) : (S l).toList.isEmpty = false := by
 rw [isEmpty_iff, decide_eq_false_iff_not]
 intro e
 exact h (by have := congrArg (fun s : ByteArray => s.data.toList) e; simpa [S] using this)
set_option maxRecDepth 100000 in
set_option maxHeartbeats 8000000 in
theorem dpmove_any {n₀ b : Nat} {W : World} {p : Pen} {bs : List UInt8} (h : PenAt n₀ b W p bs) (r c : Nat) (h1 : p.row ≤ 9000) (h2 : p.col ≤ 9000) (hr : r ≤ 9000) (hc : c ≤ 9000) (hlen : bs.length ≤ 50000000) :
    Calls Tryz.prog 99 #[.pointer (some ⟨b, 0, none⟩), .int .i64 r, .int .i64 c] W fun e w' => e = .returned (.tuple #[]) ∧ PenAt n₀ b w' (p.to r c) (bs ++ p.mv r c) ∧ PK n₀ b W w' := by
 have CM := fun X => move_any (p.row : Int) (p.col : Int) (r : Int) (c : Int) X
 rw [moveL_held _ _ _ _ h1 h2 hr hc] at CM
 have hml := moveL_len (p.row : Int) (p.col : Int) (r : Int) (c : Int)
 obtain ⟨l, hl⟩ : ∃ l, l = moveL (p.row : Int) (p.col : Int) (r : Int) (c : Int) := ⟨_, rfl⟩
 have HMV : Hid (p.mv r c = if l = [] ∧ p.behind = true then colL c else l) := Lib.hid (by unfold Pen.mv; rw [← hl])
 rw [← hl] at CM hml
 have CM := Lib.hid CM
 have P0 := Lib.hid h
 obtain ⟨⟨k0, k1, k2, k3, k4, k5, k6, k7⟩, fz⟩ := h.cells
 obtain ⟨hbn, hnW⟩ := h.lt
 have hbW : b < W.heap.size := by omega
 have K0 := fun q : BW W.heap.size W => q.cell (by exact hbW) k0
 have K1 := fun q : BW W.heap.size W => q.cell (by exact hbW) k1
 clear h hl k0 k1 k2 k3 k4 k5 k6 k7 fz
 go_enter Tryz.func99, Tryz.ntmps99
 go_wp2_with fail
 refine wp_region_bw W.heap.size (by kernel_rfl) (lexB_fast (by kernel_rfl)) ?_
 repeat (go_big_quiet_step ((apply Calls.bw_of (Nat.le_refl _); go_at_call 134; exact CM.out _)))
 refine wpQuiet_nil ?_
 intro wq hw'
 have hwq : Below W.heap.size W wq := by obtain ⟨p, rfl⟩ := hw'; exact p.h
 clear hw' K0 K1 CM
 have P1 := P0.out.below hwq
 have B1 := PK.of_below (b := b) hnW hwq
 have FIN : ∀ (w2 : World) (out : List UInt8), PenAt n₀ b w2 p (bs ++ out) → PK n₀ b wq w2 → PenAt n₀ b (((w2.setCell ⟨b, 2, none⟩ (.int .i64 r)).setCell ⟨b, 3, none⟩ (.int .i64 c)).setCell ⟨b, 4, none⟩ (.bool false)) (p.to r c) (bs ++ out) ∧ PK n₀ b W (((w2.setCell ⟨b, 2, none⟩ (.int .i64 r)).setCell ⟨b, 3, none⟩ (.int .i64 c)).setCell ⟨b, 4, none⟩ (.bool false)) := fun w2 out hp hbut => by
  obtain ⟨s1, t1⟩ := hp.set 2 (.int .i64 r) ⟨r, p.col, p.behind, p.y⟩ (fun _ _ => rfl)
  obtain ⟨s2, t2⟩ := s1.set 3 (.int .i64 c) ⟨r, c, p.behind, p.y⟩ (fun _ _ => rfl)
  obtain ⟨s3, t3⟩ := s2.set 4 (.bool false) ⟨r, c, false, p.y⟩ (fun _ _ => rfl)
  exact ⟨s3, (B1.trans hbut).trans (t1.trans (t2.trans t3))⟩
 have FIN := Lib.hid FIN
 have CW := Lib.hid (fun (X : World) (out : List UInt8) (hX : Below wq.heap.size wq X) (hl : out.length ≤ 14) => pen_write (P1.below hX) out (by omega))
 obtain ⟨⟨k0, k1, k2, k3, k4, k5, k6, k7⟩, fz⟩ := P1.cells
 have hnq := B1.size
 by_cases hle : l = []
 ·subst hle
  have hS1 : (S []).toList = [] := by kernel_rfl
  have hS2 : (S []).toList.isEmpty = true := by kernel_rfl
  cases hbh : p.behind with
  | true =>
   have hcl := colL_len (c : Int)
   have HM : Hid (p.mv r c = colL (c : Int)) := Lib.hid (by rw [HMV.out, if_pos ⟨rfl, hbh⟩])
   rw [hbh] at k2
   clear HMV hbh B1
   go_wp2_with (first
    | (go_at_call 135; refine (column_any _ _).mono ?_; rintro e w1 ⟨rfl, hb1⟩)
    | (go_at_call 67; refine (CW.out _ _ hb1 (by omega)).mono ?_; rintro e w2 ⟨rfl, hp2, hbut2⟩; have F2 := hp2.cells.2 2; have F3 := hp2.cells.2 3; have F4 := hp2.cells.2 4; obtain ⟨⟨m0, m1, m2, _, _, _, _, _⟩, _⟩ := hp2.cells))
   go_end0
   rw [HM.out]
   exact ⟨rfl, FIN.out _ _ hp2 ((PK.of_below (b := b) (by omega) hb1).trans hbut2)⟩
  | false =>
   have HM : Hid (p.mv r c = []) := Lib.hid (by rw [HMV.out, if_neg (by rw [hbh]; simp)])
   rw [hbh] at k2
   clear HMV hbh B1
   go_wp2_with (go_at_call 67; refine (CW.out _ _ (Below.refl _ _) (by omega)).mono ?_; rintro e w2 ⟨rfl, hp2, hbut2⟩; have F2 := hp2.cells.2 2; have F3 := hp2.cells.2 3; have F4 := hp2.cells.2 4; obtain ⟨⟨m0, m1, m2, _, _, _, _, _⟩, _⟩ := hp2.cells)
   go_end0
   rw [HM.out]
   exact ⟨rfl, FIN.out _ _ hp2 hbut2⟩
 ·have HM : Hid (p.mv r c = l) := Lib.hid (by rw [HMV.out, if_neg (fun h => hle h.1)])
  have hS2 := S_empty hle
  have hS1 : ¬ (S l).toList = [] := fun e => by rw [e] at hS2; cases hS2
  clear HMV B1 hle
  go_wp2_with (go_at_call 67; refine (CW.out _ _ (Below.refl _ _) (by omega)).mono ?_; rintro e w2 ⟨rfl, hp2, hbut2⟩; have F2 := hp2.cells.2 2; have F3 := hp2.cells.2 3; have F4 := hp2.cells.2 4; obtain ⟨⟨m0, m1, m2, _, _, _, _, _⟩, _⟩ := hp2.cells)
  go_end0
  rw [HM.out]
  exact ⟨rfl, FIN.out _ _ hp2 hbut2⟩
def Pen.sty (p : Pen) (y : Sy) : Pen := ⟨p.row, p.col, p.behind, y⟩
set_option maxRecDepth 100000 in
set_option maxHeartbeats 8000000 in
theorem dpin_any {n₀ b : Nat} {W : World} {p : Pen} {bs : List UInt8} (h : PenAt n₀ b W p bs) (y : Sy) (hy : mayS y) (hlen : bs.length ≤ 50000000) :
    Calls Tryz.prog 98 #[.pointer (some ⟨b, 0, none⟩), .agg #[.bool y.b, .bool y.u, .bool y.i, .int .i64 y.f, .int .i64 y.g]] W fun e w' => e = .returned (.tuple #[]) ∧ PenAt n₀ b w' (p.sty y) (bs ++ styB p.y y) ∧ PK n₀ b W w' := by
 have CM := Lib.hid (fun X => (style_any p.y.b p.y.u p.y.i p.y.f p.y.g y.b y.u y.i y.f y.g X : Calls Tryz.prog 133 _ X fun e w' => e = .returned (.string (S (styB p.y y))) ∧ Below X.heap.size X w'))
 have hsl := styB_len p.y y hy
 have hbw : Below W.heap.size W (W.alloc (.cells #[.bool y.b, .bool y.u, .bool y.i, .int .i64 y.f, .int .i64 y.g] 32)) := (Below.refl _ _).alloc (Nat.le_refl _) _
 have P0 := h.below hbw
 obtain ⟨hbn, hnW⟩ := h.lt
 have B0 := PK.of_below (b := b) hnW hbw
 have sb := styBox_new W y.b y.u y.i y.f y.g
 obtain ⟨X, hX⟩ : ∃ X, W.alloc (.cells #[.bool y.b, .bool y.u, .bool y.i, .int .i64 y.f, .int .i64 y.g] 32) = X := ⟨_, rfl⟩
 rw [hX] at hbw P0 B0 sb
 have HX := Lib.hid hX
 have hsz : X.heap.size = W.heap.size + 1 := by rw [← hX]; simp
 clear hX h
 have dB : Below X.heap.size X X.drew := (Below.refl _ _).drew
 have hS0 : (∃ bs', PenAt n₀ b X.drew p bs') ∧ StyBox X.drew W.heap.size y.b y.u y.i y.f y.g := ⟨⟨_, P0.below dB⟩, (dB.block _ (by omega)).trans sb⟩
 have hbW : W.heap.size ≠ b := by omega
 go_enter Tryz.func98, Tryz.ntmps98
 go_upto_region 1 with (fail)
 rw [HX.out]
 refine wp_region_mix2 [(true, 0), (true, 1), (true, 2), (true, 3), (true, 4), (true, 5), (true, 6), (true, 7), (false, 8), (false, 9)] (fun Y => (∃ bs', PenAt n₀ b Y p bs') ∧ StyBox Y W.heap.size y.b y.u y.i y.f y.g) (by kernel_rfl) (by kernel_rfl) (by rfl) (by kernel_rfl) (by kernel_rfl) (fun _ _ d _ _ h => by cases d <;> exact h) hS0 ?_
 simp only [mixL, List.getElem?_cons_succ, List.getElem?_cons_zero]
 repeat (refine' wpMix2_read (v := _) rfl ?_ ?_; rotate_left 1; (intro w' hw'; obtain ⟨⟨bs', hp'⟩, hs'⟩ := hw'; obtain ⟨⟨k0, k1, k2, k3, k4, k5, k6, k7⟩, fz⟩ := hp'.cells; obtain ⟨g0, g1, g2, g3, g4, g5⟩ := StyBox.cells hs'; go_simp; try with_reducible rfl); try simp only [Act.put, List.setIfInBounds_toArray, List.set_cons_zero, List.set_cons_succ])
 refine wpMix2_act (fun K hK => ?_)
 go_wp2_with fail
 refine (CM.out _).mono ?_
 rintro e w1 ⟨rfl, hb1⟩
 have hbX1 : Below X.heap.size X w1 := dB.trans hb1
 have P1 := P0.below hbX1
 have sb1 : StyBox w1 W.heap.size y.b y.u y.i y.f y.g := (hbX1.block _ (by omega)).trans sb
 go_wp2
 refine hK _ _ ⟨⟨_, P1⟩, sb1⟩ ?_
 clear hK K
 refine wpMix2_act (fun K hK => ?_)
 go_wp2_with fail
 refine (pen_write P1 (styB p.y y) (by omega)).mono ?_
 rintro e w2 ⟨rfl, P2, B2⟩
 have sb2 : StyBox w2 W.heap.size y.b y.u y.i y.f y.g := B2.2 _ _ sb1 hbW (fun cur fr h => by cases h)
 go_wp2
 refine hK _ _ ⟨⟨_, P2⟩, sb2⟩ ?_
 clear hK K
 refine wpMix2_nil ?_
 have F := P2.cells.2
 have F5 := F 5
 have F6 := F 6
 have F7 := F 7
 have F8 := F 8
 have F9 := F 9
 obtain ⟨⟨m0, m1, m2, m3, m4, m5, m6, m7⟩, _⟩ := P2.cells
 obtain ⟨g0, g1, g2, g3, g4, g5⟩ := StyBox.cells sb2
 have FIN : Hid (PenAt n₀ b (((((w2.setCell ⟨b, 5, none⟩ (.bool y.b)).setCell ⟨b, 6, none⟩ (.bool y.u)).setCell ⟨b, 7, none⟩ (.bool y.i)).setCell ⟨b, 8, none⟩ (.int .i64 y.f)).setCell ⟨b, 9, none⟩ (.int .i64 y.g)) (p.sty y) (bs ++ styB p.y y) ∧ PK n₀ b W (((((w2.setCell ⟨b, 5, none⟩ (.bool y.b)).setCell ⟨b, 6, none⟩ (.bool y.u)).setCell ⟨b, 7, none⟩ (.bool y.i)).setCell ⟨b, 8, none⟩ (.int .i64 y.f)).setCell ⟨b, 9, none⟩ (.int .i64 y.g))) := Lib.hid (by
  obtain ⟨s1, t1⟩ := P2.set 5 (.bool y.b) ⟨p.row, p.col, p.behind, ⟨y.b, p.y.u, p.y.i, p.y.f, p.y.g⟩⟩ (fun _ _ => rfl)
  obtain ⟨s2, t2⟩ := s1.set 6 (.bool y.u) ⟨p.row, p.col, p.behind, ⟨y.b, y.u, p.y.i, p.y.f, p.y.g⟩⟩ (fun _ _ => rfl)
  obtain ⟨s3, t3⟩ := s2.set 7 (.bool y.i) ⟨p.row, p.col, p.behind, ⟨y.b, y.u, y.i, p.y.f, p.y.g⟩⟩ (fun _ _ => rfl)
  obtain ⟨s4, t4⟩ := s3.set 8 (.int .i64 y.f) ⟨p.row, p.col, p.behind, ⟨y.b, y.u, y.i, y.f, p.y.g⟩⟩ (fun _ _ => rfl)
  obtain ⟨s5, t5⟩ := s4.set 9 (.int .i64 y.g) ⟨p.row, p.col, p.behind, ⟨y.b, y.u, y.i, y.f, y.g⟩⟩ (fun _ _ => rfl)
  have hX1 : PK n₀ b X w1 := PK.of_below (by omega) hbX1
  exact ⟨s5, B0.trans (hX1.trans (B2.trans (t1.trans (t2.trans (t3.trans (t4.trans t5))))))⟩)
 clear P0 P1 P2 B2 B0 sb sb1 sb2 hS0 F
 go_wp2
 go_end0
 exact ⟨rfl, FIN.out⟩
end Go.Proofs.YtjkajojjehgmdaaGreat
