/- The program's pen: a span written. No condition but that what is written stays below a bound. -/
import Derived.Test.YtjkajojjehgmdaaGreatRE24
import Derived.Test.YtjkajojjehgmdaaGreatRE28
set_option linter.unusedVariables false
set_option linter.unusedSimpArgs false
namespace Go.Proofs.YtjkajojjehgmdaaGreat
open Go.RowKit Go.Shelf Go.Maps
theorem CellsAt.pk {n₀ b : Nat} {W X : World} {a : Option Addr} {n : Nat} {M : List GC} (h : CellsAt W a n M) (hk : PK n₀ b W X) (hbn : b < n₀) (hlo : ∀ bb o, a = some ⟨bb, o, none⟩ → bb < b) : CellsAt X a n M :=
 ⟨h.len, fun i c hi => by
  obtain ⟨bb, off, h1, h2, h3⟩ := h.at_ i c hi
  have hlt := hlo bb off h1
  have hbl := hk.1.block bb (by omega) (by omega)
  exact ⟨bb, off, h1, Nat.lt_of_lt_of_le h2 hk.size, fun j v hv => (by
   have := h3 j v hv
   unfold World.cell? at this ⊢
   dsimp only at this ⊢
   rw [hbl]; exact this)⟩⟩
theorem cellsB_app : ∀ (l : List GC) (y : Sy) (c : GC), cellsB y (l ++ [c]) = cellsB y l ++ (if c.w = 0 then [] else styB (lastY y l) c.y ++ c.s.data.toList) ∧ lastY y (l ++ [c]) = if c.w = 0 then lastY y l else c.y
 | [], y, c => by
  simp only [List.nil_append, cellsB, lastY]
  split <;> simp
 | x :: l, y, c => by
  have ih := fun y => cellsB_app l y c
  simp only [List.cons_append, cellsB, lastY]
  split
  ·exact ih y
  ·rw [(ih x.y).1, (ih x.y).2]
   simp only [List.append_assoc, and_self]
theorem seg_next {M : List GC} {a i : Nat} (ha : a ≤ i) (hi : i < M.length) : (M.drop a).take (i + 1 - a) = (M.drop a).take (i - a) ++ [nth GC.zero M i] := by
 rw [show i + 1 - a = (i - a) + 1 by omega, List.take_succ_eq_append_getElem (by rw [List.length_drop]; omega), List.getElem_drop, nth_eq _ _ _ hi]
 congr 3
 omega
def colI (M : List GC) (e i : Nat) : Nat := if i < e ∧ (nth GC.zero M i).w = 0 then i + 1 else i
def penI (p : Pen) (M : List GC) (r a e i : Nat) : Pen := ⟨r, colI M e i, false, lastY p.y ((M.drop a).take (i - a))⟩
theorem colI_next {M : List GC} (hw : wholeB M = true) {a e i : Nat} (hb : Bd M a e) (hi : i < e) :
    ((nth GC.zero M i).w = 0 → colI M e (i + 1) = colI M e i) ∧ ((nth GC.zero M i).w ≠ 0 → colI M e i = i ∧ (((nth GC.zero M i).w = 1 ∧ colI M e (i + 1) = i + 1) ∨ ((nth GC.zero M i).w = 2 ∧ colI M e (i + 1) = i + 2))) := by
 have hle := hb.le
 have hnt : (nth GC.zero M i).w ≠ 2 → colI M e (i + 1) = i + 1 := fun h => by
  unfold colI
  rw [if_neg]
  rintro ⟨h1, h2⟩
  rcases whole_at hw (i + 1) (by omega) with k | ⟨k, _⟩ | ⟨_, _, k⟩
  ·omega
  ·omega
  ·exact h k
 rcases whole_at hw i (by omega) with k | ⟨k, k1, k2⟩ | ⟨k, k1, k2⟩
 ·refine ⟨fun h => by omega, fun h => ⟨?_, .inl ⟨k, hnt (by omega)⟩⟩⟩
  unfold colI; rw [if_neg (fun x => by omega)]
 ·refine ⟨fun h => by omega, fun h => ⟨?_, .inr ⟨k, ?_⟩⟩⟩
  ·unfold colI; rw [if_neg (fun x => by omega)]
  ·have h1 : i + 1 < e := by
    rcases hb.hi with h2 | h2
    ·omega
    ·refine Classical.byContradiction fun h3 => h2 ?_
     rw [show e - 1 = i by omega]; exact k
   unfold colI
   rw [if_pos ⟨h1, by rw [k2]; rfl⟩]
 ·refine ⟨fun h => ?_, fun h => absurd k h⟩
  rw [hnt (by omega)]
  unfold colI; rw [if_pos ⟨hi, k⟩]
theorem colI_first {M : List GC} (hw : wholeB M = true) {a e : Nat} (hb : Bd M a e) : colI M e a = a := by
 have hle := hb.le
 have hlt := hb.lt
 unfold colI
 rw [if_neg]
 rintro ⟨h1, h2⟩
 rcases whole_at hw a (by omega) with k | ⟨k, _⟩ | ⟨_, k1, k2⟩
 ·omega
 ·omega
 ·rcases hb.lo with h3 | h3
  ·omega
  ·exact h3 k2
theorem colI_last (M : List GC) (e : Nat) : colI M e e = e := by unfold colI; rw [if_neg (fun h => absurd h.1 (Nat.lt_irrefl _))]
def SpanBx (W : World) (x r a e : Nat) : Prop := W.heap[x]? = some (.cells #[.int .i64 r, .int .i64 a, .int .i64 e] 154 (0, 0))
theorem SpanBx.cells {W : World} {x r a e : Nat} (h : SpanBx W x r a e) : W.cell? ⟨x, 0, none⟩ = some (.int .i64 r) ∧ W.cell? ⟨x, 1, none⟩ = some (.int .i64 a) ∧ W.cell? ⟨x, 2, none⟩ = some (.int .i64 e) := by
 refine ⟨?_, ?_, ?_⟩ <;> rw [cell_of_row W x _ _ _ _ h] <;> rfl
theorem SpanBx.pk {n₀ b : Nat} {W X : World} {x r a e : Nat} (h : SpanBx W x r a e) (hk : PK n₀ b W X) (hx : x ≠ b) : SpanBx X x r a e := hk.2 _ _ h hx (fun cur fr h => by cases h)
set_option maxRecDepth 100000 in
set_option maxHeartbeats 16000000 in
theorem pwrite_span {n₀ b : Nat} {W : World} {p : Pen} {bs : List UInt8} (h : PenAt n₀ b W p bs) {a1 : Option Addr} {w cap : Nat} {M : List GC} (hM : CellsAt W a1 w M) (hlo : ∀ bb o, a1 = some ⟨bb, o, none⟩ → bb < b) (hw : wholeB M = true) (hw5 : w ≤ 500) {r a e : Nat} (hb : Bd M a e) (h1 : p.row ≤ 9000) (h2 : p.col ≤ 9000) (hr : r ≤ 9000) (hlen : bs.length ≤ 40000000) :
    Calls Tryz.prog 97 #[.pointer (some ⟨b, 0, none⟩), .agg #[.int .i64 r, .int .i64 a, .int .i64 e], .slice a1 w cap] W fun en w' => en = .returned (.tuple #[]) ∧ PenAt n₀ b w' (spanB p w r a e M).2 (bs ++ (spanB p w r a e M).1) ∧ PK n₀ b W w' := by
 have hml := hM.len
 have hae := hb.lt
 have hel := hb.le
 have HMV : Hid ((p.mv r a).length ≤ 14) := Lib.hid (mv_len p r a)
 have HLB := Lib.hid (fun i => cellsB_len ((M.drop a).take (i - a)) p.y (fun c hc => whole_okC hw c (List.mem_of_mem_drop (List.mem_of_mem_take hc))))
 have HM := Lib.hid hM
 have HLO := Lib.hid hlo
 have HW := Lib.hid hw
 have HBD := Lib.hid hb
 have hbw : Below W.heap.size W (W.alloc (.cells #[.int .i64 r, .int .i64 a, .int .i64 e] 154)) := (Below.refl _ _).alloc (Nat.le_refl _) _
 have P0 := h.below hbw
 obtain ⟨hbn, hnW⟩ := h.lt
 have B0 := PK.of_below (b := b) hnW hbw
 have s0 : SpanBx (W.alloc (.cells #[.int .i64 r, .int .i64 a, .int .i64 e] 154)) W.heap.size r a e := World.alloc_heap_new W _
 obtain ⟨x, hx⟩ : ∃ x, W.heap.size = x := ⟨_, rfl⟩
 have hxb : x ≠ b := by omega
 clear h hM hlo hw hb
 go_enter Tryz.func97, Tryz.ntmps97
 go_upto_region 1 with (fail)
 obtain ⟨X, hX⟩ : ∃ X, W.alloc (.cells #[.int .i64 r, .int .i64 a, .int .i64 e] 154) = X := ⟨_, rfl⟩
 rw [hX] at P0 B0 s0 hbw ⊢
 rw [hx] at s0
 clear hX
 obtain ⟨g0, g1, g2⟩ := s0.cells
 have CM := Lib.hid (dpmove_any P0 r a h1 h2 hr (by omega) (by omega))
 go_upto_region 2 with (go_at_call 99; refine (CM.out).mono ?_; rintro en w1 ⟨rfl, P1, B1⟩)
 clear g0 g1 g2 CM
 have s1 := s0.pk B1 hxb
 have B01 := B0.trans B1
 obtain ⟨g0, g1, g2⟩ := s1.cells
 have I0 : Hid (PenAt n₀ b w1 (penI p M r a e a) (bs ++ (p.mv r a ++ cellsB p.y ((M.drop a).take (a - a))))) := Lib.hid (by
  unfold penI
  rw [colI_first HW.out HBD.out, Nat.sub_self, List.take_zero]
  show PenAt n₀ b w1 ⟨r, a, false, p.y⟩ (bs ++ (p.mv r a ++ []))
  rw [List.append_nil]
  exact P1)
 clear P1 P0 s0 B0 B1
 go_wp2
 go_loopw [6] (fun iv wr => ∃ i : Nat, a ≤ i ∧ i ≤ e ∧ iv = .int .i64 i ∧ Hid (PenAt n₀ b wr (penI p M r a e i) (bs ++ (p.mv r a ++ cellsB p.y ((M.drop a).take (i - a))))) ∧ Hid (PK n₀ b W wr) ∧ Hid (SpanBx wr x r a e)) (fun iv _ => e - (intOf iv).toNat)
 case atStart => exact ⟨a, Nat.le_refl _, by omega, rfl, I0, Lib.hid B01, Lib.hid s1⟩
 case round =>
  clear I0 B01 s1 g0 g1 g2
  obtain ⟨i, hai, hie, rfl, PI, BI, SI⟩ := hrel
  obtain ⟨g0, g1, g2⟩ := SI.out.cells
  by_cases hlt : i < e
  ·have hiM : i < M.length := by omega
   obtain ⟨C, hC⟩ : ∃ C, C = nth GC.zero M i := ⟨_, rfl⟩
   have hCi : M[i]? = some C := by rw [hC, nth_eq _ _ _ hiM, List.getElem?_eq_getElem hiM]
   have hnx := seg_next hai hiM
   obtain ⟨cn0, cn1⟩ := colI_next HW.out HBD.out hlt
   have hok := whole_okC HW.out C (List.mem_of_getElem? hCi)
   have hap := cellsB_app ((M.drop a).take (i - a)) p.y C
   rw [← hC] at hnx cn0 cn1
   rw [← hnx] at hap
   have CA := Lib.hid (fun (Y : World) (hY : PK n₀ b W Y) => (HM.out.pk hY hbn HLO.out).at_ i C hCi)
   obtain ⟨b1, o1, rfl, hb1, r1⟩ := CA.out _ BI.out
   obtain ⟨x0, x1, x2, x3, x4, x5, x6⟩ := vals_at r1
   have hiw : (i : Int) < (w : Int) := by omega
   have hie2 : (i : Int) < (e : Int) := by omega
   by_cases hw0 : C.w = 0
   ·rw [if_pos hw0] at hap
    have PN : Hid (PenAt n₀ b wr (penI p M r a e (i + 1)) (bs ++ (p.mv r a ++ cellsB p.y ((M.drop a).take (i + 1 - a))))) := Lib.hid (by
     have := PI.out
     unfold penI at this ⊢
     rw [cn0 hw0, hap.1, hap.2, if_pos hw0, List.append_nil]
     exact this)
    have hz : ((C.w : Int) == 0) = true := by simp [hw0]
    rw [hw0] at x1
    clear hnx cn0 cn1 hok hap hC hCi r1 PI
    go_wp2
    go_roundw
    case rel => exact ⟨i + 1, by omega, hlt, by go_num, PN, BI, SI⟩
    case measure => simp [intOf]; omega
   ·have hokB := hok.resolve_left hw0
    obtain ⟨my, _, _, hsS, hs64⟩ := okB_facts hokB
    obtain ⟨hcol, hcw⟩ := cn1 hw0
    rw [if_neg hw0] at hap
    obtain ⟨p1, hp1⟩ : ∃ p1, p1 = penI p M r a e i := ⟨_, rfl⟩
    obtain ⟨b1s, hb1s⟩ : ∃ z, z = bs ++ (p.mv r a ++ cellsB p.y ((M.drop a).take (i - a))) := ⟨_, rfl⟩
    have hbl : b1s.length ≤ 45000000 := by
     have e1 := HMV.out
     have e2 := HLB.out i
     have e3 : ((M.drop a).take (i - a)).length ≤ 500 := by rw [List.length_take, List.length_drop]; omega
     rw [hb1s, List.length_append, List.length_append]
     omega
    rw [← hp1, ← hb1s] at PI
    have hpy : p1.y = lastY p.y ((M.drop a).take (i - a)) := by rw [hp1]; rfl
    have hpc : p1.col = i := by rw [hp1]; exact hcol
    have CI := Lib.hid (dpin_any PI.out C.y (mayF_S my) (by omega))
    have hne : ((C.w : Int) == 0) = false := by simpa using hw0
    have hsl := styB_len p1.y C.y (mayF_S my)
    have hC64 : C.s.data.toList.length ≤ 64 := by rw [Array.length_toList]; exact hs64
    have HSS := Lib.hid hsS
    have HAP := Lib.hid hap
    have HPY := Lib.hid hpy
    have HP1 := Lib.hid hp1
    have HB1 := Lib.hid hb1s
    have HCW := Lib.hid hcw
    clear hnx cn0 cn1 hok hap hC hCi r1 hpy hokB my hcw hp1 hb1s hsS hs64
    go_upto_region 7 with (go_at_call 98; refine (CI.out).mono ?_; rintro en w2 ⟨rfl, P2, B2⟩)
    have B02 := BI.out.trans B2
    obtain ⟨_, _, e', _, r2⟩ := CA.out _ B02
    simp only [Option.some.injEq, Addr.mk.injEq, and_true] at e'
    obtain ⟨rfl, rfl⟩ := e'
    clear x0 x1 x2 x3 x4 x5 x6 CI
    obtain ⟨x0, x1, x2, x3, x4, x5, x6⟩ := vals_at r2
    have S2 := SI.out.pk B2 hxb
    have P2d := P2.below (Below.drew (Below.refl w2.heap.size w2))
    have hn2 : n₀ ≤ w2.heap.size := P2.lt.2
    have B2d : PK n₀ b w2 w2.drew := PK.of_below hn2 (Below.drew (Below.refl w2.heap.size w2))
    have CWr := pen_write P2d C.s.data.toList (by rw [List.length_append]; omega)
    rw [← HSS.out] at CWr
    have CWr := Lib.hid CWr
    refine wp_region_still_tail 8 (by kernel_rfl) (by kernel_rfl) ?_
    simp only [List.take_succ_cons, List.take_zero, List.drop_succ_cons, List.drop_zero]
    repeat still_step
    refine wpStill_nil ?_
    change wpList _ _ _ _ _ w2.drew
    go_upto_region 8 with (go_at_call 67; refine (CWr.out).mono ?_; rintro en w3 ⟨rfl, P3, B3⟩)
    have S3 := (S2.pk B2d hxb).pk B3 hxb
    have B03 := B02.trans (B2d.trans B3)
    obtain ⟨_, _, e', _, r3⟩ := CA.out _ B03
    simp only [Option.some.injEq, Addr.mk.injEq, and_true] at e'
    obtain ⟨rfl, rfl⟩ := e'
    clear x0 x1 x2 x3 x4 x5 x6 CWr P2d
    obtain ⟨x0, x1, x2, x3, x4, x5, x6⟩ := vals_at r3
    have hn3 : n₀ ≤ w3.heap.size := P3.lt.2
    have P3d := P3.below (Below.drew (Below.refl w3.heap.size w3))
    have B3d : PK n₀ b w3 w3.drew := PK.of_below hn3 (Below.drew (Below.refl w3.heap.size w3))
    obtain ⟨⟨_, m1, _, _, _, _, _, _⟩, fz⟩ := P3.cells
    have m1 : w3.cell? ⟨b, 3, none⟩ = some (.int .i64 (i : Nat)) := by rw [m1]; show some (Value.int .i64 (p1.col : Nat)) = _; rw [hpc]
    have f3 : w3.drew.frozen? ⟨b, 3, none⟩ = false := P3d.cells.2 3
    have m3 : w3.drew.cell? ⟨b, 3, none⟩ = some (.int .i64 (i : Nat)) := m1
    obtain ⟨cn, hcn⟩ : ∃ cn, cn = colI M e (i + 1) := ⟨_, rfl⟩
    obtain ⟨P4, B4⟩ := P3d.set 3 (.int .i64 (cn : Nat)) ⟨p1.row, cn, p1.behind, C.y⟩ (fun _ _ => rfl)
    have hbd4 : PK n₀ b W (w3.drew.setCell ⟨b, 3, none⟩ (.int .i64 (cn : Nat))) := B03.trans (B3d.trans B4)
    have S4 : SpanBx (w3.drew.setCell ⟨b, 3, none⟩ (.int .i64 (cn : Nat))) x r a e := (S3.pk B3d hxb).pk B4 hxb
    have PN : Hid (PenAt n₀ b (w3.drew.setCell ⟨b, 3, none⟩ (.int .i64 (cn : Nat))) (penI p M r a e (i + 1)) (bs ++ (p.mv r a ++ cellsB p.y ((M.drop a).take (i + 1 - a))))) := Lib.hid (by
     have e1 : b1s ++ styB p1.y C.y ++ C.s.data.toList = bs ++ (p.mv r a ++ cellsB p.y ((M.drop a).take (i + 1 - a))) := by
      rw [HAP.out.1, HB1.out, HPY.out]
      simp only [List.append_assoc]
     rw [e1] at P4
     unfold penI
     rw [HAP.out.2, if_neg hw0, ← hcn]
     rw [HP1.out] at P4
     exact P4)
    have BN := Lib.hid hbd4
    have SN := Lib.hid S4
    have HCN : Hid ((C.w = 1 ∧ cn = i + 1) ∨ (C.w = 2 ∧ cn = i + 2)) := Lib.hid (by rw [hcn]; exact HCW.out)
    clear P4 B4 hbd4 S4 S3 B03 r3 P3 P3d B3 B3d P2 B2 S2 B2d B02 r2 g0 g1 g2 hcn hne
    rcases HCN.out with ⟨hw1, rfl⟩ | ⟨hw1, rfl⟩
    all_goals
     rw [hw1] at x1
     clear hw1 hw0
     go_wp2_with fail
     refine wp_region_still_tail 12 (by kernel_rfl) (by kernel_rfl) ?_
     simp only [List.take_succ_cons, List.take_zero, List.drop_succ_cons, List.drop_zero]
     repeat still_step
     refine wpStill_nil ?_
     change wpList _ _ _ _ _ w3.drew
     go_wp2
     go_roundw
     case rel => exact ⟨i + 1, by omega, hlt, by go_num, PN, BN, SN⟩
     case measure => simp [intOf]; omega
  ·obtain rfl : i = e := by omega
   have P1 : PenAt n₀ b wr ⟨r, i, false, lastY p.y ((M.drop a).take (i - a))⟩ (bs ++ (p.mv r a ++ cellsB p.y ((M.drop a).take (i - a)))) := by
    have := PI.out
    unfold penI at this
    rw [colI_last] at this
    exact this
   obtain ⟨⟨m0, m1, m2, _, _, _, _, _⟩, fz⟩ := P1.cells
   have f3 := fz 3
   have f4 := fz 4
   by_cases hiw : i = w
   ·subst hiw
    obtain ⟨P2, B2⟩ := P1.set 3 (.int .i64 ((i - 1 : Nat) : Int)) ⟨r, i - 1, false, lastY p.y ((M.drop a).take (i - a))⟩ (fun _ _ => rfl)
    obtain ⟨P3, B3⟩ := P2.set 4 (.bool true) ⟨r, i - 1, true, lastY p.y ((M.drop a).take (i - a))⟩ (fun _ _ => rfl)
    have FIN : Hid (PenAt n₀ b ((wr.setCell ⟨b, 3, none⟩ (.int .i64 ((i - 1 : Nat) : Int))).setCell ⟨b, 4, none⟩ (.bool true)) (spanB p i r a i M).2 (bs ++ (spanB p i r a i M).1) ∧ PK n₀ b W ((wr.setCell ⟨b, 3, none⟩ (.int .i64 ((i - 1 : Nat) : Int))).setCell ⟨b, 4, none⟩ (.bool true))) := Lib.hid (by
     unfold spanB
     rw [show min i (i - 1) = i - 1 by omega, decide_eq_true rfl]
     exact ⟨P3, BI.out.trans (B2.trans B3)⟩)
    have hwi : (i : Int) - 1 = ((i - 1 : Nat) : Int) := by omega
    have hge : (i : Int) ≤ (i : Int) := by omega
    clear P1 P2 P3 B2 B3 PI
    go_wp2
    go_end0
    first
     | exact ⟨rfl, FIN.out⟩
     | (rw [hwi]; exact ⟨rfl, FIN.out⟩)
   ·have FIN : Hid (PenAt n₀ b wr (spanB p w r a i M).2 (bs ++ (spanB p w r a i M).1)) := Lib.hid (by
     unfold spanB
     rw [show min i (w - 1) = i by omega, decide_eq_false hiw]
     exact P1)
    have hge : ¬ (w : Int) ≤ (i : Int) := by omega
    clear P1 PI
    go_wp2
    go_end0
    exact ⟨rfl, FIN.out, BI.out⟩
end Go.Proofs.YtjkajojjehgmdaaGreat
