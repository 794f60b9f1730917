/- The reference's Shows: true where the terminal shows the frame. No condition. -/
import Derived.Test.YtekodpcedjpnjaaGreatBs01
import Derived.Test.YtekodpcedjpnjaaGreatBs30
import Derived.Test.YtekodpcedjpnjaaGreatBs31
set_option linter.unusedVariables false
set_option linter.unusedSimpArgs false
namespace Go.Proofs.YtekodpcedjpnjaaGreat
open Go.RowKit Go.Shelf Go.Maps
theorem neq_sty0 (W : World) : (binOp .neq 36 (.agg #[.bool false, .bool false, .bool false, .int .i64 0, .int .i64 0]) (.agg #[.bool false, .bool false, .bool false, .int .i64 0, .int .i64 0])).run Tryz.prog W = .ok (.bool false) W := by
  go_simp
theorem eql_sty0 (W : World) : (binOp .eql 36 (.agg #[.bool false, .bool false, .bool false, .int .i64 0, .int .i64 0]) (.agg #[.bool false, .bool false, .bool false, .int .i64 0, .int .i64 0])).run Tryz.prog W = .ok (.bool true) W := by
  go_simp
theorem letter_nth (w : Nat) (b : UInt8) (hw : 1 ≤ w) : (letterR w b).length = w ∧ (letterR w b)[0]? = some ⟨⟨#[b]⟩, 1, Sy.zero⟩ ∧ ∀ k, 1 ≤ k → k < w → (letterR w b)[k]? = some GC.blank := by
  refine ⟨by unfold letterR; simp; omega, rfl, fun k h1 h2 => ?_⟩
  obtain ⟨j, rfl⟩ : ∃ j, k = j + 1 := ⟨k - 1, by omega⟩
  unfold letterR
  rw [List.getElem?_cons_succ, List.getElem?_replicate, if_pos (by omega)]
set_option maxRecDepth 100000 in
set_option maxHeartbeats 16000000 in
theorem rshows_ok {F : Nat → Prop} {W : World} {a aB : Option Addr} {cap cB n w : Nat} {t : TS} {bv : Value} {B : List (List GC)} (g : RG F W a cap t.W t.H t.R) (hR : t.R = [letterR w 84] ++ (B ++ [letterR w 69])) (hB : RowsAt W aB n B) (hBw : ∀ M ∈ B, M.length = w) (hw : 1 ≤ w ∧ w ≤ 500) (hn : 1 ≤ n ∧ n ≤ 60) (br bc : Nat) (s : Bool) (hbr : br < n) (hbc : bc < w)
    (h1 : t.row = 1 + br) (h2 : t.col = bc) (h3 : t.pend = false) (h4 : t.y = Sy.zero) (h5 : t.seen = s) (h6 : t.marked = false) (h7 : t.bells = 0) (h8 : t.gone = 0) (hb : HB F W bv []) :
    Calls Tryz.prog 34 #[.agg (tCells a cap t bv), .agg #[.slice aB n cB, .int .i64 br, .int .i64 bc, .bool s]] W fun e w' => e = .returned (.bool true) ∧ Below W.heap.size W w' := by
  have hl := hB.len
  obtain ⟨av, cv, rfl⟩ : ∃ av cv, bv = .slice av 0 cv := by
    rcases hb with ⟨rfl, _⟩ | ⟨g0, o0, n0, c0, rfl, h0, _⟩
    · exact ⟨none, 0, rfl⟩
    · simp only [List.length_nil] at h0
      subst h0
      exact ⟨_, _, rfl⟩
  have hH : t.H = n + 2 := by
    have := g.ok.n
    rw [hR] at this
    simp at this
    omega
  have hn1 : OneV (.slice av 0 cv) := rfl
  have GR := Lib.hid g.rows
  have HR := Lib.hid hR
  have HB := Lib.hid hB
  have HBW := Lib.hid hBw
  have LT := Lib.hid (letter_nth w 84 hw.1)
  have LE := Lib.hid (letter_nth w 69 hw.1)
  have hw1 := hw.1
  have hw2 := hw.2
  have hn2 := hn.1
  have hn3 := hn.2
  clear g hR hB hBw hb hw hn
  go_enter Tryz.func34, Tryz.ntmps34
  go_upto_region 0 with (fail)
  go_cut [2, 3] (fun u v wx => u = .pointer (some ⟨W.heap.size, 0, none⟩) ∧ v = .pointer (some ⟨W.heap.size + 1, 0, none⟩) ∧ TBx wx W.heap.size (tCells a cap t (.slice av 0 cv)) ∧ FBI wx (W.heap.size + 1) (.slice aB n cB) br bc s ∧ Below W.heap.size W wx)
  case first =>
    have FIN : Hid (TBx ((W.alloc (.cells (tCells a cap t (.slice av 0 cv)) 63)).alloc (.cells #[.slice aB n cB, .int .i64 br, .int .i64 bc, .bool s] 52)) W.heap.size (tCells a cap t (.slice av 0 cv)) ∧ FBI ((W.alloc (.cells (tCells a cap t (.slice av 0 cv)) 63)).alloc (.cells #[.slice aB n cB, .int .i64 br, .int .i64 bc, .bool s] 52)) (W.heap.size + 1) (.slice aB n cB) br bc s ∧ Below W.heap.size W ((W.alloc (.cells (tCells a cap t (.slice av 0 cv)) 63)).alloc (.cells #[.slice aB n cB, .int .i64 br, .int .i64 bc, .bool s] 52))) := Lib.hid (by
      have hs : (W.alloc (.cells (tCells a cap t (.slice av 0 cv)) 63)).heap.size = W.heap.size + 1 := by simp
      refine ⟨(TBx.new W _).below ((Below.refl _ _).alloc (Nat.le_refl _) _), ?_, ((Below.refl _ _).alloc (Nat.le_refl _) _).alloc (by simp) _⟩
      rw [← hs]
      exact World.alloc_heap_new _ _)
    go_wp2
    go_meet
    exact ⟨rfl, rfl, FIN.out⟩
  case rest =>
    obtain ⟨rfl, rfl, p, z, bX⟩ := hcut
    obtain ⟨X, hX⟩ : ∃ X : World, X = wc := ⟨_, rfl⟩
    rw [← hX] at p z bX ⊢
    clear hX
    have HP := Lib.hid p
    have HZ := Lib.hid z
    have hp := p.lt
    have hz := z.lt
    clear p z
    go_wp2
    go_loopw [5] (fun iv wr => ∃ k : Nat, k ≤ n ∧ iv = .int .i64 k ∧ Below X.heap.size X wr) (fun iv _ => n - (intOf iv).toNat)
    case atStart => exact ⟨0, Nat.zero_le _, rfl, Below.refl _ _⟩
    case round =>
      obtain ⟨k, hk, rfl, hb⟩ := hrel
      have hbW := bto bX hb bX.size
      have zr := HZ.out.below hb
      have pr := HP.out.below hb
      obtain ⟨e0, e1, e2, e3⟩ := zr.cells
      obtain ⟨c0, c1, c2, c3, c4, c5, c6, c7, c8, c9, c10, c11, c12, c13, c14, c15, c16, c17, c18, fz⟩ := pr.tc
      rw [hH] at c2
      by_cases hlt : k < n
      · have hBk : B[k]? = some (nth [] B k) := by rw [nth_eq _ _ _ (by omega), List.getElem?_eq_getElem (by omega)]
        have hTk : t.R[1 + k]? = some (nth [] B k) := by
          rw [HR.out, List.getElem?_append_right (by simp), List.getElem?_append_left (by simp; omega)]
          simpa using hBk
        have hwk := HBW.out _ (List.mem_of_getElem? hBk)
        obtain ⟨b1, o1, a3, c3', rfl, ⟨hb1, _⟩, hc1, ⟨hd1, hd2⟩, hM1, _⟩ := GR.out.at_ (1 + k) _ hTk
        obtain ⟨b2, o2, a4, c4', rfl, hb2, hc2, ⟨hd3, hd4⟩, hM2⟩ := HB.out.at_ k _ hBk
        obtain ⟨M, hM⟩ : ∃ M, M = nth [] B k := ⟨_, rfl⟩
        rw [← hM] at hwk hc1 hM1 hc2 hM2
        rw [hwk] at hc1 hM1 hc2 hM2
        have r1 := (hbW.cell (p := ⟨b1, _, none⟩) hb1).trans hc1
        have r2 := (hbW.cell (p := ⟨b2, _, none⟩) hb2).trans hc2
        have hki : (k : Int) < (n : Int) := by omega
        have hk2 : (1 : Int) + (k : Int) < (n : Int) + 2 := by omega
        have hk3 : ((1 : Int) + (k : Int)).toNat = 1 + k := by omega
        have HM1 := Lib.hid hM1
        have HM2 := Lib.hid hM2
        clear hBk hTk hM hM1 hM2
        clear hk2 hk3
        go_upto_region 7 with (fail)
        clear c0 c1 c2 c3 c4 c5 c6 c7 c8 c9 c10 c11 c12 c13 c14 c15 c16 c17 c18 fz e0 e1 e2 e3 r1 r2
        have HC2 := Lib.hid hc2
        clear hc1 hc2
        go_wp2
        go_loopw [7] (fun jv wx => ∃ m : Nat, m ≤ w ∧ jv = .int .i64 m ∧ Below X.heap.size X wx) (fun jv _ => w - (intOf jv).toNat)
        case atStart => exact ⟨0, Nat.zero_le _, rfl, hb⟩
        case round =>
          clear hb hbW zr pr
          obtain ⟨m, hm, rfl, hb⟩ := hrel
          have hbW := bto bX hb bX.size
          by_cases hlt2 : m < w
          · obtain ⟨C, hC⟩ : ∃ C, C = nth GC.zero M m := ⟨_, rfl⟩
            have hCi : M[m]? = some C := by rw [hC, nth_eq _ _ _ (by omega), List.getElem?_eq_getElem (by omega)]
            obtain ⟨b3, o3, rfl, hb3, rr1⟩ := HM1.out.at_ m C hCi
            obtain ⟨b4, o4, rfl, hb4, rr2⟩ := HM2.out.at_ m C hCi
            have zr := HZ.out.below hb
            have hzr := zr.lt
            obtain ⟨e0, e1, e2, e3⟩ := zr.cells
            have r2 := (hbW.cell (p := ⟨b2, _, none⟩) hb2).trans HC2.out
            have hsz := hbW.size
            obtain ⟨x0, x1, x2, x3, x4, x5, x6⟩ := vals_at (W := wr) (b := b3) (o := o3 + m * 7) (c := C) (fun j v hv => (hbW.cell (p := ⟨b3, _, none⟩) hb3).trans (rr1 j v hv))
            obtain ⟨y0, y1, y2, y3, y4, y5, y6⟩ := vals_at (W := wr) (b := b4) (o := o4 + m * 7) (c := C) (fun j v hv => (hbW.cell (p := ⟨b4, _, none⟩) hb4).trans (rr2 j v hv))
            have hq := neq_gc C C
            rw [show eqC C C = true from (eqC_iff _ _).2 rfl] at hq
            have hmi : (m : Int) < (w : Int) := by omega
            have l3 : b3 < wr.heap.size := by omega
            have l4 : b4 < wr.heap.size := by omega
            have l2 : b2 < wr.heap.size := by omega
            obtain ⟨cs, cw, cy⟩ := C
            dsimp only at x0 x1 x2 x3 x4 x5 x6 y0 y1 y2 y3 y4 y5 y6 hq
            have K0 := fun p : BW wr.heap.size wr => p.cell (by exact l3) x0
            have K1 := fun p : BW wr.heap.size wr => p.cell (by exact l3) x1
            have K2 := fun p : BW wr.heap.size wr => p.cell (by exact l3) x2
            have K3 := fun p : BW wr.heap.size wr => p.cell (by exact l3) x3
            have K4 := fun p : BW wr.heap.size wr => p.cell (by exact l3) x4
            have K5 := fun p : BW wr.heap.size wr => p.cell (by exact l3) x5
            have K6 := fun p : BW wr.heap.size wr => p.cell (by exact l3) x6
            have L0 := fun p : BW wr.heap.size wr => p.cell (by exact l4) y0
            have L1 := fun p : BW wr.heap.size wr => p.cell (by exact l4) y1
            have L2 := fun p : BW wr.heap.size wr => p.cell (by exact l4) y2
            have L3 := fun p : BW wr.heap.size wr => p.cell (by exact l4) y3
            have L4 := fun p : BW wr.heap.size wr => p.cell (by exact l4) y4
            have L5 := fun p : BW wr.heap.size wr => p.cell (by exact l4) y5
            have L6 := fun p : BW wr.heap.size wr => p.cell (by exact l4) y6
            have J0 := fun p : BW wr.heap.size wr => p.cell (by exact hzr) e0
            have J1 := fun p : BW wr.heap.size wr => p.cell (by exact l2) r2
            clear hC hCi rr1 rr2 x0 x1 x2 x3 x4 x5 x6 y0 y1 y2 y3 y4 y5 y6 e0 e1 e2 e3 r2
            go_wp2_with fail
            refine wp_region_bw wr.heap.size (by kernel_rfl) (lexB_fast (by kernel_rfl)) ?_
            repeat (go_big_quiet_step (fail))
            refine wpQuiet_nil ?_
            intro wq hw'
            have hwq : Below wr.heap.size wr wq := by obtain ⟨p, rfl⟩ := hw'; exact p.h
            have hbq := bto hb hwq hb.size
            clear hw' K0 K1 K2 K3 K4 K5 K6 L0 L1 L2 L3 L4 L5 L6 J0 J1
            go_wp2
            go_roundw
            case rel => exact ⟨m + 1, hlt2, by go_num, hbq⟩
            case measure => simp [intOf]; omega
          · have hmi : ¬ (m : Int) < (w : Int) := by omega
            go_wp2
            go_roundw
            case rel => exact ⟨k + 1, hlt, by go_num, hb⟩
            case measure => simp [intOf]; omega
      · obtain rfl : k = n := by omega
        have hT0 : t.R[0]? = some (letterR w 84) := by rw [HR.out]; rfl
        have hT1 : t.R[k + 1]? = some (letterR w 69) := by
          rw [HR.out, List.getElem?_append_right (by simp), List.getElem?_append_right (by simp; omega)]
          simp [hl]
        obtain ⟨b1, o1, a3, c3', rfl, ⟨hb1, _⟩, hc1, _, hM1, _⟩ := GR.out.at_ 0 _ hT0
        obtain ⟨b1', o1', a4, c4', e1', _, hc2, _, hM2, _⟩ := GR.out.at_ (k + 1) _ hT1
        simp only [Option.some.injEq, Addr.mk.injEq, and_true] at e1'
        obtain ⟨rfl, rfl⟩ := e1'
        rw [LT.out.1] at hc1 hM1
        rw [Nat.add_zero] at hc1
        rw [LE.out.1] at hc2 hM2
        have r1 := (hbW.cell (p := ⟨b1, _, none⟩) hb1).trans hc1
        have r2 := (hbW.cell (p := ⟨b1, _, none⟩) hb1).trans hc2
        obtain ⟨b3, o3, rfl, hb3, rr1⟩ := hM1.at_ 0 _ LT.out.2.1
        obtain ⟨b4, o4, rfl, hb4, rr2⟩ := hM2.at_ 0 _ LE.out.2.1
        rw [Nat.zero_mul, Nat.add_zero] at rr1 rr2
        obtain ⟨x0, _⟩ := vals_at (W := wr) (b := b3) (o := o3) (c := ⟨⟨#[84]⟩, 1, Sy.zero⟩) (fun j v hv => (hbW.cell (p := ⟨b3, _, none⟩) hb3).trans (rr1 j v hv))
        obtain ⟨y0, _⟩ := vals_at (W := wr) (b := b4) (o := o4) (c := ⟨⟨#[69]⟩, 1, Sy.zero⟩) (fun j v hv => (hbW.cell (p := ⟨b4, _, none⟩) hb4).trans (rr2 j v hv))
        have hw0 : 0 < w := by omega
        have hw0i : (0 : Int) < (w : Int) := by omega
        have HM1 := Lib.hid hM1
        have HM2 := Lib.hid hM2
        clear hc1 hc2 hM1 hM2 rr1 rr2 hT0 hT1
        have hki : ¬ (k : Int) < (k : Int) := by omega
        go_upto_region 16 with (fail)
        clear c0 c1 c2 c3 c4 c5 c6 c7 c8 c9 c10 c11 c12 c13 c14 c15 c16 c17 c18 fz e0 e1 e2 e3 r1 r2 x0 y0
        go_wp2
        go_loopw [10] (fun jv wx => ∃ m : Nat, 1 ≤ m ∧ m ≤ w ∧ jv = .int .i64 m ∧ wr = wx) (fun jv _ => w - (intOf jv).toNat)
        case atStart => exact ⟨1, Nat.le_refl _, hw1, rfl, rfl⟩
        case round =>
          obtain ⟨m, hm1, hm, rfl, rfl⟩ := hrel
          by_cases hlt2 : m < w
          · obtain ⟨_, _, ea, _, rr1⟩ := HM1.out.at_ m _ (LT.out.2.2 m hm1 hlt2)
            obtain ⟨_, _, eb, _, rr2⟩ := HM2.out.at_ m _ (LE.out.2.2 m hm1 hlt2)
            simp only [Option.some.injEq, Addr.mk.injEq, and_true] at ea eb
            obtain ⟨rfl, rfl⟩ := ea
            obtain ⟨rfl, rfl⟩ := eb
            obtain ⟨x0, x1, x2, x3, x4, x5, x6⟩ := vals_at (W := wr) (b := b3) (o := o3 + m * 7) (c := GC.blank) (fun j v hv => (hbW.cell (p := ⟨b3, _, none⟩) hb3).trans (rr1 j v hv))
            obtain ⟨y0, y1, y2, y3, y4, y5, y6⟩ := vals_at (W := wr) (b := b4) (o := o4 + m * 7) (c := GC.blank) (fun j v hv => (hbW.cell (p := ⟨b4, _, none⟩) hb4).trans (rr2 j v hv))
            have hq := neq_sty0
            have hmi : (m : Int) < (w : Int) := by omega
            simp only [GC.blank, Sy.zero] at x0 x1 x2 x3 x4 x5 x6 y0 y1 y2 y3 y4 y5 y6
            clear rr1 rr2
            go_wp2
            go_roundw
            case rel => exact ⟨m + 1, by omega, hlt2, by go_num, by first | trivial | rfl⟩
            case measure => simp [intOf]; omega
          · have hmi : ¬ (m : Int) < (w : Int) := by omega
            obtain ⟨e0, e1, e2, e3⟩ := zr.cells
            obtain ⟨c0, c1, c2, c3, c4, c5, c6, c7, c8, c9, c10, c11, c12, c13, c14, c15, c16, c17, c18, fz⟩ := pr.tc
            rw [h1] at c3
            rw [h2] at c4
            rw [h4] at c5 c6 c7 c8 c9
            rw [h3] at c10
            rw [h5] at c11
            rw [h6] at c12
            rw [h7] at c13
            rw [h8] at c14
            simp only [Sy.zero] at c5 c6 c7 c8 c9
            have hq := eql_sty0
            rw [Int.natCast_add] at c3
            clear h1 h2 h3 h4 h5 h6 h7 h8 hH hl fz c0 c1 c2 c16 c17 c18 e0 pr zr
            have hbr2 : br ≤ 60 := by omega
            have hbr3 : (br : Int) ≤ 60 := by omega
            rw [show ((1 : Nat) : Int) = 1 from rfl] at c3
            rw [show ((0 : Nat) : Int) = 0 from rfl] at c13 c14
            clear hbr hbc
            go_wp2_with fail
            go_ret
            exact ⟨rfl, hbW⟩
end Go.Proofs.YtekodpcedjpnjaaGreat
