/- The reference: whole of any cells. No condition but that the strings are not too long for a cut. -/
import Derived.Test.YtekodpcedjpnjaaFChk3
import Derived.Test.YtekodpcedjpnjaaRClus3
import Derived.Test.YtekodpcedjpnjaaClus6
import Derived.Test.YtekodpcedjpnjaaRegT
import Derived.Test.YtekodpcedjpnjaaBwAt
import Derived.Test.YtekodpcedjpnjaaRCol
namespace Go.Proofs.Ytekodpcedjpnjaa
set_option linter.unusedVariables false
set_option linter.unusedSimpArgs false
open Go.RowKit Go.Shelf Go.Maps
def eqY (x y : Sy) : Bool := decide (x.b = y.b ∧ x.u = y.u ∧ x.i = y.i ∧ x.f = y.f ∧ x.g = y.g)
theorem eqY_iff (x y : Sy) : eqY x y = true ↔ x = y := by
  obtain ⟨b, u, i, f, g⟩ := x
  obtain ⟨b', u', i', f', g'⟩ := y
  simp [eqY]
set_option maxRecDepth 100000 in
theorem neq_sy (x y : Sy) (W : World) : (binOp .neq 34 (.agg #[.bool x.b, .bool x.u, .bool x.i, .int .i64 x.f, .int .i64 x.g]) (.agg #[.bool y.b, .bool y.u, .bool y.i, .int .i64 y.f, .int .i64 y.g])).run Try.prog W = .ok (.bool (!eqY x y)) W := by
  obtain ⟨b, u, i, f, g⟩ := x
  obtain ⟨b', u', i', f', g'⟩ := y
  unfold eqY
  go_simp
  by_cases h2 : b = b' <;> by_cases h3 : u = u' <;> by_cases h4 : i = i' <;> by_cases h5 : f = f' <;> by_cases h6 : g = g' <;> simp [h2, h3, h4, h5, h6]
theorem widthL_of {s : ByteArray} (h : isCl s.data.toList = true) : widthL s.data.toList = 1 ∨ widthL s.data.toList = 2 := by
  have hc := isCl_clu h
  have h1 := hc.cols
  rw [widthL_cluF hc]
  omega
theorem isEmpty_iff (s : ByteArray) : s.toList.isEmpty = decide (s = ⟨#[]⟩) := by
  rw [Bool.eq_iff_iff, List.isEmpty_iff, decide_eq_true_eq]
  have h := toList_inj s ⟨#[]⟩
  have h0 : (⟨#[]⟩ : ByteArray).toList = [] := by kernel_rfl
  constructor
  · intro h1; rw [← h, h1, h0]
  · intro h1; rw [h1, h0]
/-- What is left to be asked, at a place: behind a wide cell its tail comes first. -/
def curW (M : List GC) (k : Nat) : Bool := if 0 < k ∧ (nth GC.zero M (k - 1)).w = 2 then wholeTl (nth GC.zero M (k - 1)).y (M.drop k) else wholeB (M.drop k)
/-- A wide cell ahead has colours that may be, and is not the last one. -/
def preW (M : List GC) (k : Nat) : Prop := 0 < k → (nth GC.zero M (k - 1)).w = 2 → mayF (nth GC.zero M (k - 1)).y = true ∧ k < M.length
theorem curW_end {M : List GC} (h : preW M M.length) : curW M M.length = true := by
  unfold curW
  rw [if_neg (fun hh => absurd (h hh.1 hh.2).2 (Nat.lt_irrefl _)), List.drop_eq_nil_of_le (Nat.le_refl _)]
  rfl
theorem curW_next (M : List GC) (k : Nat) : curW M (k + 1) = if (nth GC.zero M k).w = 2 then wholeTl (nth GC.zero M k).y (M.drop (k + 1)) else wholeB (M.drop (k + 1)) := by
  unfold curW
  simp
theorem preW_next (M : List GC) (k : Nat) (h : (nth GC.zero M k).w = 2 → mayF (nth GC.zero M k).y = true ∧ k + 1 < M.length) : preW M (k + 1) := fun _ h2 => by
  simp only [Nat.add_sub_cancel] at h2 ⊢
  exact h h2
set_option maxRecDepth 100000 in
set_option maxHeartbeats 16000000 in
theorem rwhole_any {W : World} {a : Option Addr} {n cap : Nat} {M : List GC} (hM : CellsAt W a n M) (hn : n ≤ 1000) (hs : ∀ c ∈ M, c.s.size ≤ 1100000) :
    Calls Try.prog 73 #[.slice a n cap] W fun e w' => e = .returned (.bool (wholeB M)) ∧ Below W.heap.size W w' := by
  have l1 := hM.len
  have HSZ := Lib.hid hs
  clear hs
  go_enter Try.func73, Try.ntmps73
  go_wp2
  go_loopw [3] (fun i wr => ∃ k : Nat, k ≤ n ∧ i = .int .i64 k ∧ Hid (wholeB M = curW M k) ∧ Hid (preW M k) ∧ Below W.heap.size W wr) (fun i _ => n - (intOf i).toNat)
  case atStart => exact ⟨0, Nat.zero_le _, rfl, Lib.hid rfl, Lib.hid (fun h => absurd h (Nat.lt_irrefl _)), Below.refl _ _⟩
  case round =>
    obtain ⟨k, hk, rfl, hwk, hpk, hb⟩ := hrel
    by_cases hlt : k < n
    · have hCi : M[k]? = some (nth GC.zero M k) := by rw [nth_eq _ _ _ (by omega), List.getElem?_eq_getElem (by omega)]
      have hdr : M.drop k = nth GC.zero M k :: M.drop (k + 1) := by rw [List.drop_eq_getElem_cons (by omega), nth_eq _ _ _ (by omega)]
      have hszC := HSZ.out _ (List.mem_of_getElem? hCi)
      have HML : Hid (M.length = n) := Lib.hid l1
      obtain ⟨b1, o1, rfl, hb1, r1⟩ := (hM.below hb).at_ k _ hCi
      have hcn := curW_next M k
      have hpn := preW_next M k
      obtain ⟨C, hC⟩ : ∃ C, C = nth GC.zero M k := ⟨_, rfl⟩
      rw [← hC] at r1 hszC hcn hpn hdr
      obtain ⟨x0, x1, x2, x3, x4, x5, x6⟩ := vals_at r1
      have hsl := S_list C.s
      have C1 := (fun W => refIs3_any C.s.data.toList (by rw [Array.length_toList]; exact hszC) W)
      have C2 := (fun W => refWidth_any C.s.data.toList (by rw [Array.length_toList]; exact hszC) W)
      have C3 := (fun W => rcolours_any C.y W)
      rw [hsl] at C1
      rw [hsl] at C2
      have hok : okB C = (mayF C.y && (decide (C.w = 1 ∨ C.w = 2) && (isCl C.s.data.toList && decide (widthL C.s.data.toList = C.w)))) := okB_any C
      have hwo := @widthL_of C.s
      obtain ⟨zi, hzi⟩ : ∃ z, z = isCl C.s.data.toList := ⟨_, rfl⟩
      obtain ⟨zw, hzw⟩ : ∃ z, z = widthL C.s.data.toList := ⟨_, rfl⟩
      obtain ⟨zm, hzm⟩ : ∃ z, z = mayF C.y := ⟨_, rfl⟩
      rw [← hzi] at C1 hok hwo
      rw [← hzw] at C2 hok hwo
      rw [← hzm] at C3 hok
      have HZM := Lib.hid hzm
      have HCI := Lib.hid hCi
      have HDR := Lib.hid hdr
      have HCN := Lib.hid hcn
      have HPN := Lib.hid hpn
      have HOKC := Lib.hid hok
      have HWO := Lib.hid hwo
      clear hdr hCi hC r1 hsl hzi hzw hzm hszC hcn hpn hok hwo l1
      have hnx : k + 1 ≤ n := hlt
      have g1 : GBlk (wr.alloc (.cells #[.string C.s, .int .i64 C.w, .bool C.y.b, .bool C.y.u, .bool C.y.i, .int .i64 C.y.f, .int .i64 C.y.g] 70)) wr.heap.size [C] := GBlk.made wr [C]
      have hb1x : Below wr.heap.size wr (wr.alloc (.cells #[.string C.s, .int .i64 C.w, .bool C.y.b, .bool C.y.u, .bool C.y.i, .int .i64 C.y.f, .int .i64 C.y.g] 70)) := (Below.refl _ _).alloc (Nat.le_refl _) _
      obtain ⟨X1, hX1⟩ : ∃ X, wr.alloc (.cells #[.string C.s, .int .i64 C.w, .bool C.y.b, .bool C.y.u, .bool C.y.i, .int .i64 C.y.f, .int .i64 C.y.g] 70) = X := ⟨_, rfl⟩
      rw [hX1] at g1 hb1x
      have HX1 := Lib.hid hX1
      clear hX1
      have hsx : wr.heap.size < X1.heap.size := g1.lt
      have gr := g1.range1 (i := 0) (c := C) rfl
      rw [Nat.mul_zero] at gr
      obtain ⟨y0, y1, y2, y3, y4, y5, y6⟩ := vals_at gr
      simp only [Nat.zero_add] at y0 y1 y2 y3 y4 y5 y6
      have C1 := Lib.hid C1
      have C2 := Lib.hid C2
      have C3 := Lib.hid C3
      have hB1 := bto hb hb1x hb.size
      go_upto_region 5 with (fail)
      rw [HX1.out]
      go_wp2_with fail
      refine (C3.out _).mono ?_
      rintro e X2 ⟨rfl, hb2⟩
      have hB2 := bto hB1 hb2 hB1.size
      have hs2 : wr.heap.size < X2.heap.size := Nat.lt_of_lt_of_le hsx hb2.size
      replace y0 := (hb2.cell (p := ⟨wr.heap.size, _, none⟩) hsx).trans y0
      replace y1 := (hb2.cell (p := ⟨wr.heap.size, _, none⟩) hsx).trans y1
      replace y2 := (hb2.cell (p := ⟨wr.heap.size, _, none⟩) hsx).trans y2
      replace y3 := (hb2.cell (p := ⟨wr.heap.size, _, none⟩) hsx).trans y3
      replace y4 := (hb2.cell (p := ⟨wr.heap.size, _, none⟩) hsx).trans y4
      replace y5 := (hb2.cell (p := ⟨wr.heap.size, _, none⟩) hsx).trans y5
      replace y6 := (hb2.cell (p := ⟨wr.heap.size, _, none⟩) hsx).trans y6
      cases zm with
      | false =>
        have HF : Hid (wholeB M = false) := Lib.hid (by
          rw [hwk.out]
          unfold curW
          rw [HDR.out]
          split
          · rename_i hh
            have h1 := (hpk.out hh.1 hh.2).1
            simp only [wholeTl]
            cases he : eqC C (GC.tail (nth GC.zero M (k - 1)).y) with
            | false => rfl
            | true =>
              have := (eqC_iff _ _).1 he
              have hz := HZM.out
              rw [this] at hz
              simp only [GC.tail] at hz
              rw [h1] at hz
              cases hz
          · rw [wholeB_cons, HOKC.out]; rfl)
        clear x0 x1 x2 x3 x4 x5 x6
        go_wp2
        go_ret
        exact ⟨ret_bool HF.out.symm, hB2⟩
      | true =>
      have K0 := fun p : BW X2.heap.size X2 => p.cell (by exact hs2) y0
      have K1 := fun p : BW X2.heap.size X2 => p.cell (by exact hs2) y1
      have K2 := fun p : BW X2.heap.size X2 => p.cell (by exact hs2) y2
      have K3 := fun p : BW X2.heap.size X2 => p.cell (by exact hs2) y3
      have K4 := fun p : BW X2.heap.size X2 => p.cell (by exact hs2) y4
      have K5 := fun p : BW X2.heap.size X2 => p.cell (by exact hs2) y5
      have K6 := fun p : BW X2.heap.size X2 => p.cell (by exact hs2) y6
      clear x0 x1 x2 x3 x4 x5 x6
      obtain ⟨tl, htl0⟩ : ∃ tl, tl = decide (0 < k ∧ (nth GC.zero M (k - 1)).w = 2) := ⟨_, rfl⟩
      have HTL := Lib.hid htl0
      clear htl0
      go_upto_region 7 with (fail)
      go_cut [5] (fun v wx => v = .bool tl ∧ X2 = wx)
      case first =>
        by_cases hk0 : 0 < k
        · obtain ⟨D, hD⟩ : ∃ D, D = nth GC.zero M (k - 1) := ⟨_, rfl⟩
          have hDi : M[k - 1]? = some D := by rw [hD, nth_eq _ _ _ (by rw [HML.out]; omega), List.getElem?_eq_getElem (by rw [HML.out]; omega)]
          obtain ⟨b2, o2, e2, hb2', r2⟩ := ((hM.below hb).below (bto hb1x hb2 hb1x.size)).at_ (k - 1) D hDi
          simp only [Option.some.injEq, Addr.mk.injEq] at e2
          obtain ⟨rfl, rfl, _⟩ := e2
          have hwd : (D.w == 2) = tl := by rw [HTL.out, ← hD]; simp [hk0]; rfl
          obtain ⟨t0, t1, t2, t3, t4, t5, t6⟩ := vals_at r2
          have hkm : (k : Int) - 1 = ((k - 1 : Nat) : Int) := by omega
          have hki : (0 : Int) < (k : Int) := by omega
          have hkj : ((k - 1 : Nat) : Int) < (n : Int) := by omega
          clear hD hDi r2 t0 t2 t3 t4 t5 t6
          go_wp2
          go_meet
          exact ⟨rfl, rfl⟩
        · have hki : ¬ (0 : Int) < (k : Int) := by omega
          have HT0 : Hid (tl = false) := Lib.hid (by rw [HTL.out]; simp; omega)
          go_wp2
          go_meet
          exact ⟨by rw [HT0.out], rfl⟩
      case rest =>
      obtain ⟨rfl, hwc⟩ := hcut
      subst hwc
      cases tl with
      | true =>
        obtain ⟨hk1, hw2⟩ := of_decide_eq_true HTL.out.symm
        obtain ⟨D, hD⟩ : ∃ D, D = nth GC.zero M (k - 1) := ⟨_, rfl⟩
        have hDi : M[k - 1]? = some D := by rw [hD, nth_eq _ _ _ (by rw [HML.out]; omega), List.getElem?_eq_getElem (by rw [HML.out]; omega)]
        obtain ⟨b2, o2, e2, hb2', r2⟩ := ((hM.below hb).below (bto hb1x hb2 hb1x.size)).at_ (k - 1) D hDi
        simp only [Option.some.injEq, Addr.mk.injEq] at e2
        obtain ⟨rfl, rfl, _⟩ := e2
        have HWK : Hid (wholeB M = (eqC C (GC.tail D.y) && wholeB (M.drop (k + 1)))) := Lib.hid (by
          rw [hwk.out]; unfold curW; rw [if_pos ⟨hk1, hw2⟩, HDR.out, ← hD]; rfl)
        rw [← hD] at hw2
        obtain ⟨t0, t1, t2, t3, t4, t5, t6⟩ := vals_at r2
        rw [hw2] at t1
        have hkm : (k : Int) - 1 = ((k - 1 : Nat) : Int) := by omega
        have hki : (0 : Int) < (k : Int) := by omega
        have hkj : ((k - 1 : Nat) : Int) < (n : Int) := by omega
        have T2 := fun p : BW X2.heap.size X2 => p.cell (by exact hb2') t2
        have T3 := fun p : BW X2.heap.size X2 => p.cell (by exact hb2') t3
        have T4 := fun p : BW X2.heap.size X2 => p.cell (by exact hb2') t4
        have T5 := fun p : BW X2.heap.size X2 => p.cell (by exact hb2') t5
        have T6 := fun p : BW X2.heap.size X2 => p.cell (by exact hb2') t6
        clear hD hDi r2 hw2
        have hsc : C.s.toList.isEmpty = decide (C.s = ⟨#[]⟩) := isEmpty_iff C.s
        by_cases hs0 : C.s = ⟨#[]⟩
        case neg =>
          have HF : Hid (wholeB M = false) := Lib.hid (by
            rw [HWK.out]
            cases he : eqC C (GC.tail D.y) with
            | false => rfl
            | true => exact absurd (congrArg GC.s ((eqC_iff _ _).1 he)) hs0)
          have hsl0 : C.s.toList.isEmpty = false := by rw [hsc]; simpa using hs0
          clear hs0 hsc
          go_wp2_with fail
          refine wp_region_bw X2.heap.size (by kernel_rfl) (lexB_fast (by kernel_rfl)) ?_
          repeat (go_big_quiet_step (fail))
          refine wpQuiet_nil ?_
          intro wq hw'
          have hwq : Below X2.heap.size X2 wq := by obtain ⟨p, rfl⟩ := hw'; exact p.h
          have hbq : Below W.heap.size W wq := bto hB2 hwq hB2.size
          clear hw' K0 K1 K2 K3 K4 K5 K6 T2 T3 T4 T5 T6
          go_wp2
          go_ret
          exact ⟨ret_bool HF.out.symm, hbq⟩
        have hsl0 : C.s.toList.isEmpty = true := by rw [hsc]; simpa using hs0
        by_cases hw0 : C.w = 0
        case neg =>
          have HF : Hid (wholeB M = false) := Lib.hid (by
            rw [HWK.out]
            cases he : eqC C (GC.tail D.y) with
            | false => rfl
            | true => exact absurd (congrArg GC.w ((eqC_iff _ _).1 he)) hw0)
          have hwe : (C.w != 0) = true := by simpa using hw0
          clear hw0 hsc
          go_wp2_with fail
          refine wp_region_bw X2.heap.size (by kernel_rfl) (lexB_fast (by kernel_rfl)) ?_
          repeat (go_big_quiet_step (fail))
          refine wpQuiet_nil ?_
          intro wq hw'
          have hwq : Below X2.heap.size X2 wq := by obtain ⟨p, rfl⟩ := hw'; exact p.h
          have hbq : Below W.heap.size W wq := bto hB2 hwq hB2.size
          clear hw' K0 K1 K2 K3 K4 K5 K6 T2 T3 T4 T5 T6
          go_wp2
          go_ret
          exact ⟨ret_bool HF.out.symm, hbq⟩
        have hwe : (C.w != 0) = false := by simpa using hw0
        have hq := neq_sy C.y D.y
        have heC : eqC C (GC.tail D.y) = eqY C.y D.y := by
          rw [Bool.eq_iff_iff, eqC_iff, eqY_iff]
          constructor
          · intro h; rw [h]; rfl
          · intro h
            obtain ⟨s, w, y⟩ := C
            dsimp only at hs0 hw0 h
            rw [hs0, hw0, h]; rfl
        cases hy : eqY C.y D.y with
        | false =>
          have HF : Hid (wholeB M = false) := Lib.hid (by rw [HWK.out, heC, hy]; rfl)
          rw [hy] at hq
          clear hw0 hs0 hsc heC hy
          go_wp2_with fail
          refine wp_region_bw X2.heap.size (by kernel_rfl) (lexB_fast (by kernel_rfl)) ?_
          repeat (go_big_quiet_step (fail))
          refine wpQuiet_nil ?_
          intro wq hw'
          have hwq : Below X2.heap.size X2 wq := by obtain ⟨p, rfl⟩ := hw'; exact p.h
          have hbq : Below W.heap.size W wq := bto hB2 hwq hB2.size
          clear hw' K0 K1 K2 K3 K4 K5 K6 T2 T3 T4 T5 T6
          go_wp2
          go_ret
          exact ⟨ret_bool HF.out.symm, hbq⟩
        | true =>
          have HZ2 : Hid (wholeB M = curW M (k + 1)) := Lib.hid (by rw [HWK.out, heC, hy, HCN.out, if_neg (by rw [hw0]; decide)]; rfl)
          have HI2 : Hid (preW M (k + 1)) := Lib.hid (HPN.out (fun h => by rw [hw0] at h; cases h))
          rw [hy] at hq
          clear hw0 hs0 hsc heC hy
          go_wp2_with fail
          refine wp_region_bw X2.heap.size (by kernel_rfl) (lexB_fast (by kernel_rfl)) ?_
          repeat (go_big_quiet_step (fail))
          refine wpQuiet_nil ?_
          intro wq hw'
          have hwq : Below X2.heap.size X2 wq := by obtain ⟨p, rfl⟩ := hw'; exact p.h
          have hbq : Below W.heap.size W wq := bto hB2 hwq hB2.size
          clear hw' K0 K1 K2 K3 K4 K5 K6 T2 T3 T4 T5 T6
          go_wp2
          go_roundw
          case rel => exact ⟨k + 1, hlt, by go_num, HZ2, HI2, hbq⟩
          case measure => simp [intOf]; omega
      | false =>
        have htl := of_decide_eq_false HTL.out.symm
        have HWK : Hid (wholeB M = (okB C && (if C.w = 1 then wholeB (M.drop (k + 1)) else wholeTl C.y (M.drop (k + 1))))) := Lib.hid (by
          rw [hwk.out]; unfold curW; rw [if_neg htl, HDR.out, wholeB_cons])
        clear htl
        cases zi with
        | false =>
        have HF : Hid (wholeB M = false) := Lib.hid (by rw [HWK.out, HOKC.out]; simp)
        go_wp2_with fail
        refine wp_region_bw X2.heap.size (by kernel_rfl) (lexB_fast (by kernel_rfl)) ?_
        repeat (go_big_quiet_step ((apply Calls.bw_of (Nat.le_refl _); first
          | (go_at_call 102; exact C1.out _)
          | (go_at_call 32; exact C2.out _))))
        refine wpQuiet_nil ?_
        intro wq hw'
        have hwq : Below X2.heap.size X2 wq := by obtain ⟨p, rfl⟩ := hw'; exact p.h
        have hbq : Below W.heap.size W wq := bto hB2 hwq hB2.size
        clear hw' C1 C2 K0 K1 K2 K3 K4 K5 K6
        go_wp2
        go_ret
        exact ⟨ret_bool HF.out.symm, hbq⟩
        | true =>
        by_cases hzw : C.w = zw
        case neg =>
          have hne : (C.w != zw) = true := by simpa using hzw
          have HF : Hid (wholeB M = false) := Lib.hid (by rw [HWK.out, HOKC.out]; simp; intro _ h; exact absurd h.symm hzw)
          clear hzw
          go_wp2_with fail
          refine wp_region_bw X2.heap.size (by kernel_rfl) (lexB_fast (by kernel_rfl)) ?_
          repeat (go_big_quiet_step ((apply Calls.bw_of (Nat.le_refl _); first
            | (go_at_call 102; exact C1.out _)
            | (go_at_call 32; exact C2.out _))))
          refine wpQuiet_nil ?_
          intro wq hw'
          have hwq : Below X2.heap.size X2 wq := by obtain ⟨p, rfl⟩ := hw'; exact p.h
          have hbq : Below W.heap.size W wq := bto hB2 hwq hB2.size
          clear hw' C1 C2 K0 K1 K2 K3 K4 K5 K6
          go_wp2
          go_ret
          exact ⟨ret_bool HF.out.symm, hbq⟩
        have hne : (C.w != zw) = false := by simpa using hzw
        have h12 := HWO.out rfl
        have HOK1 : Hid (okB C = true) := Lib.hid (by rw [HOKC.out, hzw]; simp; omega)
        by_cases hw2 : C.w = 2
        case pos =>
          have he2 : (C.w == 2) = true := by simpa using hw2
          by_cases hke : k + 1 = n
          case pos =>
            have hkn : (k : Int) = (n : Int) - 1 := by omega
            have hkb : ((k : Int) == (n : Int) - 1) = true := by simpa using hkn
            have HF : Hid (wholeB M = false) := Lib.hid (by
              rw [HWK.out, HOK1.out, if_neg (by rw [hw2]; decide), List.drop_eq_nil_of_le (by rw [HML.out]; omega)]; rfl)
            clear hw2 hkn h12 hzw
            go_wp2_with fail
            refine wp_region_bw X2.heap.size (by kernel_rfl) (lexB_fast (by kernel_rfl)) ?_
            repeat (go_big_quiet_step ((apply Calls.bw_of (Nat.le_refl _); first
              | (go_at_call 102; exact C1.out _)
              | (go_at_call 32; exact C2.out _))))
            refine wpQuiet_nil ?_
            intro wq hw'
            have hwq : Below X2.heap.size X2 wq := by obtain ⟨p, rfl⟩ := hw'; exact p.h
            have hbq : Below W.heap.size W wq := bto hB2 hwq hB2.size
            clear hw' C1 C2 K0 K1 K2 K3 K4 K5 K6
            go_wp2
            go_ret
            exact ⟨ret_bool HF.out.symm, hbq⟩
          have hkb : ((k : Int) == (n : Int) - 1) = false := by simp; omega
          have HZ2 : Hid (wholeB M = curW M (k + 1)) := Lib.hid (by rw [HWK.out, HOK1.out, HCN.out, if_neg (by rw [hw2]; decide), if_pos hw2]; rfl)
          have HI2 : Hid (preW M (k + 1)) := Lib.hid (HPN.out (fun _ => ⟨HZM.out.symm, by rw [HML.out]; omega⟩))
          clear hw2 h12 hzw
          go_wp2_with fail
          refine wp_region_bw X2.heap.size (by kernel_rfl) (lexB_fast (by kernel_rfl)) ?_
          repeat (go_big_quiet_step ((apply Calls.bw_of (Nat.le_refl _); first
            | (go_at_call 102; exact C1.out _)
            | (go_at_call 32; exact C2.out _))))
          refine wpQuiet_nil ?_
          intro wq hw'
          have hwq : Below X2.heap.size X2 wq := by obtain ⟨p, rfl⟩ := hw'; exact p.h
          have hbq : Below W.heap.size W wq := bto hB2 hwq hB2.size
          clear hw' C1 C2 K0 K1 K2 K3 K4 K5 K6
          go_wp2
          go_roundw
          case rel => exact ⟨k + 1, hlt, by go_num, HZ2, HI2, hbq⟩
          case measure => simp [intOf]; omega
        have he2 : (C.w == 2) = false := by simpa using hw2
        have HZ2 : Hid (wholeB M = curW M (k + 1)) := Lib.hid (by rw [HWK.out, HOK1.out, HCN.out, if_pos (by omega), if_neg hw2]; rfl)
        have HI2 : Hid (preW M (k + 1)) := Lib.hid (HPN.out (fun h => absurd h hw2))
        clear hw2 h12 hzw
        go_wp2_with fail
        refine wp_region_bw X2.heap.size (by kernel_rfl) (lexB_fast (by kernel_rfl)) ?_
        repeat (go_big_quiet_step ((apply Calls.bw_of (Nat.le_refl _); first
          | (go_at_call 102; exact C1.out _)
          | (go_at_call 32; exact C2.out _))))
        refine wpQuiet_nil ?_
        intro wq hw'
        have hwq : Below X2.heap.size X2 wq := by obtain ⟨p, rfl⟩ := hw'; exact p.h
        have hbq : Below W.heap.size W wq := bto hB2 hwq hB2.size
        clear hw' C1 C2 K0 K1 K2 K3 K4 K5 K6
        go_wp2
        go_roundw
        case rel => exact ⟨k + 1, hlt, by go_num, HZ2, HI2, hbq⟩
        case measure => simp [intOf]; omega
    · obtain rfl : k = n := by omega
      have HF : Hid (wholeB M = true) := Lib.hid (by rw [hwk.out, ← l1]; exact curW_end (by rw [l1]; exact hpk.out))
      go_wp2
      go_ret
      exact ⟨ret_bool HF.out.symm, hb⟩
end Go.Proofs.Ytekodpcedjpnjaa
