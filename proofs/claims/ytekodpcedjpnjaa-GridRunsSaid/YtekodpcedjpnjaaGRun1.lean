/- The law GridRuns: its function whole, at a row whose wide cells and tails are paired. No condition. -/
import Derived.Test.YtekodpcedjpnjaaGRunP
import Derived.Test.YtekodpcedjpnjaaFrame9
import Derived.Test.YtekodpcedjpnjaaBwAt
namespace Go.Proofs.Ytekodpcedjpnjaa
set_option linter.unusedVariables false
set_option linter.unusedSimpArgs false
open Go.RowKit Go.Shelf Go.Maps
theorem neq_sty4 (y : Sy) (W : World) : (binOp .neq 34 (.agg #[.bool y.b, .bool y.u, .bool y.i, .int .i64 y.f, .int .i64 y.g]) (.agg #[.bool y.b, .bool y.u, .bool y.i, .int .i64 y.f, .int .i64 y.g])).run Try.prog W = .ok (.bool false) W := by
  go_simp
theorem isEmpty4_iff (s : ByteArray) : s.toList.isEmpty = decide (s = ⟨#[]⟩) := by
  rw [Bool.eq_iff_iff, List.isEmpty_iff, decide_eq_true_eq]
  have h := toList_inj s ⟨#[]⟩
  have h0 : (⟨#[]⟩ : ByteArray).toList = [] := by kernel_rfl
  constructor
  · intro h1; rw [← h, h1, h0]
  · intro h1; rw [h1, h0]
/-- What is left to be asked, at a place: behind a wide cell its tail comes first. -/
def curW (M : List GC) (k : Nat) : Bool := if 0 < k ∧ (nth GC.zero M (k - 1)).w = 2 then wholeTl (nth GC.zero M (k - 1)).y (M.drop k) else wholeB (M.drop k)
set_option maxRecDepth 100000 in
set_option maxHeartbeats 8000000 in
theorem whole04_any {W : World} {a : Option Addr} {n cap : Nat} {M : List GC} (hM : CellsAt W a n M) (hn : n ≤ 1000) (g : GRw M) :
    Calls Try.prog 17 #[.slice a n cap] W fun e w' => e = .returned (.bool true) ∧ Below W.heap.size W w' := by
  have l1 := hM.len
  have HG := Lib.hid g
  clear g
  go_enter Try.func17, Try.ntmps17
  go_wp2
  go_loopw [3, 4] (fun s i wr => ∃ k : Nat, k ≤ n ∧ s = .int .i64 (wid M k : Nat) ∧ i = .int .i64 k ∧ Below W.heap.size W wr) (fun _ i _ => n - (intOf i).toNat)
  case atStart => exact ⟨0, Nat.zero_le _, rfl, rfl, Below.refl _ _⟩
  case round =>
    obtain ⟨k, hk, rfl, rfl, hb⟩ := hrel
    by_cases hlt : k < n
    · have hCi : M[k]? = some (nth GC.zero M k) := by rw [nth_eq _ _ _ (by omega), List.getElem?_eq_getElem (by omega)]
      obtain ⟨b1, o1, rfl, hb1, r1⟩ := (hM.below hb).at_ k _ hCi
      have hwn := HG.out.wid_next (k := k) (by omega)
      have hw2 := fun h => HG.out.wide (k := k) (by omega) h
      have hw0 := fun h => HG.out.none (k := k) (by omega) h
      have hws := fun h => HG.out.some (k := k) (by omega) h
      have hw3 : (nth GC.zero M k).w = 0 ∨ (nth GC.zero M k).w = 1 ∨ (nth GC.zero M k).w = 2 := by
        rcases HG.out k (by omega) with ⟨h, _⟩ | ⟨_, _, h⟩
        · exact .inr h.1
        · exact .inl (by rw [h]; rfl)
      have hwb : wid M k ≤ k + 1 := by unfold wid; split <;> omega
      obtain ⟨C, hC⟩ : ∃ C, C = nth GC.zero M k := ⟨_, rfl⟩
      rw [← hC] at r1 hw3 hwn hw2 hw0 hws
      obtain ⟨x0, x1, x2, x3, x4, x5, x6⟩ := vals_at r1
      have hq := neq_sty4 C.y
      obtain ⟨cs, cw, cy⟩ := C
      dsimp only at x0 x1 x2 x3 x4 x5 x6 hq hw3 hwn hw2 hw0 hws
      have HWN := Lib.hid hwn
      have HW2 := Lib.hid hw2
      have HW0 := Lib.hid hw0
      have HWS := Lib.hid hws
      clear hwn hw2 hw0 hws hCi hC
      have hlti : (k : Int) < (n : Int) := by omega
      have hbs := hb.size
      have hb1r : b1 < wr.heap.size := by omega
      have K0 := fun p : BW wr.heap.size wr => p.cell hb1r x0
      have K1 := fun p : BW wr.heap.size wr => p.cell hb1r x1
      rcases hw3 with rfl | rfl | rfl
      · obtain ⟨h0, hp⟩ := HW0.out rfl
        have hCj : M[k - 1]? = some (nth GC.zero M (k - 1)) := by rw [nth_eq _ _ _ (by omega), List.getElem?_eq_getElem (by omega)]
        obtain ⟨b2, o2, e2, hb2, r2⟩ := (hM.below hb).at_ (k - 1) _ hCj
        simp only [Option.some.injEq, Addr.mk.injEq, and_true] at e2
        obtain ⟨rfl, rfl⟩ := e2
        obtain ⟨_, y1, _⟩ := vals_at r2
        rw [hp] at y1
        obtain ⟨j, hj⟩ : ∃ j, j = k - 1 := ⟨_, rfl⟩
        have hjk : (k : Int) - 1 = (j : Int) := by omega
        rw [← hj] at y1
        have hjn : (j : Int) < (n : Int) := by omega
        have hk0 : ((k : Int) == 0) = false := by simp; omega
        clear hq hCj r2 hp hj
        go_wp2_with fail
        refine wp_region_bw wr.heap.size (by kernel_rfl) (lexB_fast (by kernel_rfl)) ?_
        repeat (go_big_quiet_step (fail))
        refine wpQuiet_nil ?_
        intro wq hw'
        have hwq : Below wr.heap.size wr wq := by obtain ⟨p, rfl⟩ := hw'; exact p.h
        have z0 := (hwq.cell (p := ⟨b1, o1 + k * 7, none⟩) hb1r).trans x0
        have z1 := (hwq.cell (p := ⟨b1, o1 + k * 7 + 1, none⟩) hb1r).trans x1
        have z2 := (hwq.cell (p := ⟨b1, o1 + j * 7 + 1, none⟩) hb1r).trans y1
        have hbq : Below W.heap.size W wq := bto hb hwq hb.size
        have HWK : Hid ((wid M k : Int) = (wid M (k + 1) : Nat)) := Lib.hid (by have := HWN.out; omega)
        clear hw' K0 K1 x0 x1 x2 x3 x4 x5 x6 r1 y1
        go_wp2
        go_roundw
        case rel => exact ⟨k + 1, hlt, congrArg (Value.int _) HWK.out, by go_num, hbq⟩
        case measure => simp [intOf]; omega
      · have HNE : Hid (cs.toList.isEmpty = false) := Lib.hid (by rw [isEmpty4_iff]; simpa using HWS.out (by decide))
        clear hq
        go_wp2_with fail
        refine wp_region_bw wr.heap.size (by kernel_rfl) (lexB_fast (by kernel_rfl)) ?_
        repeat (go_big_quiet_step (fail))
        refine wpQuiet_nil ?_
        intro wq hw'
        have hwq : Below wr.heap.size wr wq := by obtain ⟨p, rfl⟩ := hw'; exact p.h
        have z0 := (hwq.cell (p := ⟨b1, o1 + k * 7, none⟩) hb1r).trans x0
        have z1 := (hwq.cell (p := ⟨b1, o1 + k * 7 + 1, none⟩) hb1r).trans x1
        have hbq : Below W.heap.size W wq := bto hb hwq hb.size
        have HWK : Hid ((wid M k : Int) + 1 = (wid M (k + 1) : Nat)) := HWN
        clear hw' K0 K1 x0 x1 x2 x3 x4 x5 x6 r1
        go_wp2
        · exact absurd (show cs.toList.isEmpty = true by assumption) (by rw [HNE.out]; decide)
        go_roundw
        case rel => exact ⟨k + 1, hlt, congrArg (Value.int _) HWK.out, by go_num, hbq⟩
        case measure => simp [intOf]; omega
      · obtain ⟨hk1, ht⟩ := HW2.out rfl
        have HNE : Hid (cs.toList.isEmpty = false) := Lib.hid (by rw [isEmpty4_iff]; simpa using HWS.out (by decide))
        have hCj : M[k + 1]? = some (nth GC.zero M (k + 1)) := by rw [nth_eq _ _ _ (by omega), List.getElem?_eq_getElem (by omega)]
        obtain ⟨b2, o2, e2, hb2, r2⟩ := (hM.below hb).at_ (k + 1) _ hCj
        simp only [Option.some.injEq, Addr.mk.injEq, and_true] at e2
        obtain ⟨rfl, rfl⟩ := e2
        rw [ht] at r2
        obtain ⟨y0, y1, y2, y3, y4, y5, y6⟩ := vals_at r2
        dsimp only [GC.tail] at y0 y1 y2 y3 y4 y5 y6
        have hjn : (k : Int) + 1 < (n : Int) := by omega
        have hjn2 : ¬ (n : Int) ≤ (k : Int) + 1 := by omega
        have hjn3 : decide ((n : Int) ≤ (k : Int) + 1) = false := by simp; omega
        have K2 := fun p : BW wr.heap.size wr => p.cell hb1r x2
        have K3 := fun p : BW wr.heap.size wr => p.cell hb1r x3
        have K4 := fun p : BW wr.heap.size wr => p.cell hb1r x4
        have K5 := fun p : BW wr.heap.size wr => p.cell hb1r x5
        have K6 := fun p : BW wr.heap.size wr => p.cell hb1r x6
        have L0 := fun p : BW wr.heap.size wr => p.cell hb1r y0
        have L1 := fun p : BW wr.heap.size wr => p.cell hb1r y1
        have L2 := fun p : BW wr.heap.size wr => p.cell hb1r y2
        have L3 := fun p : BW wr.heap.size wr => p.cell hb1r y3
        have L4 := fun p : BW wr.heap.size wr => p.cell hb1r y4
        have L5 := fun p : BW wr.heap.size wr => p.cell hb1r y5
        have L6 := fun p : BW wr.heap.size wr => p.cell hb1r y6
        clear hCj r2 ht hk1
        go_wp2_with fail
        refine wp_region_bw wr.heap.size (by kernel_rfl) (lexB_fast (by kernel_rfl)) ?_
        repeat (go_big_quiet_step (fail))
        refine wpQuiet_nil ?_
        intro wq hw'
        have hwq : Below wr.heap.size wr wq := by obtain ⟨p, rfl⟩ := hw'; exact p.h
        have z0 := (hwq.cell (p := ⟨b1, o1 + k * 7, none⟩) hb1r).trans x0
        have z1 := (hwq.cell (p := ⟨b1, o1 + k * 7 + 1, none⟩) hb1r).trans x1
        have hbq : Below W.heap.size W wq := bto hb hwq hb.size
        clear hw' K0 K1 K2 K3 K4 K5 K6 L0 L1 L2 L3 L4 L5 L6 x0 x1 x2 x3 x4 x5 x6 y0 y1 y2 y3 y4 y5 y6 r1 hq
        go_wp2
        · exact absurd (show cs.toList.isEmpty = true by assumption) (by rw [HNE.out]; decide)
        go_roundw
        case rel => exact ⟨k + 1, hlt, congrArg (Value.int _) HWN.out, by go_num, hbq⟩
        case measure => simp [intOf]; omega
    · have hlti : ¬ (k : Int) < (n : Int) := by omega
      have hkn : k = M.length := by omega
      have HW : Hid (wid M k = n) := Lib.hid (by rw [hkn, HG.out.wid_all]; omega)
      clear hkn
      go_wp2
      go_ret
      exact ⟨ret_bool (by rw [HW.out]; simp), hb⟩
end Go.Proofs.Ytekodpcedjpnjaa
