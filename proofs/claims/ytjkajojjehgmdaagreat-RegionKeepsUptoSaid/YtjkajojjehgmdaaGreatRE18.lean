/- The program: whole of any cells. No condition but that the strings are not too long for a cut. -/
import Derived.Test.YtjkajojjehgmdaaGreatRE02
import Derived.Test.YtjkajojjehgmdaaGreatRE15
import Derived.Test.YtjkajojjehgmdaaGreatRE17
set_option linter.unusedVariables false
set_option linter.unusedSimpArgs false
namespace Go.Proofs.YtjkajojjehgmdaaGreat
open Go.RowKit Go.Shelf Go.Maps
theorem isCl_size {s : ByteArray} (h : isCl s.data.toList = true) : s.size ≤ 64 := by
 have h1 := (isCl_clu h).len.2
 rw [Array.length_toList] at h1
 exact h1
theorem okB_any (c : GC) : okB c = (mayF c.y && (decide (c.w = 1 ∨ c.w = 2) && (isCl c.s.data.toList && decide (widthL c.s.data.toList = c.w)))) := by
 unfold okB
 cases h : isCl c.s.data.toList with
 | false => simp
 | true =>
  have := isCl_size h
  simp [this]
set_option maxRecDepth 100000 in
set_option maxHeartbeats 8000000 in
theorem whole_any {W : World} {a : Option Addr} {n cap : Nat} {M : List GC} (hM : CellsAt W a n M) (hn : n ≤ 1000) (hs : ∀ c ∈ M, c.s.size ≤ 1100000) :
    Calls Tryz.prog 63 #[.slice a n cap] W fun e w' => e = .returned (.bool (wholeB M)) ∧ Below W.heap.size W w' := by
 have l1 := hM.len
 have HSZ := Lib.hid hs
 clear hs
 go_enter Tryz.func63, Tryz.ntmps63
 go_wp2
 go_loopw [3] (fun i wr => ∃ k : Nat, k ≤ n ∧ i = .int .i64 k ∧ Hid (wholeB M = wholeB (M.drop k)) ∧ Below W.heap.size W wr) (fun i _ => n - (intOf i).toNat)
 case atStart => exact ⟨0, Nat.zero_le _, rfl, Lib.hid rfl, Below.refl _ _⟩
 case round =>
  obtain ⟨k, hk, rfl, hwk, hb⟩ := hrel
  by_cases hlt : k < n
  ·have hCi : M[k]? = some (nth GC.zero M k) := by rw [nth_eq _ _ _ (by omega), List.getElem?_eq_getElem (by omega)]
   have hdr : M.drop k = nth GC.zero M k :: M.drop (k + 1) := by rw [List.drop_eq_getElem_cons (by omega), nth_eq _ _ _ (by omega)]
   have hwk' := hwk.out
   rw [hdr] at hwk'
   have hszC := HSZ.out _ (List.mem_of_getElem? hCi)
   obtain ⟨b1, o1, rfl, hb1, r1⟩ := (hM.below hb).at_ k _ hCi
   obtain ⟨C, hC⟩ : ∃ C, C = nth GC.zero M k := ⟨_, rfl⟩
   rw [← hC] at hwk' r1 hszC
   obtain ⟨x0, x1, x2, x3, x4, x5, x6⟩ := vals_at r1
   rw [wholeB_cons, okB_any] at hwk'
   have hsl := S_list C.s
   have C1 := (fun W => is_any' C.s.data.toList (by rw [Array.length_toList]; exact hszC) W)
   have C2 := (fun W => cwidth_any C.s.data.toList (by rw [Array.length_toList]; exact hszC) W)
   have C3 := (fun W => colours_any C.y W)
   rw [hsl] at C1
   rw [hsl] at C2
   obtain ⟨zi, hzi⟩ : ∃ z, z = isCl C.s.data.toList := ⟨_, rfl⟩
   obtain ⟨zw, hzw⟩ : ∃ z, z = widthL C.s.data.toList := ⟨_, rfl⟩
   obtain ⟨zm, hzm⟩ : ∃ z, z = mayF C.y := ⟨_, rfl⟩
   rw [← hzi] at C1 hwk'
   rw [← hzw] at C2 hwk'
   rw [← hzm] at C3 hwk'
   clear hwk hdr hC hCi r1 hsl hzi hzw hzm hszC
   have hnx : k + 1 ≤ n := hlt
   obtain ⟨cs, cw, cy⟩ := C
   dsimp only at hwk' C1 C2 C3 x0 x1 x2 x3 x4 x5 x6
   have hno : (zm && (decide (cw = 1 ∨ cw = 2) && (zi && decide (zw = cw)))) = false → wholeB M = false := fun h => by rw [hwk', h]; rfl
   have hyes : (zm && (decide (cw = 1 ∨ cw = 2) && (zi && decide (zw = cw)))) = true → wholeB M = (if cw = 1 then wholeB (M.drop (k + 1)) else wholeTl cy (M.drop (k + 1))) := fun h => by rw [hwk', h]; rfl
   clear hwk'
   have HNO := Lib.hid hno
   have HYES := Lib.hid hyes
   clear hno hyes
   have g1 : GBlk (wr.alloc (.cells #[.string cs, .int .i64 cw, .bool cy.b, .bool cy.u, .bool cy.i, .int .i64 cy.f, .int .i64 cy.g] 88)) wr.heap.size [⟨cs, cw, cy⟩] := GBlk.made wr [⟨cs, cw, cy⟩]
   have hb1x : Below wr.heap.size wr (wr.alloc (.cells #[.string cs, .int .i64 cw, .bool cy.b, .bool cy.u, .bool cy.i, .int .i64 cy.f, .int .i64 cy.g] 88)) := (Below.refl _ _).alloc (Nat.le_refl _) _
   obtain ⟨X1, hX1⟩ : ∃ X, wr.alloc (.cells #[.string cs, .int .i64 cw, .bool cy.b, .bool cy.u, .bool cy.i, .int .i64 cy.f, .int .i64 cy.g] 88) = X := ⟨_, rfl⟩
   rw [hX1] at g1 hb1x
   have HX1 := Lib.hid hX1
   clear hX1
   have hsx : wr.heap.size < X1.heap.size := g1.lt
   have gr := g1.range1 (i := 0) (c := ⟨cs, cw, cy⟩) rfl
   rw [Nat.mul_zero] at gr
   obtain ⟨y0, y1, y2, y3, y4, y5, y6⟩ := vals_at gr
   dsimp only [Nat.zero_add] at y0 y1 y2 y3 y4 y5 y6
   have K0 := fun p : BW X1.heap.size X1 => p.cell (by exact hsx) y0
   have K1 := fun p : BW X1.heap.size X1 => p.cell (by exact hsx) y1
   have K2 := fun p : BW X1.heap.size X1 => p.cell (by exact hsx) y2
   have K3 := fun p : BW X1.heap.size X1 => p.cell (by exact hsx) y3
   have K4 := fun p : BW X1.heap.size X1 => p.cell (by exact hsx) y4
   have K5 := fun p : BW X1.heap.size X1 => p.cell (by exact hsx) y5
   have K6 := fun p : BW X1.heap.size X1 => p.cell (by exact hsx) y6
   have C1 := Lib.hid C1
   have C2 := Lib.hid C2
   have C3 := Lib.hid C3
   cases zm with
   | false =>
    have HF : Hid (wholeB M = false) := Lib.hid (HNO.out (by simp))
    go_wp2_with fail
    rw [HX1.out]
    refine wp_region_bw X1.heap.size (by kernel_rfl) (lexB_fast (by kernel_rfl)) ?_
    repeat (go_big_quiet_step ((apply Calls.bw_of (Nat.le_refl _); first
     | (go_at_call 93; exact C3.out _)
     | (go_at_call 94; exact C1.out _)
     | (go_at_call 95; exact C2.out _))))
    refine wpQuiet_nil ?_
    intro wq hw'
    have hwq : Below X1.heap.size X1 wq := by obtain ⟨p, rfl⟩ := hw'; exact p.h
    have z1 := (hwq.cell (p := ⟨wr.heap.size, 1, none⟩) hsx).trans y1
    have hrq : Below wr.heap.size wr wq := bto hb1x hwq hb1x.size
    have hbq : Below W.heap.size W wq := bto hb hrq hb.size
    clear hw' C1 C2 C3 K0 K1 K2 K3 K4 K5 K6
    go_wp2
    go_ret
    exact ⟨ret_bool HF.out.symm, hbq⟩
   | true =>
   by_cases hc1 : cw < 1
   ·have hd1 : decide (cw < 1) = true := by simpa using hc1
    have HF : Hid (wholeB M = false) := Lib.hid (HNO.out (by simp; omega))
    go_wp2_with fail
    rw [HX1.out]
    refine wp_region_bw X1.heap.size (by kernel_rfl) (lexB_fast (by kernel_rfl)) ?_
    repeat (go_big_quiet_step ((apply Calls.bw_of (Nat.le_refl _); first
     | (go_at_call 93; exact C3.out _)
     | (go_at_call 94; exact C1.out _)
     | (go_at_call 95; exact C2.out _))))
    refine wpQuiet_nil ?_
    intro wq hw'
    have hwq : Below X1.heap.size X1 wq := by obtain ⟨p, rfl⟩ := hw'; exact p.h
    have z1 := (hwq.cell (p := ⟨wr.heap.size, 1, none⟩) hsx).trans y1
    have hrq : Below wr.heap.size wr wq := bto hb1x hwq hb1x.size
    have hbq : Below W.heap.size W wq := bto hb hrq hb.size
    clear hw' C1 C2 C3 K0 K1 K2 K3 K4 K5 K6
    go_wp2
    go_ret
    exact ⟨ret_bool HF.out.symm, hbq⟩
   have hd1 : decide (cw < 1) = false := by simpa using hc1
   by_cases hc2 : 2 < cw
   ·have hd2 : decide (2 < cw) = true := by simpa using hc2
    have HF : Hid (wholeB M = false) := Lib.hid (HNO.out (by simp; omega))
    go_wp2_with fail
    rw [HX1.out]
    refine wp_region_bw X1.heap.size (by kernel_rfl) (lexB_fast (by kernel_rfl)) ?_
    repeat (go_big_quiet_step ((apply Calls.bw_of (Nat.le_refl _); first
     | (go_at_call 93; exact C3.out _)
     | (go_at_call 94; exact C1.out _)
     | (go_at_call 95; exact C2.out _))))
    refine wpQuiet_nil ?_
    intro wq hw'
    have hwq : Below X1.heap.size X1 wq := by obtain ⟨p, rfl⟩ := hw'; exact p.h
    have z1 := (hwq.cell (p := ⟨wr.heap.size, 1, none⟩) hsx).trans y1
    have hrq : Below wr.heap.size wr wq := bto hb1x hwq hb1x.size
    have hbq : Below W.heap.size W wq := bto hb hrq hb.size
    clear hw' C1 C2 C3 K0 K1 K2 K3 K4 K5 K6
    go_wp2
    go_ret
    exact ⟨ret_bool HF.out.symm, hbq⟩
   have hd2 : decide (2 < cw) = false := by simpa using hc2
   cases zi with
   | false =>
    have HF : Hid (wholeB M = false) := Lib.hid (HNO.out (by simp))
    go_wp2_with fail
    rw [HX1.out]
    refine wp_region_bw X1.heap.size (by kernel_rfl) (lexB_fast (by kernel_rfl)) ?_
    repeat (go_big_quiet_step ((apply Calls.bw_of (Nat.le_refl _); first
     | (go_at_call 93; exact C3.out _)
     | (go_at_call 94; exact C1.out _)
     | (go_at_call 95; exact C2.out _))))
    refine wpQuiet_nil ?_
    intro wq hw'
    have hwq : Below X1.heap.size X1 wq := by obtain ⟨p, rfl⟩ := hw'; exact p.h
    have z1 := (hwq.cell (p := ⟨wr.heap.size, 1, none⟩) hsx).trans y1
    have hrq : Below wr.heap.size wr wq := bto hb1x hwq hb1x.size
    have hbq : Below W.heap.size W wq := bto hb hrq hb.size
    clear hw' C1 C2 C3 K0 K1 K2 K3 K4 K5 K6
    go_wp2
    go_ret
    exact ⟨ret_bool HF.out.symm, hbq⟩
   | true =>
   by_cases hzc : zw = cw
   case neg =>
    have hd3 : (zw != cw) = true := by simpa using hzc
    have HF : Hid (wholeB M = false) := Lib.hid (HNO.out (by simp [hzc]))
    go_wp2_with fail
    rw [HX1.out]
    refine wp_region_bw X1.heap.size (by kernel_rfl) (lexB_fast (by kernel_rfl)) ?_
    repeat (go_big_quiet_step ((apply Calls.bw_of (Nat.le_refl _); first
     | (go_at_call 93; exact C3.out _)
     | (go_at_call 94; exact C1.out _)
     | (go_at_call 95; exact C2.out _))))
    refine wpQuiet_nil ?_
    intro wq hw'
    have hwq : Below X1.heap.size X1 wq := by obtain ⟨p, rfl⟩ := hw'; exact p.h
    have z1 := (hwq.cell (p := ⟨wr.heap.size, 1, none⟩) hsx).trans y1
    have hrq : Below wr.heap.size wr wq := bto hb1x hwq hb1x.size
    have hbq : Below W.heap.size W wq := bto hb hrq hb.size
    clear hw' C1 C2 C3 K0 K1 K2 K3 K4 K5 K6
    go_wp2
    go_ret
    exact ⟨ret_bool HF.out.symm, hbq⟩
   subst hzc
   have hHY : Hid (wholeB M = (if zw = 1 then wholeB (M.drop (k + 1)) else wholeTl cy (M.drop (k + 1)))) := Lib.hid (HYES.out (by simp; omega))
   clear HNO HYES
   rcases (by omega : zw = 1 ∨ zw = 2) with hW | hW
   ·subst hW
    clear hc1 hc2 hd1 hd2
    go_wp2_with fail
    rw [HX1.out]
    refine wp_region_bw X1.heap.size (by kernel_rfl) (lexB_fast (by kernel_rfl)) ?_
    repeat (go_big_quiet_step ((apply Calls.bw_of (Nat.le_refl _); first
     | (go_at_call 93; exact C3.out _)
     | (go_at_call 94; exact C1.out _)
     | (go_at_call 95; exact C2.out _))))
    refine wpQuiet_nil ?_
    intro wq hw'
    have hwq : Below X1.heap.size X1 wq := by obtain ⟨p, rfl⟩ := hw'; exact p.h
    have z1 := (hwq.cell (p := ⟨wr.heap.size, 1, none⟩) hsx).trans y1
    have hrq : Below wr.heap.size wr wq := bto hb1x hwq hb1x.size
    have hbq : Below W.heap.size W wq := bto hb hrq hb.size
    have HN2 : Hid (wholeB M = wholeB (M.drop (k + 1))) := Lib.hid (by have h := hHY.out; simpa using h)
    clear hw' C1 C2 C3 K0 K1 K2 K3 K4 K5 K6
    go_wp2
    go_roundw
    case rel => exact ⟨k + 1, hnx, by go_num, HN2, hbq⟩
    case measure => simp [intOf]; omega
   ·subst hW
    clear hc1 hc2 hd1 hd2
    have hn2 := hHY.out
    rw [if_neg (by decide)] at hn2
    by_cases hk1 : k + 1 < n
    case neg =>
     have HF : Hid (wholeB M = false) := Lib.hid (by rw [hn2, List.drop_eq_nil_of_le (by omega)]; rfl)
     have hki : decide ((n : Int) ≤ (k : Int) + 1) = true := by simp; omega
     clear hn2
     go_wp2_with fail
     rw [HX1.out]
     refine wp_region_bw X1.heap.size (by kernel_rfl) (lexB_fast (by kernel_rfl)) ?_
     repeat (go_big_quiet_step ((apply Calls.bw_of (Nat.le_refl _); first
      | (go_at_call 93; exact C3.out _)
      | (go_at_call 94; exact C1.out _)
      | (go_at_call 95; exact C2.out _))))
     refine wpQuiet_nil ?_
     intro wq hw'
     have hwq : Below X1.heap.size X1 wq := by obtain ⟨p, rfl⟩ := hw'; exact p.h
     have z1 := (hwq.cell (p := ⟨wr.heap.size, 1, none⟩) hsx).trans y1
     have hrq : Below wr.heap.size wr wq := bto hb1x hwq hb1x.size
     have hbq : Below W.heap.size W wq := bto hb hrq hb.size
     clear hw' C1 C2 C3 K0 K1 K2 K3 K4 K5 K6
     go_wp2_with fail
     refine wp_region_bw wq.heap.size (by kernel_rfl) (lexB_fast (by kernel_rfl)) ?_
     repeat (go_big_quiet_step (fail))
     refine wpQuiet_nil ?_
     intro wq2 hw2
     have hwq2 : Below wq.heap.size wq wq2 := by obtain ⟨p, rfl⟩ := hw2; exact p.h
     have hbq2 : Below W.heap.size W wq2 := bto hbq hwq2 hbq.size
     clear hw2
     go_wp2
     go_ret
     exact ⟨ret_bool HF.out.symm, hbq2⟩
    obtain ⟨D, hD⟩ : ∃ D, M[k + 1]? = some D := ⟨_, List.getElem?_eq_getElem (by omega)⟩
    have hDt : M.drop (k + 1) = D :: M.drop (k + 1 + 1) := by rw [List.drop_eq_getElem_cons (by omega)]; congr 1; have := (List.getElem?_eq_some_iff.1 hD).2; exact this
    rw [hDt] at hn2
    simp only [wholeTl] at hn2
    obtain ⟨b2, o2, e2, hb2, r2⟩ := (hM.below hb).at_ (k + 1) D hD
    simp only [Option.some.injEq, Addr.mk.injEq] at e2
    obtain ⟨rfl, rfl, _⟩ := e2
    have hq := neq_gc D (GC.tail cy)
    obtain ⟨ze, hze⟩ : ∃ z, z = eqC D (GC.tail cy) := ⟨_, rfl⟩
    rw [← hze] at hq hn2
    have HQ := Lib.hid hq
    have HN := Lib.hid hn2
    clear hDt hD hze hq hn2
    go_wp2_with fail
    rw [HX1.out]
    refine wp_region_bw X1.heap.size (by kernel_rfl) (lexB_fast (by kernel_rfl)) ?_
    repeat (go_big_quiet_step ((apply Calls.bw_of (Nat.le_refl _); first
     | (go_at_call 93; exact C3.out _)
     | (go_at_call 94; exact C1.out _)
     | (go_at_call 95; exact C2.out _))))
    refine wpQuiet_nil ?_
    intro wq hw'
    have hwq : Below X1.heap.size X1 wq := by obtain ⟨p, rfl⟩ := hw'; exact p.h
    have z1 := (hwq.cell (p := ⟨wr.heap.size, 1, none⟩) hsx).trans y1
    have hrq : Below wr.heap.size wr wq := bto hb1x hwq hb1x.size
    have hbq : Below W.heap.size W wq := bto hb hrq hb.size
    have z2 := (hwq.cell (p := ⟨wr.heap.size, 2, none⟩) hsx).trans y2
    have z3 := (hwq.cell (p := ⟨wr.heap.size, 3, none⟩) hsx).trans y3
    have z4 := (hwq.cell (p := ⟨wr.heap.size, 4, none⟩) hsx).trans y4
    have z5 := (hwq.cell (p := ⟨wr.heap.size, 5, none⟩) hsx).trans y5
    have z6 := (hwq.cell (p := ⟨wr.heap.size, 6, none⟩) hsx).trans y6
    have r3 : wq.rangeAt b1 (o1 + (k + 1) * 7) D.vals := fun j v hv => (hrq.cell (p := ⟨b1, _, none⟩) hb2).trans (r2 j v hv)
    obtain ⟨t0, t1, t2, t3, t4, t5, t6⟩ := vals_at r3
    clear hw' C1 C2 C3 K0 K1 K2 K3 K4 K5 K6 r2 r3
    have hki : decide ((n : Int) ≤ (k : Int) + 1) = false := by simp; omega
    have hkj : (k : Int) + 1 < (n : Int) := by omega
    have hkt : ((k : Int) + 1).toNat = k + 1 := by omega
    have hk0 : ¬ (k : Int) + 1 < 0 := by omega
    cases ze with
    | true =>
     have HWT : Hid (wholeB M = wholeB (M.drop (k + 1 + 1))) := Lib.hid (by rw [HN.out]; rfl)
     have hq := HQ.out
     dsimp only [GC.tail] at hq
     go_wp2_with fail
     refine wp_region_still_lit (by kernel_rfl) (lexB_fast (by kernel_rfl)) ?_
     repeat still_step
     refine wpStill_nil ?_
     go_wp2
     go_roundw
     case rel => exact ⟨k + 1 + 1, by omega, by go_num, HWT, hbq.drew⟩
     case measure => simp [intOf]; omega
    | false =>
     have HF : Hid (wholeB M = false) := Lib.hid (by rw [HN.out]; rfl)
     have hq := HQ.out
     dsimp only [GC.tail] at hq
     go_wp2_with fail
     refine wp_region_still_lit (by kernel_rfl) (lexB_fast (by kernel_rfl)) ?_
     repeat still_step
     refine wpStill_nil ?_
     go_wp2
     go_ret
     exact ⟨ret_bool HF.out.symm, hbq.drew⟩
  ·obtain rfl : k = n := by omega
   have HF : Hid (wholeB M = true) := Lib.hid (by rw [hwk.out, List.drop_eq_nil_of_le (by omega)]; rfl)
   go_wp2
   go_ret
   exact ⟨ret_bool HF.out.symm, hb⟩
end Go.Proofs.YtjkajojjehgmdaaGreat
