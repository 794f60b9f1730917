/- A row that is whole: what Check says of it. No condition. -/
import Derived.Test.YtnakgjcmepimiaaFrame6
namespace Go.Proofs.Ytnakgjcmepimiaa
set_option linter.unusedVariables false
set_option linter.unusedSimpArgs false
open Go.RowKit Go.Shelf Go.Maps
def GC.tail (y : Sy) : GC := ⟨⟨#[]⟩, 0, y⟩
def okB (c : GC) : Bool := mayF c.y && (decide (c.w = 1 ∨ c.w = 2) && (isCl c.s.data.toList && decide (widthL c.s.data.toList = c.w ∧ c.s.size ≤ 64)))
def wholeB : List GC → Bool
  | [] => true
  | c :: t => okB c && (if c.w = 1 then wholeB t else match t with
    | [] => false
    | d :: t' => eqC d (GC.tail c.y) && wholeB t')
def wholeTl (y : Sy) : List GC → Bool
  | [] => false
  | d :: t' => eqC d (GC.tail y) && wholeB t'
theorem wholeB_cons (c : GC) (t : List GC) : wholeB (c :: t) = (okB c && (if c.w = 1 then wholeB t else wholeTl c.y t)) := by
  cases t with
  | nil => simp [wholeB, wholeTl]
  | cons d t' => rw [wholeB]; rfl
set_option maxRecDepth 100000 in
set_option maxHeartbeats 8000000 in
theorem whole_true {W : World} {a : Option Addr} {n cap : Nat} {M : List GC} (hM : CellsAt W a n M) (hn : n ≤ 1000) (hw : wholeB M = true) :
    Calls Try.prog 54 #[.slice a n cap] W fun e w' => e = .returned (.bool true) ∧ Below W.heap.size W w' := by
  have l1 := hM.len
  go_enter Try.func54, Try.ntmps54
  go_wp2
  go_loopw [3] (fun i wr => ∃ k : Nat, k ≤ n ∧ i = .int .i64 k ∧ Hid (wholeB (M.drop k) = true) ∧ Below W.heap.size W wr) (fun i _ => n - (intOf i).toNat)
  case atStart => exact ⟨0, Nat.zero_le _, rfl, Lib.hid hw, Below.refl _ _⟩
  case round =>
    obtain ⟨k, hk, rfl, hwk, hb⟩ := hrel
    by_cases hlt : k < n
    · have hCi : M[k]? = some (nth GC.zero M k) := by rw [nth_eq _ _ _ (by omega), List.getElem?_eq_getElem (by omega)]
      have hdr : M.drop k = nth GC.zero M k :: M.drop (k + 1) := by rw [List.drop_eq_getElem_cons (by omega), nth_eq _ _ _ (by omega)]
      have hwk' := hwk.out
      rw [hdr] at hwk'
      obtain ⟨b1, o1, rfl, hb1, r1⟩ := (hM.below hb).at_ k _ hCi
      obtain ⟨C, hC⟩ : ∃ C, C = nth GC.zero M k := ⟨_, rfl⟩
      rw [← hC] at hwk' r1
      obtain ⟨x0, x1, x2, x3, x4, x5, x6⟩ := vals_at r1
      rw [wholeB_cons] at hwk'
      simp only [okB, Bool.and_eq_true, decide_eq_true_eq] at hwk'
      obtain ⟨⟨hy, hw12, hcl, hwd, hsz⟩, hnext⟩ := hwk'
      have hsl := S_list C.s
      have C1 := (fun W => is_any' C.s.data.toList (by rw [Array.length_toList]; exact Nat.le_trans hsz (by omega)) W)
      have C2 := (fun W => cwidth_any C.s.data.toList (by rw [Array.length_toList]; exact Nat.le_trans hsz (by omega)) W)
      have C3 := (fun W => colours_any C.y W)
      rw [hsl, hcl] at C1
      rw [hsl, hwd] at C2
      rw [hy] at C3
      clear hwk hdr hC hCi r1 hy hcl hwd hsl
      have hnx : k + 1 ≤ n := hlt
      have HNX := Lib.hid hnext
      clear hnext
      obtain ⟨cs, cw, cy⟩ := C
      dsimp only at hw12 hsz C1 C2 C3 HNX x0 x1 x2 x3 x4 x5 x6
      have g1 : GBlk (wr.alloc (.cells #[.string cs, .int .i64 cw, .bool cy.b, .bool cy.u, .bool cy.i, .int .i64 cy.f, .int .i64 cy.g] 67)) wr.heap.size [⟨cs, cw, cy⟩] := GBlk.made wr [⟨cs, cw, cy⟩]
      have hb1x : Below wr.heap.size wr (wr.alloc (.cells #[.string cs, .int .i64 cw, .bool cy.b, .bool cy.u, .bool cy.i, .int .i64 cy.f, .int .i64 cy.g] 67)) := (Below.refl _ _).alloc (Nat.le_refl _) _
      obtain ⟨X1, hX1⟩ : ∃ X, wr.alloc (.cells #[.string cs, .int .i64 cw, .bool cy.b, .bool cy.u, .bool cy.i, .int .i64 cy.f, .int .i64 cy.g] 67) = X := ⟨_, rfl⟩
      rw [hX1] at g1 hb1x
      have HX1 := Lib.hid hX1
      clear hX1
      have hsx : wr.heap.size < X1.heap.size := g1.lt
      have gr := g1.range1 (i := 0) (c := ⟨cs, cw, cy⟩) rfl
      rw [Nat.mul_zero] at gr
      obtain ⟨y0, y1, y2, y3, y4, y5, y6⟩ := vals_at gr
      dsimp only [Nat.zero_add] at y0 y1 y2 y3 y4 y5 y6
      have K0 := fun p : BW X1.heap.size X1 => p.cell (by exact hsx) y0
      have K1 := fun p : BW X1.heap.size X1 => p.cell (by exact hsx) y1
      have K2 := fun p : BW X1.heap.size X1 => p.cell (by exact hsx) y2
      have K3 := fun p : BW X1.heap.size X1 => p.cell (by exact hsx) y3
      have K4 := fun p : BW X1.heap.size X1 => p.cell (by exact hsx) y4
      have K5 := fun p : BW X1.heap.size X1 => p.cell (by exact hsx) y5
      have K6 := fun p : BW X1.heap.size X1 => p.cell (by exact hsx) y6
      have C1 := Lib.hid C1
      have C2 := Lib.hid C2
      have C3 := Lib.hid C3
      rcases hw12 with hW | hW
      · subst hW
        go_wp2_with fail
        rw [HX1.out]
        refine wp_region_bw X1.heap.size (by kernel_rfl) (by kernel_rfl) ?_
        repeat (quiet_step ((apply Calls.bw_of (Nat.le_refl _); first
          | (go_at_call 47; exact C3.out _)
          | (go_at_call 87; exact C1.out _)
          | (go_at_call 50; exact C2.out _))))
        refine wpQuiet_nil ?_
        intro wq hw'
        have hwq : Below X1.heap.size X1 wq := by obtain ⟨p, rfl⟩ := hw'; exact p.h
        have z1 := (hwq.cell (p := ⟨wr.heap.size, 1, none⟩) hsx).trans y1
        have hbq : Below W.heap.size W wq := bto (bto hb hb1x hb.size) hwq (bto hb hb1x hb.size).size
        have HN2 : Hid (wholeB (M.drop (k + 1)) = true) := Lib.hid (by have h := HNX.out; simpa using h)
        clear hw' C1 C2 C3 K0 K1 K2 K3 K4 K5 K6
        go_wp2
        go_roundw
        case rel => exact ⟨k + 1, hnx, by go_num, HN2, hbq⟩
        case measure => simp [intOf]; omega
      · subst hW
        have hn2 := HNX.out
        rw [if_neg (by decide)] at hn2
        obtain ⟨D, t, hDt⟩ : ∃ D t, M.drop (k + 1) = D :: t := by
          cases hd : M.drop (k + 1) with
          | nil => rw [hd] at hn2; simp [wholeTl] at hn2
          | cons D t => exact ⟨D, t, rfl⟩
        rw [hDt] at hn2
        simp only [wholeTl, Bool.and_eq_true] at hn2
        obtain ⟨heq, hwt⟩ := hn2
        have hk1 : k + 1 < n := by
          have := congrArg List.length hDt
          rw [List.length_drop, List.length_cons] at this
          omega
        have hD1 : M[k + 1]? = some D := by
          have h0 : (M.drop (k + 1))[0]? = some D := by rw [hDt]; rfl
          rw [List.getElem?_drop] at h0
          simpa using h0
        have ht2 : M.drop (k + 1 + 1) = t := by
          rw [← List.drop_drop, hDt]; rfl
        rw [← ht2] at hwt
        have HWT := Lib.hid hwt
        obtain ⟨b2, o2, e2, hb2, r2⟩ := (hM.below hb).at_ (k + 1) D hD1
        simp only [Option.some.injEq, Addr.mk.injEq] at e2
        obtain ⟨rfl, rfl, _⟩ := e2
        have hq := neq_gc D (GC.tail cy)
        rw [heq] at hq
        have HQ := Lib.hid hq
        clear hDt hD1 ht2 hwt heq hq
        go_wp2_with fail
        rw [HX1.out]
        refine wp_region_bw X1.heap.size (by kernel_rfl) (by kernel_rfl) ?_
        repeat (quiet_step ((apply Calls.bw_of (Nat.le_refl _); first
          | (go_at_call 47; exact C3.out _)
          | (go_at_call 87; exact C1.out _)
          | (go_at_call 50; exact C2.out _))))
        refine wpQuiet_nil ?_
        intro wq hw'
        have hwq : Below X1.heap.size X1 wq := by obtain ⟨p, rfl⟩ := hw'; exact p.h
        have z1 := (hwq.cell (p := ⟨wr.heap.size, 1, none⟩) hsx).trans y1
        have z2 := (hwq.cell (p := ⟨wr.heap.size, 2, none⟩) hsx).trans y2
        have z3 := (hwq.cell (p := ⟨wr.heap.size, 3, none⟩) hsx).trans y3
        have z4 := (hwq.cell (p := ⟨wr.heap.size, 4, none⟩) hsx).trans y4
        have z5 := (hwq.cell (p := ⟨wr.heap.size, 5, none⟩) hsx).trans y5
        have z6 := (hwq.cell (p := ⟨wr.heap.size, 6, none⟩) hsx).trans y6
        have hrq : Below wr.heap.size wr wq := bto hb1x hwq hb1x.size
        have r3 : wq.rangeAt b1 (o1 + (k + 1) * 7) D.vals := fun j v hv => (hrq.cell (p := ⟨b1, _, none⟩) hb2).trans (r2 j v hv)
        obtain ⟨t0, t1, t2, t3, t4, t5, t6⟩ := vals_at r3
        have hbq : Below W.heap.size W wq := bto hb hrq hb.size
        clear hw' C1 C2 C3 K0 K1 K2 K3 K4 K5 K6 r2 r3
        have hq := HQ.out
        dsimp only [GC.tail] at hq
        have hki : decide ((n : Int) ≤ (k : Int) + 1) = false := by simp; omega
        have hkj : (k : Int) + 1 < (n : Int) := by omega
        have hkt : ((k : Int) + 1).toNat = k + 1 := by omega
        have hk0 : ¬ (k : Int) + 1 < 0 := by omega
        go_wp2_with fail
        refine wp_region_still_lit (by kernel_rfl) (by kernel_rfl) ?_
        repeat still_step
        refine wpStill_nil ?_
        go_wp2
        go_roundw
        case rel => exact ⟨k + 1 + 1, by omega, by go_num, HWT, hbq.drew⟩
        case measure => simp [intOf]; omega
    · obtain rfl : k = n := by omega
      go_wp2
      go_ret
      exact ⟨rfl, hb⟩
end Go.Proofs.Ytnakgjcmepimiaa
