/- The law GridRuns: its function same, at the two grids. No condition. -/
import Derived.Test.YtekodpcedjpnjaaGRun2
namespace Go.Proofs.Ytekodpcedjpnjaa
set_option linter.unusedVariables false
set_option linter.unusedSimpArgs false
open Go.RowKit Go.Shelf Go.Maps
set_option maxRecDepth 100000 in
set_option maxHeartbeats 8000000 in
theorem rtext04_out {W : World} {a : Option Addr} {n cap w h : Nat} (r : Int) (hr : ¬ (0 ≤ r ∧ r < h)) :
    Calls Try.prog 68 #[.agg #[.int .i64 w, .int .i64 h, .slice a n cap], .int .i64 r] W fun e w' => e = .returned (.string (S [])) ∧ Below W.heap.size W w' := by
  have CC := Lib.hid (fun X : World => rcells_out (W := X) (a := a) (n := n) (cap := cap) (w := w) (h := h) r hr)
  have b1 : Below W.heap.size W (W.alloc (.cells #[.int .i64 w, .int .i64 h, .slice a n cap] 29)) := (Below.refl _ _).alloc (Nat.le_refl _) _
  clear hr
  go_enter Try.func68, Try.ntmps68
  go_wp2_with (go_at_call 70; refine (CC.out _).mono ?_; rintro e w2 ⟨rfl, hb2⟩)
  have b2 := bto b1 hb2 b1.size
  clear b1 hb2
  go_loopw [7, 6] (fun i s wr => i = .int .i64 0 ∧ s = .string ⟨#[]⟩ ∧ Below W.heap.size W wr) (fun _ _ _ => 0)
  case atStart => exact ⟨rfl, rfl, b2⟩
  case round =>
    obtain ⟨rfl, rfl, bE⟩ := hrel
    go_wp2
    go_loopw [8] (fun i wr => i = .int .i64 0 ∧ Below W.heap.size W wr) (fun _ _ => 0)
    case atStart => exact ⟨rfl, bE⟩
    case round =>
      obtain ⟨rfl, bF⟩ := hrel
      go_wp2
      go_ret
      exact ⟨rfl, bF⟩
/-- What both grids say of a place and its row. -/
theorem same_parts {F : Nat → Prop} {W : World} {p q w h : Nat} {R : List (List GC)} (g : GridAt W p q w h R.flatten) (ok : RowsOk w h R) (ro : ROk R) {ra : Option Addr} {rc : Nat} (rg : RG F W ra rc w h R) (row col : Int) :
    ∃ (C : GC) (b : Bool) (T : ByteArray) (M : List GC), M.length ≤ 500 ∧
      (∀ X, Below W.heap.size W X → Calls Try.prog 51 #[.pointer (some ⟨p, 0, none⟩), .int .i64 row, .int .i64 col] X fun e Y => e = .returned (.tuple #[.agg #[.string C.s, .int .i64 C.w, .bool C.y.b, .bool C.y.u, .bool C.y.i, .int .i64 C.y.f, .int .i64 C.y.g], .bool b]) ∧ Below X.heap.size X Y) ∧
      (∀ X, Below W.heap.size W X → Calls Try.prog 67 #[.agg #[.int .i64 w, .int .i64 h, .slice ra h rc], .int .i64 row, .int .i64 col] X fun e Y => e = .returned (.tuple #[.agg #[.string C.s, .int .i64 C.w, .bool C.y.b, .bool C.y.u, .bool C.y.i, .int .i64 C.y.f, .int .i64 C.y.g], .bool b]) ∧ Below X.heap.size X Y) ∧
      (∀ X, Below W.heap.size W X → Calls Try.prog 52 #[.pointer (some ⟨p, 0, none⟩), .int .i64 row] X fun e Y => e = .returned (.string T) ∧ Below X.heap.size X Y) ∧
      (∀ X, Below W.heap.size W X → Calls Try.prog 68 #[.agg #[.int .i64 w, .int .i64 h, .slice ra h rc], .int .i64 row] X fun e Y => e = .returned (.string T) ∧ Below X.heap.size X Y) ∧
      (∀ X, Below W.heap.size W X → Calls Try.prog 18 #[.pointer (some ⟨p, 0, none⟩), .int .i64 row] X fun e Y => (∃ a n c, e = .returned (.slice a n c) ∧ CellsAt Y a n M) ∧ Below X.heap.size X Y) ∧
      (∀ X, Below W.heap.size W X → Calls Try.prog 70 #[.agg #[.int .i64 w, .int .i64 h, .slice ra h rc], .int .i64 row] X fun e Y => (∃ a n c, e = .returned (.slice a n c) ∧ CellsAt Y a n M) ∧ Below X.heap.size X Y) := by
  have hp : ∀ X, Below W.heap.size W X → GridAt X p q w h R.flatten := fun X hX => g.only (Only.of_below (S := []) hX) (by simp) (by simp)
  have hr : ∀ X, Below W.heap.size W X → RG F X ra rc w h R := fun X hX => rg.below hX
  have hnil : ∀ X : World, CellsAt X none 0 [] := fun X => ⟨rfl, fun i c hi => by simp at hi⟩
  by_cases h1 : 0 ≤ row ∧ row < h
  · have hk : row.toNat < h := by omega
    have hM := ok.at hk
    have hw5 := g.w2
    have eT : lineL R.flatten w row.toNat = nth [] R row.toNat := ok.line hk
    have hrow : ∀ X, Below W.heap.size W X → Calls Try.prog 18 #[.pointer (some ⟨p, 0, none⟩), .int .i64 row] X fun e Y => (∃ a n c, e = .returned (.slice a n c) ∧ CellsAt Y a n (nth [] R row.toNat)) ∧ Below X.heap.size X Y := fun X hX => (row_ok (hp X hX) row h1.1 h1.2).mono (fun e Y ⟨e1, e2, e3⟩ => ⟨⟨_, _, _, e1, by rw [eT] at e2; exact CellsAt.of_blk e2 w hM⟩, e3⟩)
    have hcells : ∀ X, Below W.heap.size W X → Calls Try.prog 70 #[.agg #[.int .i64 w, .int .i64 h, .slice ra h rc], .int .i64 row] X fun e Y => (∃ a n c, e = .returned (.slice a n c) ∧ CellsAt Y a n (nth [] R row.toNat)) ∧ Below X.heap.size X Y := fun X hX => (rcells_ok (hr X hX) row h1.1 h1.2).mono (fun e Y ⟨a2, c2, e1, e2, _, e3⟩ => ⟨⟨_, _, _, e1, e2⟩, e3⟩)
    have htext : ∀ X, Below W.heap.size W X → Calls Try.prog 52 #[.pointer (some ⟨p, 0, none⟩), .int .i64 row] X fun e Y => e = .returned (.string (S (trimL (textL (nth [] R row.toNat))))) ∧ Below X.heap.size X Y := fun X hX => by
      have := gtext_ok (hp X hX) ro.flat row h1.1 h1.2
      rw [eT] at this
      exact this
    by_cases h2 : 0 ≤ col ∧ col < w
    · refine ⟨nth GC.zero (nth [] R row.toNat) col.toNat, true, S (trimL (textL (nth [] R row.toNat))), nth [] R row.toNat, by omega, fun X hX => ?_, fun X hX => rcell_ok (hr X hX) row col h1.1 h1.2 h2.1 h2.2, htext, fun X hX => rtext_ok (hr X hX) ro hw5 row h1.1 h1.2, hrow, hcells⟩
      have := cell_ok (hp X hX) row col h1.1 h1.2 h2.1 h2.2
      rw [flat_nth ok hk (by omega)] at this
      exact this
    · exact ⟨GC.zero, false, S (trimL (textL (nth [] R row.toNat))), nth [] R row.toNat, by omega, fun X hX => cell_out (hp X hX) row col (fun h => h2 h.2.2), fun X hX => rcell_out row col (by
        cases hi : inG w h row col with
        | false => rfl
        | true => exact absurd (inG_iff.1 hi).2.2 h2), htext, fun X hX => rtext_ok (hr X hX) ro hw5 row h1.1 h1.2, hrow, hcells⟩
  · exact ⟨GC.zero, false, S [], [], by simp, fun X hX => cell_out (hp X hX) row col (fun h => h1 ⟨h.1, h.2.1⟩), fun X hX => rcell_out row col (by
        cases hi : inG w h row col with
        | false => rfl
        | true => exact absurd ⟨(inG_iff.1 hi).1, (inG_iff.1 hi).2.1⟩ h1), fun X hX => gtext_out (hp X hX) row h1, fun X hX => rtext04_out row h1,
      fun X hX => (row_out (hp X hX) row h1).mono (fun e Y ⟨e1, e2⟩ => ⟨⟨_, _, _, e1, hnil Y⟩, by rw [← e2]; exact Below.refl _ _⟩),
      fun X hX => (rcells_out row h1).mono (fun e Y ⟨e1, e2⟩ => ⟨⟨_, _, _, e1, hnil Y⟩, e2⟩)⟩
/-- A cell in a block of its own. -/
theorem GBlk.own {X : World} {q : Nat} {C : GC} (g : GBlk X q [C]) : X.cell? ⟨q, 0, none⟩ = some (.string C.s) ∧ X.cell? ⟨q, 1, none⟩ = some (.int .i64 C.w) ∧ X.cell? ⟨q, 2, none⟩ = some (.bool C.y.b) ∧ X.cell? ⟨q, 3, none⟩ = some (.bool C.y.u) ∧ X.cell? ⟨q, 4, none⟩ = some (.bool C.y.i) ∧ X.cell? ⟨q, 5, none⟩ = some (.int .i64 C.y.f) ∧ X.cell? ⟨q, 6, none⟩ = some (.int .i64 C.y.g) := by
  have gr := g.range1 (i := 0) (c := C) rfl
  rw [Nat.mul_zero] at gr
  obtain ⟨y0, y1, y2, y3, y4, y5, y6⟩ := vals_at gr
  simp only [Nat.zero_add] at y0 y1 y2 y3 y4 y5 y6
  exact ⟨y0, y1, y2, y3, y4, y5, y6⟩
def SmS (W : World) (w h rc : Nat) (ra : Option Addr) (u v : Nat) (C : GC) (X : World) : Prop := GBox X W.heap.size w h ra h rc ∧ GBlk X u [C] ∧ GBlk X v [C]
theorem SmS.below {W X Y : World} {w h rc u v : Nat} {ra : Option Addr} {C : GC} (s : SmS W w h rc ra u v C X) (hb : Below X.heap.size X Y) : SmS W w h rc ra u v C Y :=
  ⟨s.1.below hb, s.2.1.only (Only.of_below (S := []) hb) (by simp), s.2.2.only (Only.of_below (S := []) hb) (by simp)⟩
theorem neqV_gc (C : GC) (W : World) : (binOp .neq 70 (.agg #[.string C.s, .int .i64 C.w, .bool C.y.b, .bool C.y.u, .bool C.y.i, .int .i64 C.y.f, .int .i64 C.y.g]) (.agg #[.string C.s, .int .i64 C.w, .bool C.y.b, .bool C.y.u, .bool C.y.i, .int .i64 C.y.f, .int .i64 C.y.g])).run Try.prog W = .ok (.bool false) W := by
  go_simp
set_option maxRecDepth 100000 in
set_option maxHeartbeats 8000000 in
theorem same04_any {F : Nat → Prop} {W : World} {p q w h : Nat} {R : List (List GC)} (g : GridAt W p q w h R.flatten) (ok : RowsOk w h R) (ro : ROk R) {ra : Option Addr} {rc : Nat} (rg : RG F W ra rc w h R) (row col : Int) :
    Calls Try.prog 16 #[.pointer (some ⟨p, 0, none⟩), .agg #[.int .i64 w, .int .i64 h, .slice ra h rc], .int .i64 row, .int .i64 col] W fun e w' => e = .returned (.bool true) ∧ Below W.heap.size W w' := by
  obtain ⟨C, b, T, M, hM, A1, A2, A3, A4, A5, A6⟩ := same_parts g ok ro rg row col
  have A1 := Lib.hid A1
  have A2 := Lib.hid A2
  have A3 := Lib.hid A3
  have A4 := Lib.hid A4
  have A5 := Lib.hid A5
  have A6 := Lib.hid A6
  have CS := Lib.hid (fun (X : World) (hX : Below W.heap.size W X) => gsize_any (g.only (Only.of_below (S := []) hX) (by simp) (by simp)))
  have G := Lib.hid g
  have RGH := Lib.hid rg
  have HO := Lib.hid ok
  have hw := g.w2
  have hh := g.h2
  have b0 : Below W.heap.size W (W.alloc (.cells #[.int .i64 w, .int .i64 h, .slice ra h rc] 29)) := (Below.refl _ _).alloc (Nat.le_refl _) _
  have t0 := GBox.new W w h h rc ra
  clear g rg ok ro
  go_enter Try.func16, Try.ntmps16
  go_upto_region 2 with (go_at_call 66; refine (CS.out _ b0).mono ?_; rintro e w1 ⟨rfl, hb1⟩)
  have b1 := bto b0 hb1 b0.size
  have t1 := t0.below hb1
  have A1' := Lib.hid (A1.out _ b1)
  clear t0 b0 A1
  go_upto_region 3 with (go_at_call 51; refine (A1'.out).mono ?_; rintro e w2 ⟨rfl, hb2⟩)
  have b2 := bto b1 hb2 b1.size
  have bn : Below w2.heap.size w2 (w2.alloc (.cells #[.string C.s, .int .i64 C.w, .bool C.y.b, .bool C.y.u, .bool C.y.i, .int .i64 C.y.f, .int .i64 C.y.g] 70)) := (Below.refl _ _).alloc (Nat.le_refl _) _
  have gn : GBlk (w2.alloc (.cells #[.string C.s, .int .i64 C.w, .bool C.y.b, .bool C.y.u, .bool C.y.i, .int .i64 C.y.f, .int .i64 C.y.g] 70)) w2.heap.size [C] := GBlk.made w2 [C]
  have t3 := (t1.below hb2).below bn
  have b3 := bto b2 bn b2.size
  obtain ⟨w3, hw3⟩ : ∃ w3, w2.alloc (.cells #[.string C.s, .int .i64 C.w, .bool C.y.b, .bool C.y.u, .bool C.y.i, .int .i64 C.y.f, .int .i64 C.y.g] 70) = w3 := ⟨_, rfl⟩
  rw [hw3] at gn t3 b3 ⊢
  obtain ⟨u, hu⟩ : ∃ u, u = w2.heap.size := ⟨_, rfl⟩
  rw [← hu] at gn ⊢
  have A2' := Lib.hid (A2.out _ b3)
  obtain ⟨c0, c1, c2, c3⟩ := t3.cells
  clear hw3 hu bn t1 b2 hb2 b1 hb1 A1' A2
  go_upto_region 4 with (go_at_call 67; refine (A2'.out).mono ?_; rintro e w4 ⟨rfl, hb4⟩)
  have b4 := bto b3 hb4 b3.size
  have bn : Below w4.heap.size w4 (w4.alloc (.cells #[.string C.s, .int .i64 C.w, .bool C.y.b, .bool C.y.u, .bool C.y.i, .int .i64 C.y.f, .int .i64 C.y.g] 70)) := (Below.refl _ _).alloc (Nat.le_refl _) _
  have gm : GBlk (w4.alloc (.cells #[.string C.s, .int .i64 C.w, .bool C.y.b, .bool C.y.u, .bool C.y.i, .int .i64 C.y.f, .int .i64 C.y.g] 70)) w4.heap.size [C] := GBlk.made w4 [C]
  have t5 := (t3.below hb4).below bn
  have gn5 := (gn.only (Only.of_below (S := []) hb4) (by simp)).only (Only.of_below (S := []) bn) (by simp)
  have b5 := bto b4 bn b4.size
  obtain ⟨w5, hw5⟩ : ∃ w5, w4.alloc (.cells #[.string C.s, .int .i64 C.w, .bool C.y.b, .bool C.y.u, .bool C.y.i, .int .i64 C.y.f, .int .i64 C.y.g] 70) = w5 := ⟨_, rfl⟩
  rw [hw5] at gm t5 gn5 b5 ⊢
  obtain ⟨v, hv⟩ : ∃ v, v = w4.heap.size := ⟨_, rfl⟩
  rw [← hv] at gm ⊢
  have s5 : SmS W w h rc ra u v C w5 := ⟨t5, gn5, gm⟩
  have dB : Below w5.heap.size w5 w5.drew := (Below.refl _ _).drew
  have sD := s5.below dB
  have bD := bto b5 dB b5.size
  have A3' := Lib.hid (A3.out _ bD)
  have NQ := neqV_gc C
  have hTT : (T.toList == T.toList) = true := by simp
  clear hw5 hv bn gm t5 gn5 b4 hb4 A2' c0 c1 c2 c3 gn t3 b3 A3
  go_wp2_with fail
  refine wp_region_mix2 [(true, 0), (true, 1), (true, 2), (true, 3), (true, 4), (true, 5), (true, 6), (true, 7), (true, 8), (true, 9), (true, 10), (true, 11), (true, 12), (true, 13), (true, 14), (true, 15), (true, 16), (true, 17), (true, 18), (true, 19), (true, 20), (true, 21), (true, 22), (true, 24), (true, 25), (false, 23), (false, 26), (true, 27), (true, 28), (true, 29), (true, 30), (true, 31), (true, 33), (true, 34), (false, 32), (false, 35), (false, 36), (true, 37), (true, 38)] (SmS W w h rc ra u v C) (by kernel_rfl) (by kernel_rfl) (by rfl) (by kernel_rfl) (by kernel_rfl) (fun _ _ d _ _ h => by cases d <;> exact h) sD ?_
  simp only [mixL, List.getElem?_cons_succ, List.getElem?_cons_zero]
  repeat (refine' wpMix2_read (v := _) rfl ?_ ?_; rotate_left 1; (intro w' hw'; obtain ⟨c0, c1, c2, c3⟩ := hw'.1.cells; obtain ⟨x0, x1, x2, x3, x4, x5, x6⟩ := hw'.2.1.own; obtain ⟨y0, y1, y2, y3, y4, y5, y6⟩ := hw'.2.2.own; go_simp; try with_reducible rfl); try simp only [Act.put, List.setIfInBounds_toArray, List.set_cons_zero, List.set_cons_succ])
  refine wpMix2_act (fun K hK => ?_)
  go_wp2_with (go_at_call 52; refine (A3'.out).mono ?_; rintro e w6 ⟨rfl, hb6⟩)
  have b6 := bto bD hb6 bD.size
  have s6 := sD.below hb6
  refine hK _ _ s6 ?_
  clear hK K
  refine wpMix2_act (fun K hK => ?_)
  have A4' := Lib.hid (A4.out _ b6)
  go_wp2_with (go_at_call 68; refine (A4'.out).mono ?_; rintro e w7 ⟨rfl, hb7⟩)
  have b7 := bto b6 hb7 b6.size
  have s7 := s6.below hb7
  refine hK _ _ s7 ?_
  clear hK K
  repeat (refine' wpMix2_read (v := _) rfl ?_ ?_; rotate_left 1; (intro w' hw'; obtain ⟨c0, c1, c2, c3⟩ := hw'.1.cells; obtain ⟨x0, x1, x2, x3, x4, x5, x6⟩ := hw'.2.1.own; obtain ⟨y0, y1, y2, y3, y4, y5, y6⟩ := hw'.2.2.own; go_simp; try with_reducible rfl); try simp only [Act.put, List.setIfInBounds_toArray, List.set_cons_zero, List.set_cons_succ])
  refine wpMix2_act (fun K hK => ?_)
  have A5' := Lib.hid (A5.out _ b7)
  go_wp2_with (go_at_call 18; refine (A5'.out).mono ?_; rintro e w8 ⟨⟨a8, n8, c8, rfl, hM8⟩, hb8⟩)
  have b8 := bto b7 hb8 b7.size
  have s8 := s7.below hb8
  refine hK _ _ s8 ?_
  clear hK K
  refine wpMix2_act (fun K hK => ?_)
  have A6' := Lib.hid (A6.out _ b8)
  go_wp2_with (go_at_call 70; refine (A6'.out).mono ?_; rintro e w9 ⟨⟨a9, n9, c9, rfl, hM9⟩, hb9⟩)
  have b9 := bto b8 hb9 b8.size
  have s9 := s8.below hb9
  have SC := sameCells_any (c1 := c8) (c2 := c9) (hM8.below hb9) hM9 (by have := hM8.len; omega) (by have := hM9.len; omega)
  rw [eqL_self] at SC
  have SCH := Lib.hid SC
  clear SC hM8 hM9
  refine hK _ _ s9 ?_
  clear hK K
  refine wpMix2_act (fun K hK => ?_)
  go_wp2_with (go_at_call 69; refine (SCH.out).mono ?_; rintro e w10 ⟨rfl, hb10⟩)
  have b10 := bto b9 hb10 b9.size
  have s10 := s9.below hb10
  refine hK _ _ s10 ?_
  clear hK K
  repeat (refine' wpMix2_read (v := _) rfl ?_ ?_; rotate_left 1; (intro w' hw'; obtain ⟨c0, c1, c2, c3⟩ := hw'.1.cells; obtain ⟨x0, x1, x2, x3, x4, x5, x6⟩ := hw'.2.1.own; obtain ⟨y0, y1, y2, y3, y4, y5, y6⟩ := hw'.2.2.own; go_simp; try with_reducible rfl); try simp only [Act.put, List.setIfInBounds_toArray, List.set_cons_zero, List.set_cons_succ])
  refine wpMix2_nil ?_
  have t10 := s10.1
  clear s5 sD s6 s7 s8 s9 s10 A3' A4' A5' A6' A3 A4 A5 A6 NQ SCH hTT
  go_wp2
  go_loopw [15] (fun i wr => ∃ k : Nat, k ≤ h ∧ i = .int .i64 k ∧ GBox wr W.heap.size w h ra h rc ∧ Below W.heap.size W wr) (fun i _ => h - (intOf i).toNat)
  case atStart => exact ⟨0, Nat.zero_le _, rfl, t10, b10⟩
  case round =>
    obtain ⟨k, hk, rfl, tr, bR⟩ := hrel
    clear t10 b10 hb10 b9 hb9 b8 hb8 b7 hb7 b6 hb6 bD dB b5
    obtain ⟨c0, c1, c2, c3⟩ := tr.cells
    by_cases hlt : k < h
    · have hlti : (k : Int) < (h : Int) := by omega
      have hMl := HO.out.at hlt
      have hRl := HO.out.n
      have hMi : R[k]? = some (nth [] R k) := by rw [nth_eq _ _ _ (by omega)]; exact List.getElem?_eq_getElem _
      obtain ⟨rb, ro, a2, c2', rfl, ⟨hrb, _⟩, hcr, hc2, hcl, _⟩ := RGH.out.rows.at_ k _ hMi
      have eT : lineL R.flatten w k = nth [] R k := HO.out.line hlt
      have dB : Below wr.heap.size wr wr.drew := (Below.refl _ _).drew
      have bD := bto bR dB bR.size
      have CR := row_ok (G.out.only (Only.of_below (S := []) bD) (by simp) (by simp)) (k : Int) (by omega) hlti
      simp only [Int.toNat_natCast] at CR
      rw [eT] at CR
      obtain ⟨N, hN⟩ : ∃ N, N = nth [] R k := ⟨_, rfl⟩
      rw [← hN] at CR hMl hcr hcl hc2
      rw [hMl] at hcr hcl hc2
      have CRH := Lib.hid CR
      have HML := Lib.hid hMl
      have hcD : wr.drew.cell? ⟨rb, ro + k, none⟩ = some (.slice a2 w c2') := (bD.cell (p := ⟨rb, ro + k, none⟩) hrb).trans hcr
      have HCL := Lib.hid hcl
      have HRB := Lib.hid hrb
      have HCR := Lib.hid hcr
      clear hN hMi CR hMl hcl hcr hrb hRl hc2 eT
      go_wp2_with fail
      refine wp_region_mix2 [(true, 0), (true, 1), (true, 3), (true, 4), (true, 5), (true, 6), (true, 7), (true, 8), (false, 2), (false, 9), (true, 10)] (fun X => GBox X W.heap.size w h (some ⟨rb, ro, none⟩) h rc ∧ X.cell? ⟨rb, ro + k, none⟩ = some (.slice a2 w c2')) (by kernel_rfl) (by kernel_rfl) (by rfl) (by kernel_rfl) (by kernel_rfl) (fun _ _ d _ _ h => by cases d <;> exact h) ⟨tr.below dB, hcD⟩ ?_
      simp only [mixL, List.getElem?_cons_succ, List.getElem?_cons_zero]
      clear c0 c1 c2 c3 hcD
      repeat (refine' wpMix2_read (v := _) rfl ?_ ?_; rotate_left 1; (intro w' hw'; obtain ⟨c0, c1, c2, c3⟩ := hw'.1.cells; have c4 := hw'.2; go_simp; try with_reducible rfl); try simp only [Act.put, List.setIfInBounds_toArray, List.set_cons_zero, List.set_cons_succ])
      refine wpMix2_act (fun K hK => ?_)
      go_wp2_with (go_at_call 18; refine (CRH.out).mono ?_; rintro e w8 ⟨rfl, g8, hb8⟩)
      have b8 := bto bD hb8 bD.size
      have t8 := (tr.below dB).below hb8
      have c8 : w8.cell? ⟨rb, ro + k, none⟩ = some (.slice a2 w c2') := (b8.cell (p := ⟨rb, ro + k, none⟩) HRB.out).trans HCR.out
      have SC := sameCells_any (c1 := w) (c2 := c2') (CellsAt.of_blk g8 w HML.out) (HCL.out.below b8) (by omega) (by omega)
      rw [eqL_self] at SC
      have SCH := Lib.hid SC
      clear SC g8
      refine hK _ _ ⟨t8, c8⟩ ?_
      clear hK K
      refine wpMix2_act (fun K hK => ?_)
      go_wp2_with (go_at_call 69; refine (SCH.out).mono ?_; rintro e w10 ⟨rfl, hb10⟩)
      have b10 := bto b8 hb10 b8.size
      have t10 := t8.below hb10
      have c10 : w10.cell? ⟨rb, ro + k, none⟩ = some (.slice a2 w c2') := (b10.cell (p := ⟨rb, ro + k, none⟩) HRB.out).trans HCR.out
      refine hK _ _ ⟨t10, c10⟩ ?_
      clear hK K
      repeat (refine' wpMix2_read (v := _) rfl ?_ ?_; rotate_left 1; (intro w' hw'; obtain ⟨c0, c1, c2, c3⟩ := hw'.1.cells; have c4 := hw'.2; go_simp; try with_reducible rfl); try simp only [Act.put, List.setIfInBounds_toArray, List.set_cons_zero, List.set_cons_succ])
      refine wpMix2_nil ?_
      clear c8 c10 t8 SCH CRH
      go_wp2
      go_roundw
      case rel => exact ⟨k + 1, hlt, by go_num, t10, b10⟩
      case measure => simp [intOf]; omega
    · have hlti : ¬ (k : Int) < (h : Int) := by omega
      go_wp2
      go_ret
      exact ⟨rfl, bR⟩
end Go.Proofs.Ytekodpcedjpnjaa
