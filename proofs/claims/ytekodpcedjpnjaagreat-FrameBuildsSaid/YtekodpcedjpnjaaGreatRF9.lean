/- The program's builder of frames: Cursor. No condition. The program's builder of frames: Fill. No condition. The program's builder of frames: Fill that lays blanks. No condition. The program's builder of frames: Text out of the frame, or with colours that may not be. No condition. -/
import Derived.Test.YtekodpcedjpnjaaGreatFrame9
import Derived.Test.YtekodpcedjpnjaaGreatRegT
namespace Go.Proofs.YtekodpcedjpnjaaGreat
set_option linter.unusedVariables false
set_option linter.unusedSimpArgs false
open Go.RowKit Go.Shelf Go.Maps
set_option maxRecDepth 100000 in
set_option maxHeartbeats 8000000 in
theorem bcursor_out {W : World} {b p q w h : Nat} {L : List GC} {r c : Nat} {s : Bool} (a : BAt W b p q w h L r c s) (rr cc : Int) (sn : Bool) (hin : ¬ (0 ≤ rr ∧ rr < h ∧ 0 ≤ cc ∧ cc < w)) :
    Calls Tryz.prog 22 #[.pointer (some ⟨b, 0, none⟩), .int .i64 rr, .int .i64 cc, .bool sn] W fun e w' => e = .returned (.int .i64 5) ∧ Below W.heap.size W w' := by
  obtain ⟨c0, _, _, _⟩ := a.cells
  have CM := Lib.hid (bmade_any a)
  have CS := Lib.hid (gsize_any a.g)
  clear a
  go_enter Tryz.func22, Tryz.ntmps22
  go_wp2_with (first
    | (go_at_call 85; refine (CM.out).mono ?_; rintro e w1 ⟨rfl, rfl⟩)
    | (go_at_call 86; refine (CS.out).mono ?_; rintro e w2 ⟨rfl, hb2⟩))
  all_goals first
    | omega
    | (go_ret; exact ⟨rfl, hb2⟩)
set_option maxRecDepth 100000 in
set_option maxHeartbeats 8000000 in
theorem bcursor_in {W : World} {b p q w h : Nat} {L : List GC} {r c : Nat} {s : Bool} (a : BAt W b p q w h L r c s) (rn cn : Nat) (sn : Bool) (hr : rn < h) (hc : cn < w) :
    Calls Tryz.prog 22 #[.pointer (some ⟨b, 0, none⟩), .int .i64 rn, .int .i64 cn, .bool sn] W fun e w' => e = .returned (.int .i64 0) ∧ BAt w' b p q w h L rn cn sn ∧ Only [b] W w' := by
  obtain ⟨c0, _, _, _⟩ := a.cells
  have CM := Lib.hid (bmade_any a)
  have CS := Lib.hid (gsize_any a.g)
  have AA := Lib.hid a
  clear a
  go_enter Tryz.func22, Tryz.ntmps22
  go_upto_region 6 with (first
    | (go_at_call 85; refine (CM.out).mono ?_; rintro e w1 ⟨rfl, rfl⟩)
    | (go_at_call 86; refine (CS.out).mono ?_; rintro e w2 ⟨rfl, hb2⟩))
  have a2 := AA.out.below hb2
  clear c0
  obtain ⟨c0, c1, c2, c3⟩ := a2.cells
  have fz : ∀ j, w2.frozen? ⟨b, j, none⟩ = false := fun j => by have := a2.blk; simp [World.frozen?, this]
  go_wp2
  go_ret
  have e1 : (((w2.setCell ⟨b, 1, none⟩ (.int .i64 rn)).setCell ⟨b, 2, none⟩ (.int .i64 cn)).setCell ⟨b, 3, none⟩ (.bool sn)).heap[b]? = some (.cells #[.pointer (some ⟨p, 0, none⟩), .int .i64 rn, .int .i64 cn, .bool sn] 144 (0, 0)) := by
    rw [set_at (set_at (set_at a2.blk _ _) _ _) _ _]; rfl
  have o1 : Only [b] w2 (((w2.setCell ⟨b, 1, none⟩ (.int .i64 rn)).setCell ⟨b, 2, none⟩ (.int .i64 cn)).setCell ⟨b, 3, none⟩ (.bool sn)) := (((Only.refl [b] w2).setCell (.inl (by simp)) _).setCell (.inl (by simp)) _).setCell (.inl (by simp)) _
  exact ⟨rfl, ⟨e1, a2.g.only o1 (by simpa using Ne.symm a2.bp) (by simpa using Ne.symm a2.bq), a2.bp, a2.bq⟩, (Only.of_below (S := [b]) hb2).trans o1⟩
end Go.Proofs.YtekodpcedjpnjaaGreat
namespace Go.Proofs.YtekodpcedjpnjaaGreat
set_option linter.unusedVariables false
set_option linter.unusedSimpArgs false
open Go.RowKit Go.Shelf Go.Maps
/-- Blanks laid from a column on, k rounds. -/
def fillG (w h : Nat) (r from_ : Int) (y : Sy) (L : List GC) : Nat → List GC
  | 0 => L
  | k + 1 => putG w h (fillG w h r from_ y L k) r (from_ + k) ⟨#[32]⟩ 1 y
/-- The world in which Fill goes on: the style stands in a box. -/
theorem fill_world {W : World} {b p q w h : Nat} {L : List GC} {r c : Nat} {s : Bool} (a : BAt W b p q w h L r c s) (y : Sy) (X : World) (hX : W.alloc (.cells #[.bool y.b, .bool y.u, .bool y.i, .int .i64 y.f, .int .i64 y.g] 36) = X) :
    BAt X b p q w h L r c s ∧ StyBox X W.heap.size y.b y.u y.i y.f y.g ∧ Below W.heap.size W X ∧ X.heap.size = W.heap.size + 1 := by
  subst hX
  have hb : Below W.heap.size W (W.alloc (.cells #[.bool y.b, .bool y.u, .bool y.i, .int .i64 y.f, .int .i64 y.g] 36)) := (Below.refl _ _).alloc (Nat.le_refl _) _
  exact ⟨a.below hb, styBox_new _ _ _ _ _ _, hb, by simp⟩
set_option maxRecDepth 100000 in
set_option maxHeartbeats 8000000 in
theorem bfill_out {W : World} {b p q w h : Nat} {L : List GC} {r c : Nat} {s : Bool} (a : BAt W b p q w h L r c s) (rr x z : Int) (y : Sy) (hin : ¬ (0 ≤ rr ∧ rr < h)) :
    Calls Tryz.prog 20 #[.pointer (some ⟨b, 0, none⟩), .int .i64 rr, .int .i64 x, .int .i64 z, .agg #[.bool y.b, .bool y.u, .bool y.i, .int .i64 y.f, .int .i64 y.g]] W fun e w' => e = .returned (.int .i64 5) ∧ Below W.heap.size W w' := by
  obtain ⟨X, hX⟩ : ∃ X, W.alloc (.cells #[.bool y.b, .bool y.u, .bool y.i, .int .i64 y.f, .int .i64 y.g] 36) = X := ⟨_, rfl⟩
  obtain ⟨aX, sX, bX, zX⟩ := fill_world a y X hX
  obtain ⟨c0, _, _, _⟩ := aX.cells
  have CM := Lib.hid (bmade_any aX)
  have CS := Lib.hid (gsize_any aX.g)
  have HX := Lib.hid hX
  clear a aX sX hX
  go_enter Tryz.func20, Tryz.ntmps20
  go_wp2_with (first
    | (go_at_call 85; rw [HX.out]; refine (CM.out).mono ?_; rintro e w1 ⟨rfl, rfl⟩)
    | (go_at_call 86; refine (CS.out).mono ?_; rintro e w2 ⟨rfl, hb2⟩))
  all_goals first
    | omega
    | (go_ret; exact ⟨rfl, bto bX hb2 bX.size⟩)
set_option maxRecDepth 100000 in
set_option maxHeartbeats 8000000 in
theorem bfill_bad {W : World} {b p q w h : Nat} {L : List GC} {r c : Nat} {s : Bool} (a : BAt W b p q w h L r c s) (rr x z : Int) (y : Sy) (hin : 0 ≤ rr ∧ rr < h) (hy : mayF y = false) :
    Calls Tryz.prog 20 #[.pointer (some ⟨b, 0, none⟩), .int .i64 rr, .int .i64 x, .int .i64 z, .agg #[.bool y.b, .bool y.u, .bool y.i, .int .i64 y.f, .int .i64 y.g]] W fun e w' => e = .returned (.int .i64 1) ∧ Below W.heap.size W w' := by
  obtain ⟨X, hX⟩ : ∃ X, W.alloc (.cells #[.bool y.b, .bool y.u, .bool y.i, .int .i64 y.f, .int .i64 y.g] 36) = X := ⟨_, rfl⟩
  obtain ⟨aX, sX, bX, zX⟩ := fill_world a y X hX
  obtain ⟨c0, _, _, _⟩ := aX.cells
  have CM := Lib.hid (bmade_any aX)
  have CS := Lib.hid (gsize_any aX.g)
  have CC := Lib.hid (fun X => colours_any y X)
  rw [hy] at CC
  have HX := Lib.hid hX
  obtain ⟨h0, h1⟩ := hin
  clear a aX hX hy
  go_enter Tryz.func20, Tryz.ntmps20
  go_wp2_with (first
    | (go_at_call 85; rw [HX.out]; refine (CM.out).mono ?_; rintro e w1 ⟨rfl, rfl⟩)
    | (go_at_call 86; refine (CS.out).mono ?_; rintro e w2 ⟨rfl, hb2⟩; obtain ⟨y0, y1, y2, y3, y4, y5⟩ := StyBox.cells (styBox_old sX hb2 (by omega)))
    | (go_at_call 87; refine (CC.out _).mono ?_; rintro e w3 ⟨rfl, hb3⟩))
  go_ret
  exact ⟨rfl, bto (bto bX hb2 bX.size) hb3 (bto bX hb2 bX.size).size⟩
end Go.Proofs.YtekodpcedjpnjaaGreat
namespace Go.Proofs.YtekodpcedjpnjaaGreat
set_option linter.unusedVariables false
set_option linter.unusedSimpArgs false
open Go.RowKit Go.Shelf Go.Maps
/-- What the reads of a round need. -/
def FpS (B b p : Nat) (y : Sy) (X : World) : Prop := X.cell? ⟨b, 0, none⟩ = some (.pointer (some ⟨p, 0, none⟩)) ∧ StyBox X B y.b y.u y.i y.f y.g
set_option maxRecDepth 100000 in
set_option maxHeartbeats 8000000 in
theorem bfill_in {W : World} {b p q w h : Nat} {L : List GC} {r c : Nat} {s : Bool} (a : BAt W b p q w h L r c s) (rr x z : Int) (y : Sy) (hin : 0 ≤ rr ∧ rr < h) (hy : mayF y = true) :
    Calls Tryz.prog 20 #[.pointer (some ⟨b, 0, none⟩), .int .i64 rr, .int .i64 x, .int .i64 z, .agg #[.bool y.b, .bool y.u, .bool y.i, .int .i64 y.f, .int .i64 y.g]] W fun e w' => e = .returned (.int .i64 0) ∧ BAt w' b p q w h (fillG w h rr (max 0 x) y (eraseG w h L rr x z) (min z w - max 0 x).toNat) r c s ∧ Only [q] W w' := by
  obtain ⟨X, hX⟩ : ∃ X, W.alloc (.cells #[.bool y.b, .bool y.u, .bool y.i, .int .i64 y.f, .int .i64 y.g] 36) = X := ⟨_, rfl⟩
  obtain ⟨aX, sX, bX, zX⟩ := fill_world a y X hX
  have hlt := a.lt
  have hbq := a.bq
  have hbp := a.bp
  have hw2 := a.g.w2
  obtain ⟨c0, _, _, _⟩ := aX.cells
  have CM := Lib.hid (bmade_any aX)
  have CS := Lib.hid (gsize_any aX.g)
  have CC := Lib.hid (fun X => colours_any y X)
  rw [hy] at CC
  have AX := Lib.hid aX
  have HX := Lib.hid hX
  have HE : Hid (eraseErr h rr = 0) := Lib.hid (by unfold eraseErr; rw [if_pos hin])
  obtain ⟨h0, h1⟩ := hin
  obtain ⟨L1, hL1⟩ : ∃ L1, L1 = eraseG w h L rr x z := ⟨_, rfl⟩
  have HL1 := Lib.hid hL1
  rw [← hL1]
  obtain ⟨f, hf⟩ : ∃ f : Int, f = max 0 x := ⟨_, rfl⟩
  rw [← hf]
  have hf0 : 0 ≤ f := by omega
  obtain ⟨n, hn⟩ : ∃ n : Nat, n = (min z w - f).toNat := ⟨_, rfl⟩
  rw [← hn]
  have HFF := Lib.hid (And.intro hf hn)
  clear a aX hX hy hL1 hf hn
  go_enter Tryz.func20, Tryz.ntmps20
  go_upto_region 8 with (first
    | (go_at_call 85; rw [HX.out]; refine (CM.out).mono ?_; rintro e w1 ⟨rfl, rfl⟩)
    | (go_at_call 86; refine (CS.out).mono ?_; rintro e w2 ⟨rfl, hb2⟩; obtain ⟨y0, y1, y2, y3, y4, y5⟩ := StyBox.cells (styBox_old sX hb2 (by omega)))
    | (go_at_call 87; refine (CC.out _).mono ?_; rintro e w3 ⟨rfl, hb3⟩))
  clear y0 y1 y2 y3 y4 y5 c0
  have b3 := bnext hb2 hb3
  have a3 := AX.out.below b3
  have s3 := styBox_old sX b3 (by omega)
  have hs3 := b3.size
  have CE := Lib.hid (erase_any a3.g rr x z)
  obtain ⟨c0, c1, c2, c3⟩ := a3.cells
  clear c1 c2 c3
  go_wp2_with fail
  refine CE.out.mono ?_
  rintro e w4 ⟨rfl, g4, o4⟩
  have I0 : BAt w4 b p q w h L1 r c s ∧ StyBox w4 W.heap.size y.b y.u y.i y.f y.g ∧ Only [q] W w4 := by
    have hq : q ∉ ([] : List Nat) := by simp
    refine ⟨⟨o4.heap a3.blk (by simpa using hbq), by rw [HL1.out]; exact g4, hbp, hbq⟩, o4.heap s3 (by simp; omega), ?_⟩
    exact (Only.of_below (S := [q]) (bto bX b3 bX.size)).trans o4
  clear g4 o4 a3 s3 b3 hb2 hb3 CE c0
  go_wp2
  go_loopw [13] (fun i wr => ∃ k : Nat, k ≤ n ∧ i = .int .i64 (f + k) ∧ BAt wr b p q w h (fillG w h rr f y L1 k) r c s ∧ StyBox wr W.heap.size y.b y.u y.i y.f y.g ∧ Only [q] W wr) (fun i _ => n - (intOf i - f).toNat)
  case atStart => exact ⟨0, Nat.zero_le _, by rw [HFF.out.1]; simp [Int.max_comm], I0⟩
  case round =>
    obtain ⟨k, hk, rfl, a5, s5, o5⟩ := hrel
    by_cases hkn : k < n
    · have hc2 : f + k < z ∧ f + k < w := by have := HFF.out.2; omega
      have hkz := hc2.1
      have hkw := hc2.2
      clear hc2 hk
      have hmin : f + (k : Int) < min z (w : Int) := by omega
      have hmin2 : f + (k : Int) < min (w : Int) z := by omega
      have A5 := Lib.hid a5
      clear a5
      go_upto_region 12 with (fail)
      clear hmin hmin2 hkz
      have dB : Below wr.heap.size wr wr.drew := (Below.refl _ _).drew
      have ad := A5.out.below dB
      have sd := styBox_old s5 dB (Array.getElem?_eq_some_iff.1 s5).1
      have CP := Lib.hid (put_any ad.g rr (f + k) ⟨#[32]⟩ 1 y)
      have hSd : FpS W.heap.size b p y wr.drew := ⟨ad.cells.1, sd⟩
      go_wp2
      refine wp_region_tree (fun _ y1 y2 => FpS W.heap.size b p y y1 → FpS W.heap.size b p y y2) (by kernel_rfl) ?_
      simp only [List.size_toArray, List.length_cons, List.length_nil, Nat.reduceAdd]
      refine' wpAnyY_read 0 (FpS W.heap.size b p y) [] (v := _) (by kernel_rfl) (fun _ _ d _ _ h => by cases d <;> exact h) (by kernel_rfl) rfl (fun _ _ _ _ h hs => h hs) (fun _ h => h) hSd rfl ?_ ?_
      rotate_left 1
      · intro w' hw'; obtain ⟨k1, k2⟩ := hw'; obtain ⟨y0, y1, y2, y3, y4, y5⟩ := StyBox.cells k2; go_simp; try with_reducible rfl
      try simp only [Act.put, List.setIfInBounds_toArray, List.set_cons_zero, List.set_cons_succ]
      refine' wpAnyY_read 1 (FpS W.heap.size b p y) [] (v := _) (by kernel_rfl) (fun _ _ d _ _ h => by cases d <;> exact h) (by kernel_rfl) rfl (fun _ _ _ _ h hs => h hs) (fun _ h => h) hSd rfl ?_ ?_
      rotate_left 1
      · intro w' hw'; obtain ⟨k1, k2⟩ := hw'; obtain ⟨y0, y1, y2, y3, y4, y5⟩ := StyBox.cells k2; go_simp; try with_reducible rfl
      try simp only [Act.put, List.setIfInBounds_toArray, List.set_cons_zero, List.set_cons_succ]
      refine' wpAnyY_read 2 (FpS W.heap.size b p y) [] (v := _) (by kernel_rfl) (fun _ _ d _ _ h => by cases d <;> exact h) (by kernel_rfl) rfl (fun _ _ _ _ h hs => h hs) (fun _ h => h) hSd rfl ?_ ?_
      rotate_left 1
      · intro w' hw'; obtain ⟨k1, k2⟩ := hw'; obtain ⟨y0, y1, y2, y3, y4, y5⟩ := StyBox.cells k2; go_simp; try with_reducible rfl
      try simp only [Act.put, List.setIfInBounds_toArray, List.set_cons_zero, List.set_cons_succ]
      refine' wpAnyY_read 3 (FpS W.heap.size b p y) [] (v := _) (by kernel_rfl) (fun _ _ d _ _ h => by cases d <;> exact h) (by kernel_rfl) rfl (fun _ _ _ _ h hs => h hs) (fun _ h => h) hSd rfl ?_ ?_
      rotate_left 1
      · intro w' hw'; obtain ⟨k1, k2⟩ := hw'; obtain ⟨y0, y1, y2, y3, y4, y5⟩ := StyBox.cells k2; go_simp; try with_reducible rfl
      try simp only [Act.put, List.setIfInBounds_toArray, List.set_cons_zero, List.set_cons_succ]
      refine' wpAnyY_read 4 (FpS W.heap.size b p y) [] (v := _) (by kernel_rfl) (fun _ _ d _ _ h => by cases d <;> exact h) (by kernel_rfl) rfl (fun _ _ _ _ h hs => h hs) (fun _ h => h) hSd rfl ?_ ?_
      rotate_left 1
      · intro w' hw'; obtain ⟨k1, k2⟩ := hw'; obtain ⟨y0, y1, y2, y3, y4, y5⟩ := StyBox.cells k2; go_simp; try with_reducible rfl
      try simp only [Act.put, List.setIfInBounds_toArray, List.set_cons_zero, List.set_cons_succ]
      refine' wpAnyY_read 5 (FpS W.heap.size b p y) [] (v := _) (by kernel_rfl) (fun _ _ d _ _ h => by cases d <;> exact h) (by kernel_rfl) rfl (fun _ _ _ _ h hs => h hs) (fun _ h => h) hSd rfl ?_ ?_
      rotate_left 1
      · intro w' hw'; obtain ⟨k1, k2⟩ := hw'; obtain ⟨y0, y1, y2, y3, y4, y5⟩ := StyBox.cells k2; go_simp; try with_reducible rfl
      try simp only [Act.put, List.setIfInBounds_toArray, List.set_cons_zero, List.set_cons_succ]
      refine' wpAnyY_read 6 (FpS W.heap.size b p y) [] (v := _) (by kernel_rfl) (fun _ _ d _ _ h => by cases d <;> exact h) (by kernel_rfl) rfl (fun _ _ _ _ h hs => h hs) (fun _ h => h) hSd rfl ?_ ?_
      rotate_left 1
      · intro w' hw'; obtain ⟨k1, k2⟩ := hw'; obtain ⟨y0, y1, y2, y3, y4, y5⟩ := StyBox.cells k2; go_simp; try with_reducible rfl
      try simp only [Act.put, List.setIfInBounds_toArray, List.set_cons_zero, List.set_cons_succ]
      refine' wpAnyY_read 7 (FpS W.heap.size b p y) [] (v := _) (by kernel_rfl) (fun _ _ d _ _ h => by cases d <;> exact h) (by kernel_rfl) rfl (fun _ _ _ _ h hs => h hs) (fun _ h => h) hSd rfl ?_ ?_
      rotate_left 1
      · intro w' hw'; obtain ⟨k1, k2⟩ := hw'; obtain ⟨y0, y1, y2, y3, y4, y5⟩ := StyBox.cells k2; go_simp; try with_reducible rfl
      try simp only [Act.put, List.setIfInBounds_toArray, List.set_cons_zero, List.set_cons_succ]
      refine wpAnyY_one (i := 8) (by kernel_rfl) rfl (fun K hK => ?_)
      simp only [List.getElem_toArray, List.getElem_cons_succ, List.getElem_cons_zero]
      go_wp2_with fail
      refine CP.out.mono ?_
      rintro e w6 ⟨rfl, g6, o6⟩
      have a6 : BAt w6 b p q w h (fillG w h rr f y L1 (k + 1)) r c s := ⟨o6.heap ad.blk (by simpa using hbq), g6, hbp, hbq⟩
      have s6 : StyBox w6 W.heap.size y.b y.u y.i y.f y.g := o6.heap sd (by simp; omega)
      have oo : Only [q] W w6 := (o5.trans (Only.of_below (S := [q]) dB)).trans o6
      have c6 := a6.cells.1
      go_wp2
      refine hK _ _ (fun _ => ⟨c6, s6⟩) (wpAnyY_end (by kernel_rfl) ?_)
      clear hK K hSd c6 o6 sd ad
      go_wp2
      go_roundw
      case rel => exact ⟨k + 1, hkn, by go_num, a6, s6, oo⟩
      case measure => simp [intOf]; omega
    · obtain rfl : k = n := by omega
      have hc : ¬ f + k < min z w := by have := HFF.out; omega
      have hc2 : ¬ f + k < min (w : Int) z := by have := HFF.out; omega
      go_wp2
      go_ret
      exact ⟨rfl, a5, o5⟩
end Go.Proofs.YtekodpcedjpnjaaGreat
namespace Go.Proofs.YtekodpcedjpnjaaGreat
set_option linter.unusedVariables false
set_option linter.unusedSimpArgs false
open Go.RowKit Go.Shelf Go.Maps
/-- The world in which Text begins. -/
structure TxW (W : World) (b : Nat) (rr cc : Int) (y : Sy) (X : World) : Prop where
  k5 : Boxed X W.heap.size 23 (.pointer (some ⟨b, 0, none⟩))
  k6 : Boxed X (W.heap.size + 1) 3 (.int .i64 rr)
  k7 : Boxed X (W.heap.size + 1 + 1) 3 (.int .i64 cc)
  k9 : StyBox X (W.heap.size + 1 + 1 + 1) y.b y.u y.i y.f y.g
  o : Below W.heap.size W X
theorem TxW.below {W X Y : World} {b : Nat} {rr cc : Int} {y : Sy} (h : TxW W b rr cc y X) (hb : Below X.heap.size X Y) : TxW W b rr cc y Y :=
  ⟨boxed_nx h.k5 hb, boxed_nx h.k6 hb, boxed_nx h.k7 hb, styBox_old h.k9 hb (Array.getElem?_eq_some_iff.1 h.k9).1, bto h.o hb h.o.size⟩
theorem txw (w : World) (b : Nat) (rr cc : Int) (y : Sy) (X : World)
    (hX : (((w.alloc (.cells #[.pointer (some ⟨b, 0, none⟩)] 23)).alloc (.cells #[.int .i64 rr] 3)).alloc (.cells #[.int .i64 cc] 3)).alloc (.cells #[.bool y.b, .bool y.u, .bool y.i, .int .i64 y.f, .int .i64 y.g] 36) = X) : TxW w b rr cc y X := by
  obtain ⟨X1, h1⟩ : ∃ X1, w.alloc (.cells #[.pointer (some ⟨b, 0, none⟩)] 23) = X1 := ⟨_, rfl⟩
  obtain ⟨X2, h2⟩ : ∃ X2, X1.alloc (.cells #[.int .i64 rr] 3) = X2 := ⟨_, rfl⟩
  obtain ⟨X3, h3⟩ : ∃ X3, X2.alloc (.cells #[.int .i64 cc] 3) = X3 := ⟨_, rfl⟩
  rw [h1, h2, h3] at hX
  have s1 : X1.heap.size = w.heap.size + 1 := by rw [← h1]; simp
  have s2 : X2.heap.size = w.heap.size + 1 + 1 := by rw [← h2]; simp [s1]
  have s3 : X3.heap.size = w.heap.size + 1 + 1 + 1 := by rw [← h3]; simp [s2]
  have b1 := Boxed.new w 23 (.pointer (some ⟨b, 0, none⟩))
  have b2 := Boxed.new X1 3 (.int .i64 rr)
  have b3 := Boxed.new X2 3 (.int .i64 cc)
  have b4 : StyBox X X3.heap.size y.b y.u y.i y.f y.g := by rw [← hX]; exact World.alloc_heap_new X3 _
  rw [h1] at b1
  rw [h2, s1] at b2
  rw [h3, s2] at b3
  rw [s3] at b4
  have o0 : Below w.heap.size w X := by rw [← hX, ← h3, ← h2, ← h1]; exact (((Below.refl _ _).alloc (Nat.le_refl _) _).alloc (by simp) _).alloc (by simp; omega) _ |>.alloc (by simp; omega) _
  exact ⟨hX ▸ (h3 ▸ (h2 ▸ b1.alloc _ : Boxed X2 _ _ _).alloc _ : Boxed X3 _ _ _).alloc _, hX ▸ (h3 ▸ b2.alloc _ : Boxed X3 _ _ _).alloc _, hX ▸ b3.alloc _, b4, o0⟩
set_option maxRecDepth 100000 in
set_option maxHeartbeats 8000000 in
theorem btext_out {W : World} {b p q w h : Nat} {L : List GC} {r c : Nat} {s : Bool} (a : BAt W b p q w h L r c s) (rr cc : Int) (l : ByteArray) (y : Sy) (hin : ¬ (0 ≤ rr ∧ rr < h ∧ 0 ≤ cc ∧ cc ≤ w)) :
    Calls Tryz.prog 18 #[.pointer (some ⟨b, 0, none⟩), .int .i64 rr, .int .i64 cc, .string l, .agg #[.bool y.b, .bool y.u, .bool y.i, .int .i64 y.f, .int .i64 y.g]] W fun e w' => e = .returned (.tuple #[.int .i64 0, .int .i64 5]) ∧ Below W.heap.size W w' := by
  have TX := Lib.hid (fun X hX => txw W b rr cc y X hX)
  have CM := Lib.hid (fun (X : World) (o : Below W.heap.size W X) => bmade_any (a.below o))
  have CS := Lib.hid (fun (X : World) (o : Below W.heap.size W X) => gsize_any (a.below o).g)
  have AB := Lib.hid (fun (X : World) (o : Below W.heap.size W X) => (a.below o).cells.1)
  clear a
  go_enter Tryz.func18, Tryz.ntmps18
  go_wp2_with (first
    | (go_at_call 85; refine (CM.out _ (TX.out _ rfl).o).mono ?_; rintro e X0 ⟨rfl, hX0⟩; have t0 := TX.out _ hX0; have a0 := AB.out _ t0.o; have d5 := t0.k5.cell; have d6 := t0.k6.cell; have d7 := t0.k7.cell; clear hX0)
    | (go_at_call 86; refine (CS.out _ t0.o).mono ?_; rintro e X1 ⟨rfl, hb1⟩; have t2 := (t0.below hb1).below ((Below.refl _ _).alloc (Nat.le_refl _) (.cells #[.int .i64 w] 3)); have z2 := Boxed.new X1 3 (.int .i64 w); have y2 := z2.cell; have g6 := t2.k6.cell; have g7 := t2.k7.cell))
  all_goals first
    | omega
    | (go_ret2; exact ⟨rfl, t2.o⟩)
set_option maxRecDepth 100000 in
set_option maxHeartbeats 8000000 in
theorem btext_bad {W : World} {b p q w h : Nat} {L : List GC} {r c : Nat} {s : Bool} (a : BAt W b p q w h L r c s) (rr cc : Int) (l : ByteArray) (y : Sy) (hin : 0 ≤ rr ∧ rr < h ∧ 0 ≤ cc ∧ cc ≤ w) (hy : mayF y = false) :
    Calls Tryz.prog 18 #[.pointer (some ⟨b, 0, none⟩), .int .i64 rr, .int .i64 cc, .string l, .agg #[.bool y.b, .bool y.u, .bool y.i, .int .i64 y.f, .int .i64 y.g]] W fun e w' => e = .returned (.tuple #[.int .i64 0, .int .i64 1]) ∧ Below W.heap.size W w' := by
  have TX := Lib.hid (fun X hX => txw W b rr cc y X hX)
  have CM := Lib.hid (fun (X : World) (o : Below W.heap.size W X) => bmade_any (a.below o))
  have CS := Lib.hid (fun (X : World) (o : Below W.heap.size W X) => gsize_any (a.below o).g)
  have AB := Lib.hid (fun (X : World) (o : Below W.heap.size W X) => (a.below o).cells.1)
  have CC := Lib.hid (fun X => colours_any y X)
  rw [hy] at CC
  obtain ⟨h0, h1, h2, h3⟩ := hin
  clear a hy
  go_enter Tryz.func18, Tryz.ntmps18
  go_wp2_with (first
    | (go_at_call 85; refine (CM.out _ (TX.out _ rfl).o).mono ?_; rintro e X0 ⟨rfl, hX0⟩; have t0 := TX.out _ hX0; have a0 := AB.out _ t0.o; have d5 := t0.k5.cell; have d6 := t0.k6.cell; have d7 := t0.k7.cell; clear hX0)
    | (go_at_call 86; refine (CS.out _ t0.o).mono ?_; rintro e X1 ⟨rfl, hb1⟩; have t2 := (t0.below hb1).below ((Below.refl _ _).alloc (Nat.le_refl _) (.cells #[.int .i64 w] 3)); have z2 := Boxed.new X1 3 (.int .i64 w); have yc := z2.cell; have g6 := t2.k6.cell; have g7 := t2.k7.cell; obtain ⟨y0, y1, y2, y3, y4, y5⟩ := StyBox.cells t2.k9)
    | (go_at_call 87; refine (CC.out _).mono ?_; rintro e X3 ⟨rfl, hb3⟩))
  go_ret2
  exact ⟨rfl, bto t2.o hb3 t2.o.size⟩
end Go.Proofs.YtekodpcedjpnjaaGreat
