/- The reference's terminal: Resize. No condition but that its counter is not at its end. -/
import Derived.Test.YtekodpcedjpnjaaGreatRT14
import Derived.Test.YtekodpcedjpnjaaGreatRGs2
import Derived.Test.YtekodpcedjpnjaaGreatGFk
namespace Go.Proofs.YtekodpcedjpnjaaGreat
set_option linter.unusedVariables false
set_option linter.unusedSimpArgs false
open Go.RowKit Go.Shelf Go.Maps
set_option maxRecDepth 100000 in
set_option maxHeartbeats 8000000 in
theorem rtresize_bad {F : Nat → Prop} {W : World} {a : Option Addr} {cap : Nat} {t : TS} {bv : Value} (h1 : OneV bv) (g : RG F W a cap t.W t.H t.R) (w h : Int) (hd : ¬ (1 ≤ w ∧ w ≤ 500 ∧ 1 ≤ h ∧ h ≤ 500)) :
    Calls Tryz.prog 52 #[.agg (tCells a cap t bv), .int .i64 w, .int .i64 h] W (TPost2 F (t, 50) bv W) := by
  have CR := Lib.hid (fun (X : World) (hX : Below W.heap.size W X) => rresize_bad (F := F) (g.below hX) w h (t.row : Int) hd)
  have G := Lib.hid g
  clear g hd
  go_enter Tryz.func52, Tryz.ntmps52
  go_upto_region 0 with (fail)
  go_cut [3, 6] (fun u v wx => u = .pointer (some ⟨W.heap.size, 0, none⟩) ∧ v = .pointer (some ⟨W.heap.size + 1, 0, none⟩) ∧ TIn W (tCells a cap t bv) wx)
  case first =>
    go_wp2
    go_meet
    exact ⟨rfl, rfl, tin W _⟩
  case rest =>
    obtain ⟨rfl, rfl, p1, p2, bX, sX⟩ := hcut
    obtain ⟨c0, c1, c2, c3, c4, c5, c6, c7, c8, c9, c10, c11, c12, c13, c14, c15, c16, c17, c18, fz⟩ := p1.tc
    have CR1 := Lib.hid (CR.out _ bX)
    clear c4 c5 c6 c7 c8 c9 c10 c11 c12 c13 c14 c15 c16 c17 c18 fz
    go_upto_region 2 with (go_at_call 123; refine (CR1.out).mono ?_; rintro e w2 ⟨a2, cap2, rfl, g2, hb2⟩)
    have b2 := bto bX hb2 bX.size
    have bG : Below w2.heap.size w2 (w2.alloc (.cells #[.int .i64 t.W, .int .i64 t.H, .slice a2 t.H cap2] 29)) := (Below.refl _ _).alloc (Nat.le_refl _) _
    have x3 := (p1.below hb2).below bG
    have q4 := (p2.below hb2).below bG
    have b3 := bto b2 bG b2.size
    clear c0 c1 c2 c3 p1 p2 g2 hb2 bG
    go_wp2_with (first
      | (refine wpList_tload rfl _ rfl W.heap.size rfl (tCells a cap t bv) ?_ rfl ?_; exact x3)
      | (refine wpList_tstore rfl _ _ rfl (W.heap.size + 1) rfl _ rfl zCells ?_ rfl rfl (tCells_one _ _ _ h1) ?_; exact q4; intro w5 p5 o5))
    have b5 : Below W.heap.size W w5 := b3.trans (o5.below (by simp) b3.size)
    refine tret2 rfl rfl rfl p5 rfl ?_
    exact tpost2 rfl (G.out.below b5) b5
theorem TBx.setG {W : World} {b : Nat} {a a2 : Option Addr} {cap c2 : Nat} {t : TS} {bv : Value} (p : TBx W b (tCells a cap t bv)) (w h : Nat) (R : List (List GC)) (X : World)
    (hX : ((W.setCell ⟨b, 0, none⟩ (.int .i64 w)).setCell ⟨b, 1, none⟩ (.int .i64 h)).setCell ⟨b, 2, none⟩ (.slice a2 h c2) = X) : TBx X b (tCells a2 c2 { t with W := w, H := h, R := R } bv) ∧ Only [b] W X := by
  subst hX
  obtain ⟨p0, o0⟩ := p.set 0 (.int .i64 w) (tCells a cap { t with W := w } bv) rfl
  obtain ⟨p1, o1⟩ := p0.set 1 (.int .i64 h) _ rfl
  obtain ⟨p2, o2⟩ := p1.set 2 (.slice a2 h c2) (tCells a2 c2 { t with W := w, H := h, R := R } bv) rfl
  exact ⟨p2, (o0.trans o1).trans o2⟩
set_option maxRecDepth 100000 in
set_option maxHeartbeats 8000000 in
theorem rtresize_ok {F : Nat → Prop} {W : World} (hF : ∀ b, W.heap.size ≤ b → F b) {a : Option Addr} {cap : Nat} {t : TS} {bv : Value} (h1 : OneV bv) (ok : TOk t) (hg : t.gone < 4611686018427387904) (g : RG F W a cap t.W t.H t.R) (w h : Nat) (hd : 1 ≤ w ∧ w ≤ 500 ∧ 1 ≤ h ∧ h ≤ 500) :
    Calls Tryz.prog 52 #[.agg (tCells a cap t bv), .int .i64 w, .int .i64 h] W (TPost2 F (t.resize w h, 0) bv W) := by
  have gF : RG (fun b => F b ∧ b ≠ W.heap.size ∧ b ≠ W.heap.size + 1) W a cap t.W t.H t.R := g.mono (fun b h1 h2 => ⟨h1, by omega, by omega⟩)
  have CR := Lib.hid (fun (X : World) (hs : W.heap.size + 1 + 1 ≤ X.heap.size) (hX : Below W.heap.size W X) => rresize_ok (F := fun b => F b ∧ b ≠ W.heap.size ∧ b ≠ W.heap.size + 1) (W := X) (fun b hb => ⟨hF b (by omega), by omega, by omega⟩) (gF.below hX) ⟨ok.w1, ok.w2⟩ ⟨ok.h1, ok.h2⟩ w h t.row hd ok.row)
  obtain ⟨n, hn⟩ : ∃ n, n = goneN t.H h t.row := ⟨_, rfl⟩
  have hgr := gone_row ok.row hd.2.2.1
  rw [← hn] at CR hgr
  obtain ⟨R', hR'⟩ : ∃ R', R' = resizeR t.H t.R w h t.row := ⟨_, rfl⟩
  rw [← hR'] at CR
  have HE : Hid (t.resize w h = { t with W := w, H := h, R := R', gone := t.gone + n, row := t.row - n, col := min t.col (w - 1), pend := false, last := false }) := Lib.hid (by unfold TS.resize; rw [← hn, ← hR'])
  have hrow := ok.row
  have hcol := ok.col
  have hh5 := ok.h2
  have hw5 := ok.w2
  obtain ⟨d1, d2, d3, d4⟩ := hd
  have hnb : n ≤ 500 := by omega
  have hni : (n : Int) ≤ 500 := by omega
  clear g gF hn hR' ok
  go_enter Tryz.func52, Tryz.ntmps52
  go_upto_region 0 with (fail)
  go_cut [3, 6] (fun u v wx => u = .pointer (some ⟨W.heap.size, 0, none⟩) ∧ v = .pointer (some ⟨W.heap.size + 1, 0, none⟩) ∧ TIn W (tCells a cap t bv) wx)
  case first =>
    go_wp2
    go_meet
    exact ⟨rfl, rfl, tin W _⟩
  case rest =>
    obtain ⟨rfl, rfl, p1, p2, bX, sX⟩ := hcut
    obtain ⟨c0, c1, c2, c3, c4, c5, c6, c7, c8, c9, c10, c11, c12, c13, c14, c15, c16, c17, c18, fz⟩ := p1.tc
    have CR1 := Lib.hid (CR.out _ (by omega) bX)
    clear c4 c5 c6 c7 c8 c9 c10 c11 c12 c13 c14 c15 c16 c17 c18 fz CR
    go_upto_region 2 with (go_at_call 123; refine (CR1.out).mono ?_; rintro e w2 ⟨a2, cap2, rfl, g2, hb2⟩)
    have b2 := bto bX hb2 bX.size
    have bG : Below w2.heap.size w2 (w2.alloc (.cells #[.int .i64 w, .int .i64 h, .slice a2 h cap2] 29)) := (Below.refl _ _).alloc (Nat.le_refl _) _
    have x3 := (p1.below hb2).below bG
    have q4 := (p2.below hb2).below bG
    have b3 := bto b2 bG b2.size
    have g3 := g2.below bG
    have gb := GBox.new w2 w h h cap2 a2
    obtain ⟨w3, hw3⟩ : ∃ w3, w2.alloc (.cells #[.int .i64 w, .int .i64 h, .slice a2 h cap2] 29) = w3 := ⟨_, rfl⟩
    have hlt2 := (p2.below hb2).lt
    rw [hw3] at x3 q4 b3 g3 gb ⊢
    clear c0 c1 c2 c3 p1 p2 g2 hb2 bG hw3 b2 bX CR1
    obtain ⟨w4, hw4⟩ : ∃ w4, ((w3.setCell ⟨W.heap.size, 0, none⟩ (.int .i64 w)).setCell ⟨W.heap.size, 1, none⟩ (.int .i64 h)).setCell ⟨W.heap.size, 2, none⟩ (.slice a2 h cap2) = w4 := ⟨_, rfl⟩
    obtain ⟨x4, o4⟩ := x3.setG w h R' w4 hw4
    have HW4 := Lib.hid hw4
    obtain ⟨c0, c1, c2, c3, c4, c5, c6, c7, c8, c9, c10, c11, c12, c13, c14, c15, c16, c17, c18, fz⟩ := x3.tc
    clear c3 c4 c5 c6 c7 c8 c9 c10 c11 c12 c13 c14 c15 c16 c17 c18
    obtain ⟨gc0, gc1, gc2, gc3⟩ := gb.cells
    clear hw4
    go_upto_region 5 with (fail)
    rw [HW4.out]
    have q5 := q4.only o4 (by simp)
    have b4 := b3.trans (o4.below (by simp) b3.size)
    have g4 := g3.keep o4.size (fun b hb hlt => o4.block b hlt (by simpa using hb.2.1))
    clear x3 q4 b3 g3 o4 fz c0 c1 c2 gc0 gc1 gc2 gc3 gb HW4
    obtain ⟨c0, c1, c2, c3, c4, c5, c6, c7, c8, c9, c10, c11, c12, c13, c14, c15, c16, c17, c18, fz⟩ := x4.tc
    clear c0 c1 c2 c5 c6 c7 c8 c9 c11 c12 c13 c15 c17 c18
    have hgw : IntKind.i64.wrap ((t.gone : Int) + (n : Int)) = (t.gone : Int) + (n : Int) := by rw [IntKind.wrap_i64]; omega
    obtain ⟨x6, o6⟩ := x4.set 14 (.int .i64 ((t.gone + n : Nat) : Int)) (tCells a2 cap2 { t with W := w, H := h, R := R', gone := t.gone + n } bv) rfl
    have hgn : ((t.gone + n : Nat) : Int) = (t.gone : Int) + (n : Int) := by omega
    rw [hgn] at x6 o6
    have q6 := q5.only o6 (by simp)
    have b6 := b4.trans (o6.below (by simp) b4.size)
    have g6 := g4.keep o6.size (fun b hb hlt => o6.block b hlt (by simpa using hb.2.1))
    clear hgn
    go_upto_region 6 with (fail)
    obtain ⟨w5, hw5⟩ : ∃ w5, w4.setCell ⟨W.heap.size, 14, none⟩ (.int .i64 ((t.gone : Int) + (n : Int))) = w5 := ⟨_, rfl⟩
    rw [hw5] at x6 q6 b6 g6 ⊢
    clear hw5 o6 q5 b4 g4 c3 c4 c10 c14 c16 fz x4 hgw
    obtain ⟨c0, c1, c2, c3, c4, c5, c6, c7, c8, c9, c10, c11, c12, c13, c14, c15, c16, c17, c18, fz⟩ := x6.tc
    clear c0 c1 c2 c5 c6 c7 c8 c9 c11 c12 c13 c14 c15 c17 c18
    obtain ⟨T5, hT5⟩ : ∃ T5, T5 = { t with W := w, H := h, R := R', gone := t.gone + n, row := t.row - n, col := min t.col (w - 1) } := ⟨_, rfl⟩
    have mov : ∀ x y, x = Value.int .i64 ((t.row - n : Nat) : Int) → y = Value.int .i64 ((min t.col (w - 1) : Nat) : Int) → TBx ((w5.setCell ⟨W.heap.size, 3, none⟩ x).setCell ⟨W.heap.size, 4, none⟩ y) W.heap.size (tCells a2 cap2 T5 bv) ∧ Only [W.heap.size] w5 ((w5.setCell ⟨W.heap.size, 3, none⟩ x).setCell ⟨W.heap.size, 4, none⟩ y) := fun x y hx hy => by
      subst hx hy hT5
      obtain ⟨pa, oa⟩ := x6.set 3 (.int .i64 ((t.row - n : Nat) : Int)) (tCells a2 cap2 { t with W := w, H := h, R := R', gone := t.gone + n, row := t.row - n } bv) rfl
      obtain ⟨pb, ob⟩ := pa.set 4 (.int .i64 ((min t.col (w - 1) : Nat) : Int)) (tCells a2 cap2 { t with W := w, H := h, R := R', gone := t.gone + n, row := t.row - n, col := min t.col (w - 1) } bv) rfl
      exact ⟨pb, oa.trans ob⟩
    have MOV := Lib.hid mov
    have HT5 := Lib.hid hT5
    clear mov hT5
    go_cut [3] (fun u wx => u = .pointer (some ⟨W.heap.size, 0, none⟩) ∧ TBx wx W.heap.size (tCells a2 cap2 T5 bv) ∧ Only [W.heap.size] w5 wx)
    case first =>
      go_wp2
      all_goals (go_meet; exact ⟨rfl, MOV.out _ _ (congrArg (Value.int _) (by omega)) (congrArg (Value.int _) (by omega))⟩)
    case rest =>
      clear c3 c4 c10 c16 fz MOV
      obtain ⟨rfl, x7, o7⟩ := hcut
      have q7 := q6.only o7 (by simp)
      have b7 := b6.trans (o7.below (by simp) b6.size)
      have g7 := g6.keep o7.size (fun b hb hlt => o7.block b hlt (by simpa using hb.2.1))
      obtain ⟨c0, c1, c2, c3, c4, c5, c6, c7, c8, c9, c10, c11, c12, c13, c14, c15, c16, c17, c18, fz⟩ := x7.tc
      clear c0 c1 c2 c3 c4 c5 c6 c7 c8 c9 c11 c12 c13 c14 c15 c17 c18 o7 b6 g6 q6 x6
      obtain ⟨pa, oa⟩ := x7.set 10 (.bool false) (tCells a2 cap2 { T5 with pend := false } bv) rfl
      obtain ⟨x8, ob⟩ := pa.set 16 (.bool false) (tCells a2 cap2 (t.resize w h) bv) (by rw [HE.out, HT5.out]; rfl)
      have q8 := (q7.only oa (by simp)).only ob (by simp)
      go_wp2_with (first
        | (refine wpList_tload rfl _ rfl W.heap.size rfl (tCells a2 cap2 (t.resize w h) bv) ?_ rfl ?_; exact x8)
        | (refine wpList_tstore rfl _ _ rfl (W.heap.size + 1) rfl _ rfl zCells ?_ rfl rfl (tCells_one _ _ _ h1) ?_; exact q8; intro w9 p9 o9))
      have oab := oa.trans ob
      have b9 : Below W.heap.size W w9 := (b7.trans (oab.below (by simp) b7.size)).trans (o9.below (by simp) (by have := oab.size; have := b7.size; omega))
      have g8 := g7.keep oab.size (fun b hb hlt => oab.block b hlt (by simpa using hb.2.1))
      have g9 := g8.keep o9.size (fun b hb hlt => o9.block b hlt (by simpa using hb.2.2))
      refine tret2 rfl rfl rfl p9 rfl ?_
      refine tpost2 (x := (t.resize w h, 0)) rfl ?_ b9
      rw [HE.out]
      exact g9.mono (fun b hb _ => hb.1)
end Go.Proofs.YtekodpcedjpnjaaGreat
