/- The builder of frames: what the program's calls and the reference's make of the same state. No condition. The law FrameBuilds. No condition. The law FrameBuilds, at every input. No condition. -/
import Derived.Test.YtekodpcedjpnjaaGreatRF3
import Derived.Test.YtekodpcedjpnjaaGreatTermP
import Derived.Test.YtekodpcedjpnjaaGreatRF5
import Derived.Test.YtekodpcedjpnjaaGreatRF9
import Derived.Test.YtekodpcedjpnjaaGreatRF16
import Derived.Test.YtekodpcedjpnjaaGreatFlat
import Derived.Test.YtekodpcedjpnjaaGreatFrame12
import Derived.OpenShut
namespace Go.Proofs.YtekodpcedjpnjaaGreat
set_option linter.unusedVariables false
set_option linter.unusedSimpArgs false
open Go.RowKit Go.Shelf Go.Maps
/-- What holds of a builder's state. -/
structure FInv (t : RBd) : Prop where
  w1 : 1 ≤ t.W
  w2 : t.W ≤ 500
  h1 : 1 ≤ t.H
  h2 : t.H ≤ 60
  ok : RowsOk t.W t.H t.R
  ro : ROk t.R
  gr : GRows t.R
  row : t.row < t.H
  col : t.col < t.W
theorem FInv.with_ {t : RBd} (k : FInv t) {R : List (List GC)} (h1 : RowsOk t.W t.H R) (h2 : ROk R) (h3 : GRows R) : FInv { t with R := R } :=
  ⟨k.w1, k.w2, k.h1, k.h2, h1, h2, h3, k.row, k.col⟩
theorem FInv.text {t : RBd} (k : FInv t) (r c : Int) (l : List UInt8) (y : Sy) : FInv (t.text r c l y).1 := by
  unfold RBd.text
  split
  · split
    · rename_i hy
      refine k.with_ (putsR_flat k.ok _ _ _ _ _).1 (putsR_ROk k.ok k.ro _ _ _ _ _) (GRows.puts k.ok k.gr _ _ hy _ (fun x hx => clu_mem (by rw [nth_eq _ _ _ hx]; exact List.getElem_mem _)) _ (fitK_le _ _))
    · exact k
  · exact k
theorem FInv.fill {t : RBd} (k : FInv t) (r x z : Int) (y : Sy) : FInv (t.fill r x z y).1 := by
  unfold RBd.fill
  split
  · split
    · rename_i hy
      have h1 := k.ok.erase r x z
      refine k.with_ (fillK_flat h1 _ _ _ _).1 (fillK_ROk h1 (ROk.erase k.ok k.ro r x z) _ _ _ _) (GRows.fill h1 (GRows.erase k.ok k.gr r x z) _ _ hy _)
    · exact k
  · exact k
theorem FInv.cursor {t : RBd} (k : FInv t) (r c : Int) (s : Bool) : FInv (t.cursor r c s).1 := by
  unfold RBd.cursor
  split
  · exact ⟨k.w1, k.w2, k.h1, k.h2, k.ok, k.ro, k.gr, by show r.toNat < t.H; omega, by show c.toNat < t.W; omega⟩
  · exact k
/-- The program's builder stands as the state. -/
def BSt (W : World) (b p q : Nat) (t : RBd) : Prop := BAt W b p q t.W t.H t.R.flatten t.row t.col t.seen
theorem Only.to2 {b q : Nat} {W W' : World} (h : Below W.heap.size W W') : Only [b, q] W W' := Only.of_below h
theorem btext_any {W : World} {b p q : Nat} {t : RBd} (a : BSt W b p q t) (k : FInv t) (r c : Int) (l : List UInt8) (hl : l.length ≤ 10000) (y : Sy) :
    Calls Tryz.prog 18 #[.pointer (some ⟨b, 0, none⟩), .int .i64 r, .int .i64 c, .string (S l), .agg #[.bool y.b, .bool y.u, .bool y.i, .int .i64 y.f, .int .i64 y.g]] W fun e w' =>
      e = .returned (.tuple #[.int .i64 (t.text r c l y).2.1, .int .i64 (t.text r c l y).2.2]) ∧ BSt w' b p q (t.text r c l y).1 ∧ Only [b, q] W w' := by
  unfold RBd.text
  by_cases hin : 0 ≤ r ∧ r < t.H ∧ 0 ≤ c ∧ c ≤ t.W
  · rw [if_pos hin]
    cases hy : mayF y
    · rw [if_neg (by simp)]
      exact (btext_bad a r c (S l) y hin hy).mono fun e w' ⟨h1, h2⟩ => ⟨h1, a.below h2, Only.to2 h2⟩
    · rw [if_pos rfl]
      obtain ⟨rn, rfl⟩ := Int.eq_ofNat_of_zero_le hin.1
      obtain ⟨cn, rfl⟩ := Int.eq_ofNat_of_zero_le hin.2.2.1
      refine (text_ok a rn cn l y (by omega) (by omega) hy hl).mono fun e w' ⟨h1, h2, h3⟩ => ⟨h1, ?_, h3.mono (by simp)⟩
      unfold BSt
      dsimp only
      rw [(putsR_flat k.ok _ _ _ _ _).2]
      exact h2
  · rw [if_neg hin]
    exact (btext_out a r c (S l) y hin).mono fun e w' ⟨h1, h2⟩ => ⟨h1, a.below h2, Only.to2 h2⟩
theorem bfill_any {W : World} {b p q : Nat} {t : RBd} (a : BSt W b p q t) (k : FInv t) (r x z : Int) (y : Sy) :
    Calls Tryz.prog 20 #[.pointer (some ⟨b, 0, none⟩), .int .i64 r, .int .i64 x, .int .i64 z, .agg #[.bool y.b, .bool y.u, .bool y.i, .int .i64 y.f, .int .i64 y.g]] W fun e w' =>
      e = .returned (.int .i64 (t.fill r x z y).2) ∧ BSt w' b p q (t.fill r x z y).1 ∧ Only [b, q] W w' := by
  unfold RBd.fill
  by_cases hin : 0 ≤ r ∧ r < t.H
  · rw [if_pos hin]
    cases hy : mayF y
    · rw [if_neg (by simp)]
      exact (bfill_bad a r x z y hin hy).mono fun e w' ⟨h1, h2⟩ => ⟨h1, a.below h2, Only.to2 h2⟩
    · rw [if_pos rfl]
      refine (bfill_in a r x z y hin hy).mono fun e w' ⟨h1, h2, h3⟩ => ⟨h1, ?_, h3.mono (by simp)⟩
      unfold BSt
      dsimp only
      rw [(fillK_flat (k.ok.erase r x z) _ _ _ _).2, k.ok.erase_flat]
      exact h2
  · rw [if_neg hin]
    exact (bfill_out a r x z y hin).mono fun e w' ⟨h1, h2⟩ => ⟨h1, a.below h2, Only.to2 h2⟩
theorem bcursor_any {W : World} {b p q : Nat} {t : RBd} (a : BSt W b p q t) (r c : Int) (s : Bool) :
    Calls Tryz.prog 22 #[.pointer (some ⟨b, 0, none⟩), .int .i64 r, .int .i64 c, .bool s] W fun e w' =>
      e = .returned (.int .i64 (t.cursor r c s).2) ∧ BSt w' b p q (t.cursor r c s).1 ∧ Only [b, q] W w' := by
  unfold RBd.cursor
  by_cases hin : 0 ≤ r ∧ r < t.H ∧ 0 ≤ c ∧ c < t.W
  · rw [if_pos hin]
    obtain ⟨rn, rfl⟩ := Int.eq_ofNat_of_zero_le hin.1
    obtain ⟨cn, rfl⟩ := Int.eq_ofNat_of_zero_le hin.2.2.1
    exact (bcursor_in a rn cn s (by omega) (by omega)).mono fun e w' ⟨h1, h2, h3⟩ => ⟨h1, h2, h3.mono (by simp)⟩
  · rw [if_neg hin]
    exact (bcursor_out a r c s hin).mono fun e w' ⟨h1, h2⟩ => ⟨h1, a.below h2, Only.to2 h2⟩
/-- The frame that a builder tells. -/
theorem bframe_any {W : World} {b p q : Nat} {t : RBd} (a : BSt W b p q t) (k : FInv t) :
    Calls Tryz.prog 26 #[.pointer (some ⟨b, 0, none⟩)] W (FrPost t.R t.row t.col t.seen W) := by
  have h := frame_any a k.h2 (by have := k.row; have := k.h2; omega) (by have := k.col; have := k.w2; omega)
  rw [k.ok.rowsG_flat] at h
  exact h
end Go.Proofs.YtekodpcedjpnjaaGreat
namespace Go.Proofs.YtekodpcedjpnjaaGreat
set_option linter.unusedVariables false
set_option linter.unusedSimpArgs false
open Go.RowKit Go.Shelf Go.Maps
attribute [local go_sem] Oper.semAt_some
/-- A call, as its cells tell it. -/
structure FOp where
  k : Int
  r : Int
  c : Int
  t : Int
  s : ByteArray
  y : Sy
  n : Bool
def FOp.vals (o : FOp) : List Value := [.int .u8 o.k, .int .i64 o.r, .int .i64 o.c, .int .i64 o.t, .string o.s, .bool o.y.b, .bool o.y.u, .bool o.y.i, .int .i64 o.y.f, .int .i64 o.y.g, .bool o.n]
def fopFlat : List Flat := [.int .u8, .int .i64, .int .i64, .int .i64, .str, .bool, .bool, .bool, .int .i64, .int .i64, .bool]
theorem u8F {n : Int} (h : (Lit.int .u8 n).wf = true) : 0 ≤ n ∧ n ≤ 255 := by simpa [Lit.wf, IntKind.min, IntKind.max, IntKind.signed, IntKind.bits] using h
theorem fop_of_flat {V : List Value} (h : FlatAll fopFlat V) : ∃ o : FOp, (0 ≤ o.k ∧ o.k ≤ 255 ∧ o.s.size ≤ maxLen) ∧ V = o.vals := by
  obtain ⟨_, V1, rfl, ⟨d, rfl, hd⟩, h1⟩ := h.uncons
  obtain ⟨_, V2, rfl, ⟨r, rfl, _⟩, h2⟩ := h1.uncons
  obtain ⟨_, V3, rfl, ⟨c, rfl, _⟩, h3⟩ := h2.uncons
  obtain ⟨_, V4, rfl, ⟨t, rfl, _⟩, h4⟩ := h3.uncons
  obtain ⟨_, V5, rfl, ⟨s, rfl, hs⟩, h5⟩ := h4.uncons
  obtain ⟨_, V6, rfl, ⟨b, rfl⟩, h6⟩ := h5.uncons
  obtain ⟨_, V7, rfl, ⟨u, rfl⟩, h7⟩ := h6.uncons
  obtain ⟨_, V8, rfl, ⟨i, rfl⟩, h8⟩ := h7.uncons
  obtain ⟨_, V9, rfl, ⟨f, rfl, _⟩, h9⟩ := h8.uncons
  obtain ⟨_, V10, rfl, ⟨g, rfl, _⟩, h10⟩ := h9.uncons
  obtain ⟨_, V11, rfl, ⟨n, rfl⟩, h11⟩ := h10.uncons
  obtain rfl := h11.unnil
  have hb := u8F hd
  exact ⟨⟨d, r, c, t, s, ⟨b, u, i, f, g⟩, n⟩, ⟨hb.1, hb.2, hs⟩, rfl⟩
/-- The box of a call. -/
def OBx (W : World) (b : Nat) (o : FOp) : Prop := W.heap[b]? = some (.cells #[.int .u8 o.k, .int .i64 o.r, .int .i64 o.c, .int .i64 o.t, .string o.s, .bool o.y.b, .bool o.y.u, .bool o.y.i, .int .i64 o.y.f, .int .i64 o.y.g, .bool o.n] 38 (0, 0))
theorem OBx.cells {W : World} {b : Nat} {o : FOp} (h : OBx W b o) : W.cell? ⟨b, 0, none⟩ = some (.int .u8 o.k) ∧ W.cell? ⟨b, 1, none⟩ = some (.int .i64 o.r) ∧ W.cell? ⟨b, 2, none⟩ = some (.int .i64 o.c) ∧ W.cell? ⟨b, 3, none⟩ = some (.int .i64 o.t) ∧ W.cell? ⟨b, 4, none⟩ = some (.string o.s) ∧
    W.cell? ⟨b, 5, none⟩ = some (.bool o.y.b) ∧ W.cell? ⟨b, 6, none⟩ = some (.bool o.y.u) ∧ W.cell? ⟨b, 7, none⟩ = some (.bool o.y.i) ∧ W.cell? ⟨b, 8, none⟩ = some (.int .i64 o.y.f) ∧ W.cell? ⟨b, 9, none⟩ = some (.int .i64 o.y.g) ∧ W.cell? ⟨b, 10, none⟩ = some (.bool o.n) := by
  refine ⟨?_, ?_, ?_, ?_, ?_, ?_, ?_, ?_, ?_, ?_, ?_⟩ <;> rw [cell_of_row W b _ _ _ _ h] <;> rfl
theorem OBx.lt {W : World} {b : Nat} {o : FOp} (h : OBx W b o) : b < W.heap.size := (Array.getElem?_eq_some_iff.1 h).1
theorem OBx.only {W W' : World} {b : Nat} {o : FOp} {S : List Nat} (h : OBx W b o) (ho : Only S W W') (hS : b ∉ S) : OBx W' b o := ho.heap h hS
/-- What holds between the rounds. -/
def LawF (w : World) (b p q d : Nat) (W H : Nat) (X : World) (t : RBd) : Prop :=
  BSt X b p q t ∧ FInv t ∧ (∃ a c, BBx X d (bCells a c t) ∧ RG (fun k => k ≠ b ∧ k ≠ p ∧ k ≠ q ∧ k ≠ d) X a c t.W t.H t.R) ∧ t.W = W ∧ t.H = H ∧ Below w.heap.size w X
theorem LawF.below {w : World} {b p q d W H : Nat} {X Y : World} {t : RBd} (h : LawF w b p q d W H X t) (hb : Below X.heap.size X Y) : LawF w b p q d W H Y t := by
  obtain ⟨h1, h2, ⟨a, c, h3, h4⟩, h5, h6, h7⟩ := h
  exact ⟨BAt.below h1 hb, h2, ⟨a, c, h3.below hb, h4.below hb⟩, h5, h6, bto h7 hb h7.size⟩
abbrev FF (b p q d : Nat) : Nat → Prop := fun k => k ≠ b ∧ k ≠ p ∧ k ≠ q ∧ k ≠ d
/-- Behind the program's call. -/
theorem LawF.mid {w : World} {b p q d W H : Nat} {X X1 : World} {t : RBd} (h : LawF w b p q d W H X t) (hd : d ≠ b ∧ d ≠ p ∧ d ≠ q) (o : Only [b, q] X X1) :
    ∃ a c, BBx X1 d (bCells a c t) ∧ RG (FF b p q d) X1 a c t.W t.H t.R ∧ (∀ k, X1.heap.size ≤ k → FF b p q d k) := by
  obtain ⟨h1, h2, ⟨a, c, h3, h4⟩, h5, h6, h7⟩ := h
  have hl := BAt.lt h1
  have hx := h3.lt
  have hs := o.size
  exact ⟨a, c, h3.only o (by simp; omega), h4.keep hs (fun k hk hlt => o.block k hlt (by simp; exact ⟨hk.1, hk.2.2.1⟩)), fun k hk => ⟨by omega, by omega, by omega, by omega⟩⟩
/-- Behind both. -/
theorem LawF.step {w : World} {b p q d W H : Nat} {X X1 X2 X3 : World} {t t' : RBd} (h : LawF w b p q d W H X t) (hd : d ≠ b ∧ d ≠ p ∧ d ≠ q) (hz : w.heap.size ≤ b ∧ w.heap.size ≤ p ∧ w.heap.size ≤ q ∧ w.heap.size ≤ d)
    (hI : FInv t') (hw : t'.W = t.W ∧ t'.H = t.H) (hB : BSt X1 b p q t') (o1 : Only [b, q] X X1) (b2 : Below X1.heap.size X1 X2) {a : Option Addr} {c : Nat} (g2 : RG (FF b p q d) X2 a c t'.W t'.H t'.R) (o3 : Only [d] X2 X3) (hx : BBx X3 d (bCells a c t')) : LawF w b p q d W H X3 t' := by
  obtain ⟨h1, h2, _, h5, h6, h7⟩ := h
  have k1 : Below w.heap.size w X1 := h7.trans (o1.below (by simp; omega) h7.size)
  have k2 := bto k1 b2 k1.size
  refine ⟨(BAt.below hB b2).only o3 (by simp; omega) (by simp; omega) (by simp; omega), hI, ⟨a, c, hx, g2.keep o3.size (fun k hk hlt => o3.block k hlt (by simp; exact hk.2.2.2))⟩, hw.1.trans h5, hw.2.trans h6, k2.trans (o3.below (by simp; omega) k2.size)⟩
/-- What the ways of the switch leave. -/
def CutF (w : World) (b p q d W H : Nat) (u v x y : Value) (X : World) : Prop := ∃ (t : RBd) (e n : Int), u = .int .i64 e ∧ v = .int .i64 n ∧ x = .int .i64 e ∧ y = .int .i64 n ∧ LawF w b p q d W H X t
theorem RBd.fill_dims (t : RBd) (r x z : Int) (y : Sy) : (t.fill r x z y).1.W = t.W ∧ (t.fill r x z y).1.H = t.H := by unfold RBd.fill; split <;> (try split) <;> exact ⟨rfl, rfl⟩
theorem RBd.text_dims (t : RBd) (r c : Int) (l : List UInt8) (y : Sy) : (t.text r c l y).1.W = t.W ∧ (t.text r c l y).1.H = t.H := by unfold RBd.text; split <;> (try split) <;> exact ⟨rfl, rfl⟩
theorem RBd.cursor_dims (t : RBd) (r c : Int) (s : Bool) : (t.cursor r c s).1.W = t.W ∧ (t.cursor r c s).1.H = t.H := by unfold RBd.cursor; split <;> exact ⟨rfl, rfl⟩
end Go.Proofs.YtekodpcedjpnjaaGreat
namespace Go.Proofs.YtekodpcedjpnjaaGreat
set_option linter.unusedVariables false
set_option linter.unusedSimpArgs false
open Go.RowKit Go.Shelf Go.Maps
attribute [local go_sem] Oper.semAt_some
/-- The calls, in memory. -/
structure FopsAt (W : World) (a : Option Addr) (len : Nat) (ops : List FOp) : Prop where
  len : ops.length = len
  at_ : ∀ i o, ops[i]? = some o → (0 ≤ o.k ∧ o.k ≤ 255 ∧ o.s.size ≤ maxLen) ∧ ∃ b off, a = some ⟨b, off, none⟩ ∧ b < W.heap.size ∧ W.rangeAt b (off + i * 11) o.vals
set_option maxRecDepth 100000 in
set_option maxHeartbeats 8000000 in
theorem frameBuilds_in (w0 h0 : Nat) (hd : 1 ≤ w0 ∧ w0 ≤ 500 ∧ 1 ≤ h0 ∧ h0 ≤ 60) {a : Option Addr} {len cap : Nat} {ops : List FOp} (w : World) (hops : FopsAt w a len ops) (hlen : len ≤ maxLen) :
    Calls Tryz.prog 3 #[.int .i64 w0, .int .i64 h0, .slice a len cap] w fun e w' => e = .returned (.bool true) ∧ Below w.heap.size w w' := by
  have CN := Lib.hid (fnew_ok w0 h0 hd w)
  unfold maxLen at hlen
  obtain ⟨M, hM⟩ : ∃ M, M = min ops.length 40 := ⟨_, rfl⟩
  have hML : M ≤ len := by rw [hM, hops.len]; omega
  have hM40 : M ≤ 40 := by omega
  have hMe : M = len ∨ M = 40 := by rw [hM, hops.len]; omega
  clear hM
  go_enter Tryz.func3, Tryz.ntmps3
  go_wp2_with fail
  refine (CN.out).mono ?_
  rintro e w1 ⟨z, p, q, rfl, a1, hg1, hb1⟩
  have CR := rfnew_ok (F := fun k => w1.heap.size ≤ k) (fun b hb => hb) w0 h0 hd (W := w1)
  obtain ⟨t0, ht0⟩ : ∃ t : RBd, t = { W := w0, H := h0, R := List.replicate h0 (List.replicate w0 GC.blank), row := 0, col := 0, seen := false } := ⟨_, rfl⟩
  rw [← ht0] at CR
  have CR := Lib.hid CR
  have HT0 := Lib.hid ht0
  clear ht0
  go_wp2_with fail
  refine (CR.out).mono ?_
  rintro e w2 ⟨ar, cr, rfl, g2, hb2⟩
  go_wp2_with (first
    | (refine wpList_bstore rfl _ _ rfl w2.heap.size rfl (bCells ar cr t0) rfl zB (BBx.new _ _) rfl rfl (bCells_one _ _ _) ?_; intro w3 bx3 o3)
    | (go_at_call 17; refine (awake09_any _).mono ?_; rintro e w4 ⟨rfl, hb4⟩))
  have hzd : z < w2.heap.size ∧ p < w2.heap.size ∧ q < w2.heap.size := by have := a1.lt; have := hb2.size; omega
  have hzw : w.heap.size ≤ z ∧ w.heap.size ≤ p ∧ w.heap.size ≤ q ∧ w.heap.size ≤ w2.heap.size := ⟨hg1.1, hg1.2.1, hg1.2.2, by omega⟩
  have L0 : LawF w z p q w2.heap.size w0 h0 w4 t0 := by
    have hl := a1.lt
    have hs2 := hb2.size
    have g2' : RG (FF z p q w2.heap.size) w2 ar cr t0.W t0.H t0.R := g2.mono (fun b h1 h2 => ⟨by omega, by omega, by omega, by omega⟩)
    have bA : Below w2.heap.size w2 (w2.alloc (.cells zB 31)) := (Below.refl _ _).alloc (Nat.le_refl _) _
    have sA : (w2.alloc (.cells zB 31)).heap.size = w2.heap.size + 1 := by simp
    have g4 := ((g2'.below bA).keep o3.size (fun k hk hlt => o3.block k hlt (by simp; exact hk.2.2.2))).below hb4
    have a4 := (((a1.below hb2).below bA).only o3 (by simp; omega) (by simp; omega) (by simp; omega)).below hb4
    have hbw : Below w.heap.size w w4 := by
      have k2 := bto hb1 hb2 hb1.size
      have k3 := bto k2 bA k2.size
      have k4 := k3.trans (o3.below (by simp; omega) k3.size)
      exact bto k4 hb4 k4.size
    have ht := HT0.out
    subst ht
    refine ⟨?_, ⟨hd.1, hd.2.1, hd.2.2.1, hd.2.2.2, RowsOk.blank _ _, ROk.blank _ _, GRows.blank _ _, by show 0 < h0; omega, by show 0 < w0; omega⟩, ⟨ar, cr, bx3.below hb4, g4⟩, rfl, rfl, hbw⟩
    unfold BSt
    dsimp only
    rw [blank_flat]
    exact a4
  clear bx3 o3 hb4 g2 hb2 CR CN hg1 hb1 a1 HT0
  go_loopw [11] (fun i wr => ∃ (k : Nat) (t : RBd), k ≤ M ∧ i = .int .i64 k ∧ LawF w z p q w2.heap.size w0 h0 wr t) (fun i _ => M - (intOf i).toNat)
  case atStart => exact ⟨0, t0, Nat.zero_le _, rfl, L0⟩
  case round =>
    obtain ⟨k, t, hk, rfl, hL⟩ := hrel
    by_cases hlt : k < M
    · obtain ⟨o, ho⟩ : ∃ o, ops[k]? = some o := ⟨_, List.getElem?_eq_getElem (by rw [hops.len]; omega)⟩
      obtain ⟨⟨hk0, hk1, hs0⟩, bo, off, rfl, hbo, hro⟩ := hops.at_ k o ho
      obtain ⟨ok, orr, oc, ot, os, oy, on⟩ := o
      obtain ⟨l, rfl⟩ := S_back os
      dsimp only at hk0 hk1 hs0 hro
      rw [S_size] at hs0
      unfold maxLen at hs0
      have hs := S_size l
      obtain ⟨m, hm⟩ : ∃ m, m = min l.length 200 := ⟨_, rfl⟩
      have hmin : min (l.length : Int) 200 = (m : Int) := by omega
      have hml : m ≤ l.length := by omega
      have hext : (S l).extract 0 m = S (l.take 200) := by
        rw [S_extractF, List.drop_zero, Nat.sub_zero]
        congr 1
        rcases Nat.le_total l.length 200 with h | h
        · rw [List.take_of_length_le (by omega), List.take_of_length_le h]
        · rw [show m = 200 by omega]
      have hmi : (m : Int) ≤ (l.length : Int) := by omega
      have hl3 : (l.take 200).length ≤ 200 := by rw [List.length_take]; omega
      obtain ⟨l3, hl3e⟩ : ∃ x, x = l.take 200 := ⟨_, rfl⟩
      rw [← hl3e] at hext hl3
      have HX := Lib.hid hext
      have hdl := hL.2.2.1
      obtain ⟨_, _, hdl, _⟩ := hdl
      have hdl := hdl.lt
      have HB := Lib.hid hL.2.2.2.2.2
      have hror : wr.rangeAt bo (off + k * 11) [.int .u8 ok, .int .i64 orr, .int .i64 oc, .int .i64 ot, .string (S l), .bool oy.b, .bool oy.u, .bool oy.i, .int .i64 oy.f, .int .i64 oy.g, .bool on] := fun j v hv => (HB.out.cell (p := ⟨bo, _, none⟩) hbo).trans (hro j v hv)
      have hk2 : (k : Int) < (len : Int) := by omega
      have hk3 : (k : Int) < 40 := by omega
      have HO := Lib.hid (World.alloc_heap_new wr (.cells #[.int .u8 ok, .int .i64 orr, .int .i64 oc, .int .i64 ot, .string (S l), .bool oy.b, .bool oy.u, .bool oy.i, .int .i64 oy.f, .int .i64 oy.g, .bool on] 38))
      have HL := Lib.hid hL
      clear hops ho hro hext hm hl3e hL
      go_upto_region 11 with (first
        | (refine wpList_load_mid rfl _ _ rfl bo _ rfl [.int .u8 ok, .int .i64 orr, .int .i64 oc, .int .i64 ot, .string (S l), .bool oy.b, .bool oy.u, .bool oy.i, .int .i64 oy.f, .int .i64 oy.g, .bool on] _ hror Tryz.underlying38 rfl (by kernel_rfl) ?_))
      rw [HX.out]
      have hX0 : Below wr.heap.size wr (wr.alloc (.cells #[.int .u8 ok, .int .i64 orr, .int .i64 oc, .int .i64 ot, .string (S l), .bool oy.b, .bool oy.u, .bool oy.i, .int .i64 oy.f, .int .i64 oy.g, .bool on] 38)) := (Below.refl _ _).alloc (Nat.le_refl _) _
      obtain ⟨X, hX⟩ : ∃ X, wr.alloc (.cells #[.int .u8 ok, .int .i64 orr, .int .i64 oc, .int .i64 ot, .string (S l), .bool oy.b, .bool oy.u, .bool oy.i, .int .i64 oy.f, .int .i64 oy.g, .bool on] 38) = X := ⟨_, rfl⟩
      have hO := HO.out
      rw [hX] at hO hX0 ⊢
      have hLX := HL.out.below hX0
      have hOX : OBx X wr.heap.size ⟨ok, orr, oc, ot, S l, oy, on⟩ := hO
      clear hX hO HO HX HL HB hs hs0 hmin hml hmi hk2 hk3 hbo hror
      go_cut [73] (fun u wx => u = .int .u8 (ok % 4) ∧ wx = X)
      case first =>
        obtain ⟨c0, c1, c2, c3, c4, c5, c6, c7, c8, c9, c10⟩ := hOX.cells
        go_wp2
        go_meet
        exact ⟨rfl, rfl⟩
      case rest =>
        obtain ⟨rfl, rfl⟩ := hcut
        refine (‹∀ (a : Act) (w : World), Code.wp Tryz.prog _ _ a w → _›) _ _ ?_
        go_cut [14, 15, 16, 17, 73, 93, 121] (fun u v x y g0 g1 g2 wx => CutF w z p q w2.heap.size w0 h0 u v x y wx)
        case first =>
          obtain ⟨c0, c1, c2, c3, c4, c5, c6, c7, c8, c9, c10⟩ := hOX.cells
          have hI := hLX.2.1
          by_cases h0' : ok % 4 = 0
          · have CB := Lib.hid (btext_any hLX.1 hI orr oc l3 (by omega) oy)
            go_wp2_with fail
            refine (CB.out).mono ?_
            rintro e w5 ⟨rfl, hB5, o5⟩
            have hO5 := hOX.only o5 (by simp; omega)
            obtain ⟨c0', c1', c2', c3', c4', c5', c6', c7', c8', c9', c10'⟩ := hO5.cells
            obtain ⟨a5, cp5, hx5, hg5, hF5⟩ := hLX.mid ⟨by omega, by omega, by omega⟩ o5
            have CR := Lib.hid (rtext_any hF5 hg5 hI.w2 hI.h2 orr oc l3 (by omega) oy)
            have HS := Lib.hid (fun (X2 X3 : World) (a : Option Addr) (c : Nat) b2 g2 o3 hx => hLX.step (X2 := X2) (X3 := X3) (a := a) (c := c) (X1 := w5) ⟨by omega, by omega, by omega⟩ hzw (hI.text orr oc l3 oy) (t.text_dims orr oc l3 oy) hB5 o5 b2 g2 o3 hx)
            clear c0 c1 c2 c3 c4 c5 c6 c7 c8 c9 c10 hB5 hO5 hg5 hF5 CB
            go_wp2_with (first
              | (refine wpList_bload rfl _ rfl w2.heap.size rfl (bCells a5 cp5 t) hx5 rfl ?_)
              | (go_at_call 19; refine (CR.out).mono ?_; rintro e w6 ⟨a6, cp6, rfl, hg6, hb6⟩)
              | (refine wpList_bstore rfl _ _ rfl w2.heap.size rfl (bCells a6 cp6 _) rfl (bCells a5 cp5 t) (hx5.below hb6) rfl rfl (bCells_one _ _ _) ?_; intro w7 hx7 o7))
            go_meet
            exact ⟨_, _, _, rfl, rfl, rfl, rfl, HS.out _ _ _ _ hb6 hg6 o7 hx7⟩
          have f0 : (ok % 4 == 0) = false := by simpa using h0'
          by_cases h1' : ok % 4 = 1
          · have CB := Lib.hid (btext_any hLX.1 hI orr oc l3 (by omega) oy)
            go_wp2_with fail
            refine (CB.out).mono ?_
            rintro e w5 ⟨rfl, hB5, o5⟩
            have hO5 := hOX.only o5 (by simp; omega)
            obtain ⟨c0', c1', c2', c3', c4', c5', c6', c7', c8', c9', c10'⟩ := hO5.cells
            obtain ⟨a5, cp5, hx5, hg5, hF5⟩ := hLX.mid ⟨by omega, by omega, by omega⟩ o5
            have CR := Lib.hid (rtext_any hF5 hg5 hI.w2 hI.h2 orr oc l3 (by omega) oy)
            have HS := Lib.hid (fun (X2 X3 : World) (a : Option Addr) (c : Nat) b2 g2 o3 hx => hLX.step (X2 := X2) (X3 := X3) (a := a) (c := c) (X1 := w5) ⟨by omega, by omega, by omega⟩ hzw (hI.text orr oc l3 oy) (t.text_dims orr oc l3 oy) hB5 o5 b2 g2 o3 hx)
            clear c0 c1 c2 c3 c4 c5 c6 c7 c8 c9 c10 hB5 hO5 hg5 hF5 CB
            go_wp2_with (first
              | (refine wpList_bload rfl _ rfl w2.heap.size rfl (bCells a5 cp5 t) hx5 rfl ?_)
              | (go_at_call 19; refine (CR.out).mono ?_; rintro e w6 ⟨a6, cp6, rfl, hg6, hb6⟩)
              | (refine wpList_bstore rfl _ _ rfl w2.heap.size rfl (bCells a6 cp6 _) rfl (bCells a5 cp5 t) (hx5.below hb6) rfl rfl (bCells_one _ _ _) ?_; intro w7 hx7 o7))
            go_meet
            exact ⟨_, _, _, rfl, rfl, rfl, rfl, HS.out _ _ _ _ hb6 hg6 o7 hx7⟩
          have f1 : (ok % 4 == 1) = false := by simpa using h1'
          by_cases h2 : ok % 4 = 2
          · have CB := Lib.hid (bfill_any hLX.1 hI orr oc ot oy)
            go_wp2_with fail
            refine (CB.out).mono ?_
            rintro e w5 ⟨rfl, hB5, o5⟩
            have hO5 := hOX.only o5 (by simp; omega)
            obtain ⟨c0', c1', c2', c3', c4', c5', c6', c7', c8', c9', c10'⟩ := hO5.cells
            obtain ⟨a5, cp5, hx5, hg5, hF5⟩ := hLX.mid ⟨by omega, by omega, by omega⟩ o5
            have CR := Lib.hid (rfill_any hF5 hg5 ⟨hI.w1, hI.w2⟩ hI.h2 orr oc ot oy)
            have HS := Lib.hid (fun (X2 X3 : World) (a : Option Addr) (c : Nat) b2 g2 o3 hx => hLX.step (X2 := X2) (X3 := X3) (a := a) (c := c) (X1 := w5) ⟨by omega, by omega, by omega⟩ hzw (hI.fill orr oc ot oy) (t.fill_dims orr oc ot oy) hB5 o5 b2 g2 o3 hx)
            clear c0 c1 c2 c3 c4 c5 c6 c7 c8 c9 c10 hB5 hO5 hg5 hF5 CB
            go_wp2_with (first
              | (refine wpList_bload rfl _ rfl w2.heap.size rfl (bCells a5 cp5 t) hx5 rfl ?_)
              | (go_at_call 21; refine (CR.out).mono ?_; rintro e w6 ⟨a6, cp6, rfl, hg6, hb6⟩)
              | (refine wpList_bstore rfl _ _ rfl w2.heap.size rfl (bCells a6 cp6 _) rfl (bCells a5 cp5 t) (hx5.below hb6) rfl rfl (bCells_one _ _ _) ?_; intro w7 hx7 o7))
            go_meet
            exact ⟨_, _, _, rfl, rfl, rfl, rfl, HS.out _ _ _ _ hb6 hg6 o7 hx7⟩
          · have f2 : (ok % 4 == 2) = false := by simpa using h2
            clear h0' h1' h2
            have CB := Lib.hid (bcursor_any hLX.1 orr oc on)
            go_wp2_with fail
            refine (CB.out).mono ?_
            rintro e w5 ⟨rfl, hB5, o5⟩
            have hO5 := hOX.only o5 (by simp; omega)
            obtain ⟨c0', c1', c2', c3', c4', c5', c6', c7', c8', c9', c10'⟩ := hO5.cells
            obtain ⟨a5, cp5, hx5, hg5, hF5⟩ := hLX.mid ⟨by omega, by omega, by omega⟩ o5
            have CR := Lib.hid (rcursor_any hg5 orr oc on)
            have HS := Lib.hid (fun (X2 X3 : World) (a : Option Addr) (c : Nat) b2 g2 o3 hx => hLX.step (X2 := X2) (X3 := X3) (a := a) (c := c) (X1 := w5) ⟨by omega, by omega, by omega⟩ hzw (hI.cursor orr oc on) (t.cursor_dims orr oc on) hB5 o5 b2 g2 o3 hx)
            clear c0 c1 c2 c3 c4 c5 c6 c7 c8 c9 c10 hB5 hO5 hg5 hF5 CB
            go_wp2_with (first
              | (refine wpList_bload rfl _ rfl w2.heap.size rfl (bCells a5 cp5 t) hx5 rfl ?_)
              | (go_at_call 23; refine (CR.out).mono ?_; rintro e w6 ⟨a6, cp6, rfl, hg6, hb6⟩)
              | (refine wpList_bstore rfl _ _ rfl w2.heap.size rfl (bCells a6 cp6 _) rfl (bCells a5 cp5 t) (hx5.below hb6) rfl rfl (bCells_one _ _ _) ?_; intro w7 hx7 o7))
            go_meet
            exact ⟨_, _, _, rfl, rfl, rfl, rfl, HS.out _ _ _ _ hb6 hg6 o7 hx7⟩
        case rest =>
          obtain ⟨t', ev, nv, rfl, rfl, rfl, rfl, hLc⟩ := hcut
          clear hOX hLX hX0
          obtain ⟨hBc, hIc, ⟨ac, cc, hxc, hgc⟩, hWc, hHc, hbc⟩ := hLc
          obtain ⟨tW, tH, tR, tr, tc, ts⟩ := t'
          dsimp only at hWc hHc
          subst hWc hHc
          dsimp only at hgc
          refine (‹∀ (a : Act) (w : World), Code.wp Tryz.prog _ _ a w → _›) _ _ ?_
          go_wp2_with (go_at_call 24; refine (bsize_any hBc).mono ?_; rintro e w8 ⟨rfl, hb8⟩)
          have hB8 := BAt.below hBc hb8
          have hx8 := hxc.below hb8
          have hB8'' : BSt w8 z p q ⟨tW, tH, tR, tr, tc, ts⟩ := hB8
          have hg8' := hgc.below hb8
          have hg8 := hgc.below hb8
          have hb9 := bto hbc hb8 hbc.size
          have dB : Below w8.heap.size w8 w8.drew := (Below.refl _ _).drew
          have evv : (ev != ev) = false := by simp
          have nvv : (nv != nv) = false := by simp
          have CF := Lib.hid (fun (X : World) (hX : Below w8.heap.size w8 X) => (bframe_any (t := ⟨tW, tH, tR, tr, tc, ts⟩) (BAt.below hB8 hX) hIc : Calls _ _ _ _ (FrPost tR tr tc ts X)))
          have CG := Lib.hid (fun (X : World) (hX : Below w8.heap.size w8 X) => (rframe_any (t := ⟨tW, tH, tR, tr, tc, ts⟩) (hg8.below hX) hIc.h2 : Calls _ _ _ _ (FrPost tR tr tc ts X)))
          have hRn : tR.length = tH := hIc.ok.n
          have CK := Lib.hid (fun (X : World) (a1 : Option Addr) (c1 : Nat) (h1 : RowsAt X a1 tR.length tR) => check_true (cap := c1) (r := tr) (c := tc) (w := tW) (s := ts) h1 (by rw [hRn]; exact hIc.h1) (by rw [hRn]; exact hIc.h2) (fun M hM => ⟨hIc.ok.w M hM, (hIc.gr M hM).whole⟩) hIc.w1 hIc.w2 (by rw [hRn]; exact hIc.row) hIc.col)
          have CS := Lib.hid (fun (X : World) (a1 a2 : Option Addr) (c1 c2 : Nat) (h1 : RowsAt X a1 tR.length tR) (h2 : RowsAt X a2 tR.length tR) => rsame_true (c1 := c1) (c2 := c2) h1 h2 (by have := hIc.h2; omega) (fun M hM => by rw [hIc.ok.w M hM]; have := hIc.w2; omega) tr tc ts)
          clear hBc hxc hgc hbc hb8 hB8 hg8 hRn
          refine wp_region_mix2 [(true, 0), (true, 1), (true, 2), (true, 3), (true, 4), (true, 5), (true, 6), (true, 7), (true, 8), (true, 9), (true, 11), (false, 10), (false, 12), (false, 13), (true, 14), (true, 15), (true, 16), (true, 17), (false, 18), (false, 19), (true, 20), (true, 21), (true, 22), (true, 23), (true, 24), (true, 25), (true, 26), (true, 27), (true, 28), (true, 29), (true, 30), (true, 31)] (fun w' => BBx w' w2.heap.size (bCells ac cc ⟨tW, tH, tR, tr, tc, ts⟩)) (by kernel_rfl) (by kernel_rfl) (by rfl) (by kernel_rfl) (by kernel_rfl) (fun _ _ d _ _ h => by cases d <;> exact h) (hx8.below dB) ?_
          simp only [mixL, List.getElem?_cons_succ, List.getElem?_cons_zero]
          repeat (refine' wpMix2_read (v := _) rfl ?_ ?_; rotate_left 1; (intro w' hw'; obtain ⟨k0, k1, k2, k3, k4, k5, fz⟩ := hw'.tc; go_simp; try with_reducible rfl); try simp only [Act.put, List.setIfInBounds_toArray, List.set_cons_zero, List.set_cons_succ])
          refine wpMix2_act (fun K hK => ?_)
          go_wp2_with fail
          refine (CF.out _ dB).mono ?_
          rintro e w10 ⟨a10, c10, rfl, hR10, hc10, hb10⟩
          have hB10 : Below w8.heap.size w8 w10 := dB.trans hb10
          go_wp2
          refine hK _ _ (hx8.below hB10) ?_
          clear hK K
          refine wpMix2_act (fun K hK => ?_)
          go_wp2_with fail
          refine (CG.out _ hB10).mono ?_
          rintro e w11 ⟨a11, c11, rfl, hR11, hc11, hb11⟩
          have hB11 := bto hB10 hb11 hB10.size
          have hR10' := hR10.below hb11
          go_wp2
          refine hK _ _ (hx8.below hB11) ?_
          clear hK K
          refine wpMix2_act (fun K hK => ?_)
          go_wp2_with fail
          refine (CS.out _ _ _ c10 c11 hR10' hR11).mono ?_
          rintro e w12 ⟨rfl, hb12⟩
          have hB12 := bto hB11 hb12 hB11.size
          go_wp2
          refine hK _ _ (hx8.below hB12) ?_
          clear hK K
          repeat (refine' wpMix2_read (v := _) rfl ?_ ?_; rotate_left 1; (intro w' hw'; obtain ⟨k0, k1, k2, k3, k4, k5, fz⟩ := hw'.tc; go_simp; try with_reducible rfl); try simp only [Act.put, List.setIfInBounds_toArray, List.set_cons_zero, List.set_cons_succ])
          refine wpMix2_act (fun K hK => ?_)
          go_wp2_with fail
          refine (CF.out _ hB12).mono ?_
          rintro e w13 ⟨a13, c13, rfl, hR13, hc13, hb13⟩
          have hB13 := bto hB12 hb13 hB12.size
          go_wp2
          refine hK _ _ (hx8.below hB13) ?_
          clear hK K
          refine wpMix2_act (fun K hK => ?_)
          go_wp2_with fail
          refine (CK.out _ _ c13 hR13).mono ?_
          rintro e w14 ⟨rfl, hb14⟩
          have hB14 := bto hB13 hb14 hB13.size
          go_wp2
          refine hK _ _ (hx8.below hB14) ?_
          clear hK K
          repeat (refine' wpMix2_read (v := _) rfl ?_ ?_; rotate_left 1; (intro w' hw'; obtain ⟨k0, k1, k2, k3, k4, k5, fz⟩ := hw'.tc; go_simp; try with_reducible rfl); try simp only [Act.put, List.setIfInBounds_toArray, List.set_cons_zero, List.set_cons_succ])
          refine wpMix2_nil ?_
          have L14 : LawF w z p q w2.heap.size tW tH w14 ⟨tW, tH, tR, tr, tc, ts⟩ := LawF.below ⟨hB8'', hIc, ⟨ac, cc, hx8, hg8'⟩, rfl, rfl, hb9⟩ hB14
          go_wp2
          go_roundw
          case rel => exact ⟨k + 1, ⟨tW, tH, tR, tr, tc, ts⟩, by omega, by go_num, L14⟩
          case measure => simp [intOf]; omega
    · obtain rfl : k = M := by omega
      have hbw := hL.2.2.2.2.2
      rcases hMe with rfl | rfl
      · go_wp2
        go_ret
        exact ⟨rfl, hbw⟩
      · go_wp2
        all_goals go_ret
        all_goals exact ⟨rfl, hbw⟩
end Go.Proofs.YtekodpcedjpnjaaGreat
namespace Go.Proofs.YtekodpcedjpnjaaGreat
set_option linter.unusedVariables false
set_option linter.unusedSimpArgs false
open Go.RowKit Go.Shelf Go.Maps
set_option maxRecDepth 100000 in
set_option maxHeartbeats 8000000 in
theorem frameBuilds_out (w0 h0 : Int) (hd : ¬ (1 ≤ w0 ∧ w0 ≤ 500 ∧ 1 ≤ h0 ∧ h0 ≤ 60)) (a : Option Addr) (len cap : Nat) (w : World) (hlen : len ≤ maxLen) :
    Calls Tryz.prog 3 #[.int .i64 w0, .int .i64 h0, .slice a len cap] w fun e w' => e = .returned (.bool true) ∧ Below w.heap.size w w' := by
  have CN := Lib.hid (fnew_bad w0 h0 hd w)
  have CR := Lib.hid (rfnew_bad (W := w) w0 h0 hd)
  unfold maxLen at hlen
  go_enter Tryz.func3, Tryz.ntmps3
  go_wp2_with fail
  refine (CN.out).mono ?_
  rintro e w1 ⟨rfl, rfl⟩
  go_wp2_with fail
  refine (CR.out).mono ?_
  rintro e w2 ⟨rfl, hb2⟩
  go_wp2_with (first
    | (refine wpList_bstore rfl _ _ rfl w2.heap.size rfl zB rfl zB (BBx.new _ _) rfl rfl (by decide) ?_; intro w3 bx3 o3)
    | (go_at_call 17; refine (awake09_any _).mono ?_; rintro e w4 ⟨rfl, hb4⟩))
  have bA : Below w2.heap.size w2 (w2.alloc (.cells zB 31)) := (Below.refl _ _).alloc (Nat.le_refl _) _
  have hbw : Below w.heap.size w w4 := by
    have hs := hb2.size
    have k3 := bto hb2 bA hb2.size
    have k4 := k3.trans (o3.below (by simp; omega) k3.size)
    exact bto k4 hb4 k4.size
  clear bx3 o3 hb2 hb4 bA CN CR
  go_loopw [11] (fun i wr => i = .int .i64 0 ∧ Below w.heap.size w wr) (fun i _ => 0)
  case atStart => exact ⟨rfl, hbw⟩
  case round =>
    obtain ⟨rfl, hb⟩ := hrel
    by_cases h0 : (0 : Int) < (len : Int)
    · go_wp2
      go_ret
      exact ⟨rfl, hb⟩
    · go_wp2
      go_ret
      exact ⟨rfl, hb⟩
theorem flist_of_forall {α : Type} {p : Nat → α → Prop} : ∀ n : Nat, (∀ i, i < n → ∃ x, p i x) → ∃ l : List α, l.length = n ∧ ∀ i x, l[i]? = some x → p i x
  | 0, _ => ⟨[], rfl, fun i x h => by simp at h⟩
  | n + 1, h => by
    obtain ⟨l, hl, hp⟩ := flist_of_forall n (fun i hi => h i (by omega))
    obtain ⟨x, hx⟩ := h n (by omega)
    refine ⟨l ++ [x], by simp [hl], fun i y hy => ?_⟩
    by_cases hi : i < l.length
    · rw [List.getElem?_append_left hi] at hy
      exact hp i y hy
    · rw [List.getElem?_append_right (by omega)] at hy
      have h0 : i - l.length = 0 := by
        cases hk : i - l.length with
        | zero => rfl
        | succ k => rw [hk] at hy; simp at hy
      rw [h0] at hy
      simp only [List.getElem?_cons_zero, Option.some.injEq] at hy
      subst hy
      obtain rfl : i = n := by omega
      exact hx
theorem fopsAt_of {W : World} {a : Option Addr} {len cap : Nat} (h : IsFlats fopFlat W a len cap) : ∃ ops, FopsAt W a len ops := by
  obtain ⟨_, _, h⟩ := h
  obtain ⟨ops, hl, hp⟩ := flist_of_forall (p := fun i (o : FOp) => (0 ≤ o.k ∧ o.k ≤ 255 ∧ o.s.size ≤ maxLen) ∧ ∃ b off, a = some ⟨b, off, none⟩ ∧ b < W.heap.size ∧ W.rangeAt b (off + i * 11) o.vals) len (fun i hi => by
    obtain ⟨b, off, V, ha, hb, hf, hc⟩ := h i hi
    obtain ⟨o, ho, rfl⟩ := fop_of_flat hf
    refine ⟨o, ho, b, off, ha, hb, fun j v hv => ?_⟩
    have hj : j < 11 := (List.getElem?_eq_some_iff.1 hv).1
    have := hc j hj
    rw [hv] at this
    rw [Nat.add_assoc]; exact this)
  exact ⟨ops, hl, hp⟩
theorem frameBuilds_law (w0 h0 : Int) (a : Option Addr) (len cap : Nat) (w : World) (_ : (Lit.int .i64 w0).wf = true) (_ : (Lit.int .i64 h0).wf = true) (h : IsFlats fopFlat w a len cap) :
    Calls Tryz.prog 3 #[.int .i64 w0, .int .i64 h0, .slice a len cap] w fun e w' => e = .returned (.bool true) ∧ Below w.heap.size w w' := by
  have hlen : len ≤ maxLen := Nat.le_trans h.1 h.2.1
  by_cases hd : 1 ≤ w0 ∧ w0 ≤ 500 ∧ 1 ≤ h0 ∧ h0 ≤ 60
  · obtain ⟨ops, ho⟩ := fopsAt_of h
    obtain ⟨wn, rfl⟩ := Int.eq_ofNat_of_zero_le (by omega : 0 ≤ w0)
    obtain ⟨hn, rfl⟩ := Int.eq_ofNat_of_zero_le (by omega : 0 ≤ h0)
    exact frameBuilds_in wn hn (by omega) w ho hlen
  · exact frameBuilds_out w0 h0 hd a len cap w hlen
end Go.Proofs.YtekodpcedjpnjaaGreat
