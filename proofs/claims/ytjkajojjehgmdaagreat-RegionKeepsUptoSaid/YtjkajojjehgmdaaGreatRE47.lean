/- Nothing waits behind a byte that ends what waits; the rows ahead of a band. Plain. No condition. The law RegionCosts, as its statement hands it what it reads. No condition but on the lengths of strings. A region apart from a block: Draw. No condition but on the lengths of strings. Frames in a slice; a part of bytes; what a blank row says. No condition. Frames in a slice, as a statement hands them: opened out of what it reads. No condition but on the lengths of strings. Bytes and small numbers, as a statement hands them. No condition but on the lengths of strings. -/
import Derived.Test.YtjkajojjehgmdaaGreatRE00
import Derived.Test.YtjkajojjehgmdaaGreatRE05
import Derived.Test.YtjkajojjehgmdaaGreatRE39
import Derived.Test.YtjkajojjehgmdaaGreatRE41
import Derived.Test.YtjkajojjehgmdaaGreatRE46
set_option linter.unusedVariables false
set_option linter.unusedSimpArgs false
namespace Go.Proofs.YtjkajojjehgmdaaGreat
open Go.RowKit Go.Shelf Go.Maps
theorem spanN_end (p : UInt8 → Bool) (e : UInt8) (h : p e = false) : ∀ A : List UInt8, spanN p (A ++ [e]) ≤ A.length
 | [] => by
  show spanN p [e] ≤ 0
  unfold spanN
  rw [h]
  exact Nat.le_refl _
 | c :: A => by
  have := spanN_end p e h A
  show spanN p (c :: (A ++ [e])) ≤ A.length + 1
  unfold spanN
  split <;> omega
theorem seq_can (t : TS) (A : List UInt8) : (t.seq (A ++ [24])).2 ≠ 0 := by
 have h1 := spanN_end parB 24 (by decide) A
 have h2 : spanN midB ((A ++ [24]).drop (spanN parB (A ++ [24]))) ≤ A.length - spanN parB (A ++ [24]) := by
  rw [List.drop_append_of_le_length h1]
  have := spanN_end midB 24 (by decide) (A.drop (spanN parB (A ++ [24])))
  rw [List.length_drop] at this
  exact this
 unfold TS.seq
 dsimp only
 obtain ⟨p, hp⟩ : ∃ p, p = spanN parB (A ++ [24]) := ⟨_, rfl⟩
 rw [← hp] at h1 h2 ⊢
 obtain ⟨q, hq⟩ : ∃ q, q = spanN midB ((A ++ [24]).drop p) := ⟨_, rfl⟩
 rw [← hq] at h2 ⊢
 split
 ·exact (by decide : (32 : Nat) ≠ 0)
 ·split
  ·rename_i h3
   rw [List.length_append, List.length_singleton] at h3
   omega
  ·split
   ·dsimp only; omega
   ·dsimp only; omega
theorem lo1_pos (c : Nat) : 25 ≤ lo1 c := by
 unfold lo1
 repeat' split
 all_goals omega
theorem first_can (t : TS) (l : List UInt8) : (t.first (l ++ [24])).2 ≠ 0 := by
 cases l with
 | nil => exact (by decide : (1 : Nat) ≠ 0)
 | cons c A =>
  show (t.first (c :: (A ++ [24]))).2 ≠ 0
  unfold TS.first
  split
  ·rename_i h
   cases h
  ·rename_i c' r h
   injection h with h1 h2
   subst h1
   split
   ·split
    ·simp at h2
    ·rename_i d r' 
     split
     ·cases A with
      | nil =>
       rename_i h3
       simp only [List.nil_append, List.cons.injEq] at h2
       obtain ⟨rfl, _⟩ := h2
       exact absurd h3 (by decide)
      | cons d' B =>
       simp only [List.cons_append, List.cons.injEq] at h2
       obtain ⟨rfl, rfl⟩ := h2
       exact seq_can t B
     ·dsimp only
      split <;> decide
   ·split
    ·exact (by decide : (1 : Nat) ≠ 0)
    ·have hm : moreL (c :: r) = false := by
      rw [← h2]
      refine more_bad (j := A.length) (by simp) (fun hk => ?_)
      unfold okAt at hk
      have e : nth 0 (A ++ [24]) A.length = 24 := by
       unfold nth
       rw [List.getD_eq_getElem?_getD, List.getElem?_append_right (Nat.le_refl _)]
       simp
      rw [e] at hk
      have h5 := lo1_pos c.toNat
      have h6 : (24 : UInt8).toNat = 24 := rfl
      rw [h6] at hk
      have := hk.2.1
      split at this <;> omega
     rw [hm, if_neg (by decide)]
     have := stepL_pos (c :: r)
     dsimp only
     omega
theorem run_can : ∀ (n : Nat) (t : TS) (l : List UInt8), l.length ≤ n → (runT t (l ++ [24])).2 = []
 | n, t, l, hn => by
  have h := first_can t l
  have hl := (t.first_le (l ++ [24])).1
  rw [List.length_append, List.length_singleton] at hl
  rw [run_step t (l ++ [24]) h]
  by_cases hk : (t.first (l ++ [24])).2 ≤ l.length
  ·rw [List.drop_append_of_le_length hk]
   cases n with
   | zero => omega
   | succ n => exact run_can n _ _ (by rw [List.length_drop]; omega)
  ·rw [List.drop_of_length_le (by rw [List.length_append, List.length_singleton]; omega)]
   rfl
theorem ready_w (w h : Nat) (s : List UInt8) : (readyT w h s).2 = [] := by
 unfold readyT
 exact run_can _ _ _ (Nat.le_refl _)
theorem ready_ok {w h : Nat} (hd : 1 ≤ w ∧ w ≤ 500 ∧ 1 ≤ h ∧ h ≤ 500) (s : List UInt8) : TOk (readyT w h s).1 := ((TOk.new hd.1 hd.2.1 hd.2.2.1 hd.2.2.2).run _).run _
structure Bnd (x : RSt) (Pre Post : List (List GC)) (T : TS) : Prop where
 k : TOk T
 W : T.W = x.w
 R : T.R = Pre ++ (x.A ++ Post)
 row : T.row = Pre.length + x.r.toNat
 col : T.col = x.c.toNat
 pend : T.pend = false
 y : T.y = Sy.zero
 seen : T.seen = x.s
theorem core_eq {a b : TS} (h : a.core = b.core) : a.W = b.W ∧ a.H = b.H ∧ a.R = b.R ∧ a.row = b.row ∧ a.col = b.col ∧ a.y = b.y ∧ a.pend = b.pend ∧ a.seen = b.seen ∧ a.marked = b.marked ∧ a.bells = b.bells ∧ a.gone = b.gone :=
 ⟨(congrArg TS.W h : a.core.W = b.core.W), (congrArg TS.H h : a.core.H = b.core.H), (congrArg TS.R h : a.core.R = b.core.R), (congrArg TS.row h : a.core.row = b.core.row), (congrArg TS.col h : a.core.col = b.core.col), (congrArg TS.y h : a.core.y = b.core.y), (congrArg TS.pend h : a.core.pend = b.core.pend), (congrArg TS.seen h : a.core.seen = b.core.seen), (congrArg TS.marked h : a.core.marked = b.core.marked), (congrArg TS.bells h : a.core.bells = b.core.bells), (congrArg TS.gone h : a.core.gone = b.core.gone)⟩
theorem Bnd.draw {x : RSt} {Pre Post : List (List GC)} {T : TS} (k : OkR x) (hp : x.ph = 2) (b : Bnd x Pre Post T) (B : List (List GC)) (r c : Int) (s : Bool) :
    (runT T (drawF x B r c s).1).2 = [] ∧ Bnd (drawF x B r c s).2.2 Pre Post (runT T (drawF x B r c s).1).1 ∧ (runT T (drawF x B r c s).1).1.gone = T.gone ∧ (runT T (drawF x B r c s).1).1.H = T.H ∧ (runT T (drawF x B r c s).1).1.bells = T.bells := by
 have he : ∀ u : TS, runT u [] = (u, []) := fun _ => rfl
 unfold drawF
 rw [if_pos hp]
 split
 ·rename_i hd
  obtain ⟨d1, d2, d3⟩ := mayD_pos hd
  obtain ⟨u, u1, u2⟩ := run_drawn (s2 := s) (k.fit hp hd) b.k (by rw [b.W, d3]) b.R b.row b.col b.pend b.y b.seen
  have h1 := u1 []
  rw [List.append_nil] at h1
  have hk := b.k.run (paintE x.A x.r x.c x.s B r c s false)
  dsimp only
  rw [h1, he] at hk ⊢
  obtain ⟨e1, e2, e3, e4, e5, e6, e7, e8, e9, e10, e11⟩ := core_eq u2
  exact ⟨rfl, { k := hk, W := e1.trans b.W, R := e3, row := e4, col := e5, pend := e7.trans b.pend, y := e6.trans b.y, seen := e8 }, e11, e2, e10⟩
 ·dsimp only
  rw [he]
  exact ⟨rfl, b, rfl, rfl, rfl⟩
theorem bnd_start {x : RSt} (k : OkR x) (hp : x.ph = 1) {T : TS} (hk : TOk T) (hW : T.W = x.w) (hH : T.H = x.h) :
    (runT T (startB x.rows)).2 = [] ∧ ∃ Post, Bnd x.blank ((T.R.take T.row).drop (T.row + x.rows - T.H)) Post (runT T (startB x.rows)).1 ∧ (runT T (startB x.rows)).1.gone = T.gone + (T.row + x.rows - T.H) ∧ (runT T (startB x.rows)).1.H = T.H ∧ (runT T (startB x.rows)).1.bells = T.bells := by
 have he : ∀ u : TS, runT u [] = (u, []) := fun _ => rfl
 obtain ⟨n1, n2, _⟩ := k.rows
 have hn : x.rows ≤ T.H := by rw [hH]; unfold RSt.rows; exact Nat.min_le_right _ _
 obtain ⟨u, u1, u2⟩ := run_start hk n1 (by omega) hn
 have h1 := u1 []
 rw [List.append_nil] at h1
 have hk2 := hk.run (startB x.rows)
 rw [h1, he] at hk2 ⊢
 obtain ⟨e1, e2, e3, e4, e5, e6, e7, e8, e9, e10, e11⟩ := core_eq u2
 have hrow := hk.row
 have htl := take_len hk hrow
 refine ⟨rfl, List.replicate (T.H - (T.row + 0 + x.rows - (T.row + 0 + x.rows - T.H))) (blR T.W), ?_, e11.trans (by show T.gone + (T.row + 0 + x.rows - T.H) = _; rw [Nat.add_zero]), e2, e10⟩
 have eR : u.R = (T.R.take T.row).drop (T.row + x.rows - T.H) ++ (blankM x.w x.rows ++ List.replicate (T.H - (T.row + 0 + x.rows - (T.row + 0 + x.rows - T.H))) (blR T.W)) := by
  rw [e3]
  show (T.R.take T.row ++ [] ++ List.replicate x.rows (blR T.W)).drop (T.row + 0 + x.rows - T.H) ++ _ = _
  rw [List.append_nil, List.drop_append_of_le_length (by rw [htl]; omega), List.append_assoc, hW, Nat.add_zero]
  rfl
 have erow : u.row = T.row + 0 - (T.row + 0 + x.rows - T.H) := e4
 refine { k := hk2, W := e1.trans hW, R := eR, row := ?_, col := e5, pend := e7, y := e6, seen := e8 }
 rw [erow, List.length_drop, htl]
 show _ = _ + (0 : Int).toNat
 simp
theorem drawF_len {x : RSt} (k : OkR x) (B : List (List GC)) (r c : Int) (s : Bool) : (drawF x B r c s).1.length ≤ 3000100 := by
 unfold drawF
 split
 ·rename_i hp
  split
  ·rename_i hd
   obtain ⟨d1, d2, d3⟩ := mayD_pos hd
   have h5 := paintE_len (A := x.A) (B := B) (r1 := x.r) (k1 := x.c) (r2 := r) (k2 := c) (s1 := x.s) (s2 := s) (al := false)
   have h6 := spansE_sum (k.fit hp hd)
   rw [d2, d3] at h6
   have h7 : x.w * x.rows ≤ 500 * 60 := Nat.mul_le_mul k.w.2 k.rows.2.1
   show (paintE x.A x.r x.c x.s B r c s false).length ≤ _
   omega
  ·exact Nat.zero_le _
 ·exact Nat.zero_le _
theorem bnd_end {x : RSt} (k : OkR x) (hp : x.ph = 2) {Pre Post : List (List GC)} {T : TS} (b : Bnd x Pre Post T) :
    (runT T (endedB x.r.toNat [])).2 = [] ∧ (runT T (endedB x.r.toNat [])).1.R = Pre ++ List.replicate (T.H - Pre.length) (blR x.w) ∧ (runT T (endedB x.r.toNat [])).1.row = Pre.length ∧ (runT T (endedB x.r.toNat [])).1.gone = T.gone ∧ (runT T (endedB x.r.toNat [])).1.H = T.H ∧ (runT T (endedB x.r.toNat [])).1.W = x.w := by
 have he : ∀ u : TS, runT u [] = (u, []) := fun _ => rfl
 obtain ⟨h1, h2, h3⟩ := k.op hp
 obtain ⟨p1, p2, p3, p4, p5, p6, p7, p8, p9⟩ := okF_pos h1
 have hrow := b.row
 have hr := b.k.row
 have htop : T.row - x.r.toNat = Pre.length := by omega
 obtain ⟨u, u1, u2⟩ := run_ended b.k b.y (fr := x.r.toNat) (by omega) [] (fun C hC => by cases hC) (by simp; omega)
 have e0 := u1 []
 rw [List.append_nil] at e0
 rw [e0, he]
 obtain ⟨e1, e2, e3, e4, e5, e6, e7, e8, e9, e10, e11⟩ := core_eq u2
 have hl : Pre.length + 0 + 0 - T.H = 0 := by omega
 have eR : u.R = (T.R.take (T.row - x.r.toNat) ++ [] ++ List.replicate 0 (blR T.W)).drop (T.row - x.r.toNat + 0 + 0 - T.H) ++ List.replicate (T.H - (T.row - x.r.toNat + 0 + 0 - (T.row - x.r.toNat + 0 + 0 - T.H))) (blR T.W) := e3
 have er : u.row = T.row - x.r.toNat + 0 - (T.row - x.r.toNat + 0 + 0 - T.H) := e4
 have eg : u.gone = T.gone + (T.row - x.r.toNat + 0 + 0 - T.H) := e11
 rw [htop, hl] at eR er eg
 refine ⟨rfl, ?_, er, eg, e2, e1.trans b.W⟩
 rw [eR, List.replicate_zero, List.append_nil, List.append_nil, List.drop_zero, b.R, List.take_append_of_le_length (Nat.le_refl _), List.take_length, b.W]
 rfl
end Go.Proofs.YtjkajojjehgmdaaGreat
namespace Go.Proofs.YtjkajojjehgmdaaGreat
open Go.ChangeShapes Go.WideShapes Go.RowKit Go.Deep
section
variable {H : Type} {enc : TypeId × Value → H} {w : World} {held : Bool}
set_option maxRecDepth 100000 in
theorem strs_of {fuel : Nat} {a : Option Addr} {len cap : Nat} {x : DataW H × List MemPlace} (h : DataW.trod enc Tryz.prog w 0 (fun _ => true) held fuel 51 [.slice a len cap] = some x) : len ≤ cap ∧ cap ≤ maxLen ∧ ∃ L, StrsAt w a len L ∧ ∀ l ∈ L, l.length ≤ Rows.uptoBulk x.1 := by
 have hc : Tryz.prog.cellsOf 9 = 1 := by kernel_rfl
 cases a with
 | none =>
  rcases open_slice Tryz.underlying51 h with ⟨hcs, _⟩ | ⟨ad, len', cap', m, n, D, Pl, hcs, _⟩
  ·simp at hcs
   obtain ⟨rfl, rfl⟩ := hcs
   exact ⟨Nat.le_refl _, Nat.zero_le _, [], StrsAt.nil _ _, fun l hl => by cases hl⟩
  ·simp at hcs
 | some ad =>
  obtain ⟨b, off, spot⟩ := ad
  have hlc : len ≤ cap ∧ cap ≤ maxLen := by
   rcases open_slice Tryz.underlying51 h with ⟨hcs, _⟩ | ⟨ad, len', cap', m, n, D, Pl, hcs, _, hl, hm, _⟩
   ·simp at hcs
   ·simp at hcs
    obtain ⟨_, rfl, rfl⟩ := hcs
    exact ⟨hl, hm⟩
  have hsm := elem_small (P := Tryz.prog) Tryz.underlying51 h
  have hspot : 0 < len → spot = none := fun h0 => by
   obtain ⟨n, cs, y, h1, h2, h3⟩ := hsm 0 h0
   rw [hc, Nat.mul_one] at h1
   obtain ⟨v, hv, hy, _⟩ := DataW.trod_string Tryz.underlying9 h2
   subst hv
   simpa [Addr.add] using World.cell?_spot (cell_of_cells?_one h1)
  have hel : ∀ i, i < len → ∃ l : List UInt8, (∃ g o, some (⟨b, off, spot⟩ : Addr) = some ⟨g, o, none⟩ ∧ g < w.heap.size ∧ w.cell? ⟨g, o + i, none⟩ = some (.string (S l))) ∧ l.length ≤ Rows.uptoBulk x.1 := fun i hi => by
   obtain ⟨n, cs, y, h1, h2, h3⟩ := hsm i hi
   rw [hc, Nat.mul_one] at h1
   obtain ⟨v, hv, hy, _⟩ := DataW.trod_string Tryz.underlying9 h2
   subst hv
   have h4 := cell_of_cells?_one h1
   obtain rfl : spot = none := hspot (by omega)
   rw [add_plain] at h4
   obtain ⟨l, rfl⟩ := S_back v
   refine ⟨l, ⟨b, off, rfl, World.block_lt_of_cell? w _ h4, h4⟩, ?_⟩
   rw [hy] at h3
   simp only [Rows.uptoBulk] at h3
   have : (S l).data.toList.length = l.length := by simp [S]
   omega
  obtain ⟨L, hL, hp⟩ := list_forallF len hel
  refine ⟨hlc.1, hlc.2, L, ⟨hL, fun i l hl => (hp i l hl).1⟩, fun l hl => ?_⟩
  obtain ⟨i, hi, rfl⟩ := List.mem_iff_getElem.1 hl
  exact (hp i _ (List.getElem?_eq_getElem hi)).2
end
end Go.Proofs.YtjkajojjehgmdaaGreat
namespace Go.Proofs.YtjkajojjehgmdaaGreat
open Go.RowKit Go.Shelf Go.Maps
theorem RgF.below {F : Nat → Prop} {W X : World} {b : Nat} {x : RSt} (z : RgF F W b x) (hb : Below W.heap.size W X) : RgF F X b x := by
 obtain ⟨av, cap, h1, h2, h3⟩ := z
 exact ⟨av, cap, h1.below hb, h2.below hb, h3⟩
theorem RgF.lt {F : Nat → Prop} {W : World} {b : Nat} {x : RSt} (z : RgF F W b x) : b < W.heap.size := by
 obtain ⟨av, cap, h1, _⟩ := z
 exact h1.lt
theorem RgF.only {F : Nat → Prop} {W X : World} {b T : Nat} {x : RSt} (z : RgF F W b x) (ho : Only [T] W X) (hb : b ≠ T) (hF : ∀ g, F g → g ≠ T) : RgF F X b x := by
 obtain ⟨av, cap, h1, h2, h3⟩ := z
 exact ⟨av, cap, h1.only ho (by simpa using hb), h2.keep ho.size (fun g hg hlt => ho.block g hlt (by simpa using hF g hg)), h3⟩
theorem RgF.mono {F F' : Nat → Prop} {W : World} {b : Nat} {x : RSt} (z : RgF F W b x) (hF : ∀ g, F g → g < W.heap.size → F' g) : RgF F' W b x := by
 obtain ⟨av, cap, h1, h2, h3⟩ := z
 exact ⟨av, cap, h1, h2.mono hF, h3⟩
theorem RowsAt.toF {W : World} {a : Option Addr} {n : Nat} {R : List (List GC)} (h : RowsAt W a n R) (hne : ∀ M ∈ R, M ≠ []) : RowsF (fun g => g < W.heap.size) W a n R :=
 ⟨h.len, fun i M hi => by
  obtain ⟨b, off, a2, c2, h1, h2, h3, h4, h5⟩ := h.at_ i M hi
  have hM := hne M (List.mem_of_getElem? hi)
  obtain ⟨x, hx⟩ : ∃ x, M[0]? = some x := ⟨_, List.getElem?_eq_getElem (by cases M with | nil => exact absurd rfl hM | cons _ _ => simp)⟩
  obtain ⟨g2, o2, e2, e3, _⟩ := h5.at_ 0 x hx
  exact ⟨b, off, a2, c2, h1, ⟨h2, h2⟩, h3, h4, h5, fun b2 o2' e => by
   rw [e2] at e
   simp only [Option.some.injEq, Addr.mk.injEq] at e
   obtain ⟨rfl, _⟩ := e
   exact ⟨e3, e3⟩⟩⟩
def DoK (F : Nat → Prop) (b : Nat) (W : World) (y : Ans) (e : Ending) (w' : World) : Prop := e = .returned (.tuple #[.string (S y.1), .int .i64 y.2.1]) ∧ Only [b] W w' ∧ RgF F w' b y.2.2 ∧ OkR y.2.2
theorem drawK {F : Nat → Prop} {W : World} (hF : ∀ g, W.heap.size ≤ g → F g) {b : Nat} {x : RSt} (z : RgF F W b x) (k : OkR x) {a : Option Addr} {n cap : Nat} {B : List (List GC)} (hR : RowsAt W a n B) (hn : n ≤ maxLen) (hs : ∀ M ∈ B, ∀ c ∈ M, c.s.size ≤ 1100000) (r c : Int) (s : Bool) : Calls Tryz.prog 10 #[.pointer (some ⟨b, 0, none⟩), .agg #[.slice a n cap, .int .i64 r, .int .i64 c, .bool s]] W (DoK F b W (drawF x B r c s)) := by
 have hph := k.ph
 unfold drawF
 by_cases hp : x.ph = 2
 ·rw [if_pos hp]
  cases hd : mayD x B r c with
  | true =>
   rw [if_pos rfl]
   exact (gdraw_ok z.rgi k hp hR hn hs r c s hd).mono fun e w' ⟨h1, h2, h3⟩ => ⟨h1, h2, h3.mono (fun g hg _ => hF g hg), k.drawn hp s hd⟩
  | false =>
   rw [if_neg (by decide)]
   exact (gdraw_frame z.rgi k hp hR hn hs r c s hd).mono fun e w' ⟨h1, h2⟩ => ⟨h1, Only.of_below h2, z.below h2, k⟩
 ·rw [if_neg hp]
  exact (gdraw_bad z.rgi (by omega) hp a n cap r c s).mono fun e w' ⟨h1, h2⟩ => ⟨h1, Only.of_below h2, z.below h2, k⟩
structure TmK (p T1 : Nat) (X : World) (T : TS) : Prop where
 ex : ∃ a c bv, TBx X T1 (tCells a c T bv) ∧ RG (fun g => g ≠ T1 ∧ g ≠ p) X a c T.W T.H T.R ∧ HB (fun g => g ≠ T1 ∧ g ≠ p) X bv []
theorem TmK.below {p T1 : Nat} {X Y : World} {T : TS} (h : TmK p T1 X T) (hb : Below X.heap.size X Y) : TmK p T1 Y T := by
 obtain ⟨a, c, bv, h1, h2, h3⟩ := h.ex
 exact ⟨a, c, bv, h1.below hb, h2.below hb, h3.below hb⟩
theorem TmK.only {p T1 : Nat} {X Y : World} {T : TS} (h : TmK p T1 X T) (ho : Only [p] X Y) (hp : T1 ≠ p) : TmK p T1 Y T := by
 obtain ⟨a, c, bv, h1, h2, h3⟩ := h.ex
 exact ⟨a, c, bv, h1.only ho (by simpa using hp), h2.keep ho.size (fun g hg hlt => ho.block g hlt (by simpa using hg.2)), h3.keep ho.size (fun g hg hlt => ho.block g hlt (by simpa using hg.2))⟩
def FrsAt (W : World) (a : Option Addr) (len cap : Nat) : Prop :=
 len ≤ cap ∧ cap ≤ maxLen ∧ ∀ i, i < len → ∃ g off fa fn fc r c s B, a = some ⟨g, off, none⟩ ∧ g < W.heap.size ∧ W.rangeAt g (off + i * 4) [.slice fa fn fc, .int .i64 r, .int .i64 c, .bool s] ∧ RowsAt W fa fn B ∧ (fn ≤ fc ∧ fc ≤ maxLen) ∧ (∀ M ∈ B, ∀ c ∈ M, c.s.size ≤ 1100000)
theorem HA.take {W : World} {a : Option Addr} {n c : Nat} {l : List UInt8} (h : HA W (.slice a n c) l) (k : Nat) (hk : k ≤ n) : HA W (.slice a k c) (l.take k) := by
 rcases h with (⟨h1, h2⟩ | ⟨g, off, n', c', h1, h2, h3, h4, h5⟩) | ⟨ad, c', h1, h2⟩
 ·simp only [Value.slice.injEq] at h1
  obtain ⟨rfl, rfl, rfl⟩ := h1
  obtain rfl : k = 0 := by omega
  exact .inl (.inl ⟨rfl, by rw [h2]; rfl⟩)
 ·simp only [Value.slice.injEq] at h1
  obtain ⟨rfl, rfl, rfl⟩ := h1
  refine .inl (.inr ⟨g, off, k, c, rfl, by rw [List.length_take]; omega, ⟨by omega, h3.2⟩, ⟨h4.lt, fun j hj => ?_⟩, trivial⟩)
  rw [List.length_take] at hj
  rw [h4.at_ j (by omega)]
  unfold nth
  rw [List.getD_eq_getElem?_getD, List.getD_eq_getElem?_getD, List.getElem?_take, if_pos (by omega)]
 ·simp only [Value.slice.injEq] at h1
  obtain ⟨rfl, rfl, rfl⟩ := h1
  obtain rfl : k = 0 := by omega
  exact .inr ⟨ad, c, rfl, by rw [h2]; rfl⟩
theorem HA.len {W : World} {a : Option Addr} {n c : Nat} {l : List UInt8} (h : HA W (.slice a n c) l) : l.length = n := by
 obtain ⟨a', c', e⟩ := h.slice
 simp only [Value.slice.injEq] at e
 exact e.2.1.symm
theorem trimN_blank (l : List UInt8) (h : ∀ i, i < l.length → nth 0 l i = 32) : ∀ n, n ≤ l.length → trimN l n = 0
 | 0, _ => rfl
 | n + 1, hn => by
  unfold trimN
  rw [if_pos (h n (by omega))]
  exact trimN_blank l h n (by omega)
theorem text_blank : ∀ w : Nat, textL (blR w) = List.replicate w 32
 | 0 => rfl
 | w + 1 => by
  have h := text_blank w
  show textL (List.replicate (w + 1) GC.blank) = _
  rw [List.replicate_succ, List.replicate_succ, ← h]
  rfl
theorem trim_blank (w : Nat) : trimL (textL (blR w)) = [] := by
 rw [text_blank]
 unfold trimL
 rw [trimN_blank _ (fun i hi => by
  rw [nth_eq _ _ _ hi, List.getElem_replicate]) _ (Nat.le_refl _)]
 rfl
theorem endedB_len (fr : Nat) : (endedB fr []).length ≤ 100 := by
 have := byL_len (fr : Int) 65
 unfold endedB belowB seenB pasteB
 rw [show linesB [] = [] from rfl]
 simp only [List.length_append, List.length_cons, List.length_nil]
 omega
end Go.Proofs.YtjkajojjehgmdaaGreat
namespace Go.Proofs.YtjkajojjehgmdaaGreat
open Go.ChangeShapes Go.WideShapes Go.RowKit Go.Deep
section
variable {H : Type} {enc : TypeId × Value → H} {w : World} {held : Bool}
set_option maxRecDepth 100000 in
set_option maxHeartbeats 4000000 in
theorem open_frs {a : Option Addr} {len cap : Nat} {d : DataW H} {ps : List MemPlace} (h : DataW.Trod enc Tryz.prog w 0 (fun _ => true) held 23 (.slice a len cap) d ps) (hb : Rows.uptoBulk d ≤ 1048576) : FrsAt w a len cap := by
 obtain ⟨fuel, h⟩ := h
 have h0 : DataW.trod enc Tryz.prog w 0 (fun _ => true) held fuel 23 [.slice a len cap] = some (d, ps) := h
 have hc : Tryz.prog.cellsOf 42 = 4 := by kernel_rfl
 cases a with
 | none =>
  rcases open_slice Tryz.underlying23 h with ⟨hcs, _⟩ | ⟨ad, len', cap', m, n, D, Pl, hcs, _⟩
  ·simp [Value.cells] at hcs
   obtain ⟨rfl, rfl⟩ := hcs
   exact ⟨Nat.le_refl _, Nat.zero_le _, fun i hi => absurd hi (Nat.not_lt_zero _)⟩
  ·simp [Value.cells] at hcs
 | some ad =>
  have hlc : len ≤ cap ∧ cap ≤ maxLen := by
   rcases open_slice Tryz.underlying23 h with ⟨hcs, _⟩ | ⟨ad', len', cap', m, n, D, Pl, hcs, _, hl, hm, _⟩
   ·simp [Value.cells] at hcs
   ·simp [Value.cells] at hcs
    obtain ⟨_, rfl, rfl⟩ := hcs
    exact ⟨hl, hm⟩
  have hsm := elem_small (P := Tryz.prog) Tryz.underlying23 h0
  rw [hc] at hsm
  refine ⟨hlc.1, hlc.2, fun i hi => ?_⟩
  obtain ⟨b, off, spot⟩ := ad
  have hspot : spot = none := by
   obtain ⟨n0, cs0, y0, h1, _⟩ := hsm 0 (by omega)
   obtain ⟨_, hlen, hcell⟩ := World.cells?_some h1
   have e0 := hcell 0 (by omega)
   rw [List.getElem?_eq_getElem (by omega)] at e0
   simpa [Addr.add] using World.cell?_spot e0
  subst hspot
  obtain ⟨n, cs, y, h1, h2, h3⟩ := hsm i hi
  obtain ⟨_, hlen, hcell⟩ := World.cells?_some h1
  match cs, hlen with
  | [v0, v1, v2, v3], _ =>
   have gF : DataW.Trod enc Tryz.prog w 0 (fun _ => true) held 42 (.agg #[v0, v1, v2, v3]) y.1 y.2 := ⟨_, h2⟩
   obtain ⟨fa, fn, fc, r, c, s, B, hcsF, hB, hfn, hfc, hfm, hsB⟩ := open_frameS (n := 5) Tryz.underlying42 (by kernel_rfl) rfl rfl rfl rfl Tryz.underlying40 Tryz.underlying3 Tryz.underlying3 Tryz.underlying4 (by kernel_rfl) (by kernel_rfl) (by kernel_rfl) (by kernel_rfl) Tryz.underlying46 (by kernel_rfl) (by kernel_rfl) (by kernel_rfl) Tryz.underlying88 rfl rfl (by kernel_rfl) Tryz.underlying9 gF
   simp only [Array.mk.injEq, List.cons.injEq, and_true] at hcsF
   obtain ⟨rfl, rfl, rfl, rfl⟩ := hcsF
   have hyb : Rows.uptoBulk y.1 ≤ 1048576 := Nat.le_trans h3 hb
   have e0 := hcell 0 (by omega)
   have hbl : b < w.heap.size := by
    rw [Go.Deep.add_add, add_plain] at e0
    exact World.block_lt_of_cell? w _ e0
   refine ⟨b, off, fa, fn, fc, r, c, s, B, rfl, hbl, fun j v hv => ?_, hB, ⟨hfc, hfm⟩, fun M hM x hx => by have := hsB M hM x hx; omega⟩
   have hj : j < 4 := (List.getElem?_eq_some_iff.1 hv).1
   have e := hcell j (by omega)
   rw [Go.Deep.add_add, add_plain] at e
   rw [show off + i * 4 + j = off + (i * 4 + j) by omega, e]
   exact hv
theorem open_strs {a : Option Addr} {len cap : Nat} {d : DataW H} {ps : List MemPlace} (h : DataW.Trod enc Tryz.prog w 0 (fun _ => true) held 51 (.slice a len cap) d ps) (hb : Rows.uptoBulk d ≤ 1048576) : len ≤ cap ∧ cap ≤ maxLen ∧ ∃ L, StrsAt w a len L ∧ ∀ l ∈ L, l.length ≤ 1048576 := by
 obtain ⟨fuel, h⟩ := h
 obtain ⟨h1, h2, L, h3, h4⟩ := strs_of (fuel := fuel) h
 exact ⟨h1, h2, L, h3, fun l hl => Nat.le_trans (h4 l hl) hb⟩
end
end Go.Proofs.YtjkajojjehgmdaaGreat
namespace Go.Proofs.YtjkajojjehgmdaaGreat
open Go.RowKit Go.Shelf Go.Maps
theorem isRow_bytesK {w : World} {a : Option Addr} {len cap : Nat} {zs : List Int} (h : IsRow .u8 w a len cap zs) : ∃ l : List UInt8, l.length = len ∧ HAF (fun b => b < w.heap.size) w (.slice a len cap) l := by
 rcases h with ⟨rfl, rfl, rfl, rfl⟩ | ⟨⟨b, off, spot⟩, rfl, h1, h2, h3, h4, h5⟩
 ·exact ⟨[], rfl, .inl (.inl ⟨rfl, rfl⟩)⟩
 ·rcases Nat.eq_zero_or_pos len with h0 | h0
  ·subst h0
   exact ⟨[], rfl, .inr ⟨_, _, rfl, rfl⟩⟩
  ·have hs : spot = none := by
    have h := h4 0 (by omega)
    simpa [Addr.add] using World.cell?_spot h
   subst hs
   have hlt : b < w.heap.size := by
    have h := h4 0 (by omega)
    rw [Go.WideShapes.add_plain] at h
    exact World.block_lt_of_cell? w _ h
   refine ⟨(zs.take len).map (fun z => UInt8.ofNat z.toNat), by simp; omega, .inl (.inr ⟨b, off, len, cap, rfl, by simp; omega, ⟨h1, h2⟩, ⟨hlt, fun j hj => ?_⟩, hlt⟩)⟩
   have hj2 : j < len ∧ j < zs.length := by simp only [List.length_map, List.length_take] at hj; omega
   have hc := h4 j hj2.2
   rw [Go.WideShapes.add_plain] at hc
   rw [hc]
   have hw := h5 (zs.getD j 0) (by
    rw [List.getD_eq_getElem?_getD, List.getElem?_eq_getElem hj2.2]
    exact List.getElem_mem hj2.2)
   have hb : 0 ≤ zs.getD j 0 ∧ zs.getD j 0 ≤ 255 := by simpa [Lit.wf, IntKind.min, IntKind.max, IntKind.signed, IntKind.bits] using hw
   congr 2
   have e : nth 0 ((zs.take len).map (fun z => UInt8.ofNat z.toNat)) j = UInt8.ofNat (zs.getD j 0).toNat := by
    unfold nth
    rw [List.getD_eq_getElem?_getD, List.getElem?_map, List.getElem?_take_of_lt hj2.1, List.getD_eq_getElem?_getD, List.getElem?_eq_getElem hj2.2]
    rfl
   rw [e]
   obtain ⟨z, hz⟩ : ∃ z, z = zs.getD j 0 := ⟨_, rfl⟩
   rw [← hz] at hb ⊢
   have : (UInt8.ofNat z.toNat).toNat = z.toNat % 256 := by simp
   rw [this]
   omega
theorem isRow_arg {w : World} {a : Option Addr} {len cap : Nat} {zs : List Int} (h : IsRow .u8 w a len cap zs) : (∃ l, HA w (.slice a len cap) l) ∧ len ≤ cap ∧ cap ≤ maxLen := by
 obtain ⟨l, _, hl⟩ := isRow_bytesK h
 refine ⟨⟨l, hl.mono (fun _ _ _ => trivial)⟩, ?_⟩
 rcases h with ⟨_, h1, h2, _⟩ | ⟨_, _, h1, h2, _⟩
 ·rw [h1, h2]; exact ⟨Nat.le_refl _, Nat.zero_le _⟩
 ·exact ⟨h1, h2⟩
theorem u8_arg {z : Int} (h : (Lit.int .u8 z).wf = true) : ∃ n : Nat, z = n ∧ n ≤ 255 := by
 have hz : 0 ≤ z ∧ z ≤ 255 := by simpa [Lit.wf, IntKind.min, IntKind.max, IntKind.signed, IntKind.bits] using h
 exact ⟨z.toNat, by omega, by omega⟩
end Go.Proofs.YtjkajojjehgmdaaGreat
