/- The reference's Ready. No condition but that the bytes are not too many. A terminal's size stays whatever comes. Plain. No condition. What the bytes of a region's Start, Resize, Above and End make of a terminal: rows laid from the band's first on. Plain. No condition. What the bytes of a region's Start, Resize, Above, End and Draw make of a terminal. Plain. No condition. The law's example in plain data. No condition. -/
import Derived.Test.YtjkajojjehgmdaaGreatRE07
import Derived.Test.YtjkajojjehgmdaaGreatRE32
import Derived.Test.YtjkajojjehgmdaaGreatRE38
set_option linter.unusedVariables false
set_option linter.unusedSimpArgs false
namespace Go.Proofs.YtjkajojjehgmdaaGreat
open Go.RowKit Go.Shelf Go.Maps
def readyT (w h : Nat) (s : List UInt8) : TS × List UInt8 := runT (runT (TS.new w h) s).1 ((runT (TS.new w h) s).2 ++ [24])
theorem runF_cntG : ∀ (n : Nat) (t : TS) (b : List UInt8), (runF n t b).1.bells ≤ t.bells + n ∧ (runF n t b).1.gone ≤ t.gone + n
 | 0, _, _ => ⟨Nat.le_refl _, Nat.le_refl _⟩
 | n + 1, t, b => by
  unfold runF
  split
  ·exact ⟨by show t.bells ≤ _; omega, by show t.gone ≤ _; omega⟩
  ·have h1 := runF_cntG n (t.first b).1 (b.drop (t.first b).2)
   have h2 := TS.first_cnt t b
   omega
theorem runT_cntG (t : TS) (b : List UInt8) : (runT t b).1.bells ≤ t.bells + b.length ∧ (runT t b).1.gone ≤ t.gone + b.length := runF_cntG _ _ _
set_option maxRecDepth 100000 in
set_option maxHeartbeats 8000000 in
theorem rready_any {F : Nat → Prop} {W : World} (hF : ∀ b, W.heap.size ≤ b → F b) (w h : Nat) (hd : 1 ≤ w ∧ w ≤ 500 ∧ 1 ≤ h ∧ h ≤ 500) {v : Value} {s : List UInt8} (hs : HA W v s) (hl : s.length ≤ 1000000) :
    Calls Tryz.prog 7 #[.int .i64 w, .int .i64 h, v] W (WPost F (readyT w h s) W) := by
 have CN := Lib.hid (fun (X : World) (bX : Below W.heap.size W X) (_ : W.heap.size < X.heap.size) => rtnew_ok (F := fun b => F b ∧ b ≠ W.heap.size) (W := X) (fun b hb => ⟨hF b (by have := bX.size; omega), by omega⟩) w h hd)
 have k0 : Hid (TOk (TS.new w h)) := Lib.hid (TOk.new hd.1 hd.2.1 hd.2.2.1 hd.2.2.2)
 have hn1 : OneV (.slice none 0 0) := rfl
 obtain ⟨av, cv, rfl⟩ := hs.slice
 have HS := Lib.hid hs
 clear hd hs
 go_enter Tryz.func7, Tryz.ntmps7
 go_upto_region 0 with (fail)
 go_cut [6] (fun u wx => u = .pointer (some ⟨W.heap.size, 0, none⟩) ∧ TBx wx W.heap.size zCells ∧ Below W.heap.size W wx)
 case first =>
  have FIN : Hid (TBx (W.alloc (.cells zCells 34)) W.heap.size zCells ∧ Below W.heap.size W (W.alloc (.cells zCells 34))) := Lib.hid ⟨TBx.new _ _, (Below.refl _ _).alloc (Nat.le_refl _) _⟩
  go_wp2
  go_meet
  exact ⟨rfl, FIN.out⟩
 case rest =>
  obtain ⟨rfl, p1, bX⟩ := hcut
  go_wp2_with fail
  refine (CN.out _ bX p1.lt).mono ?_
  rintro e w2 ⟨a2, c2, rfl, g2, hb2⟩
  have p2 := p1.below hb2
  have b2 := bto bX hb2 bX.size
  have pn : TBx (w2.alloc (.cells zCells 34)) w2.heap.size zCells := TBx.new _ _
  have bz : Below w2.heap.size w2 (w2.alloc (.cells zCells 34)) := (Below.refl _ _).alloc (Nat.le_refl _) _
  have hlt := p2.lt
  dsimp only at g2
  go_upto_region 2 with (refine wpList_tstore rfl _ _ rfl w2.heap.size rfl (tCells a2 c2 (TS.new w h) (.slice none 0 0)) rfl zCells ?_ rfl rfl (tCells_one _ _ _ hn1) ?_; exact pn; intro V p6 o6)
  have bV : Below w2.heap.size w2 V := bz.trans (o6.below (by simp) bz.size)
  have gV := (g2.mono (F' := fun b => F b ∧ b ≠ W.heap.size ∧ b ≠ w2.heap.size) (fun b hb hlt => ⟨hb.1, hb.2, by omega⟩)).below bV
  have p4 := p2.below bV
  have hvs := bV.size
  have bWV := bto b2 bV b2.size
  have hp6 := p6.lt
  have CW := rwrite_any (W := V) (F := fun b => F b ∧ b ≠ W.heap.size ∧ b ≠ w2.heap.size) (fun b hb => ⟨hF b (by have := bWV.size; omega), by omega, by omega⟩) (bv := .slice none 0 0) (l := []) (.inl ⟨rfl, rfl⟩) (HS.out.below bWV) k0.out (by simp; omega) (by show 0 + 10000000 < _; omega) (by show 0 + 10000000 < _; omega) gV
  rw [List.nil_append] at CW
  have k1 := k0.out.run s
  obtain ⟨n1, n2⟩ := runT_cntG (TS.new w h) s
  have n3 := run_waits s.length (TS.new w h) s (Nat.le_refl _)
  have HRD : Hid (readyT w h s = runT (runT (TS.new w h) s).1 ((runT (TS.new w h) s).2 ++ [24])) := Lib.hid rfl
  obtain ⟨x, hx⟩ : ∃ x, x = runT (TS.new w h) s := ⟨_, rfl⟩
  rw [← hx] at CW k1 n1 n2 n3 HRD
  have n1' : x.1.bells ≤ 1000000 := Nat.le_trans n1 (by show 0 + s.length ≤ _; omega)
  have n2' : x.1.gone ≤ 1000000 := Nat.le_trans n2 (by show 0 + s.length ≤ _; omega)
  have CW := Lib.hid CW
  have K1 := Lib.hid k1
  clear CN gV g2 p1 p2 pn hx n1 n2 k1
  go_upto_region 3 with (first
   | (refine wpList_tload rfl _ rfl w2.heap.size rfl (tCells a2 c2 (TS.new w h) (.slice none 0 0)) ?_ rfl ?_; exact p6)
   | (go_at_call 9; refine (CW.out).mono ?_; rintro e w7 ⟨a7, c7, bv, rfl, g7, hb7, hbb7⟩; have p7 := p6.below hbb7)
   | (refine wpList_tstore rfl _ _ rfl w2.heap.size rfl (tCells a7 c7 x.1 bv) rfl (tCells a2 c2 (TS.new w h) (.slice none 0 0)) ?_ rfl rfl (tCells_one _ _ _ hb7.one) ?_; exact p7; intro w8 p8 o8))
  have g8 := g7.keep o8.size (fun b hb hlt => o8.block b hlt (by simpa using hb.2.2))
  have hb8 := hb7.keep o8.size (fun b hb hlt => o8.block b hlt (by simpa using hb.2.2))
  have p48 : TBx w8 W.heap.size zCells := (p4.below hbb7).only o8 (by simp; omega)
  have b7 := bto bWV hbb7 bWV.size
  have b8 := b7.trans (o8.below (by simp; omega) b7.size)
  have bB : Below w8.heap.size w8 (w8.alloc (.cells #[.int .u8 24] 5)) := (Below.refl _ _).alloc (Nat.le_refl _) _
  have hBy : Bys (w8.alloc (.cells #[.int .u8 24] 5)) w8.heap.size 0 [24] := ⟨by simp, fun j hj => by
   obtain rfl : j = 0 := by simpa using hj
   rw [cell_of_row _ _ _ _ _ _ (World.alloc_heap_new w8 _)]
   rfl⟩
  obtain ⟨X, hX⟩ : ∃ X, w8.alloc (.cells #[.int .u8 24] 5) = X := ⟨_, rfl⟩
  rw [hX] at bB hBy
  have pX := p8.below bB
  have p4X := p48.below bB
  have bWX := bto b8 bB b8.size
  have hFX : ∀ b, X.heap.size ≤ b → F b ∧ b ≠ W.heap.size := fun b hb => ⟨hF b (by have := bWX.size; omega), by have := bWX.size; have := bB.size; have := p48.lt; omega⟩
  have hHA : HA X (.slice (some ⟨w8.heap.size, 0, none⟩) 1 1) [24] := .inl (.inr ⟨w8.heap.size, 0, 1, 1, rfl, rfl, ⟨Nat.le_refl _, by unfold maxLen; omega⟩, hBy, trivial⟩)
  have CW2 := rwrite_any hFX (bv := bv) (l := x.2) ((hb8.mono (F' := fun b => F b ∧ b ≠ W.heap.size) (fun b hb _ => ⟨hb.1, hb.2.1⟩)).below bB) hHA K1.out (by simp; omega) (by omega) (by omega) ((g8.mono (F' := fun b => F b ∧ b ≠ W.heap.size) (fun b hb _ => ⟨hb.1, hb.2.1⟩)).below bB)
  rw [← HRD.out] at CW2
  have CW2 := Lib.hid CW2
  clear g8 hb8 g7 hBy hHA p48 p4
  go_wp2_with (first
   | (refine wpList_tload rfl _ rfl w2.heap.size rfl (tCells a7 c7 x.1 bv) ?_ rfl ?_; exact p8)
   | (refine wpList_tload rfl _ rfl w2.heap.size rfl (tCells a7 c7 x.1 bv) ?_ rfl ?_; exact pX)
   | (go_at_call 9; refine (CW2.out).mono ?_; rintro e w9 ⟨a9, c9, bv9, rfl, g9, hb9, hbb9⟩; have p9 := p4X.below hbb9)
   | (refine wpList_tstore rfl _ _ rfl W.heap.size rfl (tCells a9 c9 (readyT w h s).1 bv9) rfl zCells ?_ rfl rfl (tCells_one _ _ _ hb9.one) ?_; exact p9; intro w10 p10 o10))
  refine tret rfl rfl p10 rfl ?_
  have b9 := bto bWX hbb9 bWX.size
  exact ⟨a9, c9, bv9, rfl, (g9.keep o10.size (fun b hb hlt => o10.block b hlt (by simpa using hb.2))).mono (fun b hb _ => hb.1), (hb9.keep o10.size (fun b hb hlt => o10.block b hlt (by simpa using hb.2))).mono (fun b hb _ => hb.1), b9.trans (o10.below (by simp) b9.size)⟩
end Go.Proofs.YtjkajojjehgmdaaGreat
namespace Go.Proofs.YtjkajojjehgmdaaGreat
open Go.RowKit Go.Maps
def Dim (t u : TS) : Prop := u.W = t.W ∧ u.H = t.H
theorem Dim.refl (t : TS) : Dim t t := ⟨rfl, rfl⟩
theorem Dim.trans {t u v : TS} (h : Dim t u) (k : Dim u v) : Dim t v := ⟨k.1.trans h.1, k.2.trans h.2⟩
theorem dim_feed (t : TS) : Dim t t.feed := ⟨t.feed_dims.1, t.feed_dims.2.1⟩
theorem dim_room (t : TS) (w : Int) : Dim t (t.room w) := by
 unfold TS.room
 split
 ·exact (show Dim t { t with col := 0 } from ⟨rfl, rfl⟩).trans (dim_feed _)
 ·exact Dim.refl _
theorem dim_rune (t : TS) (r : Nat) : Dim t (t.rune r) := by
 unfold TS.rune
 split
 ·unfold TS.print
  split
  ·exact ⟨rfl, rfl⟩
  ·exact (dim_room t (colsB r)).trans ⟨rfl, rfl⟩
 ·split
  ·split <;> exact ⟨rfl, rfl⟩
  ·exact ⟨rfl, rfl⟩
theorem dim_control (t : TS) (c : Nat) : Dim t (t.control c) := by
 unfold TS.control
 repeat' split
 all_goals first
  | exact ⟨rfl, rfl⟩
  | exact (show Dim t t.off from ⟨rfl, rfl⟩).trans (dim_feed _)
theorem dim_erased (t : TS) (n : Nat) (line : Bool) : Dim t (t.erased n line) := by
 unfold TS.erased
 repeat' split
 all_goals exact ⟨rfl, rfl⟩
theorem dim_plain (t : TS) (l : List Nat) (e : Nat) : Dim t (t.plain l e) := by
 unfold TS.plain
 dsimp only
 repeat' split
 all_goals first
  | exact ⟨rfl, rfl⟩
  | exact dim_erased _ _ _
theorem dim_mode (t : TS) (on : Bool) (n : Nat) : Dim t (t.mode on n) := by
 unfold TS.mode
 repeat' split
 all_goals exact ⟨rfl, rfl⟩
theorem dim_modes (t : TS) (l : List Nat) (e : Nat) : Dim t (t.modes l e) := by
 unfold TS.modes
 split
 ·have : ∀ (l : List Nat) (t : TS), Dim t (l.foldl (fun t n => t.mode (decide (e = 104)) n) t) := by
   intro l
   induction l with
   | nil => intro t; exact Dim.refl _
   | cons n l ih => intro t; exact (dim_mode t _ n).trans (ih _)
  exact this l t
 ·exact Dim.refl _
theorem dim_obey (t : TS) (b : List UInt8) (e : Nat) : Dim t (t.obey b e) := by
 unfold TS.obey
 repeat' split
 all_goals first
  | exact dim_plain _ _ _
  | exact dim_modes _ _ _
  | exact Dim.refl _
theorem dim_first (t : TS) (b : List UInt8) : Dim t (t.first b).1 := by
 have hoff : Dim t t.off := ⟨rfl, rfl⟩
 unfold TS.first TS.seq
 dsimp only
 repeat' split
 all_goals first
  | exact Dim.refl _
  | exact hoff
  | exact hoff.trans (dim_obey _ _ _)
  | exact dim_control _ _
  | exact dim_rune _ _
theorem dim_runF : ∀ (n : Nat) (t : TS) (b : List UInt8), Dim t (runF n t b).1
 | 0, t, _ => Dim.refl t
 | n + 1, t, b => by
  unfold runF
  split
  ·exact Dim.refl _
  ·exact (dim_first t b).trans (dim_runF n _ _)
theorem dim_run (t : TS) (b : List UInt8) : Dim t (runT t b).1 := dim_runF _ _ _
theorem ready_dims (w h : Nat) (s : List UInt8) (hs : s.length ≤ 1000000) : (readyT w h s).1.W = w ∧ (readyT w h s).1.H = h ∧ (readyT w h s).1.gone ≤ 2000000 ∧ (readyT w h s).1.bells ≤ 2000000 := by
 have e : readyT w h s = runT (TS.new w h) (s ++ [24]) := (run_pieces _ _ _).symm
 rw [e]
 obtain ⟨h1, h2⟩ := dim_run (TS.new w h) (s ++ [24])
 obtain ⟨h3, h4⟩ := runT_cntG (TS.new w h) (s ++ [24])
 rw [List.length_append, List.length_singleton] at h3 h4
 exact ⟨h1, h2, by have : (TS.new w h).gone = 0 := rfl; omega, by have : (TS.new w h).bells = 0 := rfl; omega⟩
def TS.core (t : TS) : TS := { t with last := false, lrow := 0, lcol := 0 }
def layT (t : TS) (top : Nat) (L : List (List GC)) (b : Nat) : TS :=
 { t with
   R := (t.R.take top ++ L ++ List.replicate b (blR t.W)).drop (top + L.length + b - t.H) ++ List.replicate (t.H - (top + L.length + b - (top + L.length + b - t.H))) (blR t.W)
   row := top + L.length - (top + L.length + b - t.H)
   col := 0
   pend := false
   y := Sy.zero
   seen := true
   last := false
   gone := t.gone + (top + L.length + b - t.H) }
def reserveB (n : Nat) : List UInt8 := [13] ++ (belowB ++ (List.replicate (n - 1) 10 ++ byL ((n : Int) - 1) 65))
def usualB : List UInt8 := [27, 91, 48, 109]
theorem run_usual (t : TS) (x : List UInt8) : runT t (usualB ++ x) = runT { t with y := Sy.zero, last := false } x := by
 have h1 := run_csi t [48] x 109 (fun c h => by rw [List.mem_singleton.1 h]; decide) (by decide) (by decide)
 rw [show ([27, 91] ++ [48] ++ [109] ++ x : List UInt8) = usualB ++ x from rfl] at h1
 rw [h1]
 rfl
theorem run_top {t : TS} (k : TOk t) (n : Nat) (hn : n ≤ 9000) (x : List UInt8) : runT t (byL n 65 ++ ([13] ++ x)) = runT ({ t with row := t.row - n, col := 0, pend := false, last := false } : TS) x := by
 by_cases h0 : n = 0
 ·subst h0
  rw [byL_0 (by decide), List.nil_append, run_cr]
  rfl
 ·rw [run_by t (by omega) (by omega) 65 (by decide), run_cr]
  congr 1
  have e : t.off.plain [((n : Int)).toNat] (65 : UInt8).toNat = t.off.moved ((t.row : Int) - n) t.col := by
   show t.off.moved ((t.row : Int) - max 1 ((((n : Int)).toNat : Nat) : Int)) t.col = _
   rw [show max 1 ((((n : Int)).toNat : Nat) : Int) = (n : Int) by omega]
  rw [e]
  have hr := k.row
  unfold TS.moved TS.off TS.at_
  show ({ t with last := false, row := _, col := 0, pend := false } : TS) = _
  congr 1
  show (max 0 (min ((t.row : Int) - n) ((t.H : Int) - 1))).toNat = t.row - n
  omega
theorem top_ok {t : TS} (k : TOk t) (n : Nat) : TOk ({ t with row := t.row - n, col := 0, pend := false, last := false } : TS) :=
 { w1 := k.w1, w2 := k.w2, h1 := k.h1, h2 := k.h2, ok := k.ok, ro := k.ro, row := Nat.lt_of_le_of_lt (Nat.sub_le _ _) k.row, col := k.w1, pe := fun h => by cases h }
theorem take_len {t : TS} (k : TOk t) {top : Nat} (h : top < t.H) : (t.R.take top).length = top := by
 rw [List.length_take, k.ok.n]; omega
theorem vr_below {t : TS} (k : TOk t) (hy : t.y = Sy.zero) {top : Nat} (hr : t.row = top) (hc : t.col = 0) (hp : t.pend = false) :
    ∃ u, (∀ x, runT t (belowB ++ x) = runT u x) ∧ Vr t (t.R.take top ++ [blR t.W]) u ∧ u.col = 0 ∧ u.pend = false := by
 have hrow := k.row
 have htl := take_len k (top := top) (by omega)
 have hk := k.run belowB
 have h0 := run_below k hc []
 rw [List.append_nil] at h0
 have e0 : ∀ u : TS, runT u [] = (u, []) := fun _ => rfl
 rw [h0, e0] at hk
 refine ⟨_, fun x => run_below k hc x, { k := hk, W := rfl, H := rfl, R := ?_, row := ?_, y := hy, gone := ?_, seen := rfl, marked := rfl, bells := rfl }, hc, hp⟩
 ·show t.R.take t.row ++ List.replicate (t.H - t.row) (blR t.W) = _
  rw [List.length_append, List.length_singleton, htl, show top + 1 - t.H = 0 by omega, List.drop_zero, hr, List.append_assoc]
  congr 1
  rw [show t.H - top = (t.H - (top + 1 - 0)) + 1 by omega, List.replicate_succ]
  rfl
 ·show t.row + _ + 1 = _
  rw [List.length_append, List.length_singleton, htl]; omega
 ·show t.gone = _
  rw [List.length_append, List.length_singleton, htl]; omega
theorem Vr.below {t0 t : TS} {V : List (List GC)} (v : Vr t0 (V ++ [blR t0.W]) t) (hc : t.col = 0) : ∀ x, runT t (belowB ++ x) = runT t.off x := fun x => by
 rw [run_below v.k hc]
 congr 1
 obtain ⟨B, h1, h2, h3, h4, h5⟩ := v.split
 have hr := v.k.row
 have hH := v.H
 have e : t.R.take t.row ++ List.replicate (t.H - t.row) (blR t.W) = t.R := by
  rw [h1, h2, List.take_append_of_le_length (Nat.le_refl _), List.take_length, v.W]
  congr 1
  rw [hH, h3, h4, show t0.H - (V.length - (V.length + 1 - t0.H)) = (t0.H - (V.length + 1 - (V.length + 1 - t0.H))) + 1 by omega, List.replicate_succ]
  rfl
 rw [e]
 rfl
theorem vr_band {t0 t : TS} {V : List (List GC)} {n : Nat} (hn : 1 ≤ n) (hn2 : n ≤ 9000) (hnH : n ≤ t0.H) (v : Vr t0 (V ++ [blR t0.W]) t) (hc : t.col = 0) (hp : t.pend = false) :
    ∃ u, (∀ x, runT t (List.replicate (n - 1) 10 ++ byL ((n : Int) - 1) 65 ++ x) = runT u x) ∧ u.core = ({ t0 with R := (V ++ List.replicate n (blR t0.W)).drop (V.length + n - t0.H) ++ List.replicate (t0.H - (V.length + n - (V.length + n - t0.H))) (blR t0.W), row := V.length - (V.length + n - t0.H), col := 0, pend := false, y := Sy.zero, gone := t0.gone + (V.length + n - t0.H) } : TS).core := by
 obtain ⟨a, a1, a2, a3, a4⟩ := Vr.lfs (n - 1) t _ v hp
 have eV : V ++ [blR t0.W] ++ List.replicate (n - 1) (blR t0.W) = V ++ List.replicate n (blR t0.W) := by
  rw [List.append_assoc, show [blR t0.W] ++ List.replicate (n - 1) (blR t0.W) = List.replicate n (blR t0.W) by
   obtain ⟨m, rfl⟩ : ∃ m, n = m + 1 := ⟨n - 1, by omega⟩
   rw [List.replicate_succ]; rfl]
 rw [eV] at a2
 have hlen : (V ++ List.replicate n (blR t0.W)).length = V.length + n := by simp
 obtain ⟨u, u1, u2⟩ : ∃ u, (∀ x, runT a (byL ((n : Int) - 1) 65 ++ x) = runT u x) ∧ u.core = ({ a with row := a.row - (n - 1), pend := false } : TS).core := by
  refine ⟨({ a with row := a.row - (n - 1), pend := false, last := if n - 1 = 0 then a.last else false, lrow := a.lrow, lcol := a.lcol } : TS), fun x => ?_, rfl⟩
  by_cases h0 : n - 1 = 0
  ·rw [byL_0 (by omega), List.nil_append]
   congr 1
   rw [if_pos h0, show a.row - (n - 1) = a.row by omega, ← a4]
  ·rw [run_by a (by omega) (by omega) 65 (by decide)]
   congr 1
   have e : a.off.plain [((n : Int) - 1).toNat] (65 : UInt8).toNat = a.off.moved ((a.row : Int) - (n - 1)) a.col := by
    show a.off.moved ((a.row : Int) - max 1 ((((n : Int) - 1).toNat : Nat) : Int)) a.col = _
    rw [show max 1 ((((n : Int) - 1).toNat : Nat) : Int) = (n : Int) - 1 by omega]
   rw [e, if_neg h0]
   have hr := a2.k.row
   have hcc := a2.k.col
   unfold TS.moved TS.off
   show ({ a with last := false, row := _, col := _, pend := false } : TS) = _
   congr 1
   ·show (max 0 (min ((a.row : Int) - (n - 1)) ((a.H : Int) - 1))).toNat = a.row - (n - 1)
    omega
   ·show (max 0 (min ((a.col : Nat) : Int) ((a.W : Int) - 1))).toNat = a.col
    omega
 refine ⟨u, fun x => by rw [List.append_assoc, a1, u1], ?_⟩
 rw [u2]
 have hR := a2.R
 have hrow := a2.row
 have hg := a2.gone
 rw [hlen] at hR hrow hg
 unfold TS.core
 show ({ W := a.W, H := a.H, R := a.R, row := a.row - (n - 1), col := a.col, y := a.y, pend := false, seen := a.seen, marked := a.marked, last := false, bells := a.bells, gone := a.gone, lrow := 0, lcol := 0 } : TS) = { W := t0.W, H := t0.H, R := _, row := V.length - (V.length + n - t0.H), col := 0, y := Sy.zero, pend := false, seen := t0.seen, marked := t0.marked, last := false, bells := t0.bells, gone := t0.gone + (V.length + n - t0.H), lrow := 0, lcol := 0 }
 rw [a2.W, a2.H, hR, a2.y, a2.seen, a2.marked, a2.bells, hg, a3, hc, show a.row - (n - 1) = V.length - (V.length + n - t0.H) by omega]
theorem core_lay {t0 : TS} {top n : Nat} {L V : List (List GC)} (hV : V = t0.R.take top ++ L) (ht : top ≤ t0.R.length) :
    ({ t0 with R := (V ++ List.replicate n (blR t0.W)).drop (V.length + n - t0.H) ++ List.replicate (t0.H - (V.length + n - (V.length + n - t0.H))) (blR t0.W), row := V.length - (V.length + n - t0.H), col := 0, pend := false, y := Sy.zero, seen := true, gone := t0.gone + (V.length + n - t0.H) } : TS).core = (layT t0 top L n).core := by
 have hl : V.length = top + L.length := by rw [hV, List.length_append, List.length_take, Nat.min_eq_left ht]
 unfold layT
 rw [hl, hV]
 rfl
def startB (n : Nat) : List UInt8 := usualB ++ (reserveB n ++ (seenB true ++ pasteB true))
theorem run_start {t : TS} (k : TOk t) {n : Nat} (hn : 1 ≤ n) (hn2 : n ≤ 9000) (hnH : n ≤ t.H) :
    ∃ u, (∀ x, runT t (startB n ++ x) = runT u x) ∧ u.core = ({ layT t t.row [] n with marked := true } : TS).core := by
 have k1 := k.run (usualB ++ [13])
 rw [run_usual, show runT ({ t with y := Sy.zero, last := false } : TS) [13] = runT ({ t with y := Sy.zero, last := false } : TS) ([13] ++ []) from rfl, run_cr, show ∀ u : TS, runT u [] = (u, []) from fun _ => rfl] at k1
 obtain ⟨t1, ht1⟩ : ∃ u, u = ({ t with y := Sy.zero, last := false } : TS).at_ t.row 0 := ⟨_, rfl⟩
 have k1 : TOk t1 := by rw [ht1]; exact k1
 have hrow : t1.row = t.row := by rw [ht1]; rfl
 have hH : t1.H = t.H := by rw [ht1]; rfl
 obtain ⟨a, a1, a2, a3, a4⟩ := vr_below k1 (by rw [ht1]; rfl) (top := t.row) hrow (by rw [ht1]; rfl) (by rw [ht1]; rfl)
 obtain ⟨u, u1, u2⟩ := vr_band hn hn2 (by rw [hH]; exact hnH) a2 a3 a4
 refine ⟨{ u with seen := true, marked := true, last := false }, fun x => ?_, ?_⟩
 ·unfold startB reserveB
  simp only [List.append_assoc]
  rw [run_usual, run_cr]
  show runT (({ t with y := Sy.zero, last := false } : TS).at_ t.row 0) _ = _
  rw [← ht1, a1]
  have := u1 (seenB true ++ (pasteB true ++ x))
  rw [List.append_assoc] at this
  rw [this, run_seen, run_paste]
 ·have h3 := core_lay (t0 := t1) (top := t.row) (n := n) (L := []) (V := t1.R.take t.row) (by rw [List.append_nil]) (by rw [k1.ok.n, hH]; exact Nat.le_of_lt k.row)
  have h4 := (congrArg (fun y : TS => { y with seen := true, marked := true }) u2)
  refine Eq.trans h4 ?_
  refine Eq.trans (congrArg (fun y : TS => { y with marked := true }) h3) ?_
  rw [ht1]
  rfl
def laidB (fr : Nat) (L : List (List (List UInt8))) (n : Nat) : List UInt8 := byL fr 65 ++ ([13] ++ (belowB ++ (linesB L ++ (reserveB n ++ seenB true))))
def endedB (fr : Nat) (L : List (List (List UInt8))) : List UInt8 := byL fr 65 ++ ([13] ++ (belowB ++ (linesB L ++ (seenB true ++ pasteB false))))
theorem run_ended {t : TS} (k : TOk t) (hy : t.y = Sy.zero) {fr : Nat} (hf : fr ≤ 9000) (L : List (List (List UInt8))) (hL : ∀ C ∈ L, (∀ c ∈ C, Clu c) ∧ sumC C ≤ t.W) (hr : t.row - fr + L.length < t.H) :
    ∃ u, (∀ x, runT t (endedB fr L ++ x) = runT u x) ∧ u.core = ({ layT t (t.row - fr) (L.map (txtR t.W)) 0 with marked := false } : TS).core := by
 obtain ⟨t1, ht1⟩ : ∃ u, u = ({ t with row := t.row - fr, col := 0, pend := false, last := false } : TS) := ⟨_, rfl⟩
 have k1 : TOk t1 := by rw [ht1]; exact top_ok k fr
 have hW : t1.W = t.W := by rw [ht1]
 have hH : t1.H = t.H := by rw [ht1]
 obtain ⟨a, a1, a2, a3, a4⟩ := vr_below k1 (by rw [ht1]; exact hy) (top := t.row - fr) (by rw [ht1]) (by rw [ht1]) (by rw [ht1])
 obtain ⟨b, b1, b2, b3, b4⟩ := Vr.lines L a _ a2 a3 a4 (by rw [hW]; exact hL)
 refine ⟨{ b with seen := true, marked := false, last := false }, fun x => ?_, ?_⟩
 ·unfold endedB
  simp only [List.append_assoc]
  rw [run_top k fr hf, ← ht1, a1, b1, run_seen, run_paste]
 ·have hl : (t1.R.take (t.row - fr) ++ L.map (txtR t1.W)).length = t.row - fr + L.length := by
   rw [List.length_append, List.length_map, take_len k1 (by rw [hH]; have := k.row; omega)]
  have hR := b2.R
  have hrow := b2.row
  have hg := b2.gone
  rw [List.length_append, List.length_singleton, hl, hH, show t.row - fr + L.length + 1 - t.H = 0 by omega] at hR hrow hg
  rw [List.drop_zero, List.append_assoc, List.append_assoc] at hR
  have hR2 : b.R = t1.R.take (t.row - fr) ++ (L.map (txtR t1.W) ++ List.replicate (t.H - (t.row - fr + L.length)) (blR t1.W)) := by
   rw [hR, show t.H - (t.row - fr + L.length) = (t.H - (t.row - fr + L.length + 1 - 0)) + 1 by omega, List.replicate_succ]
   rfl
  unfold TS.core layT
  show ({ W := b.W, H := b.H, R := b.R, row := b.row, col := b.col, y := b.y, pend := b.pend, seen := true, marked := false, last := false, bells := b.bells, gone := b.gone, lrow := 0, lcol := 0 } : TS) = _
  rw [hR2, b2.W, b2.H, b2.y, b2.bells, hg, b3, b4, show b.row = t.row - fr + L.length by omega]
  simp only [List.length_map, Nat.add_zero, show t.row - fr + L.length - t.H = 0 by omega, List.replicate_zero, List.append_nil, List.drop_zero, Nat.sub_zero, List.append_assoc]
  rw [ht1]
theorem run_drawn {A B : List (List GC)} {r1 k1 r2 k2 : Int} {s1 s2 : Bool} (h : fitF A r1 k1 B r2 k2 = true) {t : TS} (k : TOk t) (hW : t.W = (nth [] B 0).length) {Pre Post : List (List GC)} (hR : t.R = Pre ++ (A ++ Post)) (hrow : t.row = Pre.length + r1.toNat) (hcol : t.col = k1.toNat) (hp : t.pend = false) (hy : t.y = Sy.zero) (hs : t.seen = s1) :
    ∃ u, (∀ x, runT t (paintE A r1 k1 s1 B r2 k2 s2 false ++ x) = runT u x) ∧ u.core = ({ t with R := Pre ++ (B ++ Post), row := Pre.length + r2.toNat, col := k2.toNat, seen := s2 } : TS).core := by
 have TW := two_of h
 obtain ⟨okA, okB, hn, hw⟩ := fitF_pos h
 obtain ⟨p1, p2, p3, p4, p5, p6, p7, p8, _⟩ := okF_pos okA
 obtain ⟨q1, q2, q3, q4, q5, q6, q7, q8, _⟩ := okF_pos okB
 obtain ⟨w, hw'⟩ : ∃ w, w = (nth [] B 0).length := ⟨_, rfl⟩
 rw [← hw'] at TW hW
 have hol := onsL_length hn
 obtain ⟨u, u1, u2, u3, u4, u5, u6, u7, u8⟩ := run_paint (A := A) (B := B) (ons := onsL A B) (w := w) (Pre := Pre) (Post := Post) hol.symm (by rw [hol, hn])
  (fun r hr => TW.ons _ (by rw [nth_eq _ _ _ hr]; exact List.getElem_mem _)) (fun r hr => by
   rw [hol] at hr
   rw [onsL_nth hn hr]
   exact TW.chg (by omega)) k hW hR (ar := r1.toNat) (ac := k1.toNat) (br := r2.toNat) (bc := k2.toNat) hrow hcol hp hy (by omega) (by omega)
 have e : paintE A r1 k1 s1 B r2 k2 s2 false = paintB w B r1.toNat k1.toNat (spansM A B) r2.toNat k2.toNat ++ (if (false || (s1 != s2)) then seenB s2 else []) := by
  unfold paintE
  rw [if_pos h, ← hw']
 rw [e]
 have hsn : u.seen = s1 := u8.seen.trans hs
 have hc : ({ u with seen := s2, last := false, lrow := 0, lcol := 0 } : TS) = ({ t with R := Pre ++ (B ++ Post), row := Pre.length + r2.toNat, col := k2.toNat, seen := s2 } : TS).core := by
  unfold TS.core
  show ({ W := u.W, H := u.H, R := u.R, row := u.row, col := u.col, y := u.y, pend := u.pend, seen := s2, marked := u.marked, last := false, bells := u.bells, gone := u.gone, lrow := 0, lcol := 0 } : TS) = { W := t.W, H := t.H, R := _, row := Pre.length + r2.toNat, col := k2.toNat, y := t.y, pend := t.pend, seen := s2, marked := t.marked, last := false, bells := t.bells, gone := t.gone, lrow := 0, lcol := 0 }
  rw [u8.W, u8.H, u3, u4, u5, u6, u7, u8.marked, u8.bells, u8.gone, hp, hy]
 cases hd : (false || (s1 != s2)) with
 | true =>
  refine ⟨{ u with seen := s2, last := false }, fun x => ?_, hc⟩
  rw [List.append_assoc, show spansM A B = spansR 0 (onsL A B) from rfl, u1, if_pos rfl, run_seen]
 | false =>
  have hs : s1 = s2 := by
   rw [Bool.or_eq_false_iff] at hd
   simpa using hd.2
  refine ⟨u, fun x => ?_, ?_⟩
  ·rw [if_neg (by decide), List.append_nil, show spansM A B = spansR 0 (onsL A B) from rfl, u1]
  ·rw [← hc]
   unfold TS.core
   rw [← hs, ← hsn]
end Go.Proofs.YtjkajojjehgmdaaGreat
namespace Go.Proofs.YtjkajojjehgmdaaGreat
open Go.RowKit Go.Shelf Go.Maps
def aw11 : TS := (readyT 4 2 [97, 13, 10, 98]).1
theorem aw11_w : (readyT 4 2 [97, 13, 10, 98]).2 = [] := by kernel_rfl
theorem aw11_f : aw11.gone = 0 ∧ aw11.bells = 0 := ⟨by kernel_rfl, by kernel_rfl⟩
def aw11s : TS := (runT aw11 (startB 2)).1
theorem aw11s_w : (runT aw11 (startB 2)).2 = [] := by kernel_rfl
theorem aw11s_f : aw11s.W = 4 ∧ aw11s.H = 2 ∧ aw11s.gone = 1 ∧ aw11s.row = 0 ∧ aw11s.marked = true ∧ S (trimL (textL (nth [] aw11s.R 0))) = S [] := ⟨by kernel_rfl, by kernel_rfl, by kernel_rfl, by kernel_rfl, by kernel_rfl, by kernel_rfl⟩
end Go.Proofs.YtjkajojjehgmdaaGreat
