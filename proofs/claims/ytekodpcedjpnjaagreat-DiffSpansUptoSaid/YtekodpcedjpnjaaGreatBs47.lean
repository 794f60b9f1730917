/- The law's frame of one row. No condition. Behind the bytes from a frame to another one a terminal that showed the first shows the other; how many bytes these are. Plain. No condition. The law's example: what its frames are. No condition. From a frame to another one and back: what a terminal shows; a frame to itself: no bytes. Plain. No condition. -/
import Derived.Test.YtekodpcedjpnjaaGreatBs31
import Derived.Test.YtekodpcedjpnjaaGreatBs32
import Derived.Test.YtekodpcedjpnjaaGreatBs46
set_option linter.unusedVariables false
set_option linter.unusedSimpArgs false
namespace Go.Proofs.YtekodpcedjpnjaaGreat
open Go.RowKit Go.Shelf Go.Maps
theorem S_subD (l : List UInt8) (a b : Nat) : (S l).extract a b = S ((l.drop a).take (b - a)) := by
  unfold S
  apply ByteArray.ext
  rw [ByteArray.data_extract]
  apply Array.ext'
  simp [List.extract]
def cellB1 (b : UInt8) : GC := ⟨⟨#[b]⟩, 1, Sy.zero⟩
set_option maxRecDepth 100000 in
set_option maxHeartbeats 4000000 in
theorem row10_any {W : World} (l : List UInt8) (hl : l.length ≤ 100) :
    Calls Tryz.prog 103 #[.string (S l)] W (FrPost [l.map cellB1] 0 0 true W) := by
  obtain ⟨i0, hi0, hz0, hz1, hz2⟩ := info_parts infoCell
  have hsz := S_size l
  have z0 : FBI (W.alloc (.cells #[.slice none 0 0, .int .i64 0, .int .i64 0, .bool false] 52)) W.heap.size (.slice none 0 0) 0 0 false := World.alloc_heap_new W _
  have b0 : Below W.heap.size W (W.alloc (.cells #[.slice none 0 0, .int .i64 0, .int .i64 0, .bool false] 52)) := (Below.refl _ _).alloc (Nat.le_refl _) _
  go_enter Tryz.func103, Tryz.ntmps103
  go_upto_region 1 with (fail)
  obtain ⟨X, hX⟩ : ∃ X, W.alloc (.cells #[.slice none 0 0, .int .i64 0, .int .i64 0, .bool false] 52) = X := ⟨_, rfl⟩
  rw [hX] at z0 b0 ⊢
  clear hX
  go_wp2
  go_loopw [3, 4] (fun v i wr => ∃ k : Nat, k ≤ l.length ∧ i = .int .i64 k ∧ wr.ownsRow X.heap.size 171 7 v k (flatV ((l.take k).map cellB1)) ∧ Below X.heap.size X wr) (fun _ i _ => l.length - (intOf i).toNat)
  case atStart => exact ⟨0, Nat.zero_le _, rfl, World.ownsRow_nil _ _ _ _, Below.refl _ _⟩
  case round =>
    obtain ⟨k, hk, rfl, hown, hb⟩ := hrel
    obtain ⟨av, cv, rfl⟩ := own_sliceF hown
    have hs := hb.size
    by_cases hlt : k < l.length
    · have hsl : (Instr.slice 9 (.string (S l)) (some (.int .i64 k)) (some (.int .i64 ((k : Int) + 1))) none).run Tryz.prog wr = .ok (.string ⟨#[nth 0 l k]⟩) wr := by
        rw [run_slice_string (P := Tryz.prog) wr 9 (S l) .i64 .i64 k ((k : Int) + 1) Tryz.underlying9 (by omega) (by omega) (by rw [hsz]; omega)]
        congr 2
        rw [S_subD]
        have : ((l.drop ((k : Int)).toNat).take (((k : Int) + 1).toNat - ((k : Int)).toNat)) = [nth 0 l k] := by
          rw [show ((k : Int)).toNat = k by omega, show ((k : Int) + 1).toNat - k = 1 by omega, List.drop_eq_getElem_cons hlt, nth_eq _ _ _ hlt]
          rfl
        rw [this]
        rfl
      have g1 := GBlk.made wr [cellB1 (nth 0 l k)]
      have HSN : Hid (flatV ((l.take (k + 1)).map cellB1) = flatV ((l.take k).map cellB1) ++ flatV [cellB1 (nth 0 l k)]) := Lib.hid (by rw [List.take_succ_eq_append_getElem hlt, List.map_append, flatV_append, nth_eq _ _ _ hlt]; rfl)
      have hki : (k : Int) < (l.length : Int) := by omega
      go_wp2_with (at_builtin; refine wpList_append_own_at _ rfl _ _ 60 rfl X.heap.size 171 i0 GC.zero.v 7 48 Tryz.underlying60 hi0 hz0 hz1 hz2 rfl (by decide) _ _ _ rfl (hown.alloc _) ⟨wr.heap.size, 0, none⟩ 1 1 (flatV [cellB1 (nth 0 l k)]) rfl rfl g1.news (flatV_one _) (by unfold maxLen; omega) (by omega) (by simp; omega) ?_; intro v' w1 hown' hgrow _ _)
      have hB1 : Below X.heap.size wr w1 := ((Below.refl X.heap.size wr).alloc (by omega) _).grown hgrow (by simp; omega) (fun k e => (own_cells hown k e).1)
      go_roundw
      case rel => exact ⟨k + 1, hlt, by go_num, by rw [HSN.out]; exact hown', hb.trans hB1⟩
      case measure => simp [intOf]; omega
    · obtain rfl : k = l.length := by omega
      rw [List.take_length] at hown
      obtain ⟨hC, hc1, hc2⟩ := CellsAt.of_own (by rw [List.length_map]) hown
      have zr := z0.below hb
      have hzr := zr.lt
      have hbW := bto b0 hb b0.size
      have bN : Below wr.heap.size wr (wr.alloc (.cells #[.slice av l.length cv] 60)) := (Below.refl _ _).alloc (Nat.le_refl _) _
      have zN := zr.below bN
      have cN : (wr.alloc (.cells #[.slice av l.length cv] 60)).cell? ⟨wr.heap.size, 0, none⟩ = some (.slice av l.length cv) := (cell_new_l wr _ _).1
      have hRN : RowsAt (wr.alloc (.cells #[.slice av l.length cv] 60)) (some ⟨wr.heap.size, 0, none⟩) 1 [l.map cellB1] := ⟨rfl, fun i M hi => by
        cases i with
        | zero =>
          simp only [List.getElem?_cons_zero, Option.some.injEq] at hi
          subst hi
          refine ⟨wr.heap.size, 0, av, cv, rfl, by simp, by rw [List.length_map]; exact cN, by rw [List.length_map]; exact ⟨hc1, hc2⟩, ?_⟩
          rw [List.length_map]
          exact hC.below bN
        | succ i => simp at hi⟩
      obtain ⟨V, hV⟩ : ∃ V, wr.alloc (.cells #[.slice av l.length cv] 60) = V := ⟨_, rfl⟩
      rw [hV] at zN hRN bN
      have HV := Lib.hid hV
      obtain ⟨Y, hY⟩ : ∃ Y, (((V.setCell ⟨W.heap.size, 0, none⟩ (.slice (some ⟨wr.heap.size, 0, none⟩) 1 1)).setCell ⟨W.heap.size, 1, none⟩ (.int .i64 0)).setCell ⟨W.heap.size, 2, none⟩ (.int .i64 0)).setCell ⟨W.heap.size, 3, none⟩ (.bool true) = Y := ⟨_, rfl⟩
      obtain ⟨zY, oY⟩ := zN.fill (.slice (some ⟨wr.heap.size, 0, none⟩) 1 1) 0 0 true Y hY
      have HZB := Lib.hid (show Y.heap[W.heap.size]? = some (.cells #[.slice (some ⟨wr.heap.size, 0, none⟩) 1 1, .int .i64 0, .int .i64 0, .bool true] 52 (0, 0)) from zY)
      have HY := Lib.hid hY
      obtain ⟨u0, u1, u2, u3⟩ := zN.cells
      have f0 := zN.froz 0
      have f1 := zN.froz 1
      have f2 := zN.froz 2
      have f3 := zN.froz 3
      have FIN : Hid (RowsAt Y (some ⟨wr.heap.size, 0, none⟩) 1 [l.map cellB1] ∧ Below W.heap.size W Y) := Lib.hid (by
        have hbV := bto hbW bN hbW.size
        refine ⟨?_, hbV.trans (oY.below (by simp) hbV.size)⟩
        refine ⟨rfl, fun i M hi => ?_⟩
        obtain ⟨b, off, a2, c2, e1, e2, e3, e4, e5⟩ := hRN.at_ i M hi
        obtain rfl : i = 0 := by
          cases i with
          | zero => rfl
          | succ i => simp at hi
        simp only [Option.some.injEq, Addr.mk.injEq, and_true] at e1
        obtain ⟨rfl, rfl⟩ := e1
        refine ⟨_, _, a2, c2, rfl, Nat.lt_of_lt_of_le e2 oY.size, (cellB (oY.block _ e2 (by simp; omega))).trans e3, e4, e5.len, fun k x hk => ?_⟩
        obtain ⟨b', o', f1, f2, f3⟩ := e5.at_ k x hk
        have hbF' : b' ≠ W.heap.size := fun e => by
          subst e
          have := f3 0 (.string x.s) rfl
          rcases zN.at_ this with h | h | h | h <;> cases h
        exact ⟨b', o', f1, Nat.lt_of_lt_of_le f2 oY.size, fun j v hv => (cellB (oY.block b' f2 (by simp; exact hbF'))).trans (f3 j v hv)⟩)
      clear hY zY oY zN zr hRN bN hC hown hbW
      go_wp2
      rw [HY.out]
      refine bodyPost_ret (results_cell_row rfl _ _ W.heap.size 52 _ (0, 0) _ rfl HZB.out Tryz.underlying52 rfl (by kernel_rfl)) rfl ?_
      exact ⟨some ⟨wr.heap.size, 0, none⟩, 1, rfl, FIN.out.1, ⟨Nat.le_refl _, by unfold maxLen; omega⟩, FIN.out.2⟩
end Go.Proofs.YtekodpcedjpnjaaGreat
namespace Go.Proofs.YtekodpcedjpnjaaGreat
open Go.RowKit Go.Maps
structure Shw (w n : Nat) (R : List (List GC)) (r c : Nat) (s : Bool) (t : TS) : Prop where
  k : TOk t
  W : t.W = w
  H : t.H = n + 2
  R : t.R = [letterR w 84] ++ (R ++ [letterR w 69])
  row : t.row = 1 + r
  col : t.col = c
  pend : t.pend = false
  y : t.y = Sy.zero
  seen : t.seen = s
  marked : t.marked = false
  bells : t.bells = 0
  gone : t.gone = 0
theorem shw_screen {w n : Nat} (hw : 1 ≤ w ∧ w ≤ 500) (hn : 1 ≤ n ∧ n ≤ 60) : (runT (TS.new w (n + 2)) scrB).2 = [] ∧ Shw w n (blankM w n) 0 0 true (runT (TS.new w (n + 2)) scrB).1 := by
  obtain ⟨u, e, h1, h2, h3, h4, h5, h6, h7, h8, h9, h10, h11, h12⟩ := screen_run hw hn
  rw [e]
  exact ⟨rfl, ⟨h1, h2, h3, h4, h5, h6, h7, h8, h9, h10, h11, h12⟩⟩
theorem two_of {A B : List (List GC)} {r1 k1 r2 k2 : Int} (h : fitF A r1 k1 B r2 k2 = true) : TwoF A B (nth [] B 0).length := by
  obtain ⟨hA, hB, hn, hw⟩ := fitF_pos h
  obtain ⟨_, _, _, _, _, _, _, _, p9⟩ := okF_pos hA
  obtain ⟨_, _, _, _, _, _, _, _, q9⟩ := okF_pos hB
  rw [hw] at p9
  exact ⟨hn, p9, q9⟩
theorem shw_paint {A B : List (List GC)} {r1 k1 r2 k2 : Int} {s1 s2 al : Bool} (h : fitF A r1 k1 B r2 k2 = true) {t : TS} (ht : Shw (nth [] B 0).length B.length A r1.toNat k1.toNat s1 t) :
    ∃ u, (∀ x, runT t (paintE A r1 k1 s1 B r2 k2 s2 al ++ x) = runT u x) ∧ Shw (nth [] B 0).length B.length B r2.toNat k2.toNat s2 u := by
  have TW := two_of h
  obtain ⟨okA, okB, hn, hw⟩ := fitF_pos h
  obtain ⟨p1, p2, p3, p4, p5, p6, p7, p8, _⟩ := okF_pos okA
  obtain ⟨q1, q2, q3, q4, q5, q6, q7, q8, _⟩ := okF_pos okB
  obtain ⟨w, hw'⟩ : ∃ w, w = (nth [] B 0).length := ⟨_, rfl⟩
  rw [← hw'] at TW ht ⊢
  have hol := onsL_length hn
  obtain ⟨u, u1, u2, u3, u4, u5, u6, u7, u8⟩ := run_paint (A := A) (B := B) (ons := onsL A B) (w := w) (Pre := [letterR w 84]) (Post := [letterR w 69]) hol.symm (by rw [hol, hn])
    (fun r hr => TW.ons _ (by rw [nth_eq _ _ _ hr]; exact List.getElem_mem _)) (fun r hr => by
      rw [hol] at hr
      rw [onsL_nth hn hr]
      exact TW.chg (by omega)) ht.k ht.W ht.R (ar := r1.toNat) (ac := k1.toNat) (br := r2.toNat) (bc := k2.toNat) ht.row ht.col ht.pend ht.y (by omega) (by omega)
  have e : paintE A r1 k1 s1 B r2 k2 s2 al = paintB w B r1.toNat k1.toNat (spansM A B) r2.toNat k2.toNat ++ (if al || (s1 != s2) then seenB s2 else []) := by
    unfold paintE
    rw [if_pos h, ← hw']
  rw [e]
  have hsn : u.seen = s1 := u8.seen.trans ht.seen
  cases hd : (al || (s1 != s2)) with
  | true =>
    refine ⟨{ u with seen := s2, last := false }, fun x => ?_, ?_⟩
    · rw [List.append_assoc, show spansM A B = spansR 0 (onsL A B) from rfl, u1, if_pos rfl, run_seen]
    · exact { k := { w1 := u2.w1, w2 := u2.w2, h1 := u2.h1, h2 := u2.h2, ok := u2.ok, ro := u2.ro, row := u2.row, col := u2.col, pe := u2.pe }, W := u8.W.trans ht.W, H := u8.H.trans ht.H, R := u3, row := u4, col := u5, pend := u6, y := u7, seen := rfl, marked := u8.marked.trans ht.marked, bells := u8.bells.trans ht.bells, gone := u8.gone.trans ht.gone }
  | false =>
    have hs : s1 = s2 := by
      rw [Bool.or_eq_false_iff] at hd
      simpa using hd.2
    refine ⟨u, fun x => ?_, ?_⟩
    · rw [if_neg (by decide), List.append_nil, show spansM A B = spansR 0 (onsL A B) from rfl, u1]
    · exact { k := u2, W := u8.W.trans ht.W, H := u8.H.trans ht.H, R := u3, row := u4, col := u5, pend := u6, y := u7, seen := by rw [hsn, hs], marked := u8.marked.trans ht.marked, bells := u8.bells.trans ht.bells, gone := u8.gone.trans ht.gone }
theorem shw_run {A B : List (List GC)} {r1 k1 r2 k2 : Int} {s1 s2 al : Bool} (h : fitF A r1 k1 B r2 k2 = true) {t : TS} (ht : Shw (nth [] B 0).length B.length A r1.toNat k1.toNat s1 t) :
    (runT t (paintE A r1 k1 s1 B r2 k2 s2 al)).2 = [] ∧ Shw (nth [] B 0).length B.length B r2.toNat k2.toNat s2 (runT t (paintE A r1 k1 s1 B r2 k2 s2 al)).1 := by
  obtain ⟨u, h1, h2⟩ := shw_paint (s2 := s2) (al := al) h ht
  have := h1 []
  rw [List.append_nil] at this
  rw [this]
  exact ⟨rfl, h2⟩
theorem paintE_len {A B : List (List GC)} {r1 k1 r2 k2 : Int} {s1 s2 al : Bool} : (paintE A r1 k1 s1 B r2 k2 s2 al).length ≤ 100 * sumS (spansE A r1 k1 B r2 k2) + 41 := by
  unfold paintE spansE
  cases h : fitF A r1 k1 B r2 k2 with
  | false => simp
  | true =>
    have TW := two_of h
    rw [if_pos rfl, if_pos rfl, List.length_append]
    have h1 := paintB_len (nth [] B 0).length B (fun M hM => whole_okC (TW.b M hM).2) r1.toNat k1.toNat (spansM A B) (fun s hs => (TW.bd hs).2.lt) r2.toNat k2.toNat
    have h2 : (if al || (s1 != s2) then seenB s2 else []).length ≤ 6 := by
      split
      · cases s2 <;> decide
      · exact Nat.zero_le _
    omega
theorem spansE_sum {A B : List (List GC)} {r1 k1 r2 k2 : Int} (h : fitF A r1 k1 B r2 k2 = true) : sumS (spansE A r1 k1 B r2 k2) ≤ (nth [] B 0).length * B.length := by
  have := (two_of h).sum
  rw [(fitF_pos h).2.2.1] at this
  unfold spansE
  rw [if_pos h]
  exact this
theorem whole_shw {R : List (List GC)} {r c : Int} {s : Bool} (h : okF R r c = true) : (runT (runT (TS.new (nth [] R 0).length (R.length + 2)) scrB).1 (wholeE R r c s)).2 = [] ∧ Shw (nth [] R 0).length R.length R r.toNat c.toNat s (runT (runT (TS.new (nth [] R 0).length (R.length + 2)) scrB).1 (wholeE R r c s)).1 ∧ (wholeE R r c s).length ≤ 100 * ((nth [] R 0).length * R.length) + 60 := by
  obtain ⟨h1, h2, h3, h4, _⟩ := okF_pos h
  have hf := fit_blank h
  have hs := (shw_screen ⟨h3, h4⟩ ⟨h1, h2⟩).2
  have e : wholeE R r c s = paintE (blankM (nth [] R 0).length R.length) 0 0 true R r c s true := by unfold wholeE; rw [if_pos h]
  rw [e]
  obtain ⟨k1, k2⟩ := shw_run (s2 := s) (al := true) hf hs
  refine ⟨k1, k2, ?_⟩
  have h5 := paintE_len (A := blankM (nth [] R 0).length R.length) (B := R) (r1 := 0) (k1 := 0) (r2 := r) (k2 := c) (s1 := true) (s2 := s) (al := true)
  have h6 := spansE_sum hf
  have h7 := Nat.mul_le_mul_left 100 h6
  omega
end Go.Proofs.YtekodpcedjpnjaaGreat
namespace Go.Proofs.YtekodpcedjpnjaaGreat
open Go.RowKit Go.Shelf Go.Maps
def awA : List (List GC) := [([97, 98, 99] : List UInt8).map cellB1]
def awB : List (List GC) := [([97, 120, 99] : List UInt8).map cellB1]
theorem awA_ok : okF awA 0 0 = true := by kernel_rfl
theorem awAB_fit : fitF awA 0 0 awB 0 0 = true := by kernel_rfl
theorem awAB_sp : spansE awA 0 0 awB 0 0 = [(0, 1, 2)] := by kernel_rfl
theorem awA_small : ∀ M ∈ awA, ∀ c ∈ M, c.s.size ≤ 1100000 := by decide
theorem awB_small : ∀ M ∈ awB, ∀ c ∈ M, c.s.size ≤ 1100000 := by decide
theorem awW_len : (wholeE awA 0 0 true).length ≤ 360 := by
  have := (whole_shw (s := true) awA_ok).2.2
  exact this
theorem awD_len : 0 < (paintE awA 0 0 true awB 0 0 true false).length ∧ (paintE awA 0 0 true awB 0 0 true false).length ≤ 141 := by
  refine ⟨of_decide_eq_true (by kernel_rfl), ?_⟩
  have := paintE_len (A := awA) (r1 := 0) (k1 := 0) (s1 := true) (B := awB) (r2 := 0) (k2 := 0) (s2 := true) (al := false)
  rw [awAB_sp] at this
  exact this
end Go.Proofs.YtekodpcedjpnjaaGreat
namespace Go.Proofs.YtekodpcedjpnjaaGreat
open Go.RowKit Go.Maps
theorem sumS_ge : ∀ m : List (Nat × Nat × Nat), (∀ s ∈ m, s.2.1 < s.2.2) → m.length ≤ sumS m
  | [], _ => by simp [sumS]
  | s :: m, h => by
    have h1 := sumS_ge m (fun x hx => h x (List.mem_cons_of_mem _ hx))
    have h2 := h s (List.mem_cons_self ..)
    unfold sumS at h1 ⊢
    rw [List.map_cons, List.sum_cons, List.length_cons]
    omega
theorem spansE_ok (A B : List (List GC)) (r1 k1 r2 k2 : Int) : (∀ s ∈ spansE A r1 k1 B r2 k2, s.1 < 60 ∧ s.2.1 < s.2.2 ∧ s.2.2 ≤ 500) ∧ sumS (spansE A r1 k1 B r2 k2) ≤ 30000 ∧ (spansE A r1 k1 B r2 k2).length ≤ 30000 := by
  cases h : fitF A r1 k1 B r2 k2 with
  | false =>
    have e : spansE A r1 k1 B r2 k2 = [] := by unfold spansE; rw [h]; rfl
    rw [e]
    refine ⟨(by intro s hs; cases hs), by simp [sumS], by simp⟩
  | true =>
    have TW := two_of h
    obtain ⟨_, okB, _, _⟩ := fitF_pos h
    obtain ⟨_, q2, _, q4, _⟩ := okF_pos okB
    have h2 := spansE_sum h
    have h3 := Nat.mul_le_mul q4 q2
    have e : spansE A r1 k1 B r2 k2 = spansM A B := by unfold spansE; rw [h]; rfl
    have hb : ∀ s ∈ spansE A r1 k1 B r2 k2, s.1 < 60 ∧ s.2.1 < s.2.2 ∧ s.2.2 ≤ 500 := by
      intro s hs
      rw [e] at hs
      obtain ⟨b1, b2⟩ := TW.bd hs
      have b3 := b2.le
      have b4 := (TW.b (nth [] B s.1) (by rw [nth_eq _ _ _ b1]; exact List.getElem_mem _)).1
      exact ⟨by omega, b2.lt, by omega⟩
    have := sumS_ge _ (fun s hs => (hb s hs).2.1)
    exact ⟨hb, by omega, by omega⟩
theorem sumS_next {l : List (Nat × Nat × Nat)} {j : Nat} {s : Nat × Nat × Nat} (h : l[j]? = some s) : sumS (l.take (j + 1)) = sumS (l.take j) + (s.2.2 - s.2.1) := by
  obtain ⟨hj, rfl⟩ := List.getElem?_eq_some_iff.1 h
  rw [List.take_succ_eq_append_getElem hj]
  unfold sumS
  rw [List.map_append, List.sum_append]
  simp
end Go.Proofs.YtekodpcedjpnjaaGreat
