/- The terminal ahead of a blank band and behind it, which have a letter each: what its bytes lead to. Plain. Spans of all rows. No condition. Spans of two frames, plain: where they begin and end; how many columns they are. No condition. The reference's Screen. No condition. -/
import Derived.Test.YtekodpcedjpnjaaGreatBs21
import Derived.Test.YtekodpcedjpnjaaGreatBs29
set_option linter.unusedVariables false
set_option linter.unusedSimpArgs false
namespace Go.Proofs.YtekodpcedjpnjaaGreat
open Go.RowKit Go.Maps
def letterR (w : Nat) (b : UInt8) : List GC := ⟨⟨#[b]⟩, 1, Sy.zero⟩ :: List.replicate (w - 1) GC.blank
def scrB : List UInt8 := [84, 27, 91, 57, 57, 57, 66, 13, 69, 27, 91, 72, 10, 13]
theorem run_lf (t : TS) (x : List UInt8) : runT t ([10] ++ x) = runT t.off.feed x := by
  have hf : t.first ([10] ++ x) = (t.off.feed, 1) := rfl
  rw [run_step _ _ (by rw [hf]; simp), hf]
  rfl
theorem blanks_cons {w : Nat} (h : 1 ≤ w) : List.replicate w GC.blank = GC.blank :: List.replicate (w - 1) GC.blank := by
  obtain ⟨k, rfl⟩ : ∃ k, w = k + 1 := ⟨w - 1, by omega⟩
  rw [List.replicate_succ]
  rfl
theorem run_letter {t : TS} (k : TOk t) (b : UInt8) (hb : wholeB [⟨⟨#[b]⟩, 1, Sy.zero⟩] = true) (hy : t.y = Sy.zero) (hc : t.col = 0) (hp : t.pend = false) (hR : nth [] t.R t.row = List.replicate t.W GC.blank) :
    ∃ u, (∀ x, runT t ([b] ++ x) = runT u x) ∧ TOk u ∧ u.R = t.R.set t.row (letterR t.W b) ∧ u.y = Sy.zero ∧ Rest t u := by
  have hw := k.w1
  obtain ⟨u, u1, u2, u3, u4, u5, u6, u7⟩ := run_cells 1 [⟨⟨#[b]⟩, 1, Sy.zero⟩] [GC.blank] [] (List.replicate (t.W - 1) GC.blank) t (Nat.le_refl _) hb (.one _ _ rfl .nil) rfl k (by rw [hy]; unfold mayS; decide) (by rw [hR, blanks_cons hw]; rfl) ⟨by rw [hc]; simp, by rw [hp]; exact (decide_eq_false (by simp; omega)).symm⟩
  refine ⟨u, fun x => ?_, u2, u3, ?_, u7⟩
  · have := u1 x
    rw [hy] at this
    rw [← this]
    have e : cellsB Sy.zero [⟨⟨#[b]⟩, 1, Sy.zero⟩] = [b] := by
      simp [cellsB, styB_self]
    rw [e]
  · rw [u5, hy]; rfl
theorem screen_run {w n : Nat} (hw : 1 ≤ w ∧ w ≤ 500) (hn : 1 ≤ n ∧ n ≤ 60) : ∃ u, runT (TS.new w (n + 2)) scrB = (u, []) ∧ TOk u ∧ u.W = w ∧ u.H = n + 2 ∧
    u.R = [letterR w 84] ++ (List.replicate n (List.replicate w GC.blank) ++ [letterR w 69]) ∧ u.row = 1 ∧ u.col = 0 ∧ u.pend = false ∧ u.y = Sy.zero ∧ u.seen = true ∧ u.marked = false ∧ u.bells = 0 ∧ u.gone = 0 := by
  have k0 : TOk (TS.new w (n + 2)) := TOk.new hw.1 hw.2 (by omega) (by omega)
  have hT : wholeB [⟨⟨#[84]⟩, 1, Sy.zero⟩] = true := by kernel_rfl
  have hE : wholeB [⟨⟨#[69]⟩, 1, Sy.zero⟩] = true := by kernel_rfl
  have hrep : List.replicate (n + 2) (List.replicate w GC.blank) = List.replicate w GC.blank :: (List.replicate n (List.replicate w GC.blank) ++ [List.replicate w GC.blank]) := by
    rw [show n + 2 = (n + 1) + 1 by omega, List.replicate_succ, List.replicate_succ']
  obtain ⟨a, a1, a2, a3, a4, a5⟩ := run_letter k0 84 hT rfl rfl rfl (by
    show nth [] (List.replicate (n + 2) (List.replicate w GC.blank)) 0 = _
    rw [hrep]; rfl)
  have aR : a.R = letterR w 84 :: (List.replicate n (List.replicate w GC.blank) ++ [List.replicate w GC.blank]) := by
    rw [a3]
    show (List.replicate (n + 2) (List.replicate w GC.blank)).set 0 (letterR w 84) = _
    rw [hrep]; rfl
  have aW : a.W = w := a5.W
  have aH : a.H = n + 2 := a5.H
  have arow : a.row = 0 := a5.row
  -- down
  have hd : ∀ x, runT a ([27, 91, 57, 57, 57, 66] ++ x) = runT (a.at_ (n + 1) a.col) x := fun x => by
    have h1 := run_dec a (n := 999) (by omega) 66 (by decide) x
    have e : ([27, 91] ++ decL 999 ++ [66] : List UInt8) = [27, 91, 57, 57, 57, 66] := by kernel_rfl
    rw [e] at h1
    rw [h1]
    congr 1
    have hcol := a2.col
    have e2 : a.off.plain [999] (66 : UInt8).toNat = a.off.moved ((a.row : Int) + 999) a.col := rfl
    rw [e2]
    unfold TS.moved TS.off TS.at_
    show ({ a with last := false, row := _, col := _, pend := false } : TS) = _
    congr 1
    · show (max 0 (min ((a.row : Int) + 999) ((a.H : Int) - 1))).toNat = n + 1
      rw [arow, aH]; omega
    · show (max 0 (min ((a.col : Nat) : Int) ((a.W : Int) - 1))).toNat = a.col
      omega
  have kb : TOk ((a.at_ (n + 1) a.col).at_ (n + 1) 0) := (a2.at_ (by rw [aH]; omega) a2.col).at_ (by show n + 1 < a.H; rw [aH]; omega) (by show 0 < a.W; rw [aW]; omega)
  obtain ⟨c, c1, c2, c3, c4, c5⟩ := run_letter kb 69 hE a4 rfl rfl (by
    show nth [] a.R (n + 1) = List.replicate a.W GC.blank
    rw [aR, aW]
    show nth [] (List.replicate n (List.replicate w GC.blank) ++ [List.replicate w GC.blank]) n = _
    have := nth_at
    unfold nth
    rw [List.getD_eq_getElem?_getD, List.getElem?_append_right (by simp)]
    simp)
  have cR : c.R = [letterR w 84] ++ (List.replicate n (List.replicate w GC.blank) ++ [letterR w 69]) := by
    rw [c3]
    show a.R.set (n + 1) (letterR a.W 69) = _
    rw [aR, aW, List.set_cons_succ, List.set_append_right _ _ (by simp)]
    simp
  have cW : c.W = w := c5.W.trans aW
  have cH : c.H = n + 2 := c5.H.trans aH
  -- home
  have hh : ∀ x, runT c ([27, 91, 72] ++ x) = runT (c.at_ 0 0) x := fun x => by
    have h1 := run_csi c [] x 72 (fun _ h => by cases h) (by decide) (by decide)
    rw [show ([27, 91] ++ [] ++ [72] ++ x : List UInt8) = [27, 91, 72] ++ x from rfl] at h1
    rw [h1]
    congr 1
    exact moved_to c 0 0 0 0 rfl rfl (by rw [cH]; omega) (by rw [cW]; omega)
  have kd : TOk (c.at_ 0 0) := c2.at_ (by rw [cH]; omega) (by rw [cW]; omega)
  have hfe : (c.at_ 0 0).off.feed = ({ c.at_ 1 0 with last := false } : TS) := by
    unfold TS.feed
    rw [if_pos (by show 0 + 1 < c.H; rw [cH]; omega)]
    rfl
  refine ⟨(c.at_ 1 0), ?_, c2.at_ (by rw [cH]; omega) (by rw [cW]; omega), cW, cH, cR, rfl, rfl, rfl, c4, c5.seen.trans a5.seen, c5.marked.trans a5.marked, c5.bells.trans a5.bells, c5.gone.trans a5.gone⟩
  rw [show scrB = [84] ++ ([27, 91, 57, 57, 57, 66] ++ ([13] ++ ([69] ++ ([27, 91, 72] ++ ([10] ++ ([13] ++ [])))))) from rfl, a1, hd, run_cr]
  have e1 : (a.at_ (n + 1) a.col).at_ (a.at_ (n + 1) a.col).row 0 = (a.at_ (n + 1) a.col).at_ (n + 1) 0 := rfl
  rw [e1, c1, hh, run_lf, hfe, run_cr]
  rfl
def onsL (A B : List (List GC)) : List (List Bool) := List.zipWith chgL A B
theorem onsL_length {A B : List (List GC)} (h : A.length = B.length) : (onsL A B).length = A.length := by
  unfold onsL; rw [List.length_zipWith]; omega
theorem onsL_nth {A B : List (List GC)} (h : A.length = B.length) {r : Nat} (hr : r < A.length) : nth [] (onsL A B) r = chgL (nth [] A r) (nth [] B r) := by
  rw [nth_eq _ _ _ (by rw [onsL_length h]; exact hr), nth_eq _ _ _ hr, nth_eq _ _ _ (by omega)]
  unfold onsL
  rw [List.getElem_zipWith]
def spansK (A B : List (List GC)) (k : Nat) : List (Nat × Nat × Nat) := spansR 0 ((onsL A B).take k)
def spansM (A B : List (List GC)) : List (Nat × Nat × Nat) := spansR 0 (onsL A B)
def rowSp (k : Nat) (on : List Bool) : List (Nat × Nat × Nat) := (spansF 0 none on).map fun s => (k, s.1, s.2)
theorem spansR_snoc (on : List Bool) : ∀ (L : List (List Bool)) (r : Nat), spansR r (L ++ [on]) = spansR r L ++ rowSp (r + L.length) on
  | [], r => by simp [spansR, rowSp]
  | x :: L, r => by
    rw [List.cons_append, spansR, spansR_snoc on L (r + 1), spansR, List.append_assoc, List.length_cons, show r + 1 + L.length = r + (L.length + 1) by omega]
theorem spansK_next {A B : List (List GC)} (h : A.length = B.length) {k : Nat} (hk : k < A.length) : spansK A B (k + 1) = spansK A B k ++ rowSp k (chgL (nth [] A k) (nth [] B k)) := by
  unfold spansK
  have hl := onsL_length h
  rw [List.take_succ_eq_append_getElem (by omega), spansR_snoc, List.length_take, ← onsL_nth h hk, nth_eq _ _ _ (by omega), Nat.zero_add, Nat.min_eq_left (by omega)]
theorem spansK_end {A B : List (List GC)} (h : A.length = B.length) : spansK A B A.length = spansM A B := by
  unfold spansK spansM
  rw [List.take_of_length_le (by rw [onsL_length h]; exact Nat.le_refl _)]
theorem spansF_count : ∀ (L : List Bool) (i : Nat) (o : Option Nat), (spansF i o L).length ≤ L.length + (if o.isSome then 1 else 0)
  | [], i, none => by simp [spansF]
  | [], i, some a => by simp [spansF]
  | true :: t, i, none => by
    have := spansF_count t (i + 1) (some i)
    simp [spansF] at this ⊢; omega
  | true :: t, i, some a => by
    have := spansF_count t (i + 1) (some a)
    simp [spansF] at this ⊢; omega
  | false :: t, i, none => by
    have := spansF_count t (i + 1) none
    simp [spansF] at this ⊢; omega
  | false :: t, i, some a => by
    have := spansF_count t (i + 1) none
    simp [spansF] at this ⊢; omega
theorem rowSp_count (k : Nat) (on : List Bool) : (rowSp k on).length ≤ on.length := by
  have := spansF_count on 0 none
  unfold rowSp
  rw [List.length_map]
  simpa using this
theorem spansK_count {A B : List (List GC)} (h : A.length = B.length) {w : Nat} (hA : ∀ r, r < A.length → (nth [] A r).length = w) (hB : ∀ r, r < B.length → (nth [] B r).length = w) : ∀ k, k ≤ A.length → (spansK A B k).length ≤ w * k
  | 0, _ => Nat.zero_le _
  | k + 1, hk => by
    have h1 := spansK_count h hA hB k (by omega)
    have h2 := rowSp_count k (chgL (nth [] A k) (nth [] B k))
    rw [chgL_length (by rw [hA k (by omega), hB k (by omega)]), hA k (by omega)] at h2
    rw [spansK_next h (by omega), List.length_append, Nat.mul_succ]
    omega
theorem sumS_app (l m : List (Nat × Nat × Nat)) : sumS (l ++ m) = sumS l + sumS m := by
  unfold sumS
  rw [List.map_append, List.sum_append]
end Go.Proofs.YtekodpcedjpnjaaGreat
namespace Go.Proofs.YtekodpcedjpnjaaGreat
open Go.RowKit Go.Maps
structure Bd (M : List GC) (a e : Nat) : Prop where
  lt : a < e
  le : e ≤ M.length
  lo : a = 0 ∨ (nth GC.zero M (a - 1)).w ≠ 2
  hi : e = M.length ∨ (nth GC.zero M (e - 1)).w ≠ 2
structure OnS (on : List Bool) (s : Nat × Nat) : Prop where
  lt : s.1 < s.2
  le : s.2 ≤ on.length
  lo : s.1 = 0 ∨ nth false on (s.1 - 1) = false
  a : nth false on s.1 = true
  hi : s.2 = on.length ∨ nth false on s.2 = false
  e : nth false on (s.2 - 1) = true
theorem spansF_bd (on : List Bool) : ∀ (n i : Nat), on.length - i ≤ n → i ≤ on.length →
    ((i = 0 ∨ nth false on (i - 1) = false) → ∀ s ∈ spansF i none (on.drop i), OnS on s) ∧
    (∀ a, a < i → (a = 0 ∨ nth false on (a - 1) = false) → nth false on a = true → nth false on (i - 1) = true → ∀ s ∈ spansF i (some a) (on.drop i), OnS on s)
  | n, i, hn, hi => by
    by_cases h : i = on.length
    · refine ⟨fun _ s hs => ?_, fun a h1 h2 h3 h4 s hs => ?_⟩
      · rw [spansF_past on i (by omega)] at hs; cases hs
      · rw [List.drop_of_length_le (by omega), spansF] at hs
        rw [List.mem_singleton.1 hs]
        exact ⟨h1, hi, h2, h3, .inl h, h4⟩
    · obtain ⟨n, rfl⟩ : ∃ k, n = k + 1 := ⟨n - 1, by omega⟩
      have ih := spansF_bd on n (i + 1) (by omega) (by omega)
      have hlt : i < on.length := by omega
      refine ⟨fun h0 s hs => ?_, fun a h1 h2 h3 h4 s hs => ?_⟩
      · cases hv : nth false on i with
        | true =>
          rw [spansF_on on i hlt hv] at hs
          exact ih.2 i (by omega) h0 hv (by simpa using hv) s hs
        | false =>
          rw [spansF_off on i hlt hv] at hs
          exact ih.1 (.inr (by simpa using hv)) s hs
      · cases hv : nth false on i with
        | true =>
          rw [spansF_more on i a hlt hv] at hs
          exact ih.2 a (by omega) h2 h3 (by simpa using hv) s hs
        | false =>
          rw [spansF_shut on i a hlt hv] at hs
          rcases List.mem_cons.1 hs with rfl | hs
          · exact ⟨h1, hi, h2, h3, .inr hv, h4⟩
          · exact ih.1 (.inr (by simpa using hv)) s hs
theorem onS_bd {A B : List GC} {on : List Bool} (c : Chg A B on) {s : Nat × Nat} (h : OnS on s) : Bd B s.1 s.2 := by
  have hl := c.lb
  have h1 := h.lt
  have h2 := h.le
  refine ⟨h.lt, by omega, ?_, ?_⟩
  · rcases h.lo with h3 | h3
    · exact .inl h3
    · by_cases h0 : s.1 = 0
      · exact .inl h0
      · right
        have := (c.cut (s.1 - 1) (by omega) (by rw [h3, show s.1 - 1 + 1 = s.1 by omega, h.a]; decide)).2
        exact this
  · rcases h.hi with h3 | h3
    · left; omega
    · by_cases h0 : s.2 = on.length
      · left; omega
      · right
        have := (c.cut (s.2 - 1) (by omega) (by rw [h.e, show s.2 - 1 + 1 = s.2 by omega, h3]; decide)).2
        exact this
theorem spansR_mem : ∀ (L : List (List Bool)) (r : Nat) (s : Nat × Nat × Nat), s ∈ spansR r L → ∃ k, k < L.length ∧ s.1 = r + k ∧ s.2 ∈ spansF 0 none (nth [] L k)
  | [], _, _, h => by cases h
  | on :: L, r, s, h => by
    rw [spansR, List.mem_append] at h
    rcases h with h | h
    · obtain ⟨x, hx, rfl⟩ := List.mem_map.1 h
      exact ⟨0, by simp, rfl, hx⟩
    · obtain ⟨k, h1, h2, h3⟩ := spansR_mem L (r + 1) s h
      exact ⟨k + 1, by simp; omega, by omega, h3⟩
structure TwoF (A B : List (List GC)) (w : Nat) : Prop where
  n : A.length = B.length
  a : ∀ M ∈ A, M.length = w ∧ wholeB M = true
  b : ∀ M ∈ B, M.length = w ∧ wholeB M = true
theorem nth_memT {R : List (List GC)} {k : Nat} (h : k < R.length) : nth [] R k ∈ R := by rw [nth_eq _ _ _ h]; exact List.getElem_mem _
theorem TwoF.chg {A B : List (List GC)} {w : Nat} (t : TwoF A B w) {k : Nat} (hk : k < B.length) : Chg (nth [] A k) (nth [] B k) (chgL (nth [] A k) (nth [] B k)) := by
  obtain ⟨h1, h2⟩ := t.a _ (nth_memT (show k < A.length by rw [t.n]; exact hk))
  obtain ⟨h3, h4⟩ := t.b _ (nth_memT hk)
  exact chgL_chg (by rw [h1, h3]) h2 h4
theorem TwoF.bd {A B : List (List GC)} {w : Nat} (t : TwoF A B w) {s : Nat × Nat × Nat} (h : s ∈ spansM A B) : s.1 < B.length ∧ Bd (nth [] B s.1) s.2.1 s.2.2 := by
  obtain ⟨k, h1, h2, h3⟩ := spansR_mem _ _ _ h
  rw [onsL_length t.n] at h1
  have hk : k < B.length := by rw [← t.n]; exact h1
  have e : s.1 = k := by omega
  rw [e]
  rw [onsL_nth t.n h1] at h3
  exact ⟨hk, onS_bd (t.chg hk) ((spansF_bd _ _ 0 (Nat.le_refl _) (Nat.zero_le _)).1 (.inl rfl) _ h3)⟩
def sumF (l : List (Nat × Nat)) : Nat := (l.map fun s => s.2 - s.1).sum
theorem spansF_sum : ∀ (L : List Bool) (i : Nat) (o : Option Nat), sumF (spansF i o L) ≤ L.length + (match o with | none => 0 | some a => i - a)
  | [], i, none => by simp [spansF, sumF]
  | [], i, some a => by simp [spansF, sumF]
  | true :: t, i, none => by
    have := spansF_sum t (i + 1) (some i)
    simp only [spansF, List.length_cons] at this ⊢; omega
  | true :: t, i, some a => by
    have := spansF_sum t (i + 1) (some a)
    simp only [spansF, List.length_cons] at this ⊢; omega
  | false :: t, i, none => by
    have := spansF_sum t (i + 1) none
    simp only [spansF, List.length_cons] at this ⊢; omega
  | false :: t, i, some a => by
    have := spansF_sum t (i + 1) none
    simp only [spansF, List.length_cons, sumF, List.map_cons, List.sum_cons] at this ⊢; omega
theorem sumS_map (r : Nat) (l : List (Nat × Nat)) : sumS (l.map fun s => (r, s.1, s.2)) = sumF l := by
  unfold sumS sumF
  rw [List.map_map]
  rfl
theorem spansR_sum : ∀ (L : List (List Bool)) (r w : Nat), (∀ on ∈ L, on.length = w) → sumS (spansR r L) ≤ w * L.length
  | [], r, w, _ => by simp [spansR, sumS]
  | on :: L, r, w, h => by
    have h1 := spansR_sum L (r + 1) w (fun x hx => h x (List.mem_cons_of_mem _ hx))
    have h2 := spansF_sum on 0 none
    have h3 := h on (List.mem_cons_self ..)
    simp only [Nat.add_zero] at h2
    rw [spansR, sumS_app, sumS_map, List.length_cons, Nat.mul_succ]
    omega
theorem TwoF.ons {A B : List (List GC)} {w : Nat} (t : TwoF A B w) : ∀ on ∈ onsL A B, on.length = w := fun on h => by
  obtain ⟨k, hk, rfl⟩ := List.getElem_of_mem h
  have hk' := hk
  rw [onsL_length t.n] at hk'
  rw [← nth_eq [] _ _ hk, onsL_nth t.n hk', chgL_length, (t.a _ (nth_memT hk')).1]
  rw [(t.a _ (nth_memT hk')).1, (t.b _ (nth_memT (by rw [← t.n]; exact hk'))).1]
theorem TwoF.sum {A B : List (List GC)} {w : Nat} (t : TwoF A B w) : sumS (spansM A B) ≤ w * A.length := by
  have := spansR_sum (onsL A B) 0 w t.ons
  rw [onsL_length t.n] at this
  exact this
theorem sumS_take (l : List (Nat × Nat × Nat)) (j : Nat) : sumS (l.take j) ≤ sumS l := by
  have := sumS_app (l.take j) (l.drop j)
  rw [List.take_append_drop] at this
  omega
end Go.Proofs.YtekodpcedjpnjaaGreat
namespace Go.Proofs.YtekodpcedjpnjaaGreat
open Go.RowKit Go.Shelf Go.Maps
set_option maxRecDepth 100000 in
set_option maxHeartbeats 8000000 in
theorem rscreen_any {F : Nat → Prop} {W : World} (hF : ∀ b, W.heap.size ≤ b → F b) (w n : Nat) (hw : 1 ≤ w ∧ w ≤ 500) (hn : 1 ≤ n ∧ n ≤ 60) :
    Calls Tryz.prog 33 #[.int .i64 w, .int .i64 n] W (WPost F (runT (TS.new w (n + 2)) scrB) W) := by
  have CN := Lib.hid (fun (X : World) (hX : W.heap.size < X.heap.size) => (rtnew_ok (F := fun b => F b ∧ b ≠ W.heap.size) (W := X) (fun b hb => ⟨hF b (by omega), by omega⟩) w (n + 2) (by omega) : Calls Tryz.prog 48 #[.int .i64 w, .int .i64 ((n : Int) + 2)] X (TPost2 (fun b => F b ∧ b ≠ W.heap.size) (TS.new w (n + 2), 0) (.slice none 0 0) X)))
  have k0 : Hid (TOk (TS.new w (n + 2))) := Lib.hid (TOk.new hw.1 hw.2 (by omega) (by omega))
  have hn1 : OneV (.slice none 0 0) := rfl
  have hnw : n ≤ 60 := hn.2
  clear hw hn
  go_enter Tryz.func33, Tryz.ntmps33
  go_upto_region 0 with (fail)
  go_cut [4] (fun u wx => u = .pointer (some ⟨W.heap.size, 0, none⟩) ∧ TBx wx W.heap.size zCells ∧ Below W.heap.size W wx)
  case first =>
    have FIN : Hid (TBx (W.alloc (.cells zCells 63)) W.heap.size zCells ∧ Below W.heap.size W (W.alloc (.cells zCells 63))) := Lib.hid ⟨TBx.new _ _, (Below.refl _ _).alloc (Nat.le_refl _) _⟩
    go_wp2
    go_meet
    exact ⟨rfl, FIN.out⟩
  case rest =>
    obtain ⟨rfl, p1, bX⟩ := hcut
    go_wp2_with fail
    refine (CN.out _ p1.lt).mono ?_
    rintro e w2 ⟨a2, c2, rfl, g2, hb2⟩
    have p2 := p1.below hb2
    have b2 := bto bX hb2 bX.size
    have pn : TBx (w2.alloc (.cells zCells 63)) w2.heap.size zCells := TBx.new _ _
    have bz : Below w2.heap.size w2 (w2.alloc (.cells zCells 63)) := (Below.refl _ _).alloc (Nat.le_refl _) _
    have g2z := g2.below bz
    have p2z := p2.below bz
    have hlt := p2.lt
    dsimp only at g2 g2z
    go_upto_region 2 with (refine wpList_tstore rfl _ _ rfl w2.heap.size rfl (tCells a2 c2 (TS.new w (n + 2)) (.slice none 0 0)) rfl zCells ?_ rfl rfl (tCells_one _ _ _ hn1) ?_; exact pn; intro V p6 o6)
    have bV : Below w2.heap.size w2 V := bz.trans (o6.below (by simp) bz.size)
    have gV := g2.below bV
    have p4 := p2.below bV
    have hvs := bV.size
    have bB : Below V.heap.size V (V.alloc (.cells (u8v scrB).toArray 5)) := (Below.refl _ _).alloc (Nat.le_refl _) _
    have hBy : Bys (V.alloc (.cells (u8v scrB).toArray 5)) V.heap.size 0 scrB := ⟨by simp, fun j hj => by
      rw [cell_of_row _ _ _ _ _ _ (World.alloc_heap_new V _), Nat.zero_add]
      unfold u8v
      rw [List.getElem?_toArray, List.getElem?_map, List.getElem?_eq_getElem hj, nth_eq _ _ _ hj]
      rfl⟩
    have eV : (u8v scrB).toArray = #[.int .u8 84, .int .u8 27, .int .u8 91, .int .u8 57, .int .u8 57, .int .u8 57, .int .u8 66, .int .u8 13, .int .u8 69, .int .u8 27, .int .u8 91, .int .u8 72, .int .u8 10, .int .u8 13] := rfl
    rw [eV] at bB hBy
    obtain ⟨X, hX⟩ : ∃ X, V.alloc (.cells #[.int .u8 84, .int .u8 27, .int .u8 91, .int .u8 57, .int .u8 57, .int .u8 57, .int .u8 66, .int .u8 13, .int .u8 69, .int .u8 27, .int .u8 91, .int .u8 72, .int .u8 10, .int .u8 13] 5) = X := ⟨_, rfl⟩
    rw [hX] at bB hBy
    have pX := p6.below bB
    have p4X := p4.below bB
    have bWX := bto (b2.trans (bV.mono (by omega))) bB (by omega)
    have hFX : ∀ b, X.heap.size ≤ b → F b ∧ b ≠ W.heap.size := fun b hb => ⟨hF b (by have := bWX.size; omega), by have := bWX.size; have := bB.size; omega⟩
    have hHA : HA X (.slice (some ⟨V.heap.size, 0, none⟩) 14 14) scrB := .inl (.inr ⟨V.heap.size, 0, 14, 14, rfl, rfl, ⟨Nat.le_refl _, by unfold maxLen; omega⟩, hBy, trivial⟩)
    have CW := rwrite_any hFX (bv := .slice none 0 0) (l := []) (.inl ⟨rfl, rfl⟩) hHA k0.out (by decide) (by show 0 + 10000000 < _; omega) (by show 0 + 10000000 < _; omega) (gV.below bB)
    rw [List.nil_append] at CW
    have CW := Lib.hid CW
    clear CN gV g2 g2z p1 p2 p4 p2z pn bz hBy hHA eV
    go_wp2_with (first
      | (refine wpList_tload rfl _ rfl w2.heap.size rfl (tCells a2 c2 (TS.new w (n + 2)) (.slice none 0 0)) ?_ rfl ?_; exact pX)
      | (go_at_call 32; refine (CW.out).mono ?_; rintro e w7 ⟨a7, c7, bv, rfl, g7, hb7, hbb7⟩; have p7 := p4X.below hbb7)
      | (refine wpList_tstore rfl _ _ rfl W.heap.size rfl (tCells a7 c7 (runT (TS.new w (n + 2)) scrB).1 bv) rfl zCells ?_ rfl rfl (tCells_one _ _ _ hb7.one) ?_; exact p7; intro w8 p8 o8))
    refine tret rfl rfl p8 rfl ?_
    have b7 := bto bWX hbb7 bWX.size
    exact ⟨a7, c7, bv, rfl, (g7.keep o8.size (fun b hb hlt => o8.block b hlt (by simpa using hb.2))).mono (fun b hb _ => hb.1), (hb7.keep o8.size (fun b hb hlt => o8.block b hlt (by simpa using hb.2))).mono (fun b hb _ => hb.1), b7.trans (o8.below (by simp) b7.size)⟩
end Go.Proofs.YtekodpcedjpnjaaGreat
