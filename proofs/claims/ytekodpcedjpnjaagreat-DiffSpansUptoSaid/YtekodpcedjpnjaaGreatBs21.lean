/- The reference's Colours. No condition. A terminal as plain data: a piece of a row printed anew, cell by cell. No condition. A terminal as plain data: the spans in which two frames differ, printed with a pen. No condition. A terminal as plain data: a band turned from one frame into another one; how many bytes these are. No condition. Which columns of two rows change: marks closed under the other columns of wide cells. Plain lists. No condition. -/
import Derived.Test.YtekodpcedjpnjaaGreatBs01
import Derived.Test.YtekodpcedjpnjaaGreatBs07
import Derived.Test.YtekodpcedjpnjaaGreatBs14
import Derived.Test.YtekodpcedjpnjaaGreatBs15
import Derived.Test.YtekodpcedjpnjaaGreatBs16
import Derived.Test.YtekodpcedjpnjaaGreatBs17
import Derived.Test.YtekodpcedjpnjaaGreatBs19
import Derived.Test.YtekodpcedjpnjaaGreatBs20
set_option linter.unusedVariables false
set_option linter.unusedSimpArgs false
namespace Go.Proofs.YtekodpcedjpnjaaGreat
open Go.RowKit Go.Shelf Go.Maps
set_option maxRecDepth 100000 in
theorem rcolours_any (y : Sy) (w : World) : Calls Tryz.prog 92 #[.agg #[.bool y.b, .bool y.u, .bool y.i, .int .i64 y.f, .int .i64 y.g]] w fun e w' => e = .returned (.bool (mayF y)) ∧ Below w.heap.size w w' := by
  obtain ⟨b, u, i, f, g⟩ := y
  go_enter Tryz.func92, Tryz.ntmps92
  go_wp2
  all_goals
    go_ret
    refine ⟨ret_bool ?_, (Below.refl _ _).alloc (Nat.le_refl _) _⟩
    rw [Bool.eq_iff_iff]; simp [mayF]; omega
end Go.Proofs.YtekodpcedjpnjaaGreat
namespace Go.Proofs.YtekodpcedjpnjaaGreat
open Go.RowKit Go.Maps
inductive Seg : List GC → Prop
  | nil : Seg []
  | one (c : GC) (t : List GC) : c.w = 1 → Seg t → Seg (c :: t)
  | two (c d : GC) (t : List GC) : c.w = 2 → d.w = 0 → Seg t → Seg (c :: d :: t)
theorem whole_one {c : GC} {t : List GC} (h : wholeB (c :: t) = true) : okB c = true ∧ ((c.w = 1 ∧ wholeB t = true) ∨ (c.w = 2 ∧ ∃ t', t = GC.tail c.y :: t' ∧ wholeB t' = true)) := by
  rw [wholeB_cons, Bool.and_eq_true] at h
  obtain ⟨h1, h2⟩ := h
  refine ⟨h1, ?_⟩
  by_cases hw : c.w = 1
  · rw [if_pos hw] at h2; exact .inl ⟨hw, h2⟩
  · rw [if_neg hw] at h2
    right
    have hk := h1
    unfold okB at hk
    simp only [Bool.and_eq_true, decide_eq_true_eq] at hk
    refine ⟨hk.2.1.resolve_left hw, ?_⟩
    cases t with
    | nil => cases h2
    | cons d t' =>
      unfold wholeTl at h2
      rw [Bool.and_eq_true] at h2
      exact ⟨t', by rw [(eqC_iff _ _).1 h2.1], h2.2⟩
theorem whole_ind {P : List GC → Prop} (h0 : P []) (h1 : ∀ c t, okB c = true → c.w = 1 → wholeB t = true → P t → P (c :: t)) (h2 : ∀ c t, okB c = true → c.w = 2 → wholeB t = true → P t → P (c :: GC.tail c.y :: t)) :
    ∀ (n : Nat) (M : List GC), M.length ≤ n → wholeB M = true → P M
  | _, [], _, _ => h0
  | 0, _ :: _, hl, _ => by simp at hl
  | n + 1, c :: t, hl, h => by
    obtain ⟨ho, ⟨hw, ht⟩ | ⟨hw, t', rfl, ht⟩⟩ := whole_one h
    · exact h1 c t ho hw ht (whole_ind h0 h1 h2 n t (by simpa using hl) ht)
    · exact h2 c t' ho hw ht (whole_ind h0 h1 h2 n t' (by simp at hl; omega) ht)
theorem whole_seg {M : List GC} (h : wholeB M = true) : Seg M :=
  whole_ind (P := Seg) .nil (fun c t _ hw _ ih => .one c t hw ih) (fun c t _ hw _ ih => .two c _ t hw rfl ih) M.length M (Nat.le_refl _) h
theorem okB_facts {c : GC} (h : okB c = true) : mayF c.y = true ∧ Clu c.s.data.toList ∧ colsL c.s.data.toList = c.w ∧ c.s = S c.s.data.toList ∧ c.s.size ≤ 64 := by
  unfold okB at h
  simp only [Bool.and_eq_true, decide_eq_true_eq] at h
  obtain ⟨h1, h2, h3, h4, h5⟩ := h
  have hc := isCl_clu h3
  exact ⟨h1, hc, by rw [← widthL_cluF hc]; exact h4, by simp [S], h5⟩
theorem nth_at (P X : List GC) (x : GC) : nth GC.zero (P ++ x :: X) P.length = x := by unfold nth; simp
theorem set_at' (P X : List GC) (x y : GC) : (P ++ x :: X).set P.length y = P ++ y :: X := by simp
theorem set_at1 (P X : List GC) (x z y : GC) : (P ++ x :: z :: X).set (P.length + 1) y = P ++ x :: y :: X := by
  simp
theorem wipe_seg {x : GC} {X' : List GC} (h : Seg (x :: X')) (P Q : List GC) (n : Nat) (hn : P.length + 1 + X'.length ≤ n) : ∃ X'', Seg X'' ∧ X''.length = X'.length ∧ wipeL (P ++ x :: (X' ++ Q)) 0 n P.length = P ++ GC.blank :: (X'' ++ Q) := by
  unfold wipeL
  simp only [Nat.zero_add, nth_at, set_at']
  cases h with
  | one _ _ hw ht =>
    refine ⟨X', ht, rfl, ?_⟩
    rw [if_neg (by omega), if_neg (by omega)]
  | two _ d t hw hd ht =>
    refine ⟨GC.blank :: t, .one _ _ rfl ht, rfl, ?_⟩
    rw [if_pos ⟨hw, by simp at hn; omega⟩]
    rw [List.cons_append, set_at1]
    rfl
theorem put_one {x : GC} {X' : List GC} (h : Seg (x :: X')) (P Q : List GC) (n : Nat) (hn : P.length + 1 + X'.length ≤ n) (s : ByteArray) (y : Sy) :
    ∃ X'', Seg X'' ∧ X''.length = X'.length ∧ putL (P ++ x :: (X' ++ Q)) n 0 P.length s 1 y = P ++ ⟨s, 1, y⟩ :: (X'' ++ Q) := by
  obtain ⟨X'', h1, h2, h3⟩ := wipe_seg h P Q n hn
  refine ⟨X'', h1, h2, ?_⟩
  unfold putL
  rw [if_neg (by decide), h3, Nat.zero_add, set_at']
theorem put_two {x z : GC} {X' : List GC} (h : Seg (x :: z :: X')) (P Q : List GC) (n : Nat) (hn : P.length + 2 + X'.length ≤ n) (s : ByteArray) (y : Sy) :
    ∃ X'', Seg X'' ∧ X''.length = X'.length ∧ putL (P ++ x :: z :: (X' ++ Q)) n 0 P.length s 2 y = P ++ ⟨s, 2, y⟩ :: GC.tail y :: (X'' ++ Q) := by
  obtain ⟨X1, h1, h2, h3⟩ := wipe_seg h P Q n (by simp; omega)
  rw [List.cons_append] at h3
  cases X1 with
  | nil => simp at h2
  | cons a X1 =>
    obtain ⟨X2, k1, k2, k3⟩ := wipe_seg h1 (P ++ [GC.blank]) Q n (by simp at h2 ⊢; omega)
    refine ⟨X2, k1, by simp at h2; omega, ?_⟩
    unfold putL
    rw [if_pos rfl, h3]
    have e : P ++ GC.blank :: (a :: X1 ++ Q) = P ++ [GC.blank] ++ a :: (X1 ++ Q) := by simp
    have el : P.length + 1 = (P ++ [GC.blank]).length := by simp
    rw [Nat.zero_add, Nat.zero_add, e, el, k3, set_at']
    have e2 : P ++ [GC.blank] ++ (⟨⟨#[]⟩, 0, y⟩ : GC) :: (X2 ++ Q) = P ++ GC.blank :: (⟨⟨#[]⟩, 0, y⟩ :: (X2 ++ Q)) := by simp
    rw [e2, set_at']
    rfl
def mayS (y : Sy) : Prop := 0 ≤ y.f ∧ y.f ≤ 8 ∧ 0 ≤ y.g ∧ y.g ≤ 8
theorem mayF_S {y : Sy} (h : mayF y = true) : mayS y := by
  unfold mayF at h
  have h1 := of_decide_eq_true h
  exact h1
def cellsB : Sy → List GC → List UInt8
  | _, [] => []
  | y, c :: t => if c.w = 0 then cellsB y t else styB y c.y ++ c.s.data.toList ++ cellsB c.y t
def lastY : Sy → List GC → Sy
  | y, [] => y
  | y, c :: t => if c.w = 0 then lastY y t else lastY c.y t
structure Rest (t u : TS) : Prop where
  W : u.W = t.W
  H : u.H = t.H
  row : u.row = t.row
  seen : u.seen = t.seen
  marked : u.marked = t.marked
  bells : u.bells = t.bells
  gone : u.gone = t.gone
theorem Rest.refl (t : TS) : Rest t t := ⟨rfl, rfl, rfl, rfl, rfl, rfl, rfl⟩
theorem Rest.trans {t u v : TS} (h : Rest t u) (k : Rest u v) : Rest t v := ⟨k.W.trans h.W, k.H.trans h.H, k.row.trans h.row, k.seen.trans h.seen, k.marked.trans h.marked, k.bells.trans h.bells, k.gone.trans h.gone⟩
def Col (t : TS) (k : Nat) : Prop := t.col = min k (t.W - 1) ∧ t.pend = decide (k = t.W)
theorem run_sty {t : TS} (k : TOk t) (hy : mayS t.y) (z : Sy) (hz : mayS z) : ∃ u, (∀ x, runT t (styB t.y z ++ x) = runT u x) ∧ TOk u ∧ u.y = z ∧ u.R = t.R ∧ u.col = t.col ∧ u.pend = t.pend ∧ Rest t u := by
  by_cases h : t.y = z
  · subst h
    exact ⟨t, fun x => by rw [styB_self]; rfl, k, rfl, rfl, rfl, rfl, Rest.refl _⟩
  · exact ⟨{ t with y := z, last := false }, fun x => run_style z hy hz h x, { w1 := k.w1, w2 := k.w2, h1 := k.h1, h2 := k.h2, ok := k.ok, ro := k.ro, row := k.row, col := k.col, pe := k.pe }, rfl, rfl, rfl, rfl, ⟨rfl, rfl, rfl, rfl, rfl, rfl, rfl⟩⟩
theorem clu_at {t : TS} (k : TOk t) {c : List UInt8} (hc : Clu c) {m : Nat} (hm : m < t.W) (hcol : Col t m) (hw : (m : Int) + colsL c ≤ t.W) :
    TOk (t.clu c) ∧ (t.clu c).R = t.R.set t.row (putL (nth [] t.R t.row) t.W 0 m (S c) (colsL c) t.y) ∧ Col (t.clu c) (m + (colsL c).toNat) ∧ (t.clu c).y = t.y ∧ Rest t (t.clu c) := by
  have hcb := hc.cols
  have hcl := hc.len
  obtain ⟨h1, h2⟩ := hcol
  have hp : t.pend = false := by rw [h2]; exact decide_eq_false (by omega)
  have hcm : t.col = m := by rw [h1]; omega
  have hroom : t.room (colsL c) = t := by
    unfold TS.room
    rw [hp, if_neg (by rw [Bool.false_or, decide_eq_true_eq]; omega)]
  obtain ⟨k1, k2, k3⟩ := k.clu hc (by omega)
  have hsz := S_size c
  have hne : S c ≠ ⟨#[]⟩ := fun e => by rw [e] at hsz; have : (⟨#[]⟩ : ByteArray).size = 0 := rfl; omega
  have he : putErr t.W t.H t.row t.col (S c) (colsL c) = 0 := by
    have := k.row
    unfold putErr
    rw [if_neg (by rintro (h | h | h); exact hne h; omega; omega), if_neg (by omega)]
  have eR : (t.clu c).R = putR t.W t.H t.R t.row t.col (S c) (colsL c) t.y := by unfold TS.clu; rw [hroom]; rfl
  refine ⟨k1, ?_, ⟨?_, ?_⟩, ?_, ⟨k2, k3, ?_, ?_, ?_, ?_, ?_⟩⟩
  · rw [eR]; unfold putR; rw [if_pos he]; simp only [Int.toNat_natCast]; rw [hcm]
  · rw [k2]; unfold TS.clu; rw [hroom]
    show (if (t.W : Int) ≤ t.col + colsL c then t.W - 1 else t.col + (colsL c).toNat) = _
    rw [hcm]; split <;> omega
  · rw [k2]; unfold TS.clu; rw [hroom]
    show (decide ((t.W : Int) ≤ t.col + colsL c) || t.pend) = _
    rw [hp, Bool.or_false, hcm]
    exact decide_eq_decide.2 (by omega)
  all_goals (unfold TS.clu; rw [hroom]; rfl)
theorem run_clu1 {t : TS} (k : TOk t) {c : List UInt8} (hc : Clu c) (hw : colsL c ≤ t.W) (x : List UInt8) : runT t (c ++ x) = runT (t.clu c) x := by
  have := (run_clus [c] t x k (fun z hz => by rw [List.mem_singleton.1 hz]; exact ⟨hc, hw⟩)).1
  simpa using this
theorem nth_setR (R : List (List GC)) (r : Nat) (M : List GC) (h : r < R.length) : nth [] (R.set r M) r = M := nth_set _ _ _ _ h
theorem run_cells : ∀ (n : Nat) (Y X P Q : List GC) (t : TS), Y.length ≤ n → wholeB Y = true → Seg X → X.length = Y.length → TOk t → mayS t.y → nth [] t.R t.row = P ++ (X ++ Q) → Col t P.length →
    ∃ u, (∀ x, runT t (cellsB t.y Y ++ x) = runT u x) ∧ TOk u ∧ u.R = t.R.set t.row (P ++ (Y ++ Q)) ∧ Col u (P.length + Y.length) ∧ u.y = lastY t.y Y ∧ mayS u.y ∧ Rest t u
  | _, [], X, P, Q, t, _, _, _, hl, k, hy, hR, hcol => by
    have : X = [] := List.eq_nil_of_length_eq_zero hl
    subst this
    refine ⟨t, fun x => rfl, k, ?_, hcol, rfl, hy, Rest.refl _⟩
    rw [← hR]
    have hr := k.row
    have hn := k.ok.n
    rw [nth_eq _ _ _ (by omega), List.set_getElem_self]
  | 0, _ :: _, _, _, _, _, hn, _, _, _, _, _, _, _ => by simp at hn
  | n + 1, c :: Y', X, P, Q, t, hn, hwh, hX, hl, k, hy, hR, hcol => by
    obtain ⟨ho, hw⟩ := whole_one hwh
    obtain ⟨o1, o2, o3, o4, o5⟩ := okB_facts ho
    have hwne : ¬ c.w = 0 := by rcases hw with ⟨h, _⟩ | ⟨h, _⟩ <;> omega
    have hrow := k.row
    have hRn := k.ok.n
    have hM := k.ok.at hrow
    rw [hR] at hM
    simp only [List.length_append] at hM
    obtain ⟨u, hu1, hu2, hu3, hu4, hu5, hu6, hu7⟩ := run_sty k hy c.y (mayF_S o1)
    have hnu : nth [] u.R u.row = P ++ (X ++ Q) := by rw [hu4, hu7.row]; exact hR
    have hcu : Col u P.length := by unfold Col at hcol ⊢; rw [hu5, hu6, hu7.W]; exact hcol
    rw [cellsB, if_neg hwne, lastY, if_neg hwne]
    rcases hw with ⟨hw1, hY'⟩ | ⟨hw2, Y'', rfl, hY'⟩
    · cases X with
      | nil => simp at hl
      | cons x X' =>
        have hlX : X'.length = Y'.length := by simpa using hl
        simp only [List.length_cons] at hM
        obtain ⟨X'', s1, s2, s3⟩ := put_one hX P Q u.W (by rw [hu7.W]; omega) (S c.s.data.toList) c.y
        obtain ⟨v1, v2, v3, v4, v5⟩ := clu_at hu2 o2 (m := P.length) (by rw [hu7.W]; omega) hcu (by rw [o3, hw1, hu7.W]; omega)
        rw [hnu, o3, hw1, hu3, List.cons_append, s3, ← o4] at v2
        rw [o3, hw1] at v3
        have hcc : (⟨c.s, 1, c.y⟩ : GC) = c := by rw [← hw1]
        rw [hcc] at v2
        obtain ⟨z, hz1, hz2, hz3, hz4, hz5, hz6, hz7⟩ := run_cells n Y' X'' (P ++ [c]) Q (u.clu c.s.data.toList) (by simpa using hn) hY' s1 (s2.trans hlX) v1 (by rw [v4, hu3]; exact mayF_S o1)
          (by rw [v2, v5.row, nth_setR _ _ _ (by rw [hu4, hu7.row, hRn]; exact hrow)]; simp) (by simpa using v3)
        refine ⟨z, fun x => ?_, hz2, ?_, ?_, ?_, hz6, hu7.trans (v5.trans hz7)⟩
        · have hz1' := hz1 x
          rw [v4, hu3] at hz1'
          rw [List.append_assoc, List.append_assoc, hu1, run_clu1 hu2 o2 (by rw [o3, hw1, hu7.W]; omega)]
          exact hz1'
        · rw [hz3, v2, v5.row, hu7.row, hu4, List.set_set]; simp
        · have e : (P ++ [c]).length + Y'.length = P.length + (c :: Y').length := by simp; omega
          rw [← e]; exact hz4
        · rw [hz5, v4, hu3]
    · match X, hX, hl with
      | [], _, hl => simp at hl
      | [x], _, hl => simp at hl
      | x :: x2 :: X', hX, hl =>
        have hlX : X'.length = Y''.length := by simpa using hl
        simp only [List.length_cons] at hM
        obtain ⟨X'', s1, s2, s3⟩ := put_two hX P Q u.W (by rw [hu7.W]; omega) (S c.s.data.toList) c.y
        obtain ⟨v1, v2, v3, v4, v5⟩ := clu_at hu2 o2 (m := P.length) (by rw [hu7.W]; omega) hcu (by rw [o3, hw2, hu7.W]; omega)
        rw [hnu, o3, hw2, hu3, List.cons_append, List.cons_append, s3, ← o4] at v2
        rw [o3, hw2] at v3
        have hcc : (⟨c.s, 2, c.y⟩ : GC) = c := by rw [← hw2]
        rw [hcc] at v2
        obtain ⟨z, hz1, hz2, hz3, hz4, hz5, hz6, hz7⟩ := run_cells n Y'' X'' (P ++ [c, GC.tail c.y]) Q (u.clu c.s.data.toList) (by simp at hn; omega) hY' s1 (s2.trans hlX) v1 (by rw [v4, hu3]; exact mayF_S o1)
          (by rw [v2, v5.row, nth_setR _ _ _ (by rw [hu4, hu7.row, hRn]; exact hrow)]; simp) (by simpa using v3)
        refine ⟨z, fun x => ?_, hz2, ?_, ?_, ?_, hz6, hu7.trans (v5.trans hz7)⟩
        · have hz1' := hz1 x
          rw [v4, hu3] at hz1'
          rw [cellsB, if_pos (show (GC.tail c.y).w = 0 from rfl), List.append_assoc, List.append_assoc, hu1, run_clu1 hu2 o2 (by rw [o3, hw2, hu7.W]; omega)]
          exact hz1'
        · rw [hz3, v2, v5.row, hu7.row, hu4, List.set_set]; simp
        · have e : (P ++ [c, GC.tail c.y]).length + Y''.length = P.length + (c :: GC.tail c.y :: Y'').length := by simp; omega
          rw [← e]; exact hz4
        · rw [hz5, v4, hu3, lastY, if_pos (show (GC.tail c.y).w = 0 from rfl)]
end Go.Proofs.YtekodpcedjpnjaaGreat
namespace Go.Proofs.YtekodpcedjpnjaaGreat
open Go.RowKit Go.Maps
structure Pen where
  row : Nat
  col : Nat
  behind : Bool
  y : Sy
def Pen.mv (p : Pen) (r c : Nat) : List UInt8 := if moveL p.row p.col r c = [] ∧ p.behind = true then colL c else moveL p.row p.col r c
def Pen.to (p : Pen) (r c : Nat) : Pen := ⟨r, c, false, p.y⟩
structure PAt (top : Nat) (p : Pen) (t : TS) : Prop where
  row : t.row = top + p.row
  col : t.col = p.col
  pend : t.pend = p.behind
  y : t.y = p.y
  may : mayS p.y
structure Kept (t u : TS) : Prop where
  W : u.W = t.W
  H : u.H = t.H
  seen : u.seen = t.seen
  marked : u.marked = t.marked
  bells : u.bells = t.bells
  gone : u.gone = t.gone
theorem Kept.refl (t : TS) : Kept t t := ⟨rfl, rfl, rfl, rfl, rfl, rfl⟩
theorem Kept.trans {t u v : TS} (h : Kept t u) (k : Kept u v) : Kept t v := ⟨k.W.trans h.W, k.H.trans h.H, k.seen.trans h.seen, k.marked.trans h.marked, k.bells.trans h.bells, k.gone.trans h.gone⟩
theorem Rest.kept {t u : TS} (h : Rest t u) : Kept t u := ⟨h.W, h.H, h.seen, h.marked, h.bells, h.gone⟩
theorem TOk.at_ {t : TS} (k : TOk t) {r c : Nat} (hr : r < t.H) (hc : c < t.W) : TOk (t.at_ r c) :=
  { w1 := k.w1, w2 := k.w2, h1 := k.h1, h2 := k.h2, ok := k.ok, ro := k.ro, row := hr, col := hc, pe := fun e => by cases e }
theorem run_mv {t : TS} {top : Nat} {p : Pen} (k : TOk t) (a : PAt top p t) {r c : Nat} (hr : top + r < t.H) (hc : c < t.W) :
    ∃ u, (∀ x, runT t (p.mv r c ++ x) = runT u x) ∧ TOk u ∧ PAt top (p.to r c) u ∧ u.R = t.R ∧ Kept t u := by
  have hw2 := k.w2
  have hh2 := k.h2
  have hro := k.row
  have har := a.row
  have hco := k.col
  have hm := fun x => run_move (t := t) p.row r c (top + r) (by omega) (by omega) hr hco hc (by omega) (by rw [har]; omega) x
  have hac := a.col
  unfold Pen.mv
  rw [← hac]
  by_cases hz : p.row = r ∧ t.col = c
  · obtain ⟨hz1, hz2⟩ := hz
    have he := (hm []).2.2 ⟨hz1, hz2⟩
    by_cases hb : p.behind = true
    · rw [if_pos ⟨he, hb⟩]
      refine ⟨t.at_ (top + r) c, fun x => ?_, k.at_ hr hc, ⟨rfl, rfl, rfl, a.y, a.may⟩, rfl, ⟨rfl, rfl, rfl, rfl, rfl, rfl⟩⟩
      rw [run_col t (by omega)]
      congr 1
      exact moved_to t _ _ _ _ (by omega) rfl hr hc
    · rw [if_neg (fun h => hb h.2), he]
      exact ⟨t, fun x => rfl, k, ⟨by rw [har, hz1]; rfl, hz2, (show t.pend = false by rw [a.pend]; simpa using hb), a.y, a.may⟩, rfl, Kept.refl t⟩
  · have hne : moveL p.row t.col r c ≠ [] := fun e => hz ((hm []).2.1 e)
    rw [if_neg (fun h => hne h.1)]
    refine ⟨t.at_ (top + r) c, fun x => ?_, k.at_ hr hc, ⟨rfl, rfl, rfl, a.y, a.may⟩, rfl, ⟨rfl, rfl, rfl, rfl, rfl, rfl⟩⟩
    rw [(hm x).1, if_neg hz]
theorem run_span {t : TS} {top : Nat} {p : Pen} (k : TOk t) (a : PAt top p t) {r : Nat} (hr : top + r < t.H) {Y X P Q : List GC} (hY : wholeB Y = true) (hX : Seg X) (hl : X.length = Y.length) (hne : X ≠ []) (hR : nth [] t.R (top + r) = P ++ (X ++ Q)) :
    ∃ u, (∀ x, runT t (p.mv r P.length ++ cellsB p.y Y ++ x) = runT u x) ∧ TOk u ∧ PAt top ⟨r, min (P.length + Y.length) (t.W - 1), decide (P.length + Y.length = t.W), lastY p.y Y⟩ u ∧ u.R = t.R.set (top + r) (P ++ (Y ++ Q)) ∧ Kept t u := by
  have hM := k.ok.at hr
  rw [hR] at hM
  simp only [List.length_append] at hM
  have hXl : X.length ≠ 0 := fun e => hne (List.eq_nil_of_length_eq_zero e)
  obtain ⟨u, u1, u2, u3, u4, u5⟩ := run_mv k a hr (c := P.length) (by omega)
  have ur : u.row = top + r := u3.row
  have uy : u.y = p.y := u3.y
  obtain ⟨v, v1, v2, v3, v4, v5, v6, v7⟩ := run_cells Y.length Y X P Q u (Nat.le_refl _) hY hX hl u2 (by rw [u3.y]; exact u3.may) (by rw [u4, ur]; exact hR) ⟨by rw [u3.col, u5.W]; show P.length = _; omega, by rw [u3.pend, u5.W]; show false = _; exact (decide_eq_false (by omega)).symm⟩
  rw [uy] at v1 v5
  refine ⟨v, fun x => by rw [List.append_assoc, u1, v1], v2, ⟨by rw [v7.row, ur], by rw [v4.1, ← v7.W.trans u5.W, v7.W], by rw [v4.2, ← v7.W.trans u5.W, v7.W], v5, by rw [← v5]; exact v6⟩, by rw [v3, u4, ur], u5.trans v7.kept⟩
theorem whole_split : ∀ (n i : Nat) (A : List GC), i ≤ n → i ≤ A.length → wholeB A = true → (i = 0 ∨ (nth GC.zero A (i - 1)).w ≠ 2) → wholeB (A.take i) = true ∧ wholeB (A.drop i) = true
  | _, 0, A, _, _, h, _ => ⟨rfl, h⟩
  | n, i + 1, [], _, hl, _, _ => by simp at hl
  | 0, i + 1, _ :: _, hn, _, _, _ => by omega
  | n + 1, i + 1, c :: t, hn, hl, h, hc => by
    obtain ⟨ho, ⟨hw, ht⟩ | ⟨hw, t', rfl, ht⟩⟩ := whole_one h
    · obtain ⟨h1, h2⟩ := whole_split n i t (by omega) (by simpa using hl) ht (by
        rcases Nat.eq_zero_or_pos i with h0 | h0
        · exact .inl h0
        · right
          obtain ⟨j, rfl⟩ : ∃ j, i = j + 1 := ⟨i - 1, by omega⟩
          have := hc.resolve_left (by omega)
          simpa [nth] using this)
      refine ⟨?_, h2⟩
      rw [List.take_succ_cons, wholeB_cons, ho, if_pos hw, h1]; rfl
    · have hi : i ≠ 0 := by
        rintro rfl
        have := hc.resolve_left (by omega)
        simp [nth] at this
        exact this hw
      obtain ⟨j, rfl⟩ : ∃ j, i = j + 1 := ⟨i - 1, by omega⟩
      obtain ⟨h1, h2⟩ := whole_split n j t' (by omega) (by simpa using hl) ht (by
        rcases Nat.eq_zero_or_pos j with h0 | h0
        · exact .inl h0
        · right
          obtain ⟨m, rfl⟩ : ∃ m, j = m + 1 := ⟨j - 1, by omega⟩
          have := hc.resolve_left (by omega)
          simpa [nth] using this)
      refine ⟨?_, h2⟩
      rw [List.take_succ_cons, List.take_succ_cons, wholeB_cons, ho, if_neg (by omega)]
      show (true && (eqC (GC.tail c.y) (GC.tail c.y) && wholeB (t'.take j))) = true
      rw [h1, (eqC_iff _ _).2 rfl]; rfl
theorem nth_dropG (l : List GC) (i j : Nat) : nth GC.zero (l.drop i) j = nth GC.zero l (i + j) := by simp [nth, List.getElem?_drop]
theorem whole_mid {A : List GC} (h : wholeB A = true) {a b : Nat} (hab : a ≤ b) (hb : b ≤ A.length) (h1 : a = 0 ∨ (nth GC.zero A (a - 1)).w ≠ 2) (h2 : b = A.length ∨ (nth GC.zero A (b - 1)).w ≠ 2) : wholeB ((A.drop a).take (b - a)) = true := by
  have d := (whole_split a a A (Nat.le_refl _) (by omega) h h1).2
  rcases h2 with h2 | h2
  · rw [List.take_of_length_le (by rw [List.length_drop]; omega)]; exact d
  · refine (whole_split (b - a) (b - a) (A.drop a) (Nat.le_refl _) (by rw [List.length_drop]; omega) d ?_).1
    rcases Nat.eq_or_lt_of_le hab with e | e
    · exact .inl (by omega)
    · right; rw [nth_dropG, show a + (b - a - 1) = b - 1 by omega]; exact h2
def spansF : Nat → Option Nat → List Bool → List (Nat × Nat)
  | i, none, [] => []
  | i, some a, [] => [(a, i)]
  | i, none, true :: t => spansF (i + 1) (some i) t
  | i, some a, true :: t => spansF (i + 1) (some a) t
  | i, none, false :: t => spansF (i + 1) none t
  | i, some a, false :: t => (a, i) :: spansF (i + 1) none t
def spanB (p : Pen) (w r a b : Nat) (l : List GC) : List UInt8 × Pen :=
  (p.mv r a ++ cellsB p.y ((l.drop a).take (b - a)), ⟨r, min b (w - 1), decide (b = w), lastY p.y ((l.drop a).take (b - a))⟩)
def penL (w : Nat) (B : List (List GC)) : Pen → List (Nat × Nat × Nat) → List UInt8 × Pen
  | p, [] => ([], p)
  | p, s :: l => ((spanB p w s.1 s.2.1 s.2.2 (nth [] B s.1)).1 ++ (penL w B (spanB p w s.1 s.2.1 s.2.2 (nth [] B s.1)).2 l).1, (penL w B (spanB p w s.1 s.2.1 s.2.2 (nth [] B s.1)).2 l).2)
theorem penL_app (w : Nat) (B : List (List GC)) : ∀ (l m : List (Nat × Nat × Nat)) (p : Pen), penL w B p (l ++ m) = ((penL w B p l).1 ++ (penL w B (penL w B p l).2 m).1, (penL w B (penL w B p l).2 m).2)
  | [], m, p => by simp [penL]
  | s :: l, m, p => by
    rw [List.cons_append, penL, penL_app w B l m]
    simp [penL]
structure Chg (A B : List GC) (on : List Bool) : Prop where
  a : wholeB A = true
  b : wholeB B = true
  la : A.length = on.length
  lb : B.length = on.length
  same : ∀ i, i < on.length → nth false on i = false → nth GC.zero A i = nth GC.zero B i
  cut : ∀ i, i + 1 < on.length → nth false on i ≠ nth false on (i + 1) → (nth GC.zero A i).w ≠ 2 ∧ (nth GC.zero B i).w ≠ 2
theorem take_same {A B : List GC} {i : Nat} (hA : i < A.length) (hB : i < B.length) (h : nth GC.zero A i = nth GC.zero B i) : B.take i ++ A.drop i = B.take (i + 1) ++ A.drop (i + 1) := by
  rw [nth_eq _ _ _ hA, nth_eq _ _ _ hB] at h
  rw [List.drop_eq_getElem_cons hA, h, List.take_succ_eq_append_getElem hB, List.append_assoc]
  rfl
theorem mid_split {A B : List GC} {a b : Nat} (hab : a ≤ b) : B.take a ++ A.drop a = B.take a ++ ((A.drop a).take (b - a) ++ A.drop b) := by
  congr 1
  conv => lhs; rw [← List.take_append_drop (b - a) (A.drop a)]
  rw [List.drop_drop, show a + (b - a) = b by omega]
theorem mid_join {B Q : List GC} {a b : Nat} (hab : a ≤ b) : B.take a ++ ((B.drop a).take (b - a) ++ Q) = B.take b ++ Q := by
  rw [← List.append_assoc]
  congr 1
  conv => rhs; rw [show b = a + (b - a) by omega]
  rw [List.take_add]
theorem run_row {A B : List GC} {on : List Bool} (h : Chg A B on) {top r w : Nat} {BB : List (List GC)} (hBB : nth [] BB r = B) (hw : on.length = w) : ∀ (L : List Bool) (i : Nat) (o : Option Nat) (t : TS) (p : Pen), on.drop i = L → i ≤ on.length → TOk t → t.W = w → top + r < t.H → PAt top p t →
    (match o with
      | none => nth [] t.R (top + r) = B.take i ++ A.drop i ∧ (i = 0 ∨ nth false on (i - 1) = false)
      | some a => nth [] t.R (top + r) = B.take a ++ A.drop a ∧ a < i ∧ (a = 0 ∨ nth false on (a - 1) = false) ∧ nth false on a = true ∧ nth false on (i - 1) = true) →
    ∃ u, (∀ x, runT t ((penL w BB p ((spansF i o L).map fun s => (r, s.1, s.2))).1 ++ x) = runT u x) ∧ TOk u ∧ PAt top (penL w BB p ((spansF i o L).map fun s => (r, s.1, s.2))).2 u ∧ u.R = t.R.set (top + r) B ∧ Kept t u := by
  -- a span that ends at a column
  have spn : ∀ (a b : Nat) (t : TS) (p : Pen), a < b → b ≤ on.length → TOk t → t.W = w → top + r < t.H → PAt top p t → nth [] t.R (top + r) = B.take a ++ A.drop a → (a = 0 ∨ nth false on (a - 1) = false) → nth false on a = true → nth false on (b - 1) = true → (b = on.length ∨ nth false on b = false) →
      ∃ u, (∀ x, runT t ((spanB p w r a b B).1 ++ x) = runT u x) ∧ TOk u ∧ PAt top (spanB p w r a b B).2 u ∧ u.R = t.R.set (top + r) (B.take b ++ A.drop b) ∧ Kept t u := by
    intro a b t p hab hb k hW hr pa hR h1 h2 h3 h4
    have hla := h.la
    have hlb := h.lb
    have c1 : a = 0 ∨ ((nth GC.zero A (a - 1)).w ≠ 2 ∧ (nth GC.zero B (a - 1)).w ≠ 2) := by
      rcases h1 with h1 | h1
      · exact .inl h1
      · rcases Nat.eq_zero_or_pos a with h0 | h0
        · exact .inl h0
        · right; exact h.cut (a - 1) (by omega) (by rw [show a - 1 + 1 = a by omega, h1, h2]; decide)
    have c2 : b = on.length ∨ ((nth GC.zero A (b - 1)).w ≠ 2 ∧ (nth GC.zero B (b - 1)).w ≠ 2) := by
      rcases h4 with h4 | h4
      · exact .inl h4
      · rcases Nat.eq_or_lt_of_le hb with e | e
        · exact .inl e
        · right; exact h.cut (b - 1) (by omega) (by rw [show b - 1 + 1 = b by omega, h3, h4]; decide)
    have sA := whole_mid h.a (Nat.le_of_lt hab) (by omega) (c1.imp id And.left) (by rw [hla]; exact c2.imp id And.left)
    have sB := whole_mid h.b (Nat.le_of_lt hab) (by omega) (c1.imp id And.right) (by rw [hlb]; exact c2.imp id And.right)
    have lA : ((A.drop a).take (b - a)).length = b - a := by rw [List.length_take, List.length_drop]; omega
    have lB : ((B.drop a).take (b - a)).length = b - a := by rw [List.length_take, List.length_drop]; omega
    have lT : (B.take a).length = a := by rw [List.length_take]; omega
    rw [mid_split (Nat.le_of_lt hab)] at hR
    obtain ⟨u, u1, u2, u3, u4, u5⟩ := run_span k pa hr sB (whole_seg sA) (by rw [lA, lB]) (fun e => by rw [e] at lA; simp at lA; omega) hR
    rw [lT, lB, show a + (b - a) = b by omega, hW] at u3
    rw [lT] at u1
    refine ⟨u, fun x => ?_, u2, u3, ?_, u5⟩
    · exact u1 x
    · rw [u4, mid_join (Nat.le_of_lt hab)]
  intro L
  induction L with
  | nil =>
    intro i o t p hd hi k hW hr pa ho
    have hie : i = on.length := by
      have := congrArg List.length hd
      rw [List.length_drop] at this
      simp at this; omega
    have hlen := h.la
    have hlen2 := h.lb
    cases o with
    | none =>
      refine ⟨t, fun x => by simp [spansF, penL], k, by simp only [spansF, List.map_nil, penL]; exact pa, ?_, Kept.refl t⟩
      have hM := ho.1
      rw [List.drop_of_length_le (by omega), List.append_nil, List.take_of_length_le (by omega)] at hM
      have hn := k.ok.n
      rw [← hM, nth_eq _ _ _ (by omega), List.set_getElem_self]
    | some a =>
      obtain ⟨o1, o2, o3, o4, o5⟩ := ho
      obtain ⟨u, u1, u2, u3, u4, u5⟩ := spn a i t p o2 hi k hW hr pa o1 o3 o4 o5 (.inl hie)
      simp only [spansF, List.map_cons, List.map_nil, penL, hBB, List.append_nil]
      refine ⟨u, u1, u2, u3, ?_, u5⟩
      rw [u4, List.take_of_length_le (by omega), List.drop_of_length_le (by omega), List.append_nil]
  | cons c L ih =>
    intro i o t p hd hi k hW hr pa ho
    have hlt : i < on.length := by
      have := congrArg List.length hd
      rw [List.length_drop] at this
      simp at this; omega
    have hla := h.la
    have hlb := h.lb
    have hdc := List.drop_eq_getElem_cons hlt
    rw [hd] at hdc
    obtain ⟨hc, hL⟩ := List.cons.inj hdc
    have hci : nth false on i = c := by rw [nth_eq _ _ _ hlt]; exact hc.symm
    cases c with
    | true =>
      cases o with
      | none =>
        simp only [spansF]
        exact ih (i + 1) (some i) t p hL.symm (by omega) k hW hr pa ⟨ho.1, by omega, ho.2, hci, hci⟩
      | some a =>
        obtain ⟨o1, o2, o3, o4, o5⟩ := ho
        simp only [spansF]
        exact ih (i + 1) (some a) t p hL.symm (by omega) k hW hr pa ⟨o1, by omega, o3, o4, hci⟩
    | false =>
      have hsm := h.same i hlt hci
      cases o with
      | none =>
        simp only [spansF]
        exact ih (i + 1) none t p hL.symm (by omega) k hW hr pa ⟨by rw [ho.1]; exact take_same (by omega) (by omega) hsm, .inr hci⟩
      | some a =>
        obtain ⟨o1, o2, o3, o4, o5⟩ := ho
        obtain ⟨u, u1, u2, u3, u4, u5⟩ := spn a i t p o2 hi k hW hr pa o1 o3 o4 o5 (.inr hci)
        have hn := k.ok.n
        obtain ⟨v, v1, v2, v3, v4, v5⟩ := ih (i + 1) none u (spanB p w r a i B).2 hL.symm (by omega) u2 (by rw [u5.W]; exact hW) (by rw [u5.H]; exact hr) u3
          ⟨by rw [u4, nth_setR _ _ _ (by omega)]; exact take_same (by omega) (by omega) hsm, .inr hci⟩
        simp only [spansF, List.map_cons, penL, hBB]
        refine ⟨v, fun x => ?_, v2, v3, by rw [v4, u4, List.set_set], u5.trans v5⟩
        rw [List.append_assoc, u1, v1]
end Go.Proofs.YtekodpcedjpnjaaGreat
namespace Go.Proofs.YtekodpcedjpnjaaGreat
open Go.RowKit Go.Maps
def spansR : Nat → List (List Bool) → List (Nat × Nat × Nat)
  | _, [] => []
  | r, on :: l => (spansF 0 none on).map (fun s => (r, s.1, s.2)) ++ spansR (r + 1) l
theorem band_nth {Pre Post M : List (List GC)} {r : Nat} (h : r < M.length) : nth [] (Pre ++ (M ++ Post)) (Pre.length + r) = nth [] M r := by
  unfold nth
  rw [List.getD_eq_getElem?_getD, List.getD_eq_getElem?_getD, List.getElem?_append_right (by omega), Nat.add_sub_cancel_left, List.getElem?_append_left h]
theorem band_set {Pre Post M : List (List GC)} {r : Nat} (h : r < M.length) (x : List GC) : (Pre ++ (M ++ Post)).set (Pre.length + r) x = Pre ++ (M.set r x ++ Post) := by
  rw [List.set_append_right _ _ (by omega), Nat.add_sub_cancel_left, List.set_append_left _ _ h]
theorem rows_nth {A B : List (List GC)} {r : Nat} (h1 : r ≤ B.length) (h2 : r < A.length) : nth [] (B.take r ++ A.drop r) r = nth [] A r := by
  unfold nth
  rw [List.getD_eq_getElem?_getD, List.getD_eq_getElem?_getD, List.getElem?_append_right (by rw [List.length_take]; omega), List.length_take, List.getElem?_drop]
  congr 2
  omega
theorem rows_set {A B : List (List GC)} {r : Nat} (h1 : r < B.length) (h2 : r < A.length) : (B.take r ++ A.drop r).set r (nth [] B r) = B.take (r + 1) ++ A.drop (r + 1) := by
  rw [List.set_append_right _ _ (by rw [List.length_take]; omega), List.length_take, show r - min r B.length = 0 by omega, List.drop_eq_getElem_cons h2, List.set_cons_zero, List.take_succ_eq_append_getElem h1, nth_eq _ _ _ h1, List.append_assoc]
  rfl
theorem run_rows {A B : List (List GC)} {ons : List (List Bool)} {w : Nat} {Pre Post : List (List GC)} (hA : A.length = ons.length) (hB : B.length = ons.length) (hon : ∀ r, r < ons.length → (nth [] ons r).length = w) (hC : ∀ r, r < ons.length → Chg (nth [] A r) (nth [] B r) (nth [] ons r)) :
    ∀ (L : List (List Bool)) (r : Nat) (t : TS) (p : Pen), ons.drop r = L → r ≤ ons.length → TOk t → t.W = w → t.R = Pre ++ ((B.take r ++ A.drop r) ++ Post) → PAt Pre.length p t →
    ∃ u, (∀ x, runT t ((penL w B p (spansR r L)).1 ++ x) = runT u x) ∧ TOk u ∧ PAt Pre.length (penL w B p (spansR r L)).2 u ∧ u.R = Pre ++ (B ++ Post) ∧ Kept t u := by
  intro L
  induction L with
  | nil =>
    intro r t p hd hr k hW hR pa
    have hre : r = ons.length := by
      have := congrArg List.length hd
      rw [List.length_drop] at this
      simp at this; omega
    refine ⟨t, fun x => by simp [spansR, penL], k, by simp only [spansR, penL]; exact pa, ?_, Kept.refl t⟩
    rw [hR, List.take_of_length_le (by omega), List.drop_of_length_le (by omega), List.append_nil]
  | cons on L ih =>
    intro r t p hd hr k hW hR pa
    have hlt : r < ons.length := by
      have := congrArg List.length hd
      rw [List.length_drop] at this
      simp at this; omega
    have hdc := List.drop_eq_getElem_cons hlt
    rw [hd] at hdc
    obtain ⟨hc, hL⟩ := List.cons.inj hdc
    have hci : nth [] ons r = on := by rw [nth_eq _ _ _ hlt]; exact hc.symm
    have ch := hC r hlt
    have hol := hon r hlt
    rw [hci] at ch hol
    have hml : (B.take r ++ A.drop r).length = ons.length := by rw [List.length_append, List.length_take, List.length_drop]; omega
    have hn := k.ok.n
    have hn' := congrArg List.length hR
    simp only [List.length_append] at hn'
    rw [List.length_append] at hml
    obtain ⟨u, u1, u2, u3, u4, u5⟩ := run_row ch (top := Pre.length) (r := r) (w := w) (BB := B) rfl hol on 0 none t p rfl (Nat.zero_le _) k hW (by omega) pa
      ⟨by rw [hR, band_nth (by rw [List.length_append]; omega), rows_nth (by omega) (by omega)]; rfl, .inl rfl⟩
    rw [hR, band_set (by rw [List.length_append]; omega), rows_set (by omega) (by omega)] at u4
    obtain ⟨v, v1, v2, v3, v4, v5⟩ := ih (r + 1) u _ hL.symm (by omega) u2 (by rw [u5.W]; exact hW) u4 u3
    rw [spansR, penL_app]
    refine ⟨v, fun x => ?_, v2, v3, v4, u5.trans v5⟩
    rw [List.append_assoc, u1, v1]
def paintB (w : Nat) (B : List (List GC)) (ar ac : Nat) (l : List (Nat × Nat × Nat)) (br bc : Nat) : List UInt8 :=
  (penL w B ⟨ar, ac, false, Sy.zero⟩ l).1 ++ styB (penL w B ⟨ar, ac, false, Sy.zero⟩ l).2.y Sy.zero ++ Pen.mv { (penL w B ⟨ar, ac, false, Sy.zero⟩ l).2 with y := Sy.zero } br bc
theorem may_zero : mayS Sy.zero := by unfold mayS; decide
theorem run_paint {A B : List (List GC)} {ons : List (List Bool)} {w : Nat} {Pre Post : List (List GC)} (hA : A.length = ons.length) (hB : B.length = ons.length) (hon : ∀ r, r < ons.length → (nth [] ons r).length = w) (hC : ∀ r, r < ons.length → Chg (nth [] A r) (nth [] B r) (nth [] ons r))
    {t : TS} (k : TOk t) (hW : t.W = w) (hR : t.R = Pre ++ (A ++ Post)) {ar ac br bc : Nat} (h1 : t.row = Pre.length + ar) (h2 : t.col = ac) (h3 : t.pend = false) (h4 : t.y = Sy.zero) (hbr : br < B.length) (hbc : bc < w) :
    ∃ u, (∀ x, runT t (paintB w B ar ac (spansR 0 ons) br bc ++ x) = runT u x) ∧ TOk u ∧ u.R = Pre ++ (B ++ Post) ∧ u.row = Pre.length + br ∧ u.col = bc ∧ u.pend = false ∧ u.y = Sy.zero ∧ Kept t u := by
  obtain ⟨u, u1, u2, u3, u4, u5⟩ := run_rows hA hB hon hC ons 0 t ⟨ar, ac, false, Sy.zero⟩ rfl (Nat.zero_le _) k hW (by simpa using hR) ⟨h1, h2, h3, h4, may_zero⟩
  obtain ⟨x, hx⟩ : ∃ x, x = penL w B ⟨ar, ac, false, Sy.zero⟩ (spansR 0 ons) := ⟨_, rfl⟩
  unfold paintB
  rw [← hx] at u1 u3 ⊢
  have uy : u.y = x.2.y := u3.y
  obtain ⟨v, v1, v2, v3, v4, v5, v6, v7⟩ := run_sty u2 (by rw [u3.y]; exact u3.may) Sy.zero may_zero
  rw [uy] at v1
  have hn := v2.ok.n
  have hn' := congrArg List.length (v4.trans u4)
  simp only [List.length_append] at hn'
  obtain ⟨z, z1, z2, z3, z4, z5⟩ := run_mv (top := Pre.length) (p := { x.2 with y := Sy.zero }) v2 ⟨v7.row.trans u3.row, v5.trans u3.col, v6.trans u3.pend, v3, may_zero⟩ (r := br) (c := bc) (by omega) (by rw [v7.W, u5.W, hW]; exact hbc)
  refine ⟨z, fun y => ?_, z2, by rw [z4, v4, u4], z3.row, z3.col, z3.pend, z3.y, u5.trans (v7.kept.trans z5)⟩
  rw [List.append_assoc, List.append_assoc, u1, v1, z1]
theorem moveL_len (a b c d : Int) : (moveL a b c d).length ≤ 14 := by
  have h1 := byL_len (a - c) 65
  have h2 := byL_len (c - a) 66
  have h3 := colL_len d
  have h4 : (byL (a - c) 65 ++ byL (c - a) 66).length ≤ 7 := by
    rw [List.length_append]
    by_cases h : a - c < 1
    · rw [byL_0 h]; simpa using h2
    · rw [byL_0 (n := c - a) (by omega)]; simpa using h1
  have h5 : (byL (d - b) 67 ++ byL (b - d) 68).length ≤ 7 := by
    have h1 := byL_len (d - b) 67
    have h2 := byL_len (b - d) 68
    rw [List.length_append]
    by_cases h : d - b < 1
    · rw [byL_0 h]; simpa using h2
    · rw [byL_0 (n := b - d) (by omega)]; simpa using h1
  unfold moveL
  dsimp only
  split
  · omega
  split
  · rw [List.length_append]; simp only [List.length_cons, List.length_nil]; omega
  split <;> (rw [List.length_append]; omega)
theorem mv_len (p : Pen) (r c : Nat) : (p.mv r c).length ≤ 14 := by
  unfold Pen.mv
  split
  · have := colL_len (c : Int); omega
  · exact moveL_len _ _ _ _
def okC (c : GC) : Prop := c.w = 0 ∨ okB c = true
theorem cellsB_len : ∀ (M : List GC) (y : Sy), (∀ c ∈ M, okC c) → (cellsB y M).length ≤ 85 * M.length
  | [], _, _ => by simp [cellsB]
  | c :: M, y, h => by
    have ih := fun y => cellsB_len M y (fun z hz => h z (List.mem_cons_of_mem _ hz))
    rw [cellsB, List.length_cons]
    split
    · have := ih y; omega
    · rename_i hw
      obtain ⟨h1, h2, h3, h4, h5⟩ := okB_facts ((h c (List.mem_cons_self ..)).resolve_left hw)
      have hs : c.s.size = c.s.data.toList.length := by rw [Array.length_toList]; rfl
      have h6 := styB_len y c.y (mayF_S h1)
      have := ih c.y
      simp only [List.length_append]
      omega
theorem whole_okC {M : List GC} (h : wholeB M = true) : ∀ c ∈ M, okC c :=
  whole_ind (P := fun M => ∀ c ∈ M, okC c) (fun c hc => by cases hc) (fun c t ho _ _ ih x hx => by
    rcases List.mem_cons.1 hx with rfl | h
    · exact .inr ho
    · exact ih x h) (fun c t ho _ _ ih x hx => by
    rcases List.mem_cons.1 hx with rfl | h
    · exact .inr ho
    · rcases List.mem_cons.1 h with rfl | h
      · exact .inl rfl
      · exact ih x h) M.length M (Nat.le_refl _) h
def sumS (l : List (Nat × Nat × Nat)) : Nat := (l.map fun s => s.2.2 - s.2.1).sum
theorem spanB_len (p : Pen) (w r a b : Nat) (l : List GC) (hl : ∀ c ∈ l, okC c) (hab : a < b) : (spanB p w r a b l).1.length ≤ 100 * (b - a) := by
  have h1 := mv_len p r a
  have h2 := cellsB_len ((l.drop a).take (b - a)) p.y (fun c hc => hl c (List.mem_of_mem_drop (List.mem_of_mem_take hc)))
  have h3 : ((l.drop a).take (b - a)).length ≤ b - a := by rw [List.length_take]; omega
  unfold spanB
  dsimp only
  rw [List.length_append]
  have : 85 * ((l.drop a).take (b - a)).length ≤ 85 * (b - a) := Nat.mul_le_mul_left _ h3
  omega
theorem penL_len (w : Nat) (B : List (List GC)) (hB : ∀ M ∈ B, ∀ c ∈ M, okC c) : ∀ (l : List (Nat × Nat × Nat)) (p : Pen), (∀ s ∈ l, s.2.1 < s.2.2) → (penL w B p l).1.length ≤ 100 * sumS l
  | [], p, _ => by simp [penL]
  | s :: l, p, h => by
    have h1 : ∀ c ∈ nth [] B s.1, okC c := fun c hc => by
      rcases Nat.lt_or_ge s.1 B.length with hl | hl
      · rw [nth_eq _ _ _ hl] at hc; exact hB _ (List.getElem_mem hl) c hc
      · unfold nth at hc
        rw [List.getD_eq_getElem?_getD, List.getElem?_eq_none hl] at hc
        cases hc
    have h2 := spanB_len p w s.1 s.2.1 s.2.2 (nth [] B s.1) h1 (h s (List.mem_cons_self ..))
    have h3 := penL_len w B hB l (spanB p w s.1 s.2.1 s.2.2 (nth [] B s.1)).2 (fun z hz => h z (List.mem_cons_of_mem _ hz))
    rw [penL]
    dsimp only
    rw [List.length_append]
    unfold sumS at h3 ⊢
    rw [List.map_cons, List.sum_cons]
    omega
theorem paintB_len (w : Nat) (B : List (List GC)) (hB : ∀ M ∈ B, ∀ c ∈ M, okC c) (ar ac : Nat) (l : List (Nat × Nat × Nat)) (hl : ∀ s ∈ l, s.2.1 < s.2.2) (br bc : Nat) : (paintB w B ar ac l br bc).length ≤ 100 * sumS l + 35 := by
  have h1 := penL_len w B hB l ⟨ar, ac, false, Sy.zero⟩ hl
  unfold paintB
  obtain ⟨x, hx⟩ : ∃ x, x = penL w B ⟨ar, ac, false, Sy.zero⟩ l := ⟨_, rfl⟩
  rw [← hx] at h1 ⊢
  have h2 := styB_len x.2.y Sy.zero (by decide)
  have h3 := mv_len { x.2 with y := Sy.zero } br bc
  rw [List.length_append, List.length_append]
  omega
end Go.Proofs.YtekodpcedjpnjaaGreat
namespace Go.Proofs.YtekodpcedjpnjaaGreat
open Go.RowKit Go.Maps
def markAt (oa ob : Nat → Nat) (L : List Bool) (i : Nat) : List Bool := if nth false L i = true then (L.set (oa i) true).set (ob i) true else L
def passN (oa ob : Nat → Nat) (L : List Bool) : Nat → List Bool
  | 0 => L
  | k + 1 => markAt oa ob (passN oa ob L k) k
def closeN (oa ob : Nat → Nat) (L : List Bool) : Nat → List Bool
  | 0 => L
  | k + 1 => passN oa ob (closeN oa ob L k) L.length
def trues : List Bool → Nat
  | [] => 0
  | true :: t => trues t + 1
  | false :: t => trues t
def LeB (L M : List Bool) : Prop := ∀ i : Nat, nth false L i = true → nth false M i = true
theorem LeB.refl (L : List Bool) : LeB L L := fun _ h => h
theorem LeB.trans {L M N : List Bool} (h : LeB L M) (k : LeB M N) : LeB L N := fun i x => k i (h i x)
theorem nth_setB (L : List Bool) (i j : Nat) (x : Bool) : nth false (L.set i x) j = if i = j ∧ j < L.length then x else nth false L j := by
  unfold nth
  rw [List.getD_eq_getElem?_getD, List.getD_eq_getElem?_getD, List.getElem?_set]
  by_cases h : i = j
  · subst h
    by_cases h2 : i < L.length
    · simp [h2]
    · simp [h2]
  · simp [h]
theorem leB_set (L : List Bool) (i : Nat) : LeB L (L.set i true) := fun j h => by
  rw [nth_setB]
  split
  · rfl
  · exact h
theorem leB_mark (oa ob : Nat → Nat) (L : List Bool) (i : Nat) : LeB L (markAt oa ob L i) := by
  unfold markAt
  split
  · exact (leB_set _ _).trans (leB_set _ _)
  · exact LeB.refl _
theorem markAt_length (oa ob : Nat → Nat) (L : List Bool) (i : Nat) : (markAt oa ob L i).length = L.length := by
  unfold markAt
  split <;> simp
theorem passN_length (oa ob : Nat → Nat) (L : List Bool) : ∀ k, (passN oa ob L k).length = L.length
  | 0 => rfl
  | k + 1 => by rw [passN, markAt_length, passN_length oa ob L k]
theorem closeN_length (oa ob : Nat → Nat) (L : List Bool) : ∀ k, (closeN oa ob L k).length = L.length
  | 0 => rfl
  | k + 1 => by rw [closeN, passN_length, closeN_length oa ob L k]
theorem leB_pass (oa ob : Nat → Nat) (L : List Bool) : ∀ k, LeB L (passN oa ob L k)
  | 0 => LeB.refl _
  | k + 1 => (leB_pass oa ob L k).trans (leB_mark _ _ _ _)
theorem leB_pass2 (oa ob : Nat → Nat) (L : List Bool) (j : Nat) : ∀ k, LeB (passN oa ob L j) (passN oa ob L (j + k))
  | 0 => LeB.refl _
  | k + 1 => (leB_pass2 oa ob L j k).trans (leB_mark _ _ _ _)
theorem leB_close (oa ob : Nat → Nat) (L : List Bool) : ∀ k, LeB L (closeN oa ob L k)
  | 0 => LeB.refl _
  | k + 1 => (leB_close oa ob L k).trans (leB_pass _ _ _ _)
theorem leB_cons {x y : Bool} {L M : List Bool} (h : LeB (x :: L) (y :: M)) : (x = true → y = true) ∧ LeB L M :=
  ⟨fun e => by simpa [nth] using h 0 (by simpa [nth] using e), fun i e => by simpa [nth] using h (i + 1) (by simpa [nth] using e)⟩
theorem leB_trues : ∀ (L M : List Bool), L.length = M.length → LeB L M → trues L ≤ trues M ∧ (trues L = trues M → L = M)
  | [], [], _, _ => ⟨Nat.le_refl _, fun _ => rfl⟩
  | [], _ :: _, h, _ => by cases h
  | _ :: _, [], h, _ => by cases h
  | x :: L, y :: M, h, k => by
    obtain ⟨h1, h2⟩ := leB_cons k
    obtain ⟨h3, h4⟩ := leB_trues L M (by simpa using h) h2
    cases x <;> cases y <;> simp only [trues] at *
    · exact ⟨h3, fun e => by rw [h4 e]⟩
    · exact ⟨by omega, fun e => by omega⟩
    · cases h1 trivial
    · exact ⟨by omega, fun e => by rw [h4 (by omega)]⟩
theorem leB_antisymm {L M : List Bool} (hl : L.length = M.length) (h : LeB L M) (k : LeB M L) : L = M :=
  (leB_trues L M hl h).2 (Nat.le_antisymm (leB_trues L M hl h).1 (leB_trues M L hl.symm k).1)
theorem trues_le : ∀ L : List Bool, trues L ≤ L.length
  | [] => Nat.le_refl _
  | true :: t => by have := trues_le t; simp only [trues, List.length_cons]; omega
  | false :: t => by have := trues_le t; simp only [trues, List.length_cons]; omega
theorem pass_closed {oa ob : Nat → Nat} {L : List Bool} (h : passN oa ob L L.length = L) (ha : ∀ i, i < L.length → oa i < L.length) (hb : ∀ i, i < L.length → ob i < L.length) (i : Nat) (hi : i < L.length) (ht : nth false L i = true) : nth false L (oa i) = true ∧ nth false L (ob i) = true := by
  have hk : ∀ k, k ≤ L.length → passN oa ob L k = L := fun k hk => by
    refine leB_antisymm (passN_length ..) ?_ (leB_pass oa ob L k)
    have := leB_pass2 oa ob L k (L.length - k)
    rw [show k + (L.length - k) = L.length by omega, h] at this
    exact this
  have h1 := hk (i + 1) hi
  rw [passN, hk i (by omega), markAt, if_pos ht] at h1
  constructor
  · rw [← h1, nth_setB]
    split
    · rfl
    · rw [nth_setB, if_pos ⟨rfl, ha i hi⟩]
  · rw [← h1, nth_setB, if_pos ⟨rfl, by rw [List.length_set]; exact hb i hi⟩]
theorem close_stay {oa ob : Nat → Nat} {L : List Bool} {k : Nat} (h : closeN oa ob L (k + 1) = closeN oa ob L k) : ∀ j, closeN oa ob L (k + j) = closeN oa ob L k
  | 0 => rfl
  | j + 1 => by
    rw [show k + (j + 1) = (k + j) + 1 by omega, closeN, close_stay h j]
    exact h
theorem close_count (oa ob : Nat → Nat) (L : List Bool) : ∀ k, (∀ j, j < k → closeN oa ob L (j + 1) ≠ closeN oa ob L j) → k ≤ trues (closeN oa ob L k)
  | 0, _ => Nat.zero_le _
  | k + 1, h => by
    have h1 := close_count oa ob L k (fun j hj => h j (by omega))
    have h2 := leB_trues (closeN oa ob L k) (closeN oa ob L (k + 1)) (by rw [closeN_length, closeN_length]) (leB_pass _ _ _ _)
    have h3 : trues (closeN oa ob L k) ≠ trues (closeN oa ob L (k + 1)) := fun e => h k (by omega) (h2.2 e).symm
    omega
theorem close_bound (oa ob : Nat → Nat) (L : List Bool) (k : Nat) (h : ∀ j, j < k → closeN oa ob L (j + 1) ≠ closeN oa ob L j) : k ≤ L.length := by
  have h1 := close_count oa ob L k h
  have h2 := trues_le (closeN oa ob L k)
  rw [closeN_length] at h2
  omega
theorem close_stop {oa ob : Nat → Nat} {L : List Bool} {k : Nat} (h : ∀ j, j < k → closeN oa ob L (j + 1) ≠ closeN oa ob L j) (hs : closeN oa ob L (k + 1) = closeN oa ob L k) : closeN oa ob L k = closeN oa ob L L.length := by
  have h1 := close_bound oa ob L k h
  have h2 := close_stay hs (L.length - k)
  rw [show k + (L.length - k) = L.length by omega] at h2
  exact h2.symm
theorem close_end (oa ob : Nat → Nat) (L : List Bool) : passN oa ob (closeN oa ob L L.length) L.length = closeN oa ob L L.length := by
  refine Classical.byContradiction fun hne => ?_
  have h : ∀ j, j < L.length + 1 → closeN oa ob L (j + 1) ≠ closeN oa ob L j := fun j hj e => by
    have h2 := close_stay e (L.length - j)
    have h3 := close_stay e (L.length + 1 - j)
    rw [show j + (L.length - j) = L.length by omega] at h2
    rw [show j + (L.length + 1 - j) = L.length + 1 by omega] at h3
    exact hne (by rw [h2]; rw [closeN, h2] at h3; exact h3)
  have := close_bound oa ob L (L.length + 1) h
  omega
def othC (M : List GC) (i : Nat) : Nat := if (nth GC.zero M i).w = 2 then i + 1 else if (nth GC.zero M i).w = 0 then i - 1 else i
theorem whole_at {M : List GC} (h : wholeB M = true) : ∀ i, i < M.length → ((nth GC.zero M i).w = 1) ∨ ((nth GC.zero M i).w = 2 ∧ i + 1 < M.length ∧ nth GC.zero M (i + 1) = GC.tail (nth GC.zero M i).y) ∨ ((nth GC.zero M i).w = 0 ∧ 0 < i ∧ (nth GC.zero M (i - 1)).w = 2) :=
  whole_ind (P := fun M => ∀ i, i < M.length → ((nth GC.zero M i).w = 1) ∨ ((nth GC.zero M i).w = 2 ∧ i + 1 < M.length ∧ nth GC.zero M (i + 1) = GC.tail (nth GC.zero M i).y) ∨ ((nth GC.zero M i).w = 0 ∧ 0 < i ∧ (nth GC.zero M (i - 1)).w = 2))
    (fun i hi => by cases hi) (fun c t _ hw _ ih i hi => by
      cases i with
      | zero => exact .inl hw
      | succ i =>
        rw [List.length_cons] at hi ⊢
        have e : ∀ j, nth GC.zero (c :: t) (j + 1) = nth GC.zero t j := fun j => rfl
        simp only [e]
        rcases ih i (by omega) with h | ⟨h1, h2, h3⟩ | ⟨h1, h2, h3⟩
        · exact .inl h
        · exact .inr (.inl ⟨h1, by omega, h3⟩)
        · refine .inr (.inr ⟨h1, by omega, ?_⟩)
          obtain ⟨j, rfl⟩ : ∃ j, i = j + 1 := ⟨i - 1, by omega⟩
          exact h3) (fun c t _ hw _ ih i hi => by
      have e : ∀ j, nth GC.zero (c :: GC.tail c.y :: t) (j + 1 + 1) = nth GC.zero t j := fun j => rfl
      cases i with
      | zero => exact .inr (.inl ⟨hw, by simp, rfl⟩)
      | succ i =>
        cases i with
        | zero => exact .inr (.inr ⟨rfl, by omega, hw⟩)
        | succ i =>
          rw [List.length_cons, List.length_cons] at hi ⊢
          simp only [e]
          rcases ih i (by omega) with h | ⟨h1, h2, h3⟩ | ⟨h1, h2, h3⟩
          · exact .inl h
          · exact .inr (.inl ⟨h1, by omega, h3⟩)
          · refine .inr (.inr ⟨h1, by omega, ?_⟩)
            obtain ⟨j, rfl⟩ : ∃ j, i = j + 1 := ⟨i - 1, by omega⟩
            exact h3) M.length M (Nat.le_refl _) h
theorem othC_lt {M : List GC} (h : wholeB M = true) (i : Nat) (hi : i < M.length) : othC M i < M.length := by
  unfold othC
  rcases whole_at h i hi with h | ⟨h, h1, h2⟩ | ⟨h, h1, h2⟩
  · rw [if_neg (by omega), if_neg (by omega)]; exact hi
  · rw [if_pos h]; exact h1
  · rw [if_neg (by omega), if_pos h]; omega
def diffB : List GC → List GC → List Bool
  | a :: A, b :: B => (!eqC a b) :: diffB A B
  | _, _ => []
theorem diffB_length : ∀ (A B : List GC), A.length = B.length → (diffB A B).length = A.length
  | [], [], _ => rfl
  | [], _ :: _, h => by cases h
  | _ :: _, [], h => by cases h
  | a :: A, b :: B, h => by rw [diffB, List.length_cons, List.length_cons, diffB_length A B (by simpa using h)]
theorem diffB_nth : ∀ (A B : List GC) (i : Nat), A.length = B.length → i < A.length → nth false (diffB A B) i = !eqC (nth GC.zero A i) (nth GC.zero B i)
  | [], [], _, _, hi => by cases hi
  | [], _ :: _, _, h, _ => by cases h
  | _ :: _, [], _, h, _ => by cases h
  | a :: A, b :: B, 0, h, hi => rfl
  | a :: A, b :: B, i + 1, h, hi => diffB_nth A B i (by simpa using h) (by simpa using hi)
def chgL (A B : List GC) : List Bool := closeN (othC A) (othC B) (diffB A B) A.length
theorem chgL_length {A B : List GC} (h : A.length = B.length) : (chgL A B).length = A.length := by
  unfold chgL; rw [closeN_length, diffB_length A B h]
theorem chgL_closed {A B : List GC} (hl : A.length = B.length) (ha : wholeB A = true) (hb : wholeB B = true) (i : Nat) (hi : i < A.length) (h : nth false (chgL A B) i = true) : nth false (chgL A B) (othC A i) = true ∧ nth false (chgL A B) (othC B i) = true := by
  have h1 := chgL_length hl
  have h2 := close_end (othC A) (othC B) (diffB A B)
  rw [diffB_length A B hl] at h2
  exact pass_closed (oa := othC A) (ob := othC B) (L := chgL A B) (by rw [h1]; exact h2) (fun j hj => by rw [h1] at hj ⊢; exact othC_lt ha j hj) (fun j hj => by rw [h1] at hj ⊢; rw [hl] at hj ⊢; exact othC_lt hb j hj) i (by omega) h
theorem chgL_pair {A B : List GC} (hl : A.length = B.length) (ha : wholeB A = true) (hb : wholeB B = true) (i : Nat) (hi : i + 1 < A.length) (h : (nth GC.zero A i).w = 2 ∨ (nth GC.zero B i).w = 2) : nth false (chgL A B) i = nth false (chgL A B) (i + 1) := by
  have key : ∀ M : List GC, wholeB M = true → i + 1 < M.length → (nth GC.zero M i).w = 2 → othC M i = i + 1 ∧ othC M (i + 1) = i := fun M hM hi2 hw => by
    constructor
    · unfold othC; rw [if_pos hw]
    · rcases whole_at hM i (by omega) with h | ⟨_, _, h2⟩ | ⟨h, _⟩
      · omega
      · unfold othC; rw [h2]; rfl
      · omega
  rw [Bool.eq_iff_iff]
  rcases h with h | h
  · obtain ⟨k1, k2⟩ := key A ha hi h
    constructor
    · intro e; have := (chgL_closed hl ha hb i (by omega) e).1; rwa [k1] at this
    · intro e; have := (chgL_closed hl ha hb (i + 1) hi e).1; rwa [k2] at this
  · obtain ⟨k1, k2⟩ := key B hb (by omega) h
    constructor
    · intro e; have := (chgL_closed hl ha hb i (by omega) e).2; rwa [k1] at this
    · intro e; have := (chgL_closed hl ha hb (i + 1) hi e).2; rwa [k2] at this
theorem chgL_chg {A B : List GC} (hl : A.length = B.length) (ha : wholeB A = true) (hb : wholeB B = true) : Chg A B (chgL A B) :=
  { a := ha, b := hb, la := (chgL_length hl).symm, lb := by rw [chgL_length hl, hl]
    same := fun i hi h => by
      rw [chgL_length hl] at hi
      have h1 : nth false (diffB A B) i ≠ true := fun e => by
        have := leB_close (othC A) (othC B) (diffB A B) A.length i e
        unfold chgL at h
        rw [h] at this
        cases this
      rw [diffB_nth A B i hl hi] at h1
      exact (eqC_iff _ _).1 (by simpa using h1)
    cut := fun i hi h => by
      rw [chgL_length hl] at hi
      refine ⟨fun e => h (chgL_pair hl ha hb i hi (.inl e)), fun e => h (chgL_pair hl ha hb i hi (.inr e))⟩ }
theorem drop_nth {L : List Bool} {i : Nat} (hi : i < L.length) : L.drop i = nth false L i :: L.drop (i + 1) := by
  rw [List.drop_eq_getElem_cons hi]
  unfold nth
  rw [List.getD_eq_getElem?_getD, List.getElem?_eq_getElem hi]
  rfl
theorem spansF_on (L : List Bool) (i : Nat) (hi : i < L.length) (h : nth false L i = true) : spansF i none (L.drop i) = spansF (i + 1) (some i) (L.drop (i + 1)) := by
  rw [drop_nth hi, h, spansF]
theorem spansF_more (L : List Bool) (i a : Nat) (hi : i < L.length) (h : nth false L i = true) : spansF i (some a) (L.drop i) = spansF (i + 1) (some a) (L.drop (i + 1)) := by
  rw [drop_nth hi, h, spansF]
theorem spansF_off (L : List Bool) (i : Nat) (hi : i < L.length) (h : nth false L i = false) : spansF i none (L.drop i) = spansF (i + 1) none (L.drop (i + 1)) := by
  rw [drop_nth hi, h, spansF]
theorem spansF_shut (L : List Bool) (i a : Nat) (hi : i < L.length) (h : nth false L i = false) : spansF i (some a) (L.drop i) = (a, i) :: spansF (i + 1) none (L.drop (i + 1)) := by
  rw [drop_nth hi, h, spansF]
theorem spansF_past (L : List Bool) (i : Nat) (hi : L.length ≤ i) : spansF i none (L.drop i) = [] := by
  rw [List.drop_of_length_le hi, spansF]
theorem spansF_run1 (L : List Bool) (a k : Nat) (hk : k ≤ L.length) (he : k = L.length ∨ nth false L k = false) : ∀ n j, j + n = k → (∀ i, j ≤ i → i < k → nth false L i = true) → spansF j (some a) (L.drop j) = (a, k) :: spansF (k + 1) none (L.drop (k + 1))
  | 0, j, hj, _ => by
    obtain rfl : j = k := by omega
    rcases he with h | h
    · rw [List.drop_of_length_le (by omega), List.drop_of_length_le (by omega), spansF, spansF]
    · by_cases hl : j = L.length
      · rw [List.drop_of_length_le (by omega), List.drop_of_length_le (by omega), spansF, spansF]
      · rw [spansF_shut L j a (by omega) h]
  | n + 1, j, hj, ht => by
    rw [spansF_more L j a (by omega) (ht j (by omega) (by omega))]
    exact spansF_run1 L a k hk he n (j + 1) (by omega) (fun i h1 h2 => ht i (by omega) h2)
theorem spansF_run (L : List Bool) (i k : Nat) (hik : i < k) (hk : k ≤ L.length) (ht : ∀ j, i ≤ j → j < k → nth false L j = true) (he : k = L.length ∨ nth false L k = false) : spansF i none (L.drop i) = (i, k) :: spansF (k + 1) none (L.drop (k + 1)) := by
  rw [spansF_on L i (by omega) (ht i (Nat.le_refl _) hik)]
  exact spansF_run1 L i k hk he (k - (i + 1)) (i + 1) (by omega) (fun j h1 h2 => ht j (by omega) h2)
end Go.Proofs.YtekodpcedjpnjaaGreat
