/- A terminal as plain data: what sequences make that move its cursor, turn its style and show its cursor. No condition. A terminal as plain data: a piece of a row printed anew, cell by cell. No condition. A terminal as plain data: the spans in which two frames differ, printed with a pen. No condition. A terminal as plain data: a band turned from one frame into another one; how many bytes these are. No condition. Which columns of two rows change: marks closed under the other columns of wide cells. Plain lists. No condition. -/
import Derived.Test.YtekodpcedjpnjaaGreatRC04
import Derived.Test.YtekodpcedjpnjaaGreatRC05
import Derived.Test.YtekodpcedjpnjaaGreatRC08
import Derived.Test.YtekodpcedjpnjaaGreatRC13
import Derived.Test.YtekodpcedjpnjaaGreatRC14
import Derived.Test.YtekodpcedjpnjaaGreatRC15
import Derived.Test.YtekodpcedjpnjaaGreatRC17
import Derived.Test.YtekodpcedjpnjaaGreatRC24
import Derived.Test.YtekodpcedjpnjaaGreatRC25
set_option linter.unusedVariables false
set_option linter.unusedSimpArgs false
namespace Go.Proofs.YtekodpcedjpnjaaGreat
open Go.RowKit Go.Maps
theorem byL_0 {n : Int} (h : n < 1) (e : UInt8) : byL n e = [] := by unfold byL; rw [if_pos h]
def TS.at_ (t : TS) (r c : Nat) : TS := { t with row := r, col := c, pend := false, last := false }
theorem sepTo_le (l : List Int) (hl : ∀ k, 0 ≤ nth 0 l k ∧ nth 0 l k ≤ 99) (k : Nat) : (sepTo l k).length ≤ 3 * k := by
  induction k with
  | zero => simp [sepTo]
  | succ k ih =>
    have h := decL_len 1 (min (nth 0 l k) 9999).toNat (by have := hl k; omega)
    simp only [sepTo, List.length_append]
    split
    · simp; omega
    · simp; omega
theorem numsL_bd (b u i : Bool) (f g : Int) (b' u' i' : Bool) (f' g' : Int) (h1 : 0 ≤ f' ∧ f' ≤ 8) (h2 : 0 ≤ g' ∧ g' ≤ 8) : (∀ x ∈ numsL b u i f g b' u' i' f' g', 0 ≤ x ∧ x ≤ 99) ∧ (numsL b u i f g b' u' i' f' g').length ≤ 6 := by
  have c1 : 0 ≤ colourI f' 30 ∧ colourI f' 30 ≤ 99 := by unfold colourI; split <;> omega
  have c2 : 0 ≤ colourI g' 40 ∧ colourI g' 40 ≤ 99 := by unfold colourI; split <;> omega
  unfold numsL
  dsimp only
  constructor
  · intro x hx
    simp only [List.mem_append] at hx
    rcases hx with ((((h | h) | h) | h) | h) | h <;> (split at h <;> simp at h <;> (try subst h) <;> omega)
  · simp only [List.length_append]
    have : ∀ (p : Prop) [Decidable p] (x : Int), (if p then [x] else []).length ≤ 1 := fun p _ x => by split <;> simp
    have a1 := this ((b && !b' || u && !u' || i && !i') = true) 0
    have a2 := this ((b' && !(!(b && !b' || u && !u' || i && !i') && b)) = true) 1
    have a3 := this ((u' && !(!(b && !b' || u && !u' || i && !i') && u)) = true) 4
    have a4 := this ((i' && !(!(b && !b' || u && !u' || i && !i') && i)) = true) 7
    have a5 := this (f' ≠ (if (b && !b' || u && !u' || i && !i') = true then 0 else f)) (colourI f' 30)
    have a6 := this (g' ≠ (if (b && !b' || u && !u' || i && !i') = true then 0 else g)) (colourI g' 40)
    omega
theorem nth_bd {l : List Int} (h : ∀ x ∈ l, 0 ≤ x ∧ x ≤ 99) (k : Nat) : 0 ≤ nth 0 l k ∧ nth 0 l k ≤ 99 := by
  rcases Nat.lt_or_ge k l.length with hk | hk
  · rw [nth_eq _ _ _ hk]; exact h _ (List.getElem_mem hk)
  · unfold nth; rw [List.getD_eq_getElem?_getD, List.getElem?_eq_none hk]; simp
def styB (y z : Sy) : List UInt8 := styleL y.b y.u y.i y.f y.g z.b z.u z.i z.f z.g
theorem styB_len (y z : Sy) (h2 : 0 ≤ z.f ∧ z.f ≤ 8 ∧ 0 ≤ z.g ∧ z.g ≤ 8) : (styB y z).length ≤ 21 := by
  obtain ⟨b1, b2⟩ := numsL_bd y.b y.u y.i y.f y.g z.b z.u z.i z.f z.g ⟨h2.1, h2.2.1⟩ ⟨h2.2.2.1, h2.2.2.2⟩
  unfold styB styleL
  split
  · simp
  · unfold seqL
    have := sepTo_le _ (nth_bd b1) (numsL y.b y.u y.i y.f y.g z.b z.u z.i z.f z.g).length
    simp only [List.length_append, List.length_cons, List.length_nil]
    omega
def seenB (on : Bool) : List UInt8 := [27, 91, 63, 50, 53, if on then 104 else 108]
def pasteB (on : Bool) : List UInt8 := [27, 91, 63, 50, 48, 48, 52, if on then 104 else 108]
end Go.Proofs.YtekodpcedjpnjaaGreat
namespace Go.Proofs.YtekodpcedjpnjaaGreat
open Go.RowKit Go.Maps
theorem whole_one {c : GC} {t : List GC} (h : wholeB (c :: t) = true) : okB c = true ∧ ((c.w = 1 ∧ wholeB t = true) ∨ (c.w = 2 ∧ ∃ t', t = GC.tail c.y :: t' ∧ wholeB t' = true)) := by
  rw [wholeB_cons, Bool.and_eq_true] at h
  obtain ⟨h1, h2⟩ := h
  refine ⟨h1, ?_⟩
  by_cases hw : c.w = 1
  · rw [if_pos hw] at h2; exact .inl ⟨hw, h2⟩
  · rw [if_neg hw] at h2
    right
    have hk := h1
    unfold okB at hk
    simp only [Bool.and_eq_true, decide_eq_true_eq] at hk
    refine ⟨hk.2.1.resolve_left hw, ?_⟩
    cases t with
    | nil => cases h2
    | cons d t' =>
      unfold wholeTl at h2
      rw [Bool.and_eq_true] at h2
      exact ⟨t', by rw [(eqC_iff _ _).1 h2.1], h2.2⟩
theorem whole_ind {P : List GC → Prop} (h0 : P []) (h1 : ∀ c t, okB c = true → c.w = 1 → wholeB t = true → P t → P (c :: t)) (h2 : ∀ c t, okB c = true → c.w = 2 → wholeB t = true → P t → P (c :: GC.tail c.y :: t)) :
    ∀ (n : Nat) (M : List GC), M.length ≤ n → wholeB M = true → P M
  | _, [], _, _ => h0
  | 0, _ :: _, hl, _ => by simp at hl
  | n + 1, c :: t, hl, h => by
    obtain ⟨ho, ⟨hw, ht⟩ | ⟨hw, t', rfl, ht⟩⟩ := whole_one h
    · exact h1 c t ho hw ht (whole_ind h0 h1 h2 n t (by simpa using hl) ht)
    · exact h2 c t' ho hw ht (whole_ind h0 h1 h2 n t' (by simp at hl; omega) ht)
theorem okB_facts {c : GC} (h : okB c = true) : mayF c.y = true ∧ Clu c.s.data.toList ∧ colsL c.s.data.toList = c.w ∧ c.s = S c.s.data.toList ∧ c.s.size ≤ 64 := by
  unfold okB at h
  simp only [Bool.and_eq_true, decide_eq_true_eq] at h
  obtain ⟨h1, h2, h3, h4, h5⟩ := h
  have hc := isCl_clu h3
  exact ⟨h1, hc, by rw [← widthL_cluF hc]; exact h4, by simp [S], h5⟩
def mayS (y : Sy) : Prop := 0 ≤ y.f ∧ y.f ≤ 8 ∧ 0 ≤ y.g ∧ y.g ≤ 8
theorem mayF_S {y : Sy} (h : mayF y = true) : mayS y := by
  unfold mayF at h
  have h1 := of_decide_eq_true h
  exact h1
def cellsB : Sy → List GC → List UInt8
  | _, [] => []
  | y, c :: t => if c.w = 0 then cellsB y t else styB y c.y ++ c.s.data.toList ++ cellsB c.y t
def lastY : Sy → List GC → Sy
  | y, [] => y
  | y, c :: t => if c.w = 0 then lastY y t else lastY c.y t
end Go.Proofs.YtekodpcedjpnjaaGreat
namespace Go.Proofs.YtekodpcedjpnjaaGreat
open Go.RowKit Go.Maps
structure Pen where
  row : Nat
  col : Nat
  behind : Bool
  y : Sy
def Pen.mv (p : Pen) (r c : Nat) : List UInt8 := if moveL p.row p.col r c = [] ∧ p.behind = true then colL c else moveL p.row p.col r c
def Pen.to (p : Pen) (r c : Nat) : Pen := ⟨r, c, false, p.y⟩
theorem TOk.at_ {t : TS} (k : TOk t) {r c : Nat} (hr : r < t.H) (hc : c < t.W) : TOk (t.at_ r c) :=
  { w1 := k.w1, w2 := k.w2, h1 := k.h1, h2 := k.h2, ok := k.ok, ro := k.ro, row := hr, col := hc, pe := fun e => by cases e }
def spansF : Nat → Option Nat → List Bool → List (Nat × Nat)
  | i, none, [] => []
  | i, some a, [] => [(a, i)]
  | i, none, true :: t => spansF (i + 1) (some i) t
  | i, some a, true :: t => spansF (i + 1) (some a) t
  | i, none, false :: t => spansF (i + 1) none t
  | i, some a, false :: t => (a, i) :: spansF (i + 1) none t
def spanB (p : Pen) (w r a b : Nat) (l : List GC) : List UInt8 × Pen :=
  (p.mv r a ++ cellsB p.y ((l.drop a).take (b - a)), ⟨r, min b (w - 1), decide (b = w), lastY p.y ((l.drop a).take (b - a))⟩)
def penL (w : Nat) (B : List (List GC)) : Pen → List (Nat × Nat × Nat) → List UInt8 × Pen
  | p, [] => ([], p)
  | p, s :: l => ((spanB p w s.1 s.2.1 s.2.2 (nth [] B s.1)).1 ++ (penL w B (spanB p w s.1 s.2.1 s.2.2 (nth [] B s.1)).2 l).1, (penL w B (spanB p w s.1 s.2.1 s.2.2 (nth [] B s.1)).2 l).2)
theorem penL_app (w : Nat) (B : List (List GC)) : ∀ (l m : List (Nat × Nat × Nat)) (p : Pen), penL w B p (l ++ m) = ((penL w B p l).1 ++ (penL w B (penL w B p l).2 m).1, (penL w B (penL w B p l).2 m).2)
  | [], m, p => by simp [penL]
  | s :: l, m, p => by
    rw [List.cons_append, penL, penL_app w B l m]
    simp [penL]
structure Chg (A B : List GC) (on : List Bool) : Prop where
  a : wholeB A = true
  b : wholeB B = true
  la : A.length = on.length
  lb : B.length = on.length
  same : ∀ i, i < on.length → nth false on i = false → nth GC.zero A i = nth GC.zero B i
  cut : ∀ i, i + 1 < on.length → nth false on i ≠ nth false on (i + 1) → (nth GC.zero A i).w ≠ 2 ∧ (nth GC.zero B i).w ≠ 2
end Go.Proofs.YtekodpcedjpnjaaGreat
namespace Go.Proofs.YtekodpcedjpnjaaGreat
open Go.RowKit Go.Maps
def spansR : Nat → List (List Bool) → List (Nat × Nat × Nat)
  | _, [] => []
  | r, on :: l => (spansF 0 none on).map (fun s => (r, s.1, s.2)) ++ spansR (r + 1) l
def paintB (w : Nat) (B : List (List GC)) (ar ac : Nat) (l : List (Nat × Nat × Nat)) (br bc : Nat) : List UInt8 :=
  (penL w B ⟨ar, ac, false, Sy.zero⟩ l).1 ++ styB (penL w B ⟨ar, ac, false, Sy.zero⟩ l).2.y Sy.zero ++ Pen.mv { (penL w B ⟨ar, ac, false, Sy.zero⟩ l).2 with y := Sy.zero } br bc
theorem may_zero : mayS Sy.zero := by unfold mayS; decide
theorem moveL_len (a b c d : Int) : (moveL a b c d).length ≤ 14 := by
  have h1 := byL_len (a - c) 65
  have h2 := byL_len (c - a) 66
  have h3 := colL_len d
  have h4 : (byL (a - c) 65 ++ byL (c - a) 66).length ≤ 7 := by
    rw [List.length_append]
    by_cases h : a - c < 1
    · rw [byL_0 h]; simpa using h2
    · rw [byL_0 (n := c - a) (by omega)]; simpa using h1
  have h5 : (byL (d - b) 67 ++ byL (b - d) 68).length ≤ 7 := by
    have h1 := byL_len (d - b) 67
    have h2 := byL_len (b - d) 68
    rw [List.length_append]
    by_cases h : d - b < 1
    · rw [byL_0 h]; simpa using h2
    · rw [byL_0 (n := b - d) (by omega)]; simpa using h1
  unfold moveL
  dsimp only
  split
  · omega
  split
  · rw [List.length_append]; simp only [List.length_cons, List.length_nil]; omega
  split <;> (rw [List.length_append]; omega)
theorem mv_len (p : Pen) (r c : Nat) : (p.mv r c).length ≤ 14 := by
  unfold Pen.mv
  split
  · have := colL_len (c : Int); omega
  · exact moveL_len _ _ _ _
def okC (c : GC) : Prop := c.w = 0 ∨ okB c = true
theorem cellsB_len : ∀ (M : List GC) (y : Sy), (∀ c ∈ M, okC c) → (cellsB y M).length ≤ 85 * M.length
  | [], _, _ => by simp [cellsB]
  | c :: M, y, h => by
    have ih := fun y => cellsB_len M y (fun z hz => h z (List.mem_cons_of_mem _ hz))
    rw [cellsB, List.length_cons]
    split
    · have := ih y; omega
    · rename_i hw
      obtain ⟨h1, h2, h3, h4, h5⟩ := okB_facts ((h c (List.mem_cons_self ..)).resolve_left hw)
      have hs : c.s.size = c.s.data.toList.length := by rw [Array.length_toList]; rfl
      have h6 := styB_len y c.y (mayF_S h1)
      have := ih c.y
      simp only [List.length_append]
      omega
theorem whole_okC {M : List GC} (h : wholeB M = true) : ∀ c ∈ M, okC c :=
  whole_ind (P := fun M => ∀ c ∈ M, okC c) (fun c hc => by cases hc) (fun c t ho _ _ ih x hx => by
    rcases List.mem_cons.1 hx with rfl | h
    · exact .inr ho
    · exact ih x h) (fun c t ho _ _ ih x hx => by
    rcases List.mem_cons.1 hx with rfl | h
    · exact .inr ho
    · rcases List.mem_cons.1 h with rfl | h
      · exact .inl rfl
      · exact ih x h) M.length M (Nat.le_refl _) h
def sumS (l : List (Nat × Nat × Nat)) : Nat := (l.map fun s => s.2.2 - s.2.1).sum
theorem spanB_len (p : Pen) (w r a b : Nat) (l : List GC) (hl : ∀ c ∈ l, okC c) (hab : a < b) : (spanB p w r a b l).1.length ≤ 100 * (b - a) := by
  have h1 := mv_len p r a
  have h2 := cellsB_len ((l.drop a).take (b - a)) p.y (fun c hc => hl c (List.mem_of_mem_drop (List.mem_of_mem_take hc)))
  have h3 : ((l.drop a).take (b - a)).length ≤ b - a := by rw [List.length_take]; omega
  unfold spanB
  dsimp only
  rw [List.length_append]
  have : 85 * ((l.drop a).take (b - a)).length ≤ 85 * (b - a) := Nat.mul_le_mul_left _ h3
  omega
theorem penL_len (w : Nat) (B : List (List GC)) (hB : ∀ M ∈ B, ∀ c ∈ M, okC c) : ∀ (l : List (Nat × Nat × Nat)) (p : Pen), (∀ s ∈ l, s.2.1 < s.2.2) → (penL w B p l).1.length ≤ 100 * sumS l
  | [], p, _ => by simp [penL]
  | s :: l, p, h => by
    have h1 : ∀ c ∈ nth [] B s.1, okC c := fun c hc => by
      rcases Nat.lt_or_ge s.1 B.length with hl | hl
      · rw [nth_eq _ _ _ hl] at hc; exact hB _ (List.getElem_mem hl) c hc
      · unfold nth at hc
        rw [List.getD_eq_getElem?_getD, List.getElem?_eq_none hl] at hc
        cases hc
    have h2 := spanB_len p w s.1 s.2.1 s.2.2 (nth [] B s.1) h1 (h s (List.mem_cons_self ..))
    have h3 := penL_len w B hB l (spanB p w s.1 s.2.1 s.2.2 (nth [] B s.1)).2 (fun z hz => h z (List.mem_cons_of_mem _ hz))
    rw [penL]
    dsimp only
    rw [List.length_append]
    unfold sumS at h3 ⊢
    rw [List.map_cons, List.sum_cons]
    omega
end Go.Proofs.YtekodpcedjpnjaaGreat
namespace Go.Proofs.YtekodpcedjpnjaaGreat
open Go.RowKit Go.Maps
def markAt (oa ob : Nat → Nat) (L : List Bool) (i : Nat) : List Bool := if nth false L i = true then (L.set (oa i) true).set (ob i) true else L
def passN (oa ob : Nat → Nat) (L : List Bool) : Nat → List Bool
  | 0 => L
  | k + 1 => markAt oa ob (passN oa ob L k) k
def closeN (oa ob : Nat → Nat) (L : List Bool) : Nat → List Bool
  | 0 => L
  | k + 1 => passN oa ob (closeN oa ob L k) L.length
def trues : List Bool → Nat
  | [] => 0
  | true :: t => trues t + 1
  | false :: t => trues t
def LeB (L M : List Bool) : Prop := ∀ i : Nat, nth false L i = true → nth false M i = true
theorem LeB.refl (L : List Bool) : LeB L L := fun _ h => h
theorem LeB.trans {L M N : List Bool} (h : LeB L M) (k : LeB M N) : LeB L N := fun i x => k i (h i x)
theorem nth_setB (L : List Bool) (i j : Nat) (x : Bool) : nth false (L.set i x) j = if i = j ∧ j < L.length then x else nth false L j := by
  unfold nth
  rw [List.getD_eq_getElem?_getD, List.getD_eq_getElem?_getD, List.getElem?_set]
  by_cases h : i = j
  · subst h
    by_cases h2 : i < L.length
    · simp [h2]
    · simp [h2]
  · simp [h]
theorem leB_set (L : List Bool) (i : Nat) : LeB L (L.set i true) := fun j h => by
  rw [nth_setB]
  split
  · rfl
  · exact h
theorem leB_mark (oa ob : Nat → Nat) (L : List Bool) (i : Nat) : LeB L (markAt oa ob L i) := by
  unfold markAt
  split
  · exact (leB_set _ _).trans (leB_set _ _)
  · exact LeB.refl _
theorem markAt_length (oa ob : Nat → Nat) (L : List Bool) (i : Nat) : (markAt oa ob L i).length = L.length := by
  unfold markAt
  split <;> simp
theorem passN_length (oa ob : Nat → Nat) (L : List Bool) : ∀ k, (passN oa ob L k).length = L.length
  | 0 => rfl
  | k + 1 => by rw [passN, markAt_length, passN_length oa ob L k]
theorem closeN_length (oa ob : Nat → Nat) (L : List Bool) : ∀ k, (closeN oa ob L k).length = L.length
  | 0 => rfl
  | k + 1 => by rw [closeN, passN_length, closeN_length oa ob L k]
theorem leB_pass (oa ob : Nat → Nat) (L : List Bool) : ∀ k, LeB L (passN oa ob L k)
  | 0 => LeB.refl _
  | k + 1 => (leB_pass oa ob L k).trans (leB_mark _ _ _ _)
theorem leB_pass2 (oa ob : Nat → Nat) (L : List Bool) (j : Nat) : ∀ k, LeB (passN oa ob L j) (passN oa ob L (j + k))
  | 0 => LeB.refl _
  | k + 1 => (leB_pass2 oa ob L j k).trans (leB_mark _ _ _ _)
theorem leB_close (oa ob : Nat → Nat) (L : List Bool) : ∀ k, LeB L (closeN oa ob L k)
  | 0 => LeB.refl _
  | k + 1 => (leB_close oa ob L k).trans (leB_pass _ _ _ _)
theorem leB_cons {x y : Bool} {L M : List Bool} (h : LeB (x :: L) (y :: M)) : (x = true → y = true) ∧ LeB L M :=
  ⟨fun e => by simpa [nth] using h 0 (by simpa [nth] using e), fun i e => by simpa [nth] using h (i + 1) (by simpa [nth] using e)⟩
theorem leB_trues : ∀ (L M : List Bool), L.length = M.length → LeB L M → trues L ≤ trues M ∧ (trues L = trues M → L = M)
  | [], [], _, _ => ⟨Nat.le_refl _, fun _ => rfl⟩
  | [], _ :: _, h, _ => by cases h
  | _ :: _, [], h, _ => by cases h
  | x :: L, y :: M, h, k => by
    obtain ⟨h1, h2⟩ := leB_cons k
    obtain ⟨h3, h4⟩ := leB_trues L M (by simpa using h) h2
    cases x <;> cases y <;> simp only [trues] at *
    · exact ⟨h3, fun e => by rw [h4 e]⟩
    · exact ⟨by omega, fun e => by omega⟩
    · cases h1 trivial
    · exact ⟨by omega, fun e => by rw [h4 (by omega)]⟩
theorem leB_antisymm {L M : List Bool} (hl : L.length = M.length) (h : LeB L M) (k : LeB M L) : L = M :=
  (leB_trues L M hl h).2 (Nat.le_antisymm (leB_trues L M hl h).1 (leB_trues M L hl.symm k).1)
theorem trues_le : ∀ L : List Bool, trues L ≤ L.length
  | [] => Nat.le_refl _
  | true :: t => by have := trues_le t; simp only [trues, List.length_cons]; omega
  | false :: t => by have := trues_le t; simp only [trues, List.length_cons]; omega
theorem pass_closed {oa ob : Nat → Nat} {L : List Bool} (h : passN oa ob L L.length = L) (ha : ∀ i, i < L.length → oa i < L.length) (hb : ∀ i, i < L.length → ob i < L.length) (i : Nat) (hi : i < L.length) (ht : nth false L i = true) : nth false L (oa i) = true ∧ nth false L (ob i) = true := by
  have hk : ∀ k, k ≤ L.length → passN oa ob L k = L := fun k hk => by
    refine leB_antisymm (passN_length ..) ?_ (leB_pass oa ob L k)
    have := leB_pass2 oa ob L k (L.length - k)
    rw [show k + (L.length - k) = L.length by omega, h] at this
    exact this
  have h1 := hk (i + 1) hi
  rw [passN, hk i (by omega), markAt, if_pos ht] at h1
  constructor
  · rw [← h1, nth_setB]
    split
    · rfl
    · rw [nth_setB, if_pos ⟨rfl, ha i hi⟩]
  · rw [← h1, nth_setB, if_pos ⟨rfl, by rw [List.length_set]; exact hb i hi⟩]
theorem close_stay {oa ob : Nat → Nat} {L : List Bool} {k : Nat} (h : closeN oa ob L (k + 1) = closeN oa ob L k) : ∀ j, closeN oa ob L (k + j) = closeN oa ob L k
  | 0 => rfl
  | j + 1 => by
    rw [show k + (j + 1) = (k + j) + 1 by omega, closeN, close_stay h j]
    exact h
theorem close_count (oa ob : Nat → Nat) (L : List Bool) : ∀ k, (∀ j, j < k → closeN oa ob L (j + 1) ≠ closeN oa ob L j) → k ≤ trues (closeN oa ob L k)
  | 0, _ => Nat.zero_le _
  | k + 1, h => by
    have h1 := close_count oa ob L k (fun j hj => h j (by omega))
    have h2 := leB_trues (closeN oa ob L k) (closeN oa ob L (k + 1)) (by rw [closeN_length, closeN_length]) (leB_pass _ _ _ _)
    have h3 : trues (closeN oa ob L k) ≠ trues (closeN oa ob L (k + 1)) := fun e => h k (by omega) (h2.2 e).symm
    omega
theorem close_bound (oa ob : Nat → Nat) (L : List Bool) (k : Nat) (h : ∀ j, j < k → closeN oa ob L (j + 1) ≠ closeN oa ob L j) : k ≤ L.length := by
  have h1 := close_count oa ob L k h
  have h2 := trues_le (closeN oa ob L k)
  rw [closeN_length] at h2
  omega
theorem close_stop {oa ob : Nat → Nat} {L : List Bool} {k : Nat} (h : ∀ j, j < k → closeN oa ob L (j + 1) ≠ closeN oa ob L j) (hs : closeN oa ob L (k + 1) = closeN oa ob L k) : closeN oa ob L k = closeN oa ob L L.length := by
  have h1 := close_bound oa ob L k h
  have h2 := close_stay hs (L.length - k)
  rw [show k + (L.length - k) = L.length by omega] at h2
  exact h2.symm
theorem close_end (oa ob : Nat → Nat) (L : List Bool) : passN oa ob (closeN oa ob L L.length) L.length = closeN oa ob L L.length := by
  refine Classical.byContradiction fun hne => ?_
  have h : ∀ j, j < L.length + 1 → closeN oa ob L (j + 1) ≠ closeN oa ob L j := fun j hj e => by
    have h2 := close_stay e (L.length - j)
    have h3 := close_stay e (L.length + 1 - j)
    rw [show j + (L.length - j) = L.length by omega] at h2
    rw [show j + (L.length + 1 - j) = L.length + 1 by omega] at h3
    exact hne (by rw [h2]; rw [closeN, h2] at h3; exact h3)
  have := close_bound oa ob L (L.length + 1) h
  omega
def othC (M : List GC) (i : Nat) : Nat := if (nth GC.zero M i).w = 2 then i + 1 else if (nth GC.zero M i).w = 0 then i - 1 else i
theorem whole_at {M : List GC} (h : wholeB M = true) : ∀ i, i < M.length → ((nth GC.zero M i).w = 1) ∨ ((nth GC.zero M i).w = 2 ∧ i + 1 < M.length ∧ nth GC.zero M (i + 1) = GC.tail (nth GC.zero M i).y) ∨ ((nth GC.zero M i).w = 0 ∧ 0 < i ∧ (nth GC.zero M (i - 1)).w = 2) :=
  whole_ind (P := fun M => ∀ i, i < M.length → ((nth GC.zero M i).w = 1) ∨ ((nth GC.zero M i).w = 2 ∧ i + 1 < M.length ∧ nth GC.zero M (i + 1) = GC.tail (nth GC.zero M i).y) ∨ ((nth GC.zero M i).w = 0 ∧ 0 < i ∧ (nth GC.zero M (i - 1)).w = 2))
    (fun i hi => by cases hi) (fun c t _ hw _ ih i hi => by
      cases i with
      | zero => exact .inl hw
      | succ i =>
        rw [List.length_cons] at hi ⊢
        have e : ∀ j, nth GC.zero (c :: t) (j + 1) = nth GC.zero t j := fun j => rfl
        simp only [e]
        rcases ih i (by omega) with h | ⟨h1, h2, h3⟩ | ⟨h1, h2, h3⟩
        · exact .inl h
        · exact .inr (.inl ⟨h1, by omega, h3⟩)
        · refine .inr (.inr ⟨h1, by omega, ?_⟩)
          obtain ⟨j, rfl⟩ : ∃ j, i = j + 1 := ⟨i - 1, by omega⟩
          exact h3) (fun c t _ hw _ ih i hi => by
      have e : ∀ j, nth GC.zero (c :: GC.tail c.y :: t) (j + 1 + 1) = nth GC.zero t j := fun j => rfl
      cases i with
      | zero => exact .inr (.inl ⟨hw, by simp, rfl⟩)
      | succ i =>
        cases i with
        | zero => exact .inr (.inr ⟨rfl, by omega, hw⟩)
        | succ i =>
          rw [List.length_cons, List.length_cons] at hi ⊢
          simp only [e]
          rcases ih i (by omega) with h | ⟨h1, h2, h3⟩ | ⟨h1, h2, h3⟩
          · exact .inl h
          · exact .inr (.inl ⟨h1, by omega, h3⟩)
          · refine .inr (.inr ⟨h1, by omega, ?_⟩)
            obtain ⟨j, rfl⟩ : ∃ j, i = j + 1 := ⟨i - 1, by omega⟩
            exact h3) M.length M (Nat.le_refl _) h
theorem othC_lt {M : List GC} (h : wholeB M = true) (i : Nat) (hi : i < M.length) : othC M i < M.length := by
  unfold othC
  rcases whole_at h i hi with h | ⟨h, h1, h2⟩ | ⟨h, h1, h2⟩
  · rw [if_neg (by omega), if_neg (by omega)]; exact hi
  · rw [if_pos h]; exact h1
  · rw [if_neg (by omega), if_pos h]; omega
def diffB : List GC → List GC → List Bool
  | a :: A, b :: B => (!eqC a b) :: diffB A B
  | _, _ => []
theorem diffB_length : ∀ (A B : List GC), A.length = B.length → (diffB A B).length = A.length
  | [], [], _ => rfl
  | [], _ :: _, h => by cases h
  | _ :: _, [], h => by cases h
  | a :: A, b :: B, h => by rw [diffB, List.length_cons, List.length_cons, diffB_length A B (by simpa using h)]
theorem diffB_nth : ∀ (A B : List GC) (i : Nat), A.length = B.length → i < A.length → nth false (diffB A B) i = !eqC (nth GC.zero A i) (nth GC.zero B i)
  | [], [], _, _, hi => by cases hi
  | [], _ :: _, _, h, _ => by cases h
  | _ :: _, [], _, h, _ => by cases h
  | a :: A, b :: B, 0, h, hi => rfl
  | a :: A, b :: B, i + 1, h, hi => diffB_nth A B i (by simpa using h) (by simpa using hi)
def chgL (A B : List GC) : List Bool := closeN (othC A) (othC B) (diffB A B) A.length
theorem chgL_length {A B : List GC} (h : A.length = B.length) : (chgL A B).length = A.length := by
  unfold chgL; rw [closeN_length, diffB_length A B h]
theorem chgL_closed {A B : List GC} (hl : A.length = B.length) (ha : wholeB A = true) (hb : wholeB B = true) (i : Nat) (hi : i < A.length) (h : nth false (chgL A B) i = true) : nth false (chgL A B) (othC A i) = true ∧ nth false (chgL A B) (othC B i) = true := by
  have h1 := chgL_length hl
  have h2 := close_end (othC A) (othC B) (diffB A B)
  rw [diffB_length A B hl] at h2
  exact pass_closed (oa := othC A) (ob := othC B) (L := chgL A B) (by rw [h1]; exact h2) (fun j hj => by rw [h1] at hj ⊢; exact othC_lt ha j hj) (fun j hj => by rw [h1] at hj ⊢; rw [hl] at hj ⊢; exact othC_lt hb j hj) i (by omega) h
theorem chgL_pair {A B : List GC} (hl : A.length = B.length) (ha : wholeB A = true) (hb : wholeB B = true) (i : Nat) (hi : i + 1 < A.length) (h : (nth GC.zero A i).w = 2 ∨ (nth GC.zero B i).w = 2) : nth false (chgL A B) i = nth false (chgL A B) (i + 1) := by
  have key : ∀ M : List GC, wholeB M = true → i + 1 < M.length → (nth GC.zero M i).w = 2 → othC M i = i + 1 ∧ othC M (i + 1) = i := fun M hM hi2 hw => by
    constructor
    · unfold othC; rw [if_pos hw]
    · rcases whole_at hM i (by omega) with h | ⟨_, _, h2⟩ | ⟨h, _⟩
      · omega
      · unfold othC; rw [h2]; rfl
      · omega
  rw [Bool.eq_iff_iff]
  rcases h with h | h
  · obtain ⟨k1, k2⟩ := key A ha hi h
    constructor
    · intro e; have := (chgL_closed hl ha hb i (by omega) e).1; rwa [k1] at this
    · intro e; have := (chgL_closed hl ha hb (i + 1) hi e).1; rwa [k2] at this
  · obtain ⟨k1, k2⟩ := key B hb (by omega) h
    constructor
    · intro e; have := (chgL_closed hl ha hb i (by omega) e).2; rwa [k1] at this
    · intro e; have := (chgL_closed hl ha hb (i + 1) hi e).2; rwa [k2] at this
theorem chgL_chg {A B : List GC} (hl : A.length = B.length) (ha : wholeB A = true) (hb : wholeB B = true) : Chg A B (chgL A B) :=
  { a := ha, b := hb, la := (chgL_length hl).symm, lb := by rw [chgL_length hl, hl]
    same := fun i hi h => by
      rw [chgL_length hl] at hi
      have h1 : nth false (diffB A B) i ≠ true := fun e => by
        have := leB_close (othC A) (othC B) (diffB A B) A.length i e
        unfold chgL at h
        rw [h] at this
        cases this
      rw [diffB_nth A B i hl hi] at h1
      exact (eqC_iff _ _).1 (by simpa using h1)
    cut := fun i hi h => by
      rw [chgL_length hl] at hi
      refine ⟨fun e => h (chgL_pair hl ha hb i hi (.inl e)), fun e => h (chgL_pair hl ha hb i hi (.inr e))⟩ }
theorem drop_nth {L : List Bool} {i : Nat} (hi : i < L.length) : L.drop i = nth false L i :: L.drop (i + 1) := by
  rw [List.drop_eq_getElem_cons hi]
  unfold nth
  rw [List.getD_eq_getElem?_getD, List.getElem?_eq_getElem hi]
  rfl
theorem spansF_on (L : List Bool) (i : Nat) (hi : i < L.length) (h : nth false L i = true) : spansF i none (L.drop i) = spansF (i + 1) (some i) (L.drop (i + 1)) := by
  rw [drop_nth hi, h, spansF]
theorem spansF_more (L : List Bool) (i a : Nat) (hi : i < L.length) (h : nth false L i = true) : spansF i (some a) (L.drop i) = spansF (i + 1) (some a) (L.drop (i + 1)) := by
  rw [drop_nth hi, h, spansF]
theorem spansF_off (L : List Bool) (i : Nat) (hi : i < L.length) (h : nth false L i = false) : spansF i none (L.drop i) = spansF (i + 1) none (L.drop (i + 1)) := by
  rw [drop_nth hi, h, spansF]
theorem spansF_shut (L : List Bool) (i a : Nat) (hi : i < L.length) (h : nth false L i = false) : spansF i (some a) (L.drop i) = (a, i) :: spansF (i + 1) none (L.drop (i + 1)) := by
  rw [drop_nth hi, h, spansF]
theorem spansF_past (L : List Bool) (i : Nat) (hi : L.length ≤ i) : spansF i none (L.drop i) = [] := by
  rw [List.drop_of_length_le hi, spansF]
end Go.Proofs.YtekodpcedjpnjaaGreat
