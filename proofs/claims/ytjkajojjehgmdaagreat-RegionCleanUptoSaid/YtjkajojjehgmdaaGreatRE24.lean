/- A terminal as plain data: a band turned from one frame into another one; how many bytes these are. No condition. Which columns of two rows change: marks closed under the other columns of wide cells. Plain lists. No condition. The terminal ahead of a blank band and behind it, which have a letter each: what its bytes lead to. Plain. Spans of all rows. No condition. Spans of two frames, plain: where they begin and end; how many columns they are. No condition. -/
import Derived.Test.YtjkajojjehgmdaaGreatRE23
set_option linter.unusedVariables false
set_option linter.unusedSimpArgs false
namespace Go.Proofs.YtjkajojjehgmdaaGreat
open Go.RowKit Go.Maps
def spansR : Nat → List (List Bool) → List (Nat × Nat × Nat)
 | _, [] => []
 | r, on :: l => (spansF 0 none on).map (fun s => (r, s.1, s.2)) ++ spansR (r + 1) l
theorem band_nth {Pre Post M : List (List GC)} {r : Nat} (h : r < M.length) : nth [] (Pre ++ (M ++ Post)) (Pre.length + r) = nth [] M r := by
 unfold nth
 rw [List.getD_eq_getElem?_getD, List.getD_eq_getElem?_getD, List.getElem?_append_right (by omega), Nat.add_sub_cancel_left, List.getElem?_append_left h]
theorem band_set {Pre Post M : List (List GC)} {r : Nat} (h : r < M.length) (x : List GC) : (Pre ++ (M ++ Post)).set (Pre.length + r) x = Pre ++ (M.set r x ++ Post) := by
 rw [List.set_append_right _ _ (by omega), Nat.add_sub_cancel_left, List.set_append_left _ _ h]
theorem rows_nth {A B : List (List GC)} {r : Nat} (h1 : r ≤ B.length) (h2 : r < A.length) : nth [] (B.take r ++ A.drop r) r = nth [] A r := by
 unfold nth
 rw [List.getD_eq_getElem?_getD, List.getD_eq_getElem?_getD, List.getElem?_append_right (by rw [List.length_take]; omega), List.length_take, List.getElem?_drop]
 congr 2
 omega
theorem rows_set {A B : List (List GC)} {r : Nat} (h1 : r < B.length) (h2 : r < A.length) : (B.take r ++ A.drop r).set r (nth [] B r) = B.take (r + 1) ++ A.drop (r + 1) := by
 rw [List.set_append_right _ _ (by rw [List.length_take]; omega), List.length_take, show r - min r B.length = 0 by omega, List.drop_eq_getElem_cons h2, List.set_cons_zero, List.take_succ_eq_append_getElem h1, nth_eq _ _ _ h1, List.append_assoc]
 rfl
theorem run_rows {A B : List (List GC)} {ons : List (List Bool)} {w : Nat} {Pre Post : List (List GC)} (hA : A.length = ons.length) (hB : B.length = ons.length) (hon : ∀ r, r < ons.length → (nth [] ons r).length = w) (hC : ∀ r, r < ons.length → Chg (nth [] A r) (nth [] B r) (nth [] ons r)) :
    ∀ (L : List (List Bool)) (r : Nat) (t : TS) (p : Pen), ons.drop r = L → r ≤ ons.length → TOk t → t.W = w → t.R = Pre ++ ((B.take r ++ A.drop r) ++ Post) → PAt Pre.length p t →
    ∃ u, (∀ x, runT t ((penL w B p (spansR r L)).1 ++ x) = runT u x) ∧ TOk u ∧ PAt Pre.length (penL w B p (spansR r L)).2 u ∧ u.R = Pre ++ (B ++ Post) ∧ Kept t u := by
 intro L
 induction L with
 | nil =>
  intro r t p hd hr k hW hR pa
  have hre : r = ons.length := by
   have := congrArg List.length hd
   rw [List.length_drop] at this
   simp at this; omega
  refine ⟨t, fun x => by simp [spansR, penL], k, by simp only [spansR, penL]; exact pa, ?_, Kept.refl t⟩
  rw [hR, List.take_of_length_le (by omega), List.drop_of_length_le (by omega), List.append_nil]
 | cons on L ih =>
  intro r t p hd hr k hW hR pa
  have hlt : r < ons.length := by
   have := congrArg List.length hd
   rw [List.length_drop] at this
   simp at this; omega
  have hdc := List.drop_eq_getElem_cons hlt
  rw [hd] at hdc
  obtain ⟨hc, hL⟩ := List.cons.inj hdc
  have hci : nth [] ons r = on := by rw [nth_eq _ _ _ hlt]; exact hc.symm
  have ch := hC r hlt
  have hol := hon r hlt
  rw [hci] at ch hol
  have hml : (B.take r ++ A.drop r).length = ons.length := by rw [List.length_append, List.length_take, List.length_drop]; omega
  have hn := k.ok.n
  have hn' := congrArg List.length hR
  simp only [List.length_append] at hn'
  rw [List.length_append] at hml
  obtain ⟨u, u1, u2, u3, u4, u5⟩ := run_row ch (top := Pre.length) (r := r) (w := w) (BB := B) rfl hol on 0 none t p rfl (Nat.zero_le _) k hW (by omega) pa
   ⟨by rw [hR, band_nth (by rw [List.length_append]; omega), rows_nth (by omega) (by omega)]; rfl, .inl rfl⟩
  rw [hR, band_set (by rw [List.length_append]; omega), rows_set (by omega) (by omega)] at u4
  obtain ⟨v, v1, v2, v3, v4, v5⟩ := ih (r + 1) u _ hL.symm (by omega) u2 (by rw [u5.W]; exact hW) u4 u3
  rw [spansR, penL_app]
  refine ⟨v, fun x => ?_, v2, v3, v4, u5.trans v5⟩
  rw [List.append_assoc, u1, v1]
def paintB (w : Nat) (B : List (List GC)) (ar ac : Nat) (l : List (Nat × Nat × Nat)) (br bc : Nat) : List UInt8 :=
 (penL w B ⟨ar, ac, false, Sy.zero⟩ l).1 ++ styB (penL w B ⟨ar, ac, false, Sy.zero⟩ l).2.y Sy.zero ++ Pen.mv { (penL w B ⟨ar, ac, false, Sy.zero⟩ l).2 with y := Sy.zero } br bc
theorem may_zero : mayS Sy.zero := by unfold mayS; decide
theorem run_paint {A B : List (List GC)} {ons : List (List Bool)} {w : Nat} {Pre Post : List (List GC)} (hA : A.length = ons.length) (hB : B.length = ons.length) (hon : ∀ r, r < ons.length → (nth [] ons r).length = w) (hC : ∀ r, r < ons.length → Chg (nth [] A r) (nth [] B r) (nth [] ons r))
    {t : TS} (k : TOk t) (hW : t.W = w) (hR : t.R = Pre ++ (A ++ Post)) {ar ac br bc : Nat} (h1 : t.row = Pre.length + ar) (h2 : t.col = ac) (h3 : t.pend = false) (h4 : t.y = Sy.zero) (hbr : br < B.length) (hbc : bc < w) :
    ∃ u, (∀ x, runT t (paintB w B ar ac (spansR 0 ons) br bc ++ x) = runT u x) ∧ TOk u ∧ u.R = Pre ++ (B ++ Post) ∧ u.row = Pre.length + br ∧ u.col = bc ∧ u.pend = false ∧ u.y = Sy.zero ∧ Kept t u := by
 obtain ⟨u, u1, u2, u3, u4, u5⟩ := run_rows hA hB hon hC ons 0 t ⟨ar, ac, false, Sy.zero⟩ rfl (Nat.zero_le _) k hW (by simpa using hR) ⟨h1, h2, h3, h4, may_zero⟩
 obtain ⟨x, hx⟩ : ∃ x, x = penL w B ⟨ar, ac, false, Sy.zero⟩ (spansR 0 ons) := ⟨_, rfl⟩
 unfold paintB
 rw [← hx] at u1 u3 ⊢
 have uy : u.y = x.2.y := u3.y
 obtain ⟨v, v1, v2, v3, v4, v5, v6, v7⟩ := run_sty u2 (by rw [u3.y]; exact u3.may) Sy.zero may_zero
 rw [uy] at v1
 have hn := v2.ok.n
 have hn' := congrArg List.length (v4.trans u4)
 simp only [List.length_append] at hn'
 obtain ⟨z, z1, z2, z3, z4, z5⟩ := run_mv (top := Pre.length) (p := { x.2 with y := Sy.zero }) v2 ⟨v7.row.trans u3.row, v5.trans u3.col, v6.trans u3.pend, v3, may_zero⟩ (r := br) (c := bc) (by omega) (by rw [v7.W, u5.W, hW]; exact hbc)
 refine ⟨z, fun y => ?_, z2, by rw [z4, v4, u4], z3.row, z3.col, z3.pend, z3.y, u5.trans (v7.kept.trans z5)⟩
 rw [List.append_assoc, List.append_assoc, u1, v1, z1]
theorem moveL_len (a b c d : Int) : (moveL a b c d).length ≤ 14 := by
 have h1 := byL_len (a - c) 65
 have h2 := byL_len (c - a) 66
 have h3 := colL_len d
 have h4 : (byL (a - c) 65 ++ byL (c - a) 66).length ≤ 7 := by
  rw [List.length_append]
  by_cases h : a - c < 1
  ·rw [byL_0 h]; simpa using h2
  ·rw [byL_0 (n := c - a) (by omega)]; simpa using h1
 have h5 : (byL (d - b) 67 ++ byL (b - d) 68).length ≤ 7 := by
  have h1 := byL_len (d - b) 67
  have h2 := byL_len (b - d) 68
  rw [List.length_append]
  by_cases h : d - b < 1
  ·rw [byL_0 h]; simpa using h2
  ·rw [byL_0 (n := b - d) (by omega)]; simpa using h1
 unfold moveL
 dsimp only
 split
 ·omega
 split
 ·rw [List.length_append]; simp only [List.length_cons, List.length_nil]; omega
 split <;> (rw [List.length_append]; omega)
theorem mv_len (p : Pen) (r c : Nat) : (p.mv r c).length ≤ 14 := by
 unfold Pen.mv
 split
 ·have := colL_len (c : Int); omega
 ·exact moveL_len _ _ _ _
def okC (c : GC) : Prop := c.w = 0 ∨ okB c = true
theorem cellsB_len : ∀ (M : List GC) (y : Sy), (∀ c ∈ M, okC c) → (cellsB y M).length ≤ 85 * M.length
 | [], _, _ => by simp [cellsB]
 | c :: M, y, h => by
  have ih := fun y => cellsB_len M y (fun z hz => h z (List.mem_cons_of_mem _ hz))
  rw [cellsB, List.length_cons]
  split
  ·have := ih y; omega
  ·rename_i hw
   obtain ⟨h1, h2, h3, h4, h5⟩ := okB_facts ((h c (List.mem_cons_self ..)).resolve_left hw)
   have hs : c.s.size = c.s.data.toList.length := by rw [Array.length_toList]; rfl
   have h6 := styB_len y c.y (mayF_S h1)
   have := ih c.y
   simp only [List.length_append]
   omega
theorem whole_okC {M : List GC} (h : wholeB M = true) : ∀ c ∈ M, okC c :=
 whole_ind (P := fun M => ∀ c ∈ M, okC c) (fun c hc => by cases hc) (fun c t ho _ _ ih x hx => by
  rcases List.mem_cons.1 hx with rfl | h
  ·exact .inr ho
  ·exact ih x h) (fun c t ho _ _ ih x hx => by
  rcases List.mem_cons.1 hx with rfl | h
  ·exact .inr ho
  ·rcases List.mem_cons.1 h with rfl | h
   ·exact .inl rfl
   ·exact ih x h) M.length M (Nat.le_refl _) h
def sumS (l : List (Nat × Nat × Nat)) : Nat := (l.map fun s => s.2.2 - s.2.1).sum
theorem spanB_len (p : Pen) (w r a b : Nat) (l : List GC) (hl : ∀ c ∈ l, okC c) (hab : a < b) : (spanB p w r a b l).1.length ≤ 100 * (b - a) := by
 have h1 := mv_len p r a
 have h2 := cellsB_len ((l.drop a).take (b - a)) p.y (fun c hc => hl c (List.mem_of_mem_drop (List.mem_of_mem_take hc)))
 have h3 : ((l.drop a).take (b - a)).length ≤ b - a := by rw [List.length_take]; omega
 unfold spanB
 dsimp only
 rw [List.length_append]
 have : 85 * ((l.drop a).take (b - a)).length ≤ 85 * (b - a) := Nat.mul_le_mul_left _ h3
 omega
theorem penL_len (w : Nat) (B : List (List GC)) (hB : ∀ M ∈ B, ∀ c ∈ M, okC c) : ∀ (l : List (Nat × Nat × Nat)) (p : Pen), (∀ s ∈ l, s.2.1 < s.2.2) → (penL w B p l).1.length ≤ 100 * sumS l
 | [], p, _ => by simp [penL]
 | s :: l, p, h => by
  have h1 : ∀ c ∈ nth [] B s.1, okC c := fun c hc => by
   rcases Nat.lt_or_ge s.1 B.length with hl | hl
   ·rw [nth_eq _ _ _ hl] at hc; exact hB _ (List.getElem_mem hl) c hc
   ·unfold nth at hc
    rw [List.getD_eq_getElem?_getD, List.getElem?_eq_none hl] at hc
    cases hc
  have h2 := spanB_len p w s.1 s.2.1 s.2.2 (nth [] B s.1) h1 (h s (List.mem_cons_self ..))
  have h3 := penL_len w B hB l (spanB p w s.1 s.2.1 s.2.2 (nth [] B s.1)).2 (fun z hz => h z (List.mem_cons_of_mem _ hz))
  rw [penL]
  dsimp only
  rw [List.length_append]
  unfold sumS at h3 ⊢
  rw [List.map_cons, List.sum_cons]
  omega
theorem paintB_len (w : Nat) (B : List (List GC)) (hB : ∀ M ∈ B, ∀ c ∈ M, okC c) (ar ac : Nat) (l : List (Nat × Nat × Nat)) (hl : ∀ s ∈ l, s.2.1 < s.2.2) (br bc : Nat) : (paintB w B ar ac l br bc).length ≤ 100 * sumS l + 35 := by
 have h1 := penL_len w B hB l ⟨ar, ac, false, Sy.zero⟩ hl
 unfold paintB
 obtain ⟨x, hx⟩ : ∃ x, x = penL w B ⟨ar, ac, false, Sy.zero⟩ l := ⟨_, rfl⟩
 rw [← hx] at h1 ⊢
 have h2 := styB_len x.2.y Sy.zero (by decide)
 have h3 := mv_len { x.2 with y := Sy.zero } br bc
 rw [List.length_append, List.length_append]
 omega
def markAt (oa ob : Nat → Nat) (L : List Bool) (i : Nat) : List Bool := if nth false L i = true then (L.set (oa i) true).set (ob i) true else L
def passN (oa ob : Nat → Nat) (L : List Bool) : Nat → List Bool
 | 0 => L
 | k + 1 => markAt oa ob (passN oa ob L k) k
def closeN (oa ob : Nat → Nat) (L : List Bool) : Nat → List Bool
 | 0 => L
 | k + 1 => passN oa ob (closeN oa ob L k) L.length
def trues : List Bool → Nat
 | [] => 0
 | true :: t => trues t + 1
 | false :: t => trues t
def LeB (L M : List Bool) : Prop := ∀ i : Nat, nth false L i = true → nth false M i = true
theorem LeB.refl (L : List Bool) : LeB L L := fun _ h => h
theorem LeB.trans {L M N : List Bool} (h : LeB L M) (k : LeB M N) : LeB L N := fun i x => k i (h i x)
theorem nth_setB (L : List Bool) (i j : Nat) (x : Bool) : nth false (L.set i x) j = if i = j ∧ j < L.length then x else nth false L j := by
 unfold nth
 rw [List.getD_eq_getElem?_getD, List.getD_eq_getElem?_getD, List.getElem?_set]
 by_cases h : i = j
 ·subst h
  by_cases h2 : i < L.length
  ·simp [h2]
  ·simp [h2]
 ·simp [h]
theorem leB_set (L : List Bool) (i : Nat) : LeB L (L.set i true) := fun j h => by
 rw [nth_setB]
 split
 ·rfl
 ·exact h
theorem leB_mark (oa ob : Nat → Nat) (L : List Bool) (i : Nat) : LeB L (markAt oa ob L i) := by
 unfold markAt
 split
 ·exact (leB_set _ _).trans (leB_set _ _)
 ·exact LeB.refl _
theorem markAt_length (oa ob : Nat → Nat) (L : List Bool) (i : Nat) : (markAt oa ob L i).length = L.length := by
 unfold markAt
 split <;> simp
theorem passN_length (oa ob : Nat → Nat) (L : List Bool) : ∀ k, (passN oa ob L k).length = L.length
 | 0 => rfl
 | k + 1 => by rw [passN, markAt_length, passN_length oa ob L k]
theorem closeN_length (oa ob : Nat → Nat) (L : List Bool) : ∀ k, (closeN oa ob L k).length = L.length
 | 0 => rfl
 | k + 1 => by rw [closeN, passN_length, closeN_length oa ob L k]
theorem leB_pass (oa ob : Nat → Nat) (L : List Bool) : ∀ k, LeB L (passN oa ob L k)
 | 0 => LeB.refl _
 | k + 1 => (leB_pass oa ob L k).trans (leB_mark _ _ _ _)
theorem leB_pass2 (oa ob : Nat → Nat) (L : List Bool) (j : Nat) : ∀ k, LeB (passN oa ob L j) (passN oa ob L (j + k))
 | 0 => LeB.refl _
 | k + 1 => (leB_pass2 oa ob L j k).trans (leB_mark _ _ _ _)
theorem leB_close (oa ob : Nat → Nat) (L : List Bool) : ∀ k, LeB L (closeN oa ob L k)
 | 0 => LeB.refl _
 | k + 1 => (leB_close oa ob L k).trans (leB_pass _ _ _ _)
theorem leB_cons {x y : Bool} {L M : List Bool} (h : LeB (x :: L) (y :: M)) : (x = true → y = true) ∧ LeB L M :=
 ⟨fun e => by simpa [nth] using h 0 (by simpa [nth] using e), fun i e => by simpa [nth] using h (i + 1) (by simpa [nth] using e)⟩
theorem leB_trues : ∀ (L M : List Bool), L.length = M.length → LeB L M → trues L ≤ trues M ∧ (trues L = trues M → L = M)
 | [], [], _, _ => ⟨Nat.le_refl _, fun _ => rfl⟩
 | [], _ :: _, h, _ => by cases h
 | _ :: _, [], h, _ => by cases h
 | x :: L, y :: M, h, k => by
  obtain ⟨h1, h2⟩ := leB_cons k
  obtain ⟨h3, h4⟩ := leB_trues L M (by simpa using h) h2
  cases x <;> cases y <;> simp only [trues] at *
  ·exact ⟨h3, fun e => by rw [h4 e]⟩
  ·exact ⟨by omega, fun e => by omega⟩
  ·cases h1 trivial
  ·exact ⟨by omega, fun e => by rw [h4 (by omega)]⟩
theorem leB_antisymm {L M : List Bool} (hl : L.length = M.length) (h : LeB L M) (k : LeB M L) : L = M :=
 (leB_trues L M hl h).2 (Nat.le_antisymm (leB_trues L M hl h).1 (leB_trues M L hl.symm k).1)
theorem trues_le : ∀ L : List Bool, trues L ≤ L.length
 | [] => Nat.le_refl _
 | true :: t => by have := trues_le t; simp only [trues, List.length_cons]; omega
 | false :: t => by have := trues_le t; simp only [trues, List.length_cons]; omega
theorem pass_closed {oa ob : Nat → Nat} {L : List Bool} (h : passN oa ob L L.length = L) (ha : ∀ i, i < L.length → oa i < L.length) (hb : ∀ i, i < L.length → ob i < L.length) (i : Nat) (hi : i < L.length) (ht : nth false L i = true) : nth false L (oa i) = true ∧ nth false L (ob i) = true := by
 have hk : ∀ k, k ≤ L.length → passN oa ob L k = L := fun k hk => by
  refine leB_antisymm (passN_length ..) ?_ (leB_pass oa ob L k)
  have := leB_pass2 oa ob L k (L.length - k)
  rw [show k + (L.length - k) = L.length by omega, h] at this
  exact this
 have h1 := hk (i + 1) hi
 rw [passN, hk i (by omega), markAt, if_pos ht] at h1
 constructor
 ·rw [← h1, nth_setB]
  split
  ·rfl
  ·rw [nth_setB, if_pos ⟨rfl, ha i hi⟩]
 ·rw [← h1, nth_setB, if_pos ⟨rfl, by rw [List.length_set]; exact hb i hi⟩]
theorem close_stay {oa ob : Nat → Nat} {L : List Bool} {k : Nat} (h : closeN oa ob L (k + 1) = closeN oa ob L k) : ∀ j, closeN oa ob L (k + j) = closeN oa ob L k
 | 0 => rfl
 | j + 1 => by
  rw [show k + (j + 1) = (k + j) + 1 by omega, closeN, close_stay h j]
  exact h
theorem close_count (oa ob : Nat → Nat) (L : List Bool) : ∀ k, (∀ j, j < k → closeN oa ob L (j + 1) ≠ closeN oa ob L j) → k ≤ trues (closeN oa ob L k)
 | 0, _ => Nat.zero_le _
 | k + 1, h => by
  have h1 := close_count oa ob L k (fun j hj => h j (by omega))
  have h2 := leB_trues (closeN oa ob L k) (closeN oa ob L (k + 1)) (by rw [closeN_length, closeN_length]) (leB_pass _ _ _ _)
  have h3 : trues (closeN oa ob L k) ≠ trues (closeN oa ob L (k + 1)) := fun e => h k (by omega) (h2.2 e).symm
  omega
theorem close_bound (oa ob : Nat → Nat) (L : List Bool) (k : Nat) (h : ∀ j, j < k → closeN oa ob L (j + 1) ≠ closeN oa ob L j) : k ≤ L.length := by
 have h1 := close_count oa ob L k h
 have h2 := trues_le (closeN oa ob L k)
 rw [closeN_length] at h2
 omega
theorem close_stop {oa ob : Nat → Nat} {L : List Bool} {k : Nat} (h : ∀ j, j < k → closeN oa ob L (j + 1) ≠ closeN oa ob L j) (hs : closeN oa ob L (k + 1) = closeN oa ob L k) : closeN oa ob L k = closeN oa ob L L.length := by
 have h1 := close_bound oa ob L k h
 have h2 := close_stay hs (L.length - k)
 rw [show k + (L.length - k) = L.length by omega] at h2
 exact h2.symm
theorem close_end (oa ob : Nat → Nat) (L : List Bool) : passN oa ob (closeN oa ob L L.length) L.length = closeN oa ob L L.length := by
 refine Classical.byContradiction fun hne => ?_
 have h : ∀ j, j < L.length + 1 → closeN oa ob L (j + 1) ≠ closeN oa ob L j := fun j hj e => by
  have h2 := close_stay e (L.length - j)
  have h3 := close_stay e (L.length + 1 - j)
  rw [show j + (L.length - j) = L.length by omega] at h2
  rw [show j + (L.length + 1 - j) = L.length + 1 by omega] at h3
  exact hne (by rw [h2]; rw [closeN, h2] at h3; exact h3)
 have := close_bound oa ob L (L.length + 1) h
 omega
def othC (M : List GC) (i : Nat) : Nat := if (nth GC.zero M i).w = 2 then i + 1 else if (nth GC.zero M i).w = 0 then i - 1 else i
theorem whole_at {M : List GC} (h : wholeB M = true) : ∀ i, i < M.length → ((nth GC.zero M i).w = 1) ∨ ((nth GC.zero M i).w = 2 ∧ i + 1 < M.length ∧ nth GC.zero M (i + 1) = GC.tail (nth GC.zero M i).y) ∨ ((nth GC.zero M i).w = 0 ∧ 0 < i ∧ (nth GC.zero M (i - 1)).w = 2) :=
 whole_ind (P := fun M => ∀ i, i < M.length → ((nth GC.zero M i).w = 1) ∨ ((nth GC.zero M i).w = 2 ∧ i + 1 < M.length ∧ nth GC.zero M (i + 1) = GC.tail (nth GC.zero M i).y) ∨ ((nth GC.zero M i).w = 0 ∧ 0 < i ∧ (nth GC.zero M (i - 1)).w = 2))
  (fun i hi => by cases hi) (fun c t _ hw _ ih i hi => by
   cases i with
   | zero => exact .inl hw
   | succ i =>
    rw [List.length_cons] at hi ⊢
    have e : ∀ j, nth GC.zero (c :: t) (j + 1) = nth GC.zero t j := fun j => rfl
    simp only [e]
    rcases ih i (by omega) with h | ⟨h1, h2, h3⟩ | ⟨h1, h2, h3⟩
    ·exact .inl h
    ·exact .inr (.inl ⟨h1, by omega, h3⟩)
    ·refine .inr (.inr ⟨h1, by omega, ?_⟩)
     obtain ⟨j, rfl⟩ : ∃ j, i = j + 1 := ⟨i - 1, by omega⟩
     exact h3) (fun c t _ hw _ ih i hi => by
   have e : ∀ j, nth GC.zero (c :: GC.tail c.y :: t) (j + 1 + 1) = nth GC.zero t j := fun j => rfl
   cases i with
   | zero => exact .inr (.inl ⟨hw, by simp, rfl⟩)
   | succ i =>
    cases i with
    | zero => exact .inr (.inr ⟨rfl, by omega, hw⟩)
    | succ i =>
     rw [List.length_cons, List.length_cons] at hi ⊢
     simp only [e]
     rcases ih i (by omega) with h | ⟨h1, h2, h3⟩ | ⟨h1, h2, h3⟩
     ·exact .inl h
     ·exact .inr (.inl ⟨h1, by omega, h3⟩)
     ·refine .inr (.inr ⟨h1, by omega, ?_⟩)
      obtain ⟨j, rfl⟩ : ∃ j, i = j + 1 := ⟨i - 1, by omega⟩
      exact h3) M.length M (Nat.le_refl _) h
theorem othC_lt {M : List GC} (h : wholeB M = true) (i : Nat) (hi : i < M.length) : othC M i < M.length := by
 unfold othC
 rcases whole_at h i hi with h | ⟨h, h1, h2⟩ | ⟨h, h1, h2⟩
 ·rw [if_neg (by omega), if_neg (by omega)]; exact hi
 ·rw [if_pos h]; exact h1
 ·rw [if_neg (by omega), if_pos h]; omega
def diffB : List GC → List GC → List Bool
 | a :: A, b :: B => (!eqC a b) :: diffB A B
 | _, _ => []
theorem diffB_length : ∀ (A B : List GC), A.length = B.length → (diffB A B).length = A.length
 | [], [], _ => rfl
 | [], _ :: _, h => by cases h
 | _ :: _, [], h => by cases h
 | a :: A, b :: B, h => by rw [diffB, List.length_cons, List.length_cons, diffB_length A B (by simpa using h)]
theorem diffB_nth : ∀ (A B : List GC) (i : Nat), A.length = B.length → i < A.length → nth false (diffB A B) i = !eqC (nth GC.zero A i) (nth GC.zero B i)
 | [], [], _, _, hi => by cases hi
 | [], _ :: _, _, h, _ => by cases h
 | _ :: _, [], _, h, _ => by cases h
 | a :: A, b :: B, 0, h, hi => rfl
 | a :: A, b :: B, i + 1, h, hi => diffB_nth A B i (by simpa using h) (by simpa using hi)
def chgL (A B : List GC) : List Bool := closeN (othC A) (othC B) (diffB A B) A.length
theorem chgL_length {A B : List GC} (h : A.length = B.length) : (chgL A B).length = A.length := by
 unfold chgL; rw [closeN_length, diffB_length A B h]
theorem chgL_closed {A B : List GC} (hl : A.length = B.length) (ha : wholeB A = true) (hb : wholeB B = true) (i : Nat) (hi : i < A.length) (h : nth false (chgL A B) i = true) : nth false (chgL A B) (othC A i) = true ∧ nth false (chgL A B) (othC B i) = true := by
 have h1 := chgL_length hl
 have h2 := close_end (othC A) (othC B) (diffB A B)
 rw [diffB_length A B hl] at h2
 exact pass_closed (oa := othC A) (ob := othC B) (L := chgL A B) (by rw [h1]; exact h2) (fun j hj => by rw [h1] at hj ⊢; exact othC_lt ha j hj) (fun j hj => by rw [h1] at hj ⊢; rw [hl] at hj ⊢; exact othC_lt hb j hj) i (by omega) h
theorem chgL_pair {A B : List GC} (hl : A.length = B.length) (ha : wholeB A = true) (hb : wholeB B = true) (i : Nat) (hi : i + 1 < A.length) (h : (nth GC.zero A i).w = 2 ∨ (nth GC.zero B i).w = 2) : nth false (chgL A B) i = nth false (chgL A B) (i + 1) := by
 have key : ∀ M : List GC, wholeB M = true → i + 1 < M.length → (nth GC.zero M i).w = 2 → othC M i = i + 1 ∧ othC M (i + 1) = i := fun M hM hi2 hw => by
  constructor
  ·unfold othC; rw [if_pos hw]
  ·rcases whole_at hM i (by omega) with h | ⟨_, _, h2⟩ | ⟨h, _⟩
   ·omega
   ·unfold othC; rw [h2]; rfl
   ·omega
 rw [Bool.eq_iff_iff]
 rcases h with h | h
 ·obtain ⟨k1, k2⟩ := key A ha hi h
  constructor
  ·intro e; have := (chgL_closed hl ha hb i (by omega) e).1; rwa [k1] at this
  ·intro e; have := (chgL_closed hl ha hb (i + 1) hi e).1; rwa [k2] at this
 ·obtain ⟨k1, k2⟩ := key B hb (by omega) h
  constructor
  ·intro e; have := (chgL_closed hl ha hb i (by omega) e).2; rwa [k1] at this
  ·intro e; have := (chgL_closed hl ha hb (i + 1) hi e).2; rwa [k2] at this
theorem chgL_chg {A B : List GC} (hl : A.length = B.length) (ha : wholeB A = true) (hb : wholeB B = true) : Chg A B (chgL A B) :=
 { a := ha, b := hb, la := (chgL_length hl).symm, lb := by rw [chgL_length hl, hl]
   same := fun i hi h => by
    rw [chgL_length hl] at hi
    have h1 : nth false (diffB A B) i ≠ true := fun e => by
     have := leB_close (othC A) (othC B) (diffB A B) A.length i e
     unfold chgL at h
     rw [h] at this
     cases this
    rw [diffB_nth A B i hl hi] at h1
    exact (eqC_iff _ _).1 (by simpa using h1)
   cut := fun i hi h => by
    rw [chgL_length hl] at hi
    refine ⟨fun e => h (chgL_pair hl ha hb i hi (.inl e)), fun e => h (chgL_pair hl ha hb i hi (.inr e))⟩ }
theorem drop_nth {L : List Bool} {i : Nat} (hi : i < L.length) : L.drop i = nth false L i :: L.drop (i + 1) := by
 rw [List.drop_eq_getElem_cons hi]
 unfold nth
 rw [List.getD_eq_getElem?_getD, List.getElem?_eq_getElem hi]
 rfl
theorem spansF_on (L : List Bool) (i : Nat) (hi : i < L.length) (h : nth false L i = true) : spansF i none (L.drop i) = spansF (i + 1) (some i) (L.drop (i + 1)) := by
 rw [drop_nth hi, h, spansF]
theorem spansF_more (L : List Bool) (i a : Nat) (hi : i < L.length) (h : nth false L i = true) : spansF i (some a) (L.drop i) = spansF (i + 1) (some a) (L.drop (i + 1)) := by
 rw [drop_nth hi, h, spansF]
theorem spansF_off (L : List Bool) (i : Nat) (hi : i < L.length) (h : nth false L i = false) : spansF i none (L.drop i) = spansF (i + 1) none (L.drop (i + 1)) := by
 rw [drop_nth hi, h, spansF]
theorem spansF_shut (L : List Bool) (i a : Nat) (hi : i < L.length) (h : nth false L i = false) : spansF i (some a) (L.drop i) = (a, i) :: spansF (i + 1) none (L.drop (i + 1)) := by
 rw [drop_nth hi, h, spansF]
theorem spansF_past (L : List Bool) (i : Nat) (hi : L.length ≤ i) : spansF i none (L.drop i) = [] := by
 rw [List.drop_of_length_le hi, spansF]
theorem run_lf (t : TS) (x : List UInt8) : runT t ([10] ++ x) = runT t.off.feed x := by
 have hf : t.first ([10] ++ x) = (t.off.feed, 1) := rfl
 rw [run_step _ _ (by rw [hf]; simp), hf]
 rfl
def onsL (A B : List (List GC)) : List (List Bool) := List.zipWith chgL A B
theorem onsL_length {A B : List (List GC)} (h : A.length = B.length) : (onsL A B).length = A.length := by
 unfold onsL; rw [List.length_zipWith]; omega
theorem onsL_nth {A B : List (List GC)} (h : A.length = B.length) {r : Nat} (hr : r < A.length) : nth [] (onsL A B) r = chgL (nth [] A r) (nth [] B r) := by
 rw [nth_eq _ _ _ (by rw [onsL_length h]; exact hr), nth_eq _ _ _ hr, nth_eq _ _ _ (by omega)]
 unfold onsL
 rw [List.getElem_zipWith]
def spansK (A B : List (List GC)) (k : Nat) : List (Nat × Nat × Nat) := spansR 0 ((onsL A B).take k)
def spansM (A B : List (List GC)) : List (Nat × Nat × Nat) := spansR 0 (onsL A B)
def rowSp (k : Nat) (on : List Bool) : List (Nat × Nat × Nat) := (spansF 0 none on).map fun s => (k, s.1, s.2)
theorem spansR_snoc (on : List Bool) : ∀ (L : List (List Bool)) (r : Nat), spansR r (L ++ [on]) = spansR r L ++ rowSp (r + L.length) on
 | [], r => by simp [spansR, rowSp]
 | x :: L, r => by
  rw [List.cons_append, spansR, spansR_snoc on L (r + 1), spansR, List.append_assoc, List.length_cons, show r + 1 + L.length = r + (L.length + 1) by omega]
theorem spansK_next {A B : List (List GC)} (h : A.length = B.length) {k : Nat} (hk : k < A.length) : spansK A B (k + 1) = spansK A B k ++ rowSp k (chgL (nth [] A k) (nth [] B k)) := by
 unfold spansK
 have hl := onsL_length h
 rw [List.take_succ_eq_append_getElem (by omega), spansR_snoc, List.length_take, ← onsL_nth h hk, nth_eq _ _ _ (by omega), Nat.zero_add, Nat.min_eq_left (by omega)]
theorem spansK_end {A B : List (List GC)} (h : A.length = B.length) : spansK A B A.length = spansM A B := by
 unfold spansK spansM
 rw [List.take_of_length_le (by rw [onsL_length h]; exact Nat.le_refl _)]
theorem spansF_count : ∀ (L : List Bool) (i : Nat) (o : Option Nat), (spansF i o L).length ≤ L.length + (if o.isSome then 1 else 0)
 | [], i, none => by simp [spansF]
 | [], i, some a => by simp [spansF]
 | true :: t, i, none => by
  have := spansF_count t (i + 1) (some i)
  simp [spansF] at this ⊢; omega
 | true :: t, i, some a => by
  have := spansF_count t (i + 1) (some a)
  simp [spansF] at this ⊢; omega
 | false :: t, i, none => by
  have := spansF_count t (i + 1) none
  simp [spansF] at this ⊢; omega
 | false :: t, i, some a => by
  have := spansF_count t (i + 1) none
  simp [spansF] at this ⊢; omega
theorem rowSp_count (k : Nat) (on : List Bool) : (rowSp k on).length ≤ on.length := by
 have := spansF_count on 0 none
 unfold rowSp
 rw [List.length_map]
 simpa using this
theorem spansK_count {A B : List (List GC)} (h : A.length = B.length) {w : Nat} (hA : ∀ r, r < A.length → (nth [] A r).length = w) (hB : ∀ r, r < B.length → (nth [] B r).length = w) : ∀ k, k ≤ A.length → (spansK A B k).length ≤ w * k
 | 0, _ => Nat.zero_le _
 | k + 1, hk => by
  have h1 := spansK_count h hA hB k (by omega)
  have h2 := rowSp_count k (chgL (nth [] A k) (nth [] B k))
  rw [chgL_length (by rw [hA k (by omega), hB k (by omega)]), hA k (by omega)] at h2
  rw [spansK_next h (by omega), List.length_append, Nat.mul_succ]
  omega
theorem sumS_app (l m : List (Nat × Nat × Nat)) : sumS (l ++ m) = sumS l + sumS m := by
 unfold sumS
 rw [List.map_append, List.sum_append]
structure Bd (M : List GC) (a e : Nat) : Prop where
 lt : a < e
 le : e ≤ M.length
 lo : a = 0 ∨ (nth GC.zero M (a - 1)).w ≠ 2
 hi : e = M.length ∨ (nth GC.zero M (e - 1)).w ≠ 2
structure OnS (on : List Bool) (s : Nat × Nat) : Prop where
 lt : s.1 < s.2
 le : s.2 ≤ on.length
 lo : s.1 = 0 ∨ nth false on (s.1 - 1) = false
 a : nth false on s.1 = true
 hi : s.2 = on.length ∨ nth false on s.2 = false
 e : nth false on (s.2 - 1) = true
theorem spansF_bd (on : List Bool) : ∀ (n i : Nat), on.length - i ≤ n → i ≤ on.length →
    ((i = 0 ∨ nth false on (i - 1) = false) → ∀ s ∈ spansF i none (on.drop i), OnS on s) ∧
    (∀ a, a < i → (a = 0 ∨ nth false on (a - 1) = false) → nth false on a = true → nth false on (i - 1) = true → ∀ s ∈ spansF i (some a) (on.drop i), OnS on s)
 | n, i, hn, hi => by
  by_cases h : i = on.length
  ·refine ⟨fun _ s hs => ?_, fun a h1 h2 h3 h4 s hs => ?_⟩
   ·rw [spansF_past on i (by omega)] at hs; cases hs
   ·rw [List.drop_of_length_le (by omega), spansF] at hs
    rw [List.mem_singleton.1 hs]
    exact ⟨h1, hi, h2, h3, .inl h, h4⟩
  ·obtain ⟨n, rfl⟩ : ∃ k, n = k + 1 := ⟨n - 1, by omega⟩
   have ih := spansF_bd on n (i + 1) (by omega) (by omega)
   have hlt : i < on.length := by omega
   refine ⟨fun h0 s hs => ?_, fun a h1 h2 h3 h4 s hs => ?_⟩
   ·cases hv : nth false on i with
    | true =>
     rw [spansF_on on i hlt hv] at hs
     exact ih.2 i (by omega) h0 hv (by simpa using hv) s hs
    | false =>
     rw [spansF_off on i hlt hv] at hs
     exact ih.1 (.inr (by simpa using hv)) s hs
   ·cases hv : nth false on i with
    | true =>
     rw [spansF_more on i a hlt hv] at hs
     exact ih.2 a (by omega) h2 h3 (by simpa using hv) s hs
    | false =>
     rw [spansF_shut on i a hlt hv] at hs
     rcases List.mem_cons.1 hs with rfl | hs
     ·exact ⟨h1, hi, h2, h3, .inr hv, h4⟩
     ·exact ih.1 (.inr (by simpa using hv)) s hs
theorem onS_bd {A B : List GC} {on : List Bool} (c : Chg A B on) {s : Nat × Nat} (h : OnS on s) : Bd B s.1 s.2 := by
 have hl := c.lb
 have h1 := h.lt
 have h2 := h.le
 refine ⟨h.lt, by omega, ?_, ?_⟩
 ·rcases h.lo with h3 | h3
  ·exact .inl h3
  ·by_cases h0 : s.1 = 0
   ·exact .inl h0
   ·right
    have := (c.cut (s.1 - 1) (by omega) (by rw [h3, show s.1 - 1 + 1 = s.1 by omega, h.a]; decide)).2
    exact this
 ·rcases h.hi with h3 | h3
  ·left; omega
  ·by_cases h0 : s.2 = on.length
   ·left; omega
   ·right
    have := (c.cut (s.2 - 1) (by omega) (by rw [h.e, show s.2 - 1 + 1 = s.2 by omega, h3]; decide)).2
    exact this
theorem spansR_mem : ∀ (L : List (List Bool)) (r : Nat) (s : Nat × Nat × Nat), s ∈ spansR r L → ∃ k, k < L.length ∧ s.1 = r + k ∧ s.2 ∈ spansF 0 none (nth [] L k)
 | [], _, _, h => by cases h
 | on :: L, r, s, h => by
  rw [spansR, List.mem_append] at h
  rcases h with h | h
  ·obtain ⟨x, hx, rfl⟩ := List.mem_map.1 h
   exact ⟨0, by simp, rfl, hx⟩
  ·obtain ⟨k, h1, h2, h3⟩ := spansR_mem L (r + 1) s h
   exact ⟨k + 1, by simp; omega, by omega, h3⟩
structure TwoF (A B : List (List GC)) (w : Nat) : Prop where
 n : A.length = B.length
 a : ∀ M ∈ A, M.length = w ∧ wholeB M = true
 b : ∀ M ∈ B, M.length = w ∧ wholeB M = true
theorem nth_memT {R : List (List GC)} {k : Nat} (h : k < R.length) : nth [] R k ∈ R := by rw [nth_eq _ _ _ h]; exact List.getElem_mem _
theorem TwoF.chg {A B : List (List GC)} {w : Nat} (t : TwoF A B w) {k : Nat} (hk : k < B.length) : Chg (nth [] A k) (nth [] B k) (chgL (nth [] A k) (nth [] B k)) := by
 obtain ⟨h1, h2⟩ := t.a _ (nth_memT (show k < A.length by rw [t.n]; exact hk))
 obtain ⟨h3, h4⟩ := t.b _ (nth_memT hk)
 exact chgL_chg (by rw [h1, h3]) h2 h4
theorem TwoF.bd {A B : List (List GC)} {w : Nat} (t : TwoF A B w) {s : Nat × Nat × Nat} (h : s ∈ spansM A B) : s.1 < B.length ∧ Bd (nth [] B s.1) s.2.1 s.2.2 := by
 obtain ⟨k, h1, h2, h3⟩ := spansR_mem _ _ _ h
 rw [onsL_length t.n] at h1
 have hk : k < B.length := by rw [← t.n]; exact h1
 have e : s.1 = k := by omega
 rw [e]
 rw [onsL_nth t.n h1] at h3
 exact ⟨hk, onS_bd (t.chg hk) ((spansF_bd _ _ 0 (Nat.le_refl _) (Nat.zero_le _)).1 (.inl rfl) _ h3)⟩
def sumF (l : List (Nat × Nat)) : Nat := (l.map fun s => s.2 - s.1).sum
theorem spansF_sum : ∀ (L : List Bool) (i : Nat) (o : Option Nat), sumF (spansF i o L) ≤ L.length + (match o with | none => 0 | some a => i - a)
 | [], i, none => by simp [spansF, sumF]
 | [], i, some a => by simp [spansF, sumF]
 | true :: t, i, none => by
  have := spansF_sum t (i + 1) (some i)
  simp only [spansF, List.length_cons] at this ⊢; omega
 | true :: t, i, some a => by
  have := spansF_sum t (i + 1) (some a)
  simp only [spansF, List.length_cons] at this ⊢; omega
 | false :: t, i, none => by
  have := spansF_sum t (i + 1) none
  simp only [spansF, List.length_cons] at this ⊢; omega
 | false :: t, i, some a => by
  have := spansF_sum t (i + 1) none
  simp only [spansF, List.length_cons, sumF, List.map_cons, List.sum_cons] at this ⊢; omega
theorem sumS_map (r : Nat) (l : List (Nat × Nat)) : sumS (l.map fun s => (r, s.1, s.2)) = sumF l := by
 unfold sumS sumF
 rw [List.map_map]
 rfl
theorem spansR_sum : ∀ (L : List (List Bool)) (r w : Nat), (∀ on ∈ L, on.length = w) → sumS (spansR r L) ≤ w * L.length
 | [], r, w, _ => by simp [spansR, sumS]
 | on :: L, r, w, h => by
  have h1 := spansR_sum L (r + 1) w (fun x hx => h x (List.mem_cons_of_mem _ hx))
  have h2 := spansF_sum on 0 none
  have h3 := h on (List.mem_cons_self ..)
  simp only [Nat.add_zero] at h2
  rw [spansR, sumS_app, sumS_map, List.length_cons, Nat.mul_succ]
  omega
theorem TwoF.ons {A B : List (List GC)} {w : Nat} (t : TwoF A B w) : ∀ on ∈ onsL A B, on.length = w := fun on h => by
 obtain ⟨k, hk, rfl⟩ := List.getElem_of_mem h
 have hk' := hk
 rw [onsL_length t.n] at hk'
 rw [← nth_eq [] _ _ hk, onsL_nth t.n hk', chgL_length, (t.a _ (nth_memT hk')).1]
 rw [(t.a _ (nth_memT hk')).1, (t.b _ (nth_memT (by rw [← t.n]; exact hk'))).1]
theorem TwoF.sum {A B : List (List GC)} {w : Nat} (t : TwoF A B w) : sumS (spansM A B) ≤ w * A.length := by
 have := spansR_sum (onsL A B) 0 w t.ons
 rw [onsL_length t.n] at this
 exact this
theorem sumS_take (l : List (Nat × Nat × Nat)) (j : Nat) : sumS (l.take j) ≤ sumS l := by
 have := sumS_app (l.take j) (l.drop j)
 rw [List.take_append_drop] at this
 omega
end Go.Proofs.YtjkajojjehgmdaaGreat
