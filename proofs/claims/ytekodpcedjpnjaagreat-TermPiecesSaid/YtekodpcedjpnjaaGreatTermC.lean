/- Clusters printed on a terminal: what a cluster's bytes make; plain. No condition. -/
import Derived.Test.YtekodpcedjpnjaaGreatTermP
import Derived.Test.YtekodpcedjpnjaaGreatFlatClu
import Derived.Test.YtekodpcedjpnjaaGreatFrame9
namespace Go.Proofs.YtekodpcedjpnjaaGreat
set_option linter.unusedVariables false
set_option linter.unusedSimpArgs false
open Go.RowKit Go.Maps
theorem more_bytes (n : Nat) (h : isR n = true) (t : List UInt8) : moreL (bytesN n ++ t) = false := by
  rw [isR_iff] at h
  unfold bytesN
  by_cases h1 : n < 128
  · rw [if_pos h1, List.cons_append]
    refine more_no ?_
    rw [byteB_nat' n (by omega)]
    unfold manyL
    rw [if_pos h1]; omega
  · rw [if_neg h1]
    by_cases h2 : n < 2048
    · rw [if_pos h2, List.cons_append, List.cons_append]
      refine more_no ?_
      rw [byteB_nat' _ (by omega), List.length_cons]
      unfold manyL
      rw [if_neg (by omega), if_neg (by omega), if_pos (by omega)]; omega
    · rw [if_neg h2]
      by_cases h3 : n < 65536
      · rw [if_pos h3, List.cons_append, List.cons_append, List.cons_append]
        refine more_no ?_
        rw [byteB_nat' _ (by omega), List.length_cons, List.length_cons]
        unfold manyL
        rw [if_neg (by omega), if_neg (by omega), if_neg (by omega), if_pos (by omega)]; omega
      · rw [if_neg h3, List.cons_append, List.cons_append, List.cons_append, List.cons_append]
        refine more_no ?_
        rw [byteB_nat' _ (by omega), List.length_cons, List.length_cons, List.length_cons]
        unfold manyL
        rw [if_neg (by omega), if_neg (by omega), if_neg (by omega), if_neg (by omega), if_pos (by omega)]; omega
theorem bytes_head (n : Nat) (h : isR n = true) (hc : ctrlB n = false) (x : List UInt8) : ∃ c r, bytesN n ++ x = c :: r ∧ c.toNat ≠ 27 ∧ 32 ≤ c.toNat ∧ c.toNat ≠ 127 := by
  rw [isR_iff] at h
  unfold ctrlB at hc
  rw [decide_eq_false_iff_not] at hc
  unfold bytesN
  by_cases h1 : n < 128
  · rw [if_pos h1]
    exact ⟨_, _, List.cons_append, by rw [byteB_nat' n (by omega)]; omega⟩
  · rw [if_neg h1]
    by_cases h2 : n < 2048
    · rw [if_pos h2]
      exact ⟨_, _, List.cons_append, by rw [byteB_nat' _ (by omega)]; omega⟩
    · rw [if_neg h2]
      by_cases h3 : n < 65536
      · rw [if_pos h3]
        exact ⟨_, _, List.cons_append, by rw [byteB_nat' _ (by omega)]; omega⟩
      · rw [if_neg h3]
        exact ⟨_, _, List.cons_append, by rw [byteB_nat' _ (by omega)]; omega⟩
/-- A rune that is no control is taken as one. -/
theorem first_rune (t : TS) (n : Nat) (h : isR n = true) (hc : ctrlB n = false) (x : List UInt8) : t.first (bytesN n ++ x) = (t.rune n, (bytesN n).length) := by
  have hm := more_bytes n h x
  have hs := step_bytes n h x
  obtain ⟨c, r, e, h1, h2, h3⟩ := bytes_head n h hc x
  rw [e] at hm hs ⊢
  unfold TS.first
  dsimp only
  rw [if_neg h1, if_neg (by omega), if_neg (by rw [hm]; simp), hs]
theorem run_rune (t : TS) (n : Nat) (h : isR n = true) (hc : ctrlB n = false) (x : List UInt8) : runT t (bytesN n ++ x) = runT (t.rune n) x := by
  have e := first_rune t n h hc x
  have hl := bytesN_len n
  rw [run_step t _ (by rw [e]; dsimp only; omega), e]
  dsimp only
  rw [List.drop_left]
theorem run_runes : ∀ (rs : List Nat) (t : TS) (x : List UInt8), (∀ r ∈ rs, isR r = true ∧ ctrlB r = false) → runT t (encL rs ++ x) = runT (rs.foldl TS.rune t) x
  | [], _, _, _ => rfl
  | r :: rs, t, x, h => by
    rw [encL_cons, List.append_assoc, run_rune t r (h r (List.mem_cons_self ..)).1 (h r (List.mem_cons_self ..)).2, run_runes rs _ x (fun z hz => h z (List.mem_cons_of_mem _ hz))]
    rfl
/-! ### a cluster's marks -/
theorem foldG_len : ∀ (rs : List Nat) (out : List (List Nat)), (rs.foldl stepG out).flatten.length ≤ out.flatten.length + rs.length
  | [], out => by simp
  | r :: rs, out => by
    rw [List.foldl_cons]
    have h1 := foldG_len rs (stepG out r)
    have h2 : (stepG out r).flatten.length ≤ out.flatten.length + 1 := by
      rcases stepG_two out r with e | ⟨e, _⟩ | ⟨o, c, eo, e, _⟩
      · rw [e]; omega
      · rw [e]; simp
      · rw [e, eo]; simp; omega
    rw [List.length_cons]; omega
theorem cl_marks {r : Nat} : ∀ (n : Nat) (t : List Nat), t.length = n → cutG (r :: t) = [r :: t] → ∀ m ∈ t, joinB m = true
  | 0, t, hl, _, m, hm => by rw [List.eq_nil_of_length_eq_zero hl] at hm; cases hm
  | n + 1, t, hl, h, m, hm => by
    have hne : t ≠ [] := fun e => by rw [e] at hl; cases hl
    obtain ⟨t', z, rfl⟩ : ∃ t' z, t = t' ++ [z] := ⟨t.dropLast, t.getLast hne, (List.dropLast_concat_getLast hne).symm⟩
    rw [← List.cons_append, cutG_snoc] at h
    have hL := foldG_len (r :: t') []
    rw [show (r :: t').foldl stepG [] = cutG (r :: t') from rfl] at hL
    rcases stepG_two (cutG (r :: t')) z with e | ⟨e, _⟩ | ⟨o, c, eo, e, hj, _⟩
    · rw [e] at h; rw [h] at hL; simp at hL; omega
    · rw [e] at h
      have h2 : cutG (r :: t') = [] ∧ [z] = r :: t' ++ [z] := by
        cases hq : cutG (r :: t') with
        | nil => rw [hq] at h; simp at h
        | cons a b => rw [hq] at h; simp at h
      have := congrArg List.length h2.2
      simp at this
    · rw [e] at h
      have h3 : o = [] ∧ c ++ [z] = r :: t' ++ [z] := by
        cases o with
        | nil => exact ⟨rfl, by simpa using h⟩
        | cons a b => simp at h
      have h4 : c = r :: t' := List.append_cancel_right h3.2
      rw [h3.1, h4] at eo
      rcases List.mem_append.1 hm with h5 | h5
      · exact cl_marks n t' (by simpa using hl) eo m h5
      · rw [List.mem_singleton.1 h5]; exact hj
theorem Cl.marks {r : Nat} {t : List Nat} (h : Cl (r :: t)) : ∀ m ∈ t, joinB m = true := cl_marks _ t rfl h.one
/-! ### a cluster laid -/
/-- Something of w columns put where the cursor stands. -/
def TS.layB (t : TS) (s : ByteArray) (w : Int) : TS :=
  { t with
    R := putR t.W t.H t.R t.row t.col s w t.y
    last := true
    lrow := t.row
    lcol := t.col
    col := if (t.W : Int) ≤ t.col + w then t.W - 1 else t.col + w.toNat
    pend := decide ((t.W : Int) ≤ t.col + w) || t.pend }
theorem lay_B (t : TS) (r : Nat) (w : Int) : t.lay r w = t.layB (S (bytesN r)) w := rfl
theorem nth_set {α : Type} (d : α) (L : List α) (i : Nat) (x : α) (h : i < L.length) : nth d (L.set i x) i = x := by
  rw [nth_eq _ _ _ (by rw [List.length_set]; exact h), List.getElem_set_self]
theorem putL_nth (M : List GC) (w c : Nat) (s : ByteArray) (wd : Int) (y : Sy) (h : c < M.length) : nth GC.zero (putL M w 0 c s wd y) c = ⟨s, wd, y⟩ := by
  unfold putL
  simp only [Nat.zero_add]
  split
  · exact nth_set _ _ _ _ (by simp [wipeL_length]; exact h)
  · exact nth_set _ _ _ _ (by simp [wipeL_length]; exact h)
theorem putL_set (M : List GC) (w c : Nat) (s s' : ByteArray) (wd : Int) (y : Sy) : (putL M w 0 c s wd y).set c ⟨s', wd, y⟩ = putL M w 0 c s' wd y := by
  unfold putL
  simp only [Nat.zero_add]
  split <;> rw [List.set_set]
theorem putErr_more {w h : Nat} {r c : Int} {s m : ByteArray} {wd : Int} (h0 : putErr w h r c s wd = 0) (hs : s.size + m.size ≤ 64) : putErr w h r c (s ++ m) wd = 0 := by
  obtain ⟨h1, h2, h3, h4, h5, h6, h7, h8⟩ := putErr_0 h0
  have hne : s.size ≠ 0 := fun e => h1 (ByteArray.size_eq_zero_iff.1 e)
  have hsz : (s ++ m).size = s.size + m.size := ByteArray.size_append
  have hne2 : s ++ m ≠ ⟨#[]⟩ := fun e => by rw [e] at hsz; have : (⟨#[]⟩ : ByteArray).size = 0 := rfl; omega
  unfold putErr
  rw [if_neg (by rintro (h | h | h); exact hne2 h; omega; omega), if_neg (by rintro (h | h); exact h ⟨h4, h5, h6, h7⟩; exact h.2 (h8 h.1))]
/-- What is joined to something just put is put with it. -/
theorem putR_joinR {w h : Nat} {R : List (List GC)} (k : RowsOk w h R) (r c : Nat) (s m : ByteArray) (wd : Int) (y : Sy) (h0 : putErr w h r c s wd = 0) (hs : s.size + m.size ≤ 64) :
    joinR w h (putR w h R r c s wd y) r c m = putR w h R r c (s ++ m) wd y := by
  obtain ⟨h1, h2, h3, h4, h5, h6, h7, h8⟩ := putErr_0 h0
  have hr : r < h := by omega
  have hM := k.at hr
  have hc : c < (nth [] R r).length := by omega
  unfold putR
  rw [if_pos h0, if_pos (putErr_more h0 hs)]
  simp only [Int.toNat_natCast]
  have e1 : nth [] (R.set r (putL (nth [] R r) w 0 c s wd y)) r = putL (nth [] R r) w 0 c s wd y := nth_set _ _ _ _ (by rw [k.n]; exact hr)
  have e2 := putL_nth (nth [] R r) w c s wd y hc
  have e3 : joinAt (putL (nth [] R r) w 0 c s wd y) 0 c = c := by
    unfold joinAt
    rw [Nat.zero_add, e2]
    rw [if_neg (by dsimp only; omega)]
  unfold joinR
  rw [if_pos (by
    unfold joinOkR
    rw [Bool.and_eq_true, inG_iff, decide_eq_true_eq]
    simp only [Int.toNat_natCast]
    rw [e1, e3, e2]
    exact ⟨⟨h4, h5, h6, h7⟩, by dsimp only; omega⟩)]
  simp only [Int.toNat_natCast]
  rw [e1]
  unfold joinL
  rw [e3, Nat.zero_add, e2]
  dsimp only
  rw [putL_set, List.set_set]
/-- A cluster printed. -/
def TS.clu (t : TS) (c : List UInt8) : TS := (t.room (colsL c)).layB (S c) (colsL c)
theorem colsL_enc {r : Nat} {t : List Nat} (h : ∀ x ∈ r :: t, isR x = true) : colsL (encL (r :: t)) = colsB r := by
  unfold colsL
  rw [runes_enc0 _ h]
theorem join_cols {m : Int} (h : joinB m = true) : ¬ 0 < colsB m := by
  unfold joinB at h
  rw [Bool.and_eq_true, decide_eq_true_eq] at h
  omega
theorem marks_lay {T : TS} (ok : RowsOk T.W T.H T.R) (w : Int) : ∀ (n : Nat) (ms : List Nat) (s : List UInt8), ms.length = n → putErr T.W T.H T.row T.col (S s) w = 0 → (s ++ encL ms).length ≤ 64 → (∀ m ∈ ms, joinB m = true) →
    ms.foldl TS.rune (T.layB (S s) w) = T.layB (S (s ++ encL ms)) w
  | _, [], s, _, _, _, _ => by rw [encL_nil, List.append_nil]; rfl
  | 0, _ :: _, _, hl, _, _, _ => by cases hl
  | n + 1, m :: ms, s, hl, h0, hs, hm => by
    have hj := hm m (List.mem_cons_self ..)
    rw [List.foldl_cons]
    have hlen : s.length + (bytesN m).length ≤ 64 := by rw [encL_cons, List.length_append, List.length_append] at hs; omega
    have hsz : (S s).size + (S (bytesN m)).size ≤ 64 := by rw [S_size, S_size]; exact hlen
    have e : (T.layB (S s) w).rune m = T.layB (S (s ++ bytesN m)) w := by
      unfold TS.rune
      rw [if_neg (join_cols hj), if_pos hj]
      unfold TS.layB
      dsimp only
      rw [if_pos rfl, putR_joinR ok T.row T.col (S s) (S (bytesN m)) w T.y h0 hsz, S_append]
    rw [e]
    have h0' := putErr_more h0 hsz
    rw [S_append] at h0'
    have := marks_lay ok w n ms (s ++ bytesN m) (by simpa using hl) h0' (by rw [List.append_assoc, ← encL_cons]; exact hs) (fun z hz => hm z (List.mem_cons_of_mem _ hz))
    rw [this, List.append_assoc, ← encL_cons]
theorem TOk.layB {t : TS} (k : TOk t) (hp : t.pend = false) (s : ByteArray) {w : Int} (hw : 1 ≤ w) (hw2 : (t.col : Int) + w ≤ t.W) : TOk (t.layB s w) := by
  have hc := k.col
  refine { w1 := k.w1, w2 := k.w2, h1 := k.h1, h2 := k.h2, ok := k.ok.put _ _ _ _ _, ro := k.ro.put k.ok _ _ _ _ _, row := k.row, col := ?_, pe := ?_ }
  · show (if (t.W : Int) ≤ t.col + w then t.W - 1 else t.col + w.toNat) < t.W
    split <;> omega
  · show (decide ((t.W : Int) ≤ t.col + w) || t.pend) = true → (if (t.W : Int) ≤ t.col + w then t.W - 1 else t.col + w.toNat) + 1 = t.W
    rw [hp, Bool.or_false, decide_eq_true_eq]
    intro h
    rw [if_pos h]; omega
theorem TOk.clu {t : TS} (k : TOk t) {c : List UInt8} (hc : Clu c) (hw : colsL c ≤ t.W) : TOk (t.clu c) ∧ (t.clu c).W = t.W ∧ (t.clu c).H = t.H := by
  have h1 := hc.cols
  obtain ⟨h2, h3, h4, h5, h6, _⟩ := k.room (w := colsL c) h1.1 hw
  exact ⟨h2.layB h3 _ h1.1 (by rw [h4]; exact h6), h4, h5⟩
theorem fold_clu {t : TS} (k : TOk t) {g : List Nat} (hg : Cl g) (hw : colsL (encL g) ≤ t.W) : g.foldl TS.rune t = t.clu (encL g) := by
  obtain ⟨r, ms, rfl, hb⟩ := hg.base
  have hcl := colsL_enc hg.rune
  have hbd := cols_bd r
  rw [List.foldl_cons]
  unfold TS.clu
  rw [hcl] at hw ⊢
  obtain ⟨h2, h3, h4, h5, h6, _⟩ := k.room (w := colsB r) (by omega) hw
  have e : t.rune r = (t.room (colsB r)).layB (S (bytesN r)) (colsB r) := by
    unfold TS.rune
    rw [if_pos hb]
    unfold TS.print
    rw [if_neg (by omega)]
    rfl
  rw [e]
  have hl := bytesN_len r
  have hlen := hg.len
  rw [encL_cons] at hlen ⊢
  have hrow := h2.row
  have hcol := h2.col
  refine marks_lay h2.ok (colsB r) ms.length ms (bytesN r) rfl ?_ hlen hg.marks
  have hsz := S_size (bytesN r)
  have hne : S (bytesN r) ≠ ⟨#[]⟩ := fun e => by rw [e] at hsz; have : (⟨#[]⟩ : ByteArray).size = 0 := rfl; omega
  unfold putErr
  rw [if_neg (by rintro (h | h | h); exact hne h; omega; omega), if_neg (by omega)]
/-- Clusters printed one behind the other. -/
theorem run_clus : ∀ (C : List (List UInt8)) (t : TS) (x : List UInt8), TOk t → (∀ c ∈ C, Clu c ∧ colsL c ≤ t.W) → runT t (C.flatten ++ x) = runT (C.foldl TS.clu t) x ∧ TOk (C.foldl TS.clu t) ∧ (C.foldl TS.clu t).W = t.W ∧ (C.foldl TS.clu t).H = t.H
  | [], _, _, k, _ => ⟨rfl, k, rfl, rfl⟩
  | c :: C, t, x, k, h => by
    obtain ⟨hc, hw⟩ := h c (List.mem_cons_self ..)
    obtain ⟨k2, e1, e2⟩ := k.clu hc hw
    obtain ⟨h1, h2, h3, h4⟩ := run_clus C (t.clu c) x k2 (fun z hz => by rw [e1]; exact h z (List.mem_cons_of_mem _ hz))
    refine ⟨?_, h2, h3.trans e1, h4.trans e2⟩
    obtain ⟨g, hg, rfl⟩ := hc
    rw [List.flatten_cons, List.append_assoc, run_runes g t _ (fun r hr => ⟨hg.rune r hr, cl_noctrl' hg r hr⟩), fold_clu k hg hw]
    exact h1
/-- What stands on a new terminal behind clusters that fit into its first row. -/
structure RowTxt (x : Nat) (C : List (List UInt8)) (t : TS) : Prop where
  W : t.W = x
  H : t.H = 2
  row : t.row = 0
  gone : t.gone = 0
  y : t.y = Sy.zero
  R : t.R = [cellsOf Sy.zero C ++ List.replicate (x - (sumC C).toNat) GC.blank, List.replicate x GC.blank]
  col : (t.col : Int) = min (sumC C) ((x : Int) - 1)
  pend : t.pend = decide (sumC C = x)
theorem RowTxt.new (x : Nat) (hx : 1 ≤ x) : RowTxt x [] (TS.new x 2) :=
  ⟨rfl, rfl, rfl, rfl, rfl, by simp [TS.new, cellsOf, sumC, List.replicate], by show ((0 : Nat) : Int) = min 0 ((x : Int) - 1); omega, (decide_eq_false (by show ¬ (0 : Int) = x; omega)).symm⟩
theorem putR_blank {w : Nat} (P : List GC) (Q : List GC) (x : List UInt8) (hx : Clu x) (m : Nat) (hm : P.length + m ≤ w) (hv : colsL x ≤ m) (hl : P.length + m = w) (hQ : Q.length = w) :
    putR w 2 [P ++ List.replicate m GC.blank, Q] ((0 : Nat) : Int) (P.length : Int) (S x) (colsL x) Sy.zero = [P ++ cellOf Sy.zero x ++ List.replicate (m - (colsL x).toNat) GC.blank, Q] := by
  have hc := hx.cols
  have hk : RowsOk w 2 [P ++ List.replicate m GC.blank, Q] := ⟨rfl, fun M hM => by
    simp only [List.mem_cons, List.not_mem_nil, or_false] at hM
    rcases hM with rfl | rfl
    · simp; exact hl
    · exact hQ⟩
  have h := put_blank (w := w) (h := 2) (r := 0) (c := P.length) (m := m) P Q Sy.zero x hx (by omega) (by simp) hm hv
  have e1 := hk.put_flat ((0 : Nat) : Int) (P.length : Int) (S x) (colsL x) Sy.zero
  have e2 : ([P ++ List.replicate m GC.blank, Q] : List (List GC)).flatten = P ++ List.replicate m GC.blank ++ Q := by simp
  rw [e2, h] at e1
  have k2 := hk.put ((0 : Nat) : Int) (P.length : Int) (S x) (colsL x) Sy.zero
  have hcl := cellOf_len Sy.zero x hx
  obtain ⟨Z, hZ⟩ : ∃ Z, Z = putR w 2 [P ++ List.replicate m GC.blank, Q] ((0 : Nat) : Int) (P.length : Int) (S x) (colsL x) Sy.zero := ⟨_, rfl⟩
  rw [← hZ] at e1 k2 ⊢
  obtain ⟨kn, kw⟩ := k2
  match Z, kn with
  | [a, b], _ =>
    have ha := kw a (by simp)
    have hb := kw b (by simp)
    simp only [List.flatten_cons, List.flatten_nil, List.append_nil] at e1
    have hsz : a.length = (P ++ cellOf Sy.zero x ++ List.replicate (m - (colsL x).toNat) GC.blank).length := by simp; omega
    obtain ⟨h1, h2⟩ := List.append_inj e1 hsz
    rw [h1, h2]
theorem RowTxt.next {x : Nat} {C : List (List UInt8)} {t : TS} (r : RowTxt x C t) (hC : ∀ c ∈ C, Clu c) {c : List UInt8} (hc : Clu c) (hfit : sumC C + colsL c ≤ x) : RowTxt x (C ++ [c]) (t.clu c) := by
  have h1 := hc.cols
  have h2 := sumC_bd C
  have hs : sumC (C ++ [c]) = sumC C + colsL c := by rw [sumC_append, sumC_cons]; simp [sumC]
  have hp : t.pend = false := by rw [r.pend]; exact decide_eq_false (by omega)
  have hcol : (t.col : Int) = sumC C := by rw [r.col]; omega
  have hroom : t.room (colsL c) = t := by
    unfold TS.room
    rw [hp, if_neg (by rw [Bool.false_or, decide_eq_true_eq, r.W]; omega)]
  have hlen := cellsOf_len Sy.zero C hC
  have hput := putR_blank (w := x) (cellsOf Sy.zero C) (List.replicate x GC.blank) c hc (x - (sumC C).toNat) (by omega) (by omega) (by omega) (by simp)
  have hcell : cellsOf Sy.zero (C ++ [c]) = cellsOf Sy.zero C ++ cellOf Sy.zero c := by simp [cellsOf]
  unfold TS.clu
  rw [hroom]
  refine ⟨r.W, r.H, r.row, r.gone, r.y, ?_, ?_, ?_⟩
  · show putR t.W t.H t.R t.row t.col (S c) (colsL c) t.y = _
    rw [r.W, r.H, r.R, r.row, r.y, show (t.col : Int) = ((cellsOf Sy.zero C).length : Int) by omega, hput, hcell, hs]
    congr 3
    omega
  · show (((if (t.W : Int) ≤ t.col + colsL c then t.W - 1 else t.col + (colsL c).toNat) : Nat) : Int) = _
    rw [r.W, hs]
    split <;> omega
  · show (decide ((t.W : Int) ≤ t.col + colsL c) || t.pend) = _
    rw [hp, Bool.or_false, r.W, hs]
    exact decide_eq_decide.2 (by omega)
theorem RowTxt.fold {x : Nat} : ∀ (D C : List (List UInt8)) (t : TS), RowTxt x C t → (∀ c ∈ C, Clu c) → (∀ c ∈ D, Clu c) → sumC C + sumC D ≤ x → RowTxt x (C ++ D) (D.foldl TS.clu t)
  | [], C, t, r, _, _, _ => by rw [List.append_nil]; exact r
  | d :: D, C, t, r, hC, hD, hf => by
    rw [sumC_cons] at hf
    have hd := sumC_bd D
    have h := RowTxt.fold D (C ++ [d]) (t.clu d) (r.next hC (hD d (List.mem_cons_self ..)) (by omega)) (fun c hc => by
      rcases List.mem_append.1 hc with h | h
      · exact hC c h
      · rw [List.mem_singleton.1 h]; exact hD d (List.mem_cons_self ..)) (fun c hc => hD c (List.mem_cons_of_mem _ hc)) (by rw [sumC_append, sumC_cons]; simp [sumC] at hf ⊢; omega)
    rw [List.append_assoc] at h
    exact h
/-- A text of clusters that fit into a row, written on a new terminal. -/
theorem run_text {x : Nat} (hx : 1 ≤ x) (hx2 : x ≤ 500) (C : List (List UInt8)) (hC : ∀ c ∈ C, Clu c) (hf : sumC C ≤ x) : (runT (TS.new x 2) C.flatten).2 = [] ∧ RowTxt x C (runT (TS.new x 2) C.flatten).1 := by
  have hw : ∀ c ∈ C, Clu c ∧ colsL c ≤ (TS.new x 2).W := fun c hc => ⟨hC c hc, by
    obtain ⟨A, B, rfl⟩ := List.append_of_mem hc
    rw [sumC_append, sumC_cons] at hf
    have h1 := sumC_bd A
    have h2 := sumC_bd B
    show colsL c ≤ (x : Int)
    omega⟩
  obtain ⟨h1, _⟩ := run_clus C (TS.new x 2) [] (TOk.new hx hx2 (by omega) (by omega)) hw
  rw [List.append_nil] at h1
  have h2 := RowTxt.fold C [] (TS.new x 2) (RowTxt.new x hx) (by simp) hC (by simp [sumC] at hf ⊢; exact hf)
  rw [List.nil_append] at h2
  have h3 : runT (C.foldl TS.clu (TS.new x 2)) [] = (C.foldl TS.clu (TS.new x 2), []) := rfl
  rw [h1, h3]
  exact ⟨rfl, h2⟩
end Go.Proofs.YtekodpcedjpnjaaGreat
