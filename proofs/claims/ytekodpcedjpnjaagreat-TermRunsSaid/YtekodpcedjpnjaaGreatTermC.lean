/- Clusters printed on a terminal: what a cluster's bytes make; plain. No condition. -/
import Derived.Test.YtekodpcedjpnjaaGreatTermP
import Derived.Test.YtekodpcedjpnjaaGreatFlatClu
import Derived.Test.YtekodpcedjpnjaaGreatFrame9
namespace Go.Proofs.YtekodpcedjpnjaaGreat
set_option linter.unusedVariables false
set_option linter.unusedSimpArgs false
open Go.RowKit Go.Maps
/-! ### a cluster's marks -/
theorem foldG_len : ∀ (rs : List Nat) (out : List (List Nat)), (rs.foldl stepG out).flatten.length ≤ out.flatten.length + rs.length
  | [], out => by simp
  | r :: rs, out => by
    rw [List.foldl_cons]
    have h1 := foldG_len rs (stepG out r)
    have h2 : (stepG out r).flatten.length ≤ out.flatten.length + 1 := by
      rcases stepG_two out r with e | ⟨e, _⟩ | ⟨o, c, eo, e, _⟩
      · rw [e]; omega
      · rw [e]; simp
      · rw [e, eo]; simp; omega
    rw [List.length_cons]; omega
theorem cl_marks {r : Nat} : ∀ (n : Nat) (t : List Nat), t.length = n → cutG (r :: t) = [r :: t] → ∀ m ∈ t, joinB m = true
  | 0, t, hl, _, m, hm => by rw [List.eq_nil_of_length_eq_zero hl] at hm; cases hm
  | n + 1, t, hl, h, m, hm => by
    have hne : t ≠ [] := fun e => by rw [e] at hl; cases hl
    obtain ⟨t', z, rfl⟩ : ∃ t' z, t = t' ++ [z] := ⟨t.dropLast, t.getLast hne, (List.dropLast_concat_getLast hne).symm⟩
    rw [← List.cons_append, cutG_snoc] at h
    have hL := foldG_len (r :: t') []
    rw [show (r :: t').foldl stepG [] = cutG (r :: t') from rfl] at hL
    rcases stepG_two (cutG (r :: t')) z with e | ⟨e, _⟩ | ⟨o, c, eo, e, hj, _⟩
    · rw [e] at h; rw [h] at hL; simp at hL; omega
    · rw [e] at h
      have h2 : cutG (r :: t') = [] ∧ [z] = r :: t' ++ [z] := by
        cases hq : cutG (r :: t') with
        | nil => rw [hq] at h; simp at h
        | cons a b => rw [hq] at h; simp at h
      have := congrArg List.length h2.2
      simp at this
    · rw [e] at h
      have h3 : o = [] ∧ c ++ [z] = r :: t' ++ [z] := by
        cases o with
        | nil => exact ⟨rfl, by simpa using h⟩
        | cons a b => simp at h
      have h4 : c = r :: t' := List.append_cancel_right h3.2
      rw [h3.1, h4] at eo
      rcases List.mem_append.1 hm with h5 | h5
      · exact cl_marks n t' (by simpa using hl) eo m h5
      · rw [List.mem_singleton.1 h5]; exact hj
theorem Cl.marks {r : Nat} {t : List Nat} (h : Cl (r :: t)) : ∀ m ∈ t, joinB m = true := cl_marks _ t rfl h.one
/-! ### a cluster laid -/
/-- Something of w columns put where the cursor stands. -/
def TS.layB (t : TS) (s : ByteArray) (w : Int) : TS :=
  { t with
    R := putR t.W t.H t.R t.row t.col s w t.y
    last := true
    lrow := t.row
    lcol := t.col
    col := if (t.W : Int) ≤ t.col + w then t.W - 1 else t.col + w.toNat
    pend := decide ((t.W : Int) ≤ t.col + w) || t.pend }
/-- A cluster printed. -/
def TS.clu (t : TS) (c : List UInt8) : TS := (t.room (colsL c)).layB (S c) (colsL c)
theorem TOk.layB {t : TS} (k : TOk t) (hp : t.pend = false) (s : ByteArray) {w : Int} (hw : 1 ≤ w) (hw2 : (t.col : Int) + w ≤ t.W) : TOk (t.layB s w) := by
  have hc := k.col
  refine { w1 := k.w1, w2 := k.w2, h1 := k.h1, h2 := k.h2, ok := k.ok.put _ _ _ _ _, ro := k.ro.put k.ok _ _ _ _ _, row := k.row, col := ?_, pe := ?_ }
  · show (if (t.W : Int) ≤ t.col + w then t.W - 1 else t.col + w.toNat) < t.W
    split <;> omega
  · show (decide ((t.W : Int) ≤ t.col + w) || t.pend) = true → (if (t.W : Int) ≤ t.col + w then t.W - 1 else t.col + w.toNat) + 1 = t.W
    rw [hp, Bool.or_false, decide_eq_true_eq]
    intro h
    rw [if_pos h]; omega
theorem TOk.clu {t : TS} (k : TOk t) {c : List UInt8} (hc : Clu c) (hw : colsL c ≤ t.W) : TOk (t.clu c) ∧ (t.clu c).W = t.W ∧ (t.clu c).H = t.H := by
  have h1 := hc.cols
  obtain ⟨h2, h3, h4, h5, h6, _⟩ := k.room (w := colsL c) h1.1 hw
  exact ⟨h2.layB h3 _ h1.1 (by rw [h4]; exact h6), h4, h5⟩
/-- What stands on a new terminal behind clusters that fit into its first row. -/
structure RowTxt (x : Nat) (C : List (List UInt8)) (t : TS) : Prop where
  W : t.W = x
  H : t.H = 2
  row : t.row = 0
  gone : t.gone = 0
  y : t.y = Sy.zero
  R : t.R = [cellsOf Sy.zero C ++ List.replicate (x - (sumC C).toNat) GC.blank, List.replicate x GC.blank]
  col : (t.col : Int) = min (sumC C) ((x : Int) - 1)
  pend : t.pend = decide (sumC C = x)
theorem RowTxt.new (x : Nat) (hx : 1 ≤ x) : RowTxt x [] (TS.new x 2) :=
  ⟨rfl, rfl, rfl, rfl, rfl, by simp [TS.new, cellsOf, sumC, List.replicate], by show ((0 : Nat) : Int) = min 0 ((x : Int) - 1); omega, (decide_eq_false (by show ¬ (0 : Int) = x; omega)).symm⟩
theorem putR_blank {w : Nat} (P : List GC) (Q : List GC) (x : List UInt8) (hx : Clu x) (m : Nat) (hm : P.length + m ≤ w) (hv : colsL x ≤ m) (hl : P.length + m = w) (hQ : Q.length = w) :
    putR w 2 [P ++ List.replicate m GC.blank, Q] ((0 : Nat) : Int) (P.length : Int) (S x) (colsL x) Sy.zero = [P ++ cellOf Sy.zero x ++ List.replicate (m - (colsL x).toNat) GC.blank, Q] := by
  have hc := hx.cols
  have hk : RowsOk w 2 [P ++ List.replicate m GC.blank, Q] := ⟨rfl, fun M hM => by
    simp only [List.mem_cons, List.not_mem_nil, or_false] at hM
    rcases hM with rfl | rfl
    · simp; exact hl
    · exact hQ⟩
  have h := put_blank (w := w) (h := 2) (r := 0) (c := P.length) (m := m) P Q Sy.zero x hx (by omega) (by simp) hm hv
  have e1 := hk.put_flat ((0 : Nat) : Int) (P.length : Int) (S x) (colsL x) Sy.zero
  have e2 : ([P ++ List.replicate m GC.blank, Q] : List (List GC)).flatten = P ++ List.replicate m GC.blank ++ Q := by simp
  rw [e2, h] at e1
  have k2 := hk.put ((0 : Nat) : Int) (P.length : Int) (S x) (colsL x) Sy.zero
  have hcl := cellOf_len Sy.zero x hx
  obtain ⟨Z, hZ⟩ : ∃ Z, Z = putR w 2 [P ++ List.replicate m GC.blank, Q] ((0 : Nat) : Int) (P.length : Int) (S x) (colsL x) Sy.zero := ⟨_, rfl⟩
  rw [← hZ] at e1 k2 ⊢
  obtain ⟨kn, kw⟩ := k2
  match Z, kn with
  | [a, b], _ =>
    have ha := kw a (by simp)
    have hb := kw b (by simp)
    simp only [List.flatten_cons, List.flatten_nil, List.append_nil] at e1
    have hsz : a.length = (P ++ cellOf Sy.zero x ++ List.replicate (m - (colsL x).toNat) GC.blank).length := by simp; omega
    obtain ⟨h1, h2⟩ := List.append_inj e1 hsz
    rw [h1, h2]
theorem RowTxt.next {x : Nat} {C : List (List UInt8)} {t : TS} (r : RowTxt x C t) (hC : ∀ c ∈ C, Clu c) {c : List UInt8} (hc : Clu c) (hfit : sumC C + colsL c ≤ x) : RowTxt x (C ++ [c]) (t.clu c) := by
  have h1 := hc.cols
  have h2 := sumC_bd C
  have hs : sumC (C ++ [c]) = sumC C + colsL c := by rw [sumC_append, sumC_cons]; simp [sumC]
  have hp : t.pend = false := by rw [r.pend]; exact decide_eq_false (by omega)
  have hcol : (t.col : Int) = sumC C := by rw [r.col]; omega
  have hroom : t.room (colsL c) = t := by
    unfold TS.room
    rw [hp, if_neg (by rw [Bool.false_or, decide_eq_true_eq, r.W]; omega)]
  have hlen := cellsOf_len Sy.zero C hC
  have hput := putR_blank (w := x) (cellsOf Sy.zero C) (List.replicate x GC.blank) c hc (x - (sumC C).toNat) (by omega) (by omega) (by omega) (by simp)
  have hcell : cellsOf Sy.zero (C ++ [c]) = cellsOf Sy.zero C ++ cellOf Sy.zero c := by simp [cellsOf]
  unfold TS.clu
  rw [hroom]
  refine ⟨r.W, r.H, r.row, r.gone, r.y, ?_, ?_, ?_⟩
  · show putR t.W t.H t.R t.row t.col (S c) (colsL c) t.y = _
    rw [r.W, r.H, r.R, r.row, r.y, show (t.col : Int) = ((cellsOf Sy.zero C).length : Int) by omega, hput, hcell, hs]
    congr 3
    omega
  · show (((if (t.W : Int) ≤ t.col + colsL c then t.W - 1 else t.col + (colsL c).toNat) : Nat) : Int) = _
    rw [r.W, hs]
    split <;> omega
  · show (decide ((t.W : Int) ≤ t.col + colsL c) || t.pend) = _
    rw [hp, Bool.or_false, r.W, hs]
    exact decide_eq_decide.2 (by omega)
end Go.Proofs.YtekodpcedjpnjaaGreat
