/- Wrap in plain Lean: what the lines keep. No condition. -/
import Derived.Test.YtmdpmjabjijjiaaWrap7
namespace Go.Proofs.Ytmdpmjabjijjiaa
set_option linter.unusedVariables false
set_option linter.unusedSimpArgs false
open Go.RowKit Go.Shelf Go.Maps
abbrev CL := List (List UInt8)
def solid (c : List UInt8) : Bool := !b32 c
def Fine (w : Int) (D : CL) : Prop := (∀ c ∈ D, Clu c) ∧ sumC D ≤ w ∧ (∀ c, D.head? = some c → b32 c = false) ∧ (∀ c, D.getLast? = some c → b32 c = false)
structure KI (w : Int) (cs : CL) (st : Pg) (DD : List CL) (LD : CL) : Prop where
  done : st.1 = DD.map List.flatten
  line : st.2.1 = LD.flatten
  used : st.2.2 = sumC LD
  fine : ∀ D ∈ DD, D ≠ [] ∧ Fine w D
  last : Fine w LD
  keep : (DD.flatten ++ LD).filter solid = cs.filter (fun c => decide (colsL c ≤ w))
theorem sumC_pos {L : CL} (h : ∀ c ∈ L, Clu c) (hn : L ≠ []) : 0 < sumC L := by
  cases L with
  | nil => exact absurd rfl hn
  | cons c t =>
    have h1 := (h c (List.mem_cons_self ..)).cols
    have h2 := (sumC_bd t).1
    rw [sumC_cons]; omega
theorem fine_nil {w : Int} (hw : 0 ≤ w) : Fine w [] := ⟨by simp, hw, by simp, by simp⟩
theorem KI.end_ {w : Int} {cs : CL} {st : Pg} {DD : List CL} {LD : CL} (hw : 0 ≤ w) (h : KI w cs st DD LD) : ∃ DD', KI w cs (endG st) DD' [] := by
  by_cases hl : LD = []
  · subst hl
    have hu : st.2.2 = 0 := h.used
    refine ⟨DD, ?_⟩
    have e : endG st = (st.1, [], 0) := by unfold endG; rw [if_neg (by omega)]
    rw [e]
    exact ⟨h.done, rfl, rfl, h.fine, fine_nil hw, h.keep⟩
  · have hp := sumC_pos h.last.1 hl
    refine ⟨DD ++ [LD], ?_⟩
    have e : endG st = (st.1 ++ [st.2.1], [], 0) := by unfold endG; rw [if_pos (by rw [h.used]; exact hp)]
    rw [e]
    refine ⟨by simp [h.done, h.line], rfl, rfl, fun D hD => ?_, fine_nil hw, ?_⟩
    · rcases List.mem_append.1 hD with h1 | h1
      · exact h.fine D h1
      · rw [List.mem_singleton.1 h1]; exact ⟨hl, h.last⟩
    · rw [List.flatten_append, List.append_nil]
      simpa using h.keep
theorem fine_snoc {w : Int} {D : CL} {c : List UInt8} (h : Fine w D) (hc : Clu c) (hb : b32 c = false) (hs : sumC D + colsL c ≤ w) : Fine w (D ++ [c]) := by
  refine ⟨fun x hx => ?_, by rw [sumC_append]; simpa [sumC] using hs, fun x hx => ?_, fun x hx => ?_⟩
  · rcases List.mem_append.1 hx with h1 | h1
    · exact h.1 x h1
    · rw [List.mem_singleton.1 h1]; exact hc
  · cases D with
    | nil => simp at hx; rw [← hx]; exact hb
    | cons a t => exact h.2.2.1 x (by simpa using hx)
  · rw [List.getLast?_append] at hx
    simp at hx; rw [← hx]; exact hb
theorem KI.put {w : Int} {cs : CL} {st : Pg} {DD : List CL} {LD : CL} {c : List UInt8} (hw : 0 ≤ w) (h : KI w cs st DD LD) (hc : Clu c) (hb : b32 c = false) : ∃ DD' LD', KI w (cs ++ [c]) (putG w st c) DD' LD' := by
  have hsol : [c].filter solid = [c] := by simp [solid, hb]
  have hcols := hc.cols
  unfold putG
  by_cases h1 : w < colsL c
  · rw [if_pos h1]
    refine ⟨DD, LD, h.done, h.line, h.used, h.fine, h.last, ?_⟩
    rw [h.keep, List.filter_append]
    have : [c].filter (fun c => decide (colsL c ≤ w)) = [] := by simp; omega
    rw [this, List.append_nil]
  · rw [if_neg h1]
    have hk : [c].filter (fun c => decide (colsL c ≤ w)) = [c] := by simp; omega
    by_cases h2 : w - st.2.2 < colsL c
    · rw [if_pos h2]
      obtain ⟨DD', h'⟩ := h.end_ hw
      refine ⟨DD', [c], h'.done, ?_, ?_, h'.fine, ?_, ?_⟩
      · unfold putS; dsimp only; rw [h'.line]; simp
      · unfold putS; dsimp only; rw [h'.used]; simp [sumC]
      · have := fine_snoc (fine_nil hw) hc hb (by simp [sumC]; omega)
        simpa using this
      · have hkk := h'.keep
        rw [List.append_nil] at hkk
        rw [List.filter_append, List.filter_append, hsol, hk, hkk]
    · rw [if_neg h2]
      have hu := h.used
      refine ⟨DD, LD ++ [c], h.done, ?_, ?_, h.fine, fine_snoc h.last hc hb (by omega), ?_⟩
      · unfold putS; dsimp only; rw [h.line]; simp
      · unfold putS; dsimp only; rw [hu, sumC_append]; simp [sumC]
      · rw [← List.append_assoc, List.filter_append, h.keep, hsol, List.filter_append, hk]
theorem KI.puts {w : Int} (hw : 0 ≤ w) : ∀ (x : CL) (cs : CL) (st : Pg) (DD : List CL) (LD : CL), KI w cs st DD LD → (∀ c ∈ x, Clu c ∧ b32 c = false) → ∃ DD' LD', KI w (cs ++ x) (x.foldl (putG w) st) DD' LD'
  | [], cs, st, DD, LD, h, _ => ⟨DD, LD, by simpa using h⟩
  | c :: x, cs, st, DD, LD, h, hx => by
    obtain ⟨hc, hb⟩ := hx c (List.mem_cons_self ..)
    obtain ⟨D1, L1, h1⟩ := h.put hw hc hb
    obtain ⟨D2, L2, h2⟩ := KI.puts hw x (cs ++ [c]) _ D1 L1 h1 (fun y hy => hx y (List.mem_cons_of_mem _ hy))
    exact ⟨D2, L2, by simpa using h2⟩
/-- A word that fits is put whole. -/
theorem put_all {w : Int} : ∀ (x : CL) (d : List (List UInt8)) (l : List UInt8) (u : Int), (∀ c ∈ x, Clu c) → 0 ≤ u → u + sumC x ≤ w → x.foldl (putG w) (d, l, u) = (d, l ++ x.flatten, u + sumC x)
  | [], d, l, u, _, _, _ => by simp [sumC]
  | c :: x, d, l, u, hx, hu, h => by
    have hc := (hx c (List.mem_cons_self ..)).cols
    have hs := (sumC_bd x).1
    rw [sumC_cons] at h
    have e : putG w (d, l, u) c = (d, l ++ c, u + colsL c) := by
      unfold putG
      rw [if_neg (by omega), if_neg (by show ¬ w - u < colsL c; omega)]; rfl
    rw [List.foldl_cons, e, put_all x d (l ++ c) (u + colsL c) (fun y hy => hx y (List.mem_cons_of_mem _ hy)) (by omega) (by omega), List.flatten_cons, sumC_cons, List.append_assoc, Int.add_assoc]
theorem b32_sp : b32 [32] = true := by decide
theorem KI.add {w : Int} {cs : CL} {st : Pg} {DD : List CL} {LD : CL} {x : CL} (hw : 0 ≤ w) (h : KI w cs st DD LD) (hn : x ≠ []) (hx : ∀ c ∈ x, Clu c ∧ b32 c = false) : ∃ DD' LD', KI w (cs ++ x) (addG w st x) DD' LD' := by
  unfold addG
  by_cases hg : 0 < st.2.2 ∧ sumC x ≤ w - st.2.2 - 1
  · rw [if_pos hg]
    have hp := sumC_pos (fun c hc => (hx c hc).1) hn
    have hu := h.used
    obtain ⟨d, l, u⟩ := st
    dsimp only at hg hu
    have hd := h.done
    have hl := h.line
    dsimp only at hd hl
    have e : putG w (d, l, u) [32] = (d, l ++ [32], u + 1) := by
      unfold putG
      rw [cols32, if_neg (by omega), if_neg (by show ¬ w - u < 1; omega)]
      unfold putS; rw [cols32]
    rw [e, put_all x d (l ++ [32]) (u + 1) (fun c hc => (hx c hc).1) (by omega) (by omega)]
    have hLn : LD ≠ [] := by rintro rfl; simp [sumC] at hu; omega
    refine ⟨DD, LD ++ [32] :: x, hd, ?_, ?_, h.fine, ⟨fun c hc => ?_, ?_, fun c hc => ?_, fun c hc => ?_⟩, ?_⟩
    · dsimp only; rw [hl]; simp
    · dsimp only; rw [sumC_append, sumC_cons, cols32, hu]; omega
    · rcases List.mem_append.1 hc with h1 | h1
      · exact h.last.1 c h1
      · rcases List.mem_cons.1 h1 with rfl | h1
        · exact clu32
        · exact (hx c h1).1
    · rw [sumC_append, sumC_cons, cols32]; omega
    · cases LD with
      | nil => exact absurd rfl hLn
      | cons a t => exact h.last.2.2.1 c (by simpa using hc)
    · rw [List.getLast?_append] at hc
      have e2 : ([32] :: x).getLast? = x.getLast? := by
        cases x with
        | nil => exact absurd rfl hn
        | cons a t => simp [List.getLast?_cons]
      rw [e2] at hc
      cases hgl : x.getLast? with
      | none => exact absurd (List.getLast?_eq_none_iff.1 hgl) hn
      | some y =>
        rw [hgl] at hc
        simp at hc
        rw [← hc]
        exact (hx y (List.mem_of_getLast? hgl)).2
    · have hxs : x.filter solid = x := List.filter_eq_self.2 (fun c hc => by simp [solid, (hx c hc).2])
      have hxw : x.filter (fun c => decide (colsL c ≤ w)) = x := List.filter_eq_self.2 (fun c hc => by
        have h3 : colsL c ≤ sumC x := by
          obtain ⟨a, b, rfl⟩ := List.append_of_mem hc
          rw [sumC_append, sumC_cons]
          have := (sumC_bd a).1
          have := (sumC_bd b).1
          omega
        simp; omega)
      rw [← List.append_assoc, List.filter_append, h.keep, List.filter_cons, List.filter_append, hxs, hxw]
      simp [solid, b32_sp]
  · rw [if_neg hg]
    obtain ⟨D1, h1⟩ := h.end_ hw
    exact KI.puts hw x cs _ D1 [] h1 hx
theorem KI.adds {w : Int} (hw : 0 ≤ w) : ∀ (ws : Ws) (cs : CL) (st : Pg) (DD : List CL) (LD : CL), KI w cs st DD LD → (∀ x ∈ ws, x ≠ [] ∧ ∀ c ∈ x, Clu c ∧ b32 c = false) → ∃ DD' LD', KI w (cs ++ ws.flatten) (ws.foldl (addG w) st) DD' LD'
  | [], cs, st, DD, LD, h, _ => ⟨DD, LD, by simpa using h⟩
  | x :: ws, cs, st, DD, LD, h, hx => by
    obtain ⟨hn, hc⟩ := hx x (List.mem_cons_self ..)
    obtain ⟨D1, L1, h1⟩ := h.add hw hn hc
    obtain ⟨D2, L2, h2⟩ := KI.adds hw ws (cs ++ x) _ D1 L1 h1 (fun y hy => hx y (List.mem_cons_of_mem _ hy))
    exact ⟨D2, L2, by simpa using h2⟩
/-- The words: solid clusters in their order. -/
theorem words_fold : ∀ (l : CL) (st : Ws × Bool), (st.2 = true → st.1 ≠ []) → (∀ x ∈ st.1, x ≠ [] ∧ ∀ c ∈ x, b32 c = false) →
    (l.foldl wordS st).1.flatten = st.1.flatten ++ l.filter solid ∧ (∀ x ∈ (l.foldl wordS st).1, x ≠ [] ∧ ∀ c ∈ x, b32 c = false)
  | [], st, _, h => ⟨by simp, h⟩
  | c :: l, (ws, op), ho, h => by
    rw [List.foldl_cons]
    cases hb : b32 c with
    | true =>
      have e : wordS (ws, op) c = (ws, false) := by unfold wordS; rw [hb]; rfl
      rw [e]
      obtain ⟨h1, h2⟩ := words_fold l (ws, false) (by simp) h
      refine ⟨?_, h2⟩
      rw [h1, List.filter_cons]; simp [solid, hb]
    | false =>
      cases op with
      | true =>
        obtain ⟨A, x, hA⟩ : ∃ A x, ws = A ++ [x] := ⟨ws.dropLast, ws.getLast (ho rfl), (List.dropLast_concat_getLast _).symm⟩
        subst hA
        have e : wordS (A ++ [x], true) c = (A ++ [x ++ [c]], true) := by unfold wordS; rw [hb]; simp [snocW_eq]
        rw [e]
        obtain ⟨h1, h2⟩ := words_fold l (A ++ [x ++ [c]], true) (by simp) (fun y hy => by
          rcases List.mem_append.1 hy with h3 | h3
          · exact h y (List.mem_append_left _ h3)
          · rw [List.mem_singleton.1 h3]
            refine ⟨by simp, fun d hd => ?_⟩
            rcases List.mem_append.1 hd with h4 | h4
            · exact (h x (by simp)).2 d h4
            · rw [List.mem_singleton.1 h4]; exact hb)
        refine ⟨?_, h2⟩
        rw [h1, List.filter_cons]; simp [solid, hb]
      | false =>
        have e : wordS (ws, false) c = (ws ++ [[c]], true) := by unfold wordS; rw [hb]; rfl
        rw [e]
        obtain ⟨h1, h2⟩ := words_fold l (ws ++ [[c]], true) (by simp) (fun y hy => by
          rcases List.mem_append.1 hy with h3 | h3
          · exact h y h3
          · rw [List.mem_singleton.1 h3]
            exact ⟨by simp, fun d hd => by rw [List.mem_singleton.1 hd]; exact hb⟩)
        refine ⟨?_, h2⟩
        rw [h1, List.filter_cons]; simp [solid, hb]
/-- What Wrap's lines are. -/
theorem wrap_keeps (s : List UInt8) (w : Int) : ∃ DD : List CL, wrapL s w = DD.map List.flatten ∧ (∀ D ∈ DD, D ≠ [] ∧ Fine w D) ∧ DD.flatten.filter solid = ((cutL (flatL s)).filter solid).filter (fun c => decide (colsL c ≤ w)) := by
  by_cases hw : w < 1
  · refine ⟨[], by unfold wrapL; rw [if_pos hw]; rfl, by simp, ?_⟩
    symm
    rw [List.flatten_nil, List.filter_nil, List.filter_eq_nil_iff]
    intro c hc
    have := (clu_mem (List.mem_filter.1 hc).1).cols
    simp; omega
  · have hw0 : 0 ≤ w := by omega
    have hwf := words_fold (cutL (flatL s)) ([], false) (by simp) (by simp)
    have hwc := wordS_clu (cutL (flatL s)) ([], false) (fun c hc => clu_mem hc) (by simp)
    obtain ⟨D1, L1, h1⟩ := KI.adds hw0 (wordsL (cutL (flatL s))) [] ([], [], 0) [] [] ⟨rfl, rfl, rfl, by simp, fine_nil hw0, by simp⟩ (fun x hx => ⟨(hwf.2 x hx).1, fun c hc => ⟨hwc x hx c hc, (hwf.2 x hx).2 c hc⟩⟩)
    obtain ⟨D2, h2⟩ := h1.end_ hw0
    refine ⟨D2, by unfold wrapL; rw [if_neg hw]; exact h2.done, h2.fine, ?_⟩
    have hk := h2.keep
    rw [List.append_nil, List.nil_append] at hk
    rw [hk]
    have : (wordsL (cutL (flatL s))).flatten = (cutL (flatL s)).filter solid := by
      have := hwf.1
      simpa [wordsL] using this
    rw [this]
end Go.Proofs.Ytmdpmjabjijjiaa
