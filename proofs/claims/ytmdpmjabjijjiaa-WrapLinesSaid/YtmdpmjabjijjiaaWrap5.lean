/- Wrap: a row of words, each with a row of its own. No condition. -/
import Derived.Test.YtmdpmjabjijjiaaWrapM
import Derived.RangeFuncBox
import Derived.Maps.OwnIn
import Derived.Test.YtmdpmjabjijjiaaRClus6
namespace Go.Proofs.Ytmdpmjabjijjiaa
set_option linter.unusedVariables false
set_option linter.unusedSimpArgs false
open Go.RowKit Go.Shelf Go.Maps
abbrev WE := Value × Int × List (List UInt8)
def WV (T : List WE) : List Value := T.flatMap fun e => [e.1, .int .i64 e.2.1]
theorem WV_append (A B : List WE) : WV (A ++ B) = WV A ++ WV B := by simp [WV]
theorem WV_len (T : List WE) : (WV T).length = T.length * 2 := by
  induction T with
  | nil => rfl
  | cons e t ih =>
    have : WV (e :: t) = [e.1, .int .i64 e.2.1] ++ WV t := by simp [WV]
    rw [this, List.length_append, ih]; simp; omega
structure WR (n₀ : Nat) (W : World) (v : Value) (T : List WE) : Prop where
  out : W.ownsRow n₀ 129 2 v T.length (WV T)
  rows : ∀ e ∈ T, W.ownsRow n₀ 9 1 e.1 e.2.2.length (strV e.2.2)
  apart : T.Pairwise (fun a b => a.1.ownBlock ≠ b.1.ownBlock)
theorem wne : (129 : TypeId) ≠ 9 := by decide
theorem own_two {W : World} {n₀ s s' : Nat} {e e' : TypeId} {v v' : Value} {n k : Nat} {xs ys : List Value} (h : W.ownsRow n₀ e s v n xs) (h' : W.ownsRow n₀ e' s' v' k ys) (hne : e ≠ e') : v.ownBlock = none ∨ v.ownBlock ≠ v'.ownBlock := by
  cases hv : v.ownBlock with
  | none => exact .inl rfl
  | some g =>
    refine .inr (fun e1 => ?_)
    obtain ⟨_, cur, h2⟩ := own_cells h g hv
    obtain ⟨_, cur', h3⟩ := own_cells h' g e1.symm
    rw [h2] at h3
    injection h3 with h3
    injection h3 with _ h4
    exact hne h4
theorem WR.nil (n₀ : Nat) (W : World) : WR n₀ W (.slice none 0 0) [] := ⟨World.ownsRow_nil _ _ _ _, by simp, List.Pairwise.nil⟩
theorem WR.far {n₀ : Nat} {W W' : World} {v : Value} {T : List WE} {row : Option Nat} (h : WR n₀ W v T) (hg : W.grownBy W' row) (hr : ∀ r, row = some r → ∃ o : Obj, W.heap[r]? = some o ∧ o.isCells = false) : WR n₀ W' v T :=
  ⟨own_far h.out hg hr, fun e he => own_far (h.rows e he) hg hr, h.apart⟩
theorem WR.set {n₀ : Nat} {W : World} {v : Value} {T : List WE} (h : WR n₀ W v T) {b off : Nat} (hb : b < n₀) (u : Value) : WR n₀ (W.setCell ⟨b, off, none⟩ u) v T :=
  ⟨own_set h.out hb u, fun e he => own_set (h.rows e he) hb u, h.apart⟩
theorem WR.drew {n₀ : Nat} {W : World} {v : Value} {T : List WE} (h : WR n₀ W v T) : WR n₀ W.drew v T := ⟨h.out.drew, fun e he => (h.rows e he).drew, h.apart⟩
theorem WR.alloc {n₀ : Nat} {W : World} {v : Value} {T : List WE} (h : WR n₀ W v T) (o : Obj) : WR n₀ (W.alloc o) v T := ⟨h.out.alloc o, fun e he => (h.rows e he).alloc o, h.apart⟩
theorem WR.below {n₀ : Nat} {W W' : World} {v : Value} {T : List WE} (h : WR n₀ W v T) (hb : Below W.heap.size W W') : WR n₀ W' v T :=
  h.far (grown_of_below hb) (fun r e => by cases e)
/-- One word more, that is empty yet. -/
theorem WR.new {n₀ : Nat} {W w1 : World} {v v' : Value} {T : List WE} (h : WR n₀ W v T) (hs : ∀ e ∈ T, e.1.ownBlock ≠ none) (hg : W.grownBy w1 v.ownBlock) (ho : w1.ownsRow n₀ 129 2 v' (T.length + 1) (WV T ++ [.slice none 0 0, .int .i64 0])) :
    WR n₀ w1 v' (T ++ [(.slice none 0 0, 0, [])]) := by
  refine ⟨by rw [WV_append, List.length_append]; exact ho, fun e he => ?_, ?_⟩
  · rcases List.mem_append.1 he with h1 | h1
    · exact (h.rows e h1).kept hg (own_two (h.rows e h1) h.out wne.symm)
    · rw [List.mem_singleton.1 h1]
      exact World.ownsRow_nil _ _ _ _
  · rw [List.pairwise_append]
    refine ⟨h.apart, List.pairwise_singleton _ _, fun a ha b hb => ?_⟩
    rw [List.mem_singleton.1 hb]
    exact hs a ha
theorem WV_set (A : List WE) (a b : Value) (u : Value) : (WV A ++ [a, b]).set (A.length * 2) u = WV A ++ [u, b] ∧ (WV A ++ [a, b]).set (A.length * 2 + 1) u = WV A ++ [a, u] := by
  have hl := WV_len A
  constructor
  · rw [List.set_append_right _ _ (by omega), hl, Nat.sub_self]; rfl
  · rw [List.set_append_right _ _ (by omega), hl, show A.length * 2 + 1 - A.length * 2 = 1 by omega]; rfl
/-- The cells of the last word. -/
theorem WR.last {n₀ : Nat} {W : World} {g c : Nat} {A : List WE} {vl : Value} {i : Int} {x : List (List UInt8)} {m : Nat} (h : WR n₀ W (.slice (some ⟨g, 0, none⟩) m c) (A ++ [(vl, i, x)])) :
    m = A.length + 1 ∧ n₀ ≤ g ∧ W.cell? ⟨g, A.length * 2, none⟩ = some vl ∧ W.cell? ⟨g, A.length * 2 + 1, none⟩ = some (.int .i64 i) ∧ W.frozen? ⟨g, A.length * 2, none⟩ = false ∧ W.frozen? ⟨g, A.length * 2 + 1, none⟩ = false := by
  have hm : m = (A ++ [(vl, i, x)]).length := by
    rcases h.out.2 with ⟨h', _⟩ | ⟨g', c', cur, h', _⟩
    · simp at h'
    · simp only [Value.slice.injEq] at h'; exact h'.2.1
  subst hm
  have ho := h.out
  have hl := WV_len A
  have hv : WV (A ++ [(vl, i, x)]) = WV A ++ [vl, .int .i64 i] := by rw [WV_append]; rfl
  have hlen : (A ++ [(vl, i, x)]).length = A.length + 1 := by simp
  refine ⟨hlen, (ho.lt g rfl).1, ?_, ?_, ho.frozenAt _, ho.frozenAt _⟩
  · rw [ho.cellAt _ (by rw [hlen]; omega), hv, List.getElem?_append_right (by omega), hl, Nat.sub_self]; rfl
  · rw [ho.cellAt _ (by rw [hlen]; omega), hv, List.getElem?_append_right (by omega), hl, show A.length * 2 + 1 - A.length * 2 = 1 by omega]; rfl
/-- One cluster more in the last word. -/
theorem WR.grow {n₀ : Nat} {W w1 : World} {g c m : Nat} {A : List WE} {vl vl' : Value} {i : Int} {x : List (List UInt8)} {u : List UInt8} (h : WR n₀ W (.slice (some ⟨g, 0, none⟩) m c) (A ++ [(vl, i, x)])) (hg : W.grownBy w1 vl.ownBlock)
    (ho : w1.ownsRow n₀ 9 1 vl' (x.length + 1) (strV x ++ [.string (S u)])) (hob : vl'.ownBlock = vl.ownBlock ∨ vl'.ownBlock = some W.heap.size) (hx : vl.ownBlock = none → x = [] ∧ ∀ e ∈ A, e.1.ownBlock ≠ none) :
    (w1.cell? ⟨g, A.length * 2, none⟩ = some vl ∧ w1.frozen? ⟨g, A.length * 2, none⟩ = false) ∧ WR n₀ (w1.setCell ⟨g, A.length * 2, none⟩ vl') (.slice (some ⟨g, 0, none⟩) m c) (A ++ [(vl', i, x ++ [u])]) := by
  have hA : ∀ e ∈ A, e.1.ownBlock ≠ vl.ownBlock := by
    have := (List.pairwise_append.1 h.apart).2.2
    intro e he
    exact this e he (vl, i, x) (by simp)
  have hrl := h.rows (vl, i, x) (by simp)
  have ho1 : w1.ownsRow n₀ 129 2 (.slice (some ⟨g, 0, none⟩) m c) (A ++ [(vl, i, x)]).length (WV (A ++ [(vl, i, x)])) := h.out.kept hg (own_two h.out hrl wne)
  have hr1 : ∀ e ∈ A, w1.ownsRow n₀ 9 1 e.1 e.2.2.length (strV e.2.2) := fun e he => (h.rows e (List.mem_append_left _ he)).kept hg (.inr (hA e he))
  have hm : m = (A ++ [(vl, i, x)]).length := by
    rw [h.last.1]; simp
  subst hm
  have hl := WV_len A
  have hv : WV (A ++ [(vl, i, x)]) = WV A ++ [vl, .int .i64 i] := by rw [WV_append]; rfl
  have hst := (ho1.stored (A.length * 2) vl')
  rw [hv, (WV_set A vl (.int .i64 i) vl').1] at hst
  have hge := (ho1.lt g rfl).1
  have hgn : ∀ {s : Nat} {q : Value} {k : Nat} {ys : List Value}, w1.ownsRow n₀ 9 s q k ys → (w1.setCell ⟨g, A.length * 2, none⟩ vl').ownsRow n₀ 9 s q k ys := fun hq => hq.kept hst.2 (by
    rcases own_two hq ho1 wne.symm with h1 | h1
    · exact .inl h1
    · exact .inr h1)
  refine ⟨⟨?_, ho1.frozenAt _⟩, ?_, fun e he => ?_, ?_⟩
  · rw [ho1.cellAt _ (by simp), hv, List.getElem?_append_right (by omega), hl, Nat.sub_self]; rfl
  · have e1 : WV (A ++ [(vl', i, x ++ [u])]) = WV A ++ [vl', .int .i64 i] := by rw [WV_append]; rfl
    rw [e1]
    have e2 : (A ++ [(vl', i, x ++ [u])]).length = (A ++ [(vl, i, x)]).length := by simp
    rw [e2]
    exact hst.1
  · rcases List.mem_append.1 he with h1 | h1
    · exact hgn (hr1 e h1)
    · rw [List.mem_singleton.1 h1]
      refine hgn ?_
      show w1.ownsRow n₀ 9 1 vl' (x ++ [u]).length (strV (x ++ [u]))
      rw [strV_snoc, List.length_append]
      exact ho
  · rw [List.pairwise_append]
    refine ⟨(List.pairwise_append.1 h.apart).1, List.pairwise_singleton _ _, fun a ha b hb => ?_⟩
    rw [List.mem_singleton.1 hb]
    show a.1.ownBlock ≠ vl'.ownBlock
    rcases hob with h1 | h1
    · rw [h1]; exact hA a ha
    · rw [h1]
      intro e1
      have := ((h.rows a (List.mem_append_left _ ha)).lt _ e1).2
      omega
/-- The last word's columns. -/
theorem WR.cols {n₀ : Nat} {W : World} {g c m : Nat} {A : List WE} {vl : Value} {i : Int} {x : List (List UInt8)} (h : WR n₀ W (.slice (some ⟨g, 0, none⟩) m c) (A ++ [(vl, i, x)])) (j : Int) :
    WR n₀ (W.setCell ⟨g, A.length * 2 + 1, none⟩ (.int .i64 j)) (.slice (some ⟨g, 0, none⟩) m c) (A ++ [(vl, j, x)]) := by
  have hm : m = (A ++ [(vl, i, x)]).length := by
    rw [h.last.1]; simp
  subst hm
  have hv : WV (A ++ [(vl, i, x)]) = WV A ++ [vl, .int .i64 i] := by rw [WV_append]; rfl
  have hst := (h.out.stored (A.length * 2 + 1) (.int .i64 j))
  rw [hv, (WV_set A vl (.int .i64 i) (.int .i64 j)).2] at hst
  have hgn : ∀ {s : Nat} {q : Value} {k : Nat} {ys : List Value}, W.ownsRow n₀ 9 s q k ys → (W.setCell ⟨g, A.length * 2 + 1, none⟩ (.int .i64 j)).ownsRow n₀ 9 s q k ys := fun hq => hq.kept hst.2 (by
    rcases own_two hq h.out wne.symm with h1 | h1
    · exact .inl h1
    · exact .inr h1)
  refine ⟨?_, fun e he => ?_, ?_⟩
  · have e1 : WV (A ++ [(vl, j, x)]) = WV A ++ [vl, .int .i64 j] := by rw [WV_append]; rfl
    have e2 : (A ++ [(vl, j, x)]).length = (A ++ [(vl, i, x)]).length := by simp
    rw [e1, e2]
    exact hst.1
  · rcases List.mem_append.1 he with h1 | h1
    · exact hgn (h.rows e (List.mem_append_left _ h1))
    · rw [List.mem_singleton.1 h1]
      exact hgn (h.rows (vl, i, x) (by simp))
  · rw [List.pairwise_append]
    refine ⟨(List.pairwise_append.1 h.apart).1, List.pairwise_singleton _ _, fun a ha b hb => ?_⟩
    rw [List.mem_singleton.1 hb]
    exact (List.pairwise_append.1 h.apart).2.2 a ha (vl, i, x) (by simp)
end Go.Proofs.Ytmdpmjabjijjiaa
