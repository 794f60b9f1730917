/- Rows of cells: those that the call owns, and those that are read. No condition. -/
import Derived.Test.YtekodpcedjpnjaaGrid16
import Derived.Test.YtekodpcedjpnjaaRegT
import Derived.Test.YtekodpcedjpnjaaRangeX
namespace Go.Proofs.Ytekodpcedjpnjaa
set_option linter.unusedVariables false
set_option linter.unusedSimpArgs false
open Go.RowKit Go.Shelf Go.Maps
theorem infoCell : (Try.prog.info? 70).map (fun i => (i.zero, i.size, i.bytes)) = some (some GC.zero.v, 7, 48) := by kernel_rfl
theorem infoCells : (Try.prog.info? 46).map (fun i => (i.zero, i.size, i.bytes)) = some (some (.slice none 0 0), 1, 24) := by kernel_rfl
theorem rne : (46 : TypeId) ≠ 70 := by decide
/-- A frame in a box. -/
def FBox (W : World) (F : Nat) (v : Value) (r c : Nat) (s : Bool) : Prop := W.heap[F]? = some (.cells #[v, .int .i64 r, .int .i64 c, .bool s] 51 (0, 0))
theorem FBox.lt {W : World} {F : Nat} {v : Value} {r c : Nat} {s : Bool} (h : FBox W F v r c s) : F < W.heap.size := (Array.getElem?_eq_some_iff.1 h).1
theorem FBox.cells {W : World} {F : Nat} {v : Value} {r c : Nat} {s : Bool} (h : FBox W F v r c s) :
    W.cell? ⟨F, 0, none⟩ = some v ∧ W.cell? ⟨F, 1, none⟩ = some (.int .i64 r) ∧ W.cell? ⟨F, 2, none⟩ = some (.int .i64 c) ∧ W.cell? ⟨F, 3, none⟩ = some (.bool s) ∧ ∀ j, W.frozen? ⟨F, j, none⟩ = false := by
  unfold FBox at h
  unfold World.cell? World.frozen?
  dsimp only
  rw [h]
  simp
theorem FBox.below {W W' : World} {F : Nat} {v : Value} {r c : Nat} {s : Bool} (h : FBox W F v r c s) (hb : Below W.heap.size W W') : FBox W' F v r c s := (hb.block F h.lt).trans h
theorem FBox.set {W : World} {F : Nat} {v : Value} {r c : Nat} {s : Bool} (h : FBox W F v r c s) (u : Value) : FBox (W.setCell ⟨F, 0, none⟩ u) F u r c s := by
  have := set_at h 0 u
  exact this
theorem FBox.fill {W : World} {F : Nat} {v : Value} {r c : Nat} {s : Bool} (h : FBox W F v r c s) (v' : Value) (r' c' : Nat) (s' : Bool) (X : World)
    (hX : ((((W.setCell ⟨F, 0, none⟩ v').setCell ⟨F, 1, none⟩ (.int .i64 r')).setCell ⟨F, 2, none⟩ (.int .i64 c')).setCell ⟨F, 3, none⟩ (.bool s')) = X) : FBox X F v' r' c' s' ∧ Only [F] W X := by
  subst hX
  refine ⟨?_, ((((Only.refl [F] W).setCell (.inl (by simp)) _).setCell (.inl (by simp)) _).setCell (.inl (by simp)) _).setCell (.inl (by simp)) _⟩
  unfold FBox at h ⊢
  rw [set_at (set_at (set_at (set_at h _ _) _ _) _ _) _ _]
  rfl
theorem GBlk.news {W : World} {q : Nat} {L : List GC} (h : GBlk W q L) : ∀ j u, (flatV L)[j]? = some u → W.cell? ((⟨q, 0, none⟩ : Addr).add j) = some u := fun j u hj => by
  rw [Go.WideShapes.add_plain, cell_of_row W q (0 + j) _ _ _ h]
  simpa using hj
theorem boxed_newsF {W : World} {b : Nat} {t : TypeId} {x : Value} (h : Boxed W b t x) : ∀ j u, [x][j]? = some u → W.cell? ((⟨b, 0, none⟩ : Addr).add j) = some u := fun j u hj => by
  cases j with
  | zero =>
    simp only [List.getElem?_cons_zero, Option.some.injEq] at hj
    subst hj
    exact h.cell
  | succ j => simp at hj
theorem own_sliceF {W : World} {n₀ : Nat} {e : TypeId} {s : Nat} {v : Value} {n : Nat} {xs : List Value} (h : W.ownsRow n₀ e s v n xs) : ∃ a c, v = .slice a n c := by
  rcases h.2 with ⟨h1, h2⟩ | ⟨g, cap, cur, h1, _⟩
  · exact ⟨none, 0, by rw [h1, h2]⟩
  · exact ⟨_, cap, h1⟩
/-- Rows of cells that the call owns. -/
structure RowsV (n₀ : Nat) (W : World) (v : Value) (vs : List Value) (R : List (List GC)) : Prop where
  o : W.ownsRow n₀ 46 1 v R.length vs
  i : ∀ (i : Nat) (M : List GC), R[i]? = some M → ∃ u, vs[i]? = some u ∧ W.ownsRow n₀ 70 7 u M.length (flatV M)
theorem own_belowF {W W' : World} {n₀ : Nat} {e : TypeId} {size : Nat} {v : Value} {n : Nat} {xs : List Value} (h : W.ownsRow n₀ e size v n xs) (hb : Below W.heap.size W W') : W'.ownsRow n₀ e size v n xs :=
  own_far h (grown_of_below hb) (fun r e => by cases e)
theorem RowsV.below {n₀ : Nat} {W W' : World} {v : Value} {vs : List Value} {R : List (List GC)} (h : RowsV n₀ W v vs R) (hb : Below W.heap.size W W') : RowsV n₀ W' v vs R :=
  ⟨own_belowF h.o hb, fun i M hi => by obtain ⟨u, h1, h2⟩ := h.i i M hi; exact ⟨u, h1, own_belowF h2 hb⟩⟩
theorem RowsV.far {n₀ : Nat} {W W' : World} {v : Value} {vs : List Value} {R : List (List GC)} {row : Option Nat} (h : RowsV n₀ W v vs R) (hg : W.grownBy W' row) (hr : ∀ r, row = some r → ∃ o : Obj, W.heap[r]? = some o ∧ o.isCells = false) : RowsV n₀ W' v vs R :=
  ⟨own_far h.o hg hr, fun i M hi => by obtain ⟨u, h1, h2⟩ := h.i i M hi; exact ⟨u, h1, own_far h2 hg hr⟩⟩
theorem RowsV.set {n₀ : Nat} {W : World} {v : Value} {vs : List Value} {R : List (List GC)} (h : RowsV n₀ W v vs R) {k : Nat} (hk : k < n₀) (u : Value) : RowsV n₀ (W.setCell ⟨k, 0, none⟩ u) v vs R :=
  ⟨ownsRow_setCell_below h.o hk u, fun i M hi => by obtain ⟨u', h1, h2⟩ := h.i i M hi; exact ⟨u', h1, ownsRow_setCell_below h2 hk u⟩⟩
theorem RowsV.setAt {n₀ : Nat} {W : World} {v : Value} {vs : List Value} {R : List (List GC)} (h : RowsV n₀ W v vs R) {k : Nat} (hk : k < n₀) (o : Nat) (u : Value) : RowsV n₀ (W.setCell ⟨k, o, none⟩ u) v vs R :=
  ⟨ownsRow_setCell_below h.o hk u, fun i M hi => by obtain ⟨u', h1, h2⟩ := h.i i M hi; exact ⟨u', h1, ownsRow_setCell_below h2 hk u⟩⟩
theorem RowsV.app {n₀ : Nat} {W W' : World} {v v' u : Value} {vs : List Value} {R : List (List GC)} {M : List GC} (h : RowsV n₀ W v vs R) (hu : W.ownsRow n₀ 70 7 u M.length (flatV M)) (hgr : W.grownBy W' v.ownBlock)
    (ho : W'.ownsRow n₀ 46 1 v' (R.length + 1) (vs ++ [u])) : RowsV n₀ W' v' (vs ++ [u]) (R ++ [M]) := by
  have hl : vs.length = R.length := by have := h.o.1; omega
  have hc : ∀ k, v.ownBlock = some k → k < n₀ ∨ ∃ cur t fr, t ≠ (70 : TypeId) ∧ W.heap[k]? = some (.cells cur t fr) := fun k e => by
    obtain ⟨_, cur, h2⟩ := own_cells h.o k e; exact .inr ⟨cur, _, _, rne, h2⟩
  refine ⟨by rw [List.length_append]; exact ho, fun i M' hi => ?_⟩
  by_cases he : i < R.length
  · rw [List.getElem?_append_left he] at hi
    obtain ⟨u', h1, h2⟩ := h.i i M' hi
    exact ⟨u', by rw [List.getElem?_append_left (by omega)]; exact h1, own_but h2 hgr hc⟩
  · have hi2 := (List.getElem?_eq_some_iff.1 hi).1
    rw [List.length_append] at hi2
    simp only [List.length_cons, List.length_nil] at hi2
    obtain rfl : i = R.length := by omega
    rw [List.getElem?_append_right (Nat.le_refl _), Nat.sub_self] at hi
    simp only [List.getElem?_cons_zero, Option.some.injEq] at hi
    subst hi
    exact ⟨u, by rw [List.getElem?_append_right (by omega)]; simp [hl], own_but hu hgr hc⟩
/-- Rows of cells in memory. -/
structure RowsAt (W : World) (a : Option Addr) (n : Nat) (R : List (List GC)) : Prop where
  len : R.length = n
  at_ : ∀ (i : Nat) (M : List GC), R[i]? = some M → ∃ b off a2 c2, a = some ⟨b, off, none⟩ ∧ b < W.heap.size ∧ W.cell? ⟨b, off + i, none⟩ = some (.slice a2 M.length c2) ∧ (M.length ≤ c2 ∧ c2 ≤ maxLen) ∧ CellsAt W a2 M.length M
theorem RowsAt.below {W W' : World} {a : Option Addr} {n : Nat} {R : List (List GC)} (h : RowsAt W a n R) (hb : Below W.heap.size W W') : RowsAt W' a n R :=
  ⟨h.len, fun i M hi => by
    obtain ⟨b, off, a2, c2, h1, h2, h3, h4, h5⟩ := h.at_ i M hi
    exact ⟨b, off, a2, c2, h1, Nat.lt_of_lt_of_le h2 hb.size, (hb.cell (p := ⟨b, _, none⟩) h2).trans h3, h4, h5.below hb⟩⟩
theorem CellsAt.of_own {W : World} {n₀ : Nat} {a : Option Addr} {n c : Nat} {M : List GC} (hn : M.length = n) (h : W.ownsRow n₀ 70 7 (.slice a n c) n (flatV M)) : CellsAt W a n M ∧ n ≤ c ∧ c ≤ maxLen := by
  rcases h.2 with ⟨h1, h2⟩ | ⟨g, cap, cur, h1, h2, h3, h4, h5, h6, h7⟩
  · simp only [Value.slice.injEq] at h1
    obtain ⟨rfl, rfl, rfl⟩ := h1
    exact ⟨⟨hn, fun i c hi => by have := (List.getElem?_eq_some_iff.1 hi).1; omega⟩, Nat.le_refl _, by unfold maxLen; omega⟩
  · simp only [Value.slice.injEq] at h1
    obtain ⟨rfl, _, rfl⟩ := h1
    refine ⟨⟨hn, fun i c hi => ⟨g, 0, rfl, (Array.getElem?_eq_some_iff.1 h3).1, fun j v hv => ?_⟩⟩, h4, h5⟩
    have hj : j < 7 := by have := (List.getElem?_eq_some_iff.1 hv).1; rwa [GC.vals_length] at this
    have h8 := h.cells (g := g) rfl (7 * i + j) v (by rw [flatV_get hi hj, hv])
    rw [Go.WideShapes.add_plain] at h8
    rw [show 0 + i * 7 + j = 0 + (7 * i + j) by omega]
    exact h8
theorem RowsAt.of_own {W : World} {n₀ : Nat} {a : Option Addr} {n c : Nat} {vs : List Value} {R : List (List GC)} (hn : R.length = n) (h : RowsV n₀ W (.slice a n c) vs R) : RowsAt W a n R ∧ n ≤ c ∧ c ≤ maxLen := by
  have ho := h.o
  rw [hn] at ho
  obtain ⟨hr, h1, h2⟩ := own_row_at ho
  refine ⟨⟨hn, fun i M hi => ?_⟩, h1, h2⟩
  obtain ⟨u, h3, h4⟩ := h.i i M hi
  have hiv := (List.getElem?_eq_some_iff.1 h3).1
  obtain ⟨b, off, h5, h6, h7⟩ := hr i hiv
  have hu : nth undef vs i = u := by rw [nth_eq _ _ _ hiv]; exact (List.getElem?_eq_some_iff.1 h3).2
  rw [hu] at h7
  obtain ⟨a2, c2, rfl⟩ : ∃ a2 c2, u = .slice a2 M.length c2 := by
    rcases h4.2 with ⟨h1, h2⟩ | ⟨g, cap, cur, h1, _⟩
    · exact ⟨none, 0, by rw [h1, h2]⟩
    · exact ⟨_, cap, h1⟩
  obtain ⟨h8, h9, h10⟩ := CellsAt.of_own rfl h4
  exact ⟨b, off, a2, c2, h5, h6, h7, ⟨h9, h10⟩, h8⟩
end Go.Proofs.Ytekodpcedjpnjaa
