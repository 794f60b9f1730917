/- A frame handed in, as rows of cells. No condition. The law FrameChecks: few: a frame, not larger than is looked at. No condition. -/
import Derived.Test.YtekodpcedjpnjaaGreatRC02
import Derived.Test.YtekodpcedjpnjaaGreatRC21
import Derived.Test.YtekodpcedjpnjaaGreatRC22
set_option linter.unusedVariables false
set_option linter.unusedSimpArgs false
namespace Go.Proofs.YtekodpcedjpnjaaGreat
open Go.RowKit Go.Maps
theorem list_forallF {α : Type} {p : Nat → α → Prop} : ∀ n : Nat, (∀ i, i < n → ∃ x, p i x) → ∃ l : List α, l.length = n ∧ ∀ i x, l[i]? = some x → p i x
  | 0, _ => ⟨[], rfl, fun i x h => by simp at h⟩
  | n + 1, h => by
    obtain ⟨l, hl, hp⟩ := list_forallF n (fun i hi => h i (by omega))
    obtain ⟨x, hx⟩ := h n (by omega)
    refine ⟨l ++ [x], by simp [hl], fun i y hy => ?_⟩
    by_cases hi : i < l.length
    · rw [List.getElem?_append_left hi] at hy
      exact hp i y hy
    · rw [List.getElem?_append_right (by omega)] at hy
      have h0 : i - l.length = 0 := by
        cases hk : i - l.length with
        | zero => rfl
        | succ k => rw [hk] at hy; simp at hy
      rw [h0] at hy
      simp only [List.getElem?_cons_zero, Option.some.injEq] at hy
      subst hy
      obtain rfl : i = n := by omega
      exact hx
def cellFlat : List Flat := [.str, .int .i64, .bool, .bool, .bool, .int .i64, .int .i64]
theorem gc_of_flat {V : List Value} (h : FlatAll cellFlat V) : ∃ c : GC, V = c.vals := by
  obtain ⟨_, V1, rfl, ⟨s, rfl, _⟩, h1⟩ := h.uncons
  obtain ⟨_, V2, rfl, ⟨w, rfl, _⟩, h2⟩ := h1.uncons
  obtain ⟨_, V3, rfl, ⟨b, rfl⟩, h3⟩ := h2.uncons
  obtain ⟨_, V4, rfl, ⟨u, rfl⟩, h4⟩ := h3.uncons
  obtain ⟨_, V5, rfl, ⟨i, rfl⟩, h5⟩ := h4.uncons
  obtain ⟨_, V6, rfl, ⟨f, rfl, _⟩, h6⟩ := h5.uncons
  obtain ⟨_, V7, rfl, ⟨g, rfl, _⟩, h7⟩ := h6.uncons
  obtain rfl := h7.unnil
  exact ⟨⟨s, w, ⟨b, u, i, f, g⟩⟩, rfl⟩
theorem cellsAt_of {W : World} {a : Option Addr} {len cap : Nat} (h : IsFlats cellFlat W a len cap) : ∃ M, CellsAt W a len M := by
  obtain ⟨_, _, h⟩ := h
  obtain ⟨M, hl, hp⟩ := list_forallF (p := fun i (c : GC) => ∃ b off, a = some ⟨b, off, none⟩ ∧ b < W.heap.size ∧ W.rangeAt b (off + i * 7) c.vals) len (fun i hi => by
    obtain ⟨b, off, V, ha, hb, hf, hc⟩ := h i hi
    obtain ⟨c, rfl⟩ := gc_of_flat hf
    refine ⟨c, b, off, ha, hb, fun j v hv => ?_⟩
    have hj : j < 7 := (List.getElem?_eq_some_iff.1 hv).1
    have := hc j hj
    rw [hv] at this
    rw [Nat.add_assoc]; exact this)
  exact ⟨M, hl, hp⟩
theorem rowsAt_of {W : World} {a : Option Addr} {len cap : Nat} (h : IsRows cellFlat W a len cap) : ∃ R, RowsAt W a len R := by
  obtain ⟨_, _, h⟩ := h
  obtain ⟨R, hl, hp⟩ := list_forallF (p := fun i (M : List GC) => ∃ b off a2 c2, a = some ⟨b, off, none⟩ ∧ b < W.heap.size ∧ W.cell? ⟨b, off + i, none⟩ = some (.slice a2 M.length c2) ∧ (M.length ≤ c2 ∧ c2 ≤ maxLen) ∧ CellsAt W a2 M.length M) len (fun i hi => by
    obtain ⟨b, off, a', n', c', ha, hb, hc, hf⟩ := h i hi
    obtain ⟨M, hM⟩ := cellsAt_of hf
    have hn := hM.len
    subst hn
    exact ⟨M, b, off, a', c', ha, hb, hc, ⟨hf.1, hf.2.1⟩, hM⟩)
  exact ⟨R, hl, hp⟩
end Go.Proofs.YtekodpcedjpnjaaGreat
namespace Go.Proofs.YtekodpcedjpnjaaGreat
open Go.RowKit Go.Shelf Go.Maps
theorem own_neK {W : World} {n₀ : Nat} {e : TypeId} {s : Nat} {v : Value} {n : Nat} {xs : List Value} (h : W.ownsRow n₀ e s v n xs) (hn : n ≠ 0) : ∃ g c, v = .slice (some ⟨g, 0, none⟩) n c ∧ n₀ ≤ g ∧ n ≤ c ∧ c ≤ maxLen := by
  rcases h.2 with ⟨_, h2⟩ | ⟨g, cap, cur, h1, h2, _, h3, h4, _⟩
  · exact absurd h2 hn
  · exact ⟨g, cap, h1, h2, h3, h4⟩
theorem own_getK {W : World} {n₀ s g n cap : Nat} {e : TypeId} {xs : List Value} (h : W.ownsRow n₀ e s (.slice (some ⟨g, 0, none⟩) n cap) n xs) {j : Nat} {u : Value} (hj : xs[j]? = some u) : W.cell? ⟨g, j, none⟩ = some u ∧ W.frozen? ⟨g, j, none⟩ = false := by
  rcases h.2 with ⟨h1, _⟩ | ⟨g', cap', cur, h1, h2, h3, h4, h5, h6, h7⟩
  · cases h1
  · cases h1
    have hl : j < xs.length := (List.getElem?_eq_some_iff.1 hj).1
    have h8 : cur[j]? = some u := by
      rw [← h7, List.getElem?_take] at hj
      split at hj
      · rw [Array.getElem?_toList] at hj; exact hj
      · cases hj
    unfold World.cell? World.frozen?
    dsimp only
    rw [h3]
    exact ⟨by simpa using h8, by simp⟩
theorem CellsAt.take {W : World} {a : Option Addr} {n : Nat} {M : List GC} (h : CellsAt W a n M) (k : Nat) : CellsAt W a (M.take k).length (M.take k) :=
  ⟨rfl, fun i c hi => by
    rw [List.getElem?_take] at hi
    split at hi
    · exact h.at_ i c hi
    · cases hi⟩
end Go.Proofs.YtekodpcedjpnjaaGreat
namespace Go.Proofs.YtekodpcedjpnjaaGreat
open Go.RowKit Go.Shelf Go.Maps
theorem FBI.frozK {W : World} {F : Nat} {v : Value} {r c : Int} {s : Bool} (h : FBI W F v r c s) : ∀ j, W.frozen? ⟨F, j, none⟩ = false := fun j => by
  unfold FBI at h
  simp [World.frozen?, h]
theorem FBI.fillK {W : World} {b : Nat} {v : Value} {r c : Int} {s : Bool} (g : FBI W b v r c s) (v' : Value) (r' c' : Int) (s' : Bool) (X : World)
    (hX : (((W.setCell ⟨b, 0, none⟩ v').setCell ⟨b, 1, none⟩ (.int .i64 r')).setCell ⟨b, 2, none⟩ (.int .i64 c')).setCell ⟨b, 3, none⟩ (.bool s') = X) : FBI X b v' r' c' s' ∧ Only [b] W X := by
  subst hX
  refine ⟨?_, ((((Only.refl [b] W).setCell (.inl (by simp)) _).setCell (.inl (by simp)) _).setCell (.inl (by simp)) _).setCell (.inl (by simp)) _⟩
  unfold FBI at g ⊢
  simp only [World.setCell, Array.getElem?_modify, if_true, g, Option.map_some]
  rfl
theorem row_oneK (W : World) (v : Value) (t : TypeId) : ∀ (j : Nat) (u : Value), [v][j]? = some u → (W.alloc (.cells #[v] t)).cell? ((⟨W.heap.size, 0, none⟩ : Addr).add j) = some u := fun j u h => by
  have h0 := (cell_new_l W v t).1
  cases j with
  | zero =>
    simp only [List.getElem?_cons_zero, Option.some.injEq] at h
    subst h
    rw [Go.WideShapes.add_plain]; exact h0
  | succ j => simp at h
def FwS (B : Nat) (v : Value) (r c : Int) (s : Bool) (b o : Nat) (u : Value) (X : World) : Prop := FBI X B v r c s ∧ X.cell? ⟨b, o, none⟩ = some u
theorem FBI.setRows {W : World} {b : Nat} {v : Value} {r c : Int} {s : Bool} (g : FBI W b v r c s) (u : Value) : FBI (W.setCell ⟨b, 0, none⟩ u) b u r c s := by
  have := set_at g 0 u
  exact this
theorem FBI.oth {W : World} {b k o : Nat} {v : Value} {r c : Int} {s : Bool} (g : FBI W b v r c s) (h : b ≠ k) (u : Value) : FBI (W.setCell ⟨k, o, none⟩ u) b v r c s := (Below.heap_setCell _ _ _ _ (by exact h)).trans g
end Go.Proofs.YtekodpcedjpnjaaGreat
