/- A frame handed in, as rows of cells. No condition. -/
import Derived.Test.YtekodpcedjpnjaaFlatR
namespace Go.Proofs.Ytekodpcedjpnjaa
set_option linter.unusedVariables false
set_option linter.unusedSimpArgs false
open Go.RowKit Go.Maps
theorem list_forallF {α : Type} {p : Nat → α → Prop} : ∀ n : Nat, (∀ i, i < n → ∃ x, p i x) → ∃ l : List α, l.length = n ∧ ∀ i x, l[i]? = some x → p i x
  | 0, _ => ⟨[], rfl, fun i x h => by simp at h⟩
  | n + 1, h => by
    obtain ⟨l, hl, hp⟩ := list_forallF n (fun i hi => h i (by omega))
    obtain ⟨x, hx⟩ := h n (by omega)
    refine ⟨l ++ [x], by simp [hl], fun i y hy => ?_⟩
    by_cases hi : i < l.length
    · rw [List.getElem?_append_left hi] at hy
      exact hp i y hy
    · rw [List.getElem?_append_right (by omega)] at hy
      have h0 : i - l.length = 0 := by
        cases hk : i - l.length with
        | zero => rfl
        | succ k => rw [hk] at hy; simp at hy
      rw [h0] at hy
      simp only [List.getElem?_cons_zero, Option.some.injEq] at hy
      subst hy
      obtain rfl : i = n := by omega
      exact hx
def cellFlat : List Flat := [.str, .int .i64, .bool, .bool, .bool, .int .i64, .int .i64]
theorem gc_of_flat {V : List Value} (h : FlatAll cellFlat V) : ∃ c : GC, V = c.vals := by
  obtain ⟨_, V1, rfl, ⟨s, rfl, _⟩, h1⟩ := h.uncons
  obtain ⟨_, V2, rfl, ⟨w, rfl, _⟩, h2⟩ := h1.uncons
  obtain ⟨_, V3, rfl, ⟨b, rfl⟩, h3⟩ := h2.uncons
  obtain ⟨_, V4, rfl, ⟨u, rfl⟩, h4⟩ := h3.uncons
  obtain ⟨_, V5, rfl, ⟨i, rfl⟩, h5⟩ := h4.uncons
  obtain ⟨_, V6, rfl, ⟨f, rfl, _⟩, h6⟩ := h5.uncons
  obtain ⟨_, V7, rfl, ⟨g, rfl, _⟩, h7⟩ := h6.uncons
  obtain rfl := h7.unnil
  exact ⟨⟨s, w, ⟨b, u, i, f, g⟩⟩, rfl⟩
theorem cellsAt_of {W : World} {a : Option Addr} {len cap : Nat} (h : IsFlats cellFlat W a len cap) : ∃ M, CellsAt W a len M := by
  obtain ⟨_, _, h⟩ := h
  obtain ⟨M, hl, hp⟩ := list_forallF (p := fun i (c : GC) => ∃ b off, a = some ⟨b, off, none⟩ ∧ b < W.heap.size ∧ W.rangeAt b (off + i * 7) c.vals) len (fun i hi => by
    obtain ⟨b, off, V, ha, hb, hf, hc⟩ := h i hi
    obtain ⟨c, rfl⟩ := gc_of_flat hf
    refine ⟨c, b, off, ha, hb, fun j v hv => ?_⟩
    have hj : j < 7 := (List.getElem?_eq_some_iff.1 hv).1
    have := hc j hj
    rw [hv] at this
    rw [Nat.add_assoc]; exact this)
  exact ⟨M, hl, hp⟩
theorem rowsAt_of {W : World} {a : Option Addr} {len cap : Nat} (h : IsRows cellFlat W a len cap) : ∃ R, RowsAt W a len R := by
  obtain ⟨_, _, h⟩ := h
  obtain ⟨R, hl, hp⟩ := list_forallF (p := fun i (M : List GC) => ∃ b off a2 c2, a = some ⟨b, off, none⟩ ∧ b < W.heap.size ∧ W.cell? ⟨b, off + i, none⟩ = some (.slice a2 M.length c2) ∧ (M.length ≤ c2 ∧ c2 ≤ maxLen) ∧ CellsAt W a2 M.length M) len (fun i hi => by
    obtain ⟨b, off, a', n', c', ha, hb, hc, hf⟩ := h i hi
    obtain ⟨M, hM⟩ := cellsAt_of hf
    have hn := hM.len
    subst hn
    exact ⟨M, b, off, a', c', ha, hb, hc, ⟨hf.1, hf.2.1⟩, hM⟩)
  exact ⟨R, hl, hp⟩
end Go.Proofs.Ytekodpcedjpnjaa
