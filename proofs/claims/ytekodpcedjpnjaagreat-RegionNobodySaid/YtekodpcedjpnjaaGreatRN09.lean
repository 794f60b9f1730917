/- Frames handed in: what a reading of their cells tells. -/
import Derived.Test.YtekodpcedjpnjaaGreatRN07
import Derived.Test.YtekodpcedjpnjaaGreatRN08
set_option linter.unusedVariables false
set_option linter.unusedSimpArgs false
namespace Go.Proofs.YtekodpcedjpnjaaGreat
open Go.ChangeShapes Go.WideShapes Go.Deep Go.RowKit
section
variable {H : Type} {enc : TypeId × Value → H} {P : Program} {w : World} {base : Nat} {spare : Nat → Bool} {held : Bool}
theorem flats_cell {t e : TypeId} {n fuel : Nat} {fl : List Flat} {cs : List Value} {x : DataW H × List MemPlace} (ht : P.underlying t = some (.slice e)) (hf : flatOf P n e = some fl) (hc : P.cellsOf e = fl.length) (hpos : 0 < fl.length)
    (h : DataW.trod enc P w base spare held fuel t cs = some x) : ∃ a len cap, cs = [.slice a len cap] ∧ IsFlats fl w a len cap := by
  have hs : ∃ a len cap, cs = [.slice a len cap] := by
    rcases open_flats ht hf h with ⟨h1, _⟩ | ⟨ad, len', cap', h1, _⟩
    · exact ⟨_, _, _, h1⟩
    · exact ⟨_, _, _, h1⟩
  obtain ⟨a, len, cap, rfl⟩ := hs
  exact ⟨a, len, cap, rfl, open_flats_rows (d := x.1) (ps := x.2) ht hf hc hpos ⟨fuel, h⟩⟩
def IsRows (fl : List Flat) (W : World) (a : Option Addr) (len cap : Nat) : Prop :=
  len ≤ cap ∧ cap ≤ maxLen ∧ ∀ i, i < len → ∃ b off a' n' c', a = some ⟨b, off, none⟩ ∧ b < W.heap.size ∧ W.cell? ⟨b, off + i, none⟩ = some (.slice a' n' c') ∧ IsFlats fl W a' n' c'
theorem open_rows {t e c : TypeId} {n fuel : Nat} {fl : List Flat} {cs : List Value} {x : DataW H × List MemPlace} (ht : P.underlying t = some (.slice e)) (he : P.underlying e = some (.slice c)) (hce : P.cellsOf e = 1) (hf : flatOf P n c = some fl) (hc : P.cellsOf c = fl.length) (hpos : 0 < fl.length)
    (h : DataW.trod enc P w base spare held fuel t cs = some x) : ∃ a len cap, cs = [.slice a len cap] ∧ IsRows fl w a len cap := by
  rcases open_slice1 ht hce h with ⟨rfl, _⟩ | ⟨ad, len, cap, m, k, V, D, Pl, rfl, hb, hl, hm, hmm, _, hx⟩
  · exact ⟨none, 0, 0, rfl, Nat.le_refl _, Nat.zero_le _, fun i hi => absurd hi (Nat.not_lt_zero _)⟩
  · refine ⟨some ad, len, cap, rfl, hl, hm, fun i hi => ?_⟩
    have hi' : i < m := by rw [hmm]; split <;> omega
    obtain ⟨h1, h2⟩ := hx i hi'
    obtain ⟨b, off, spot⟩ := ad
    have hspot : spot = none := by
      have h0 := World.cell?_spot (hx 0 (by rw [hmm]; split <;> omega)).1
      simpa [Addr.add] using h0
    subst hspot
    obtain ⟨a', n', c', h3, h4⟩ := flats_cell he hf hc hpos h2
    simp only [List.cons.injEq, and_true] at h3
    rw [h3, add_plain] at h1
    exact ⟨b, off, a', n', c', rfl, World.block_lt_of_cell? w _ h1, h1, h4⟩
theorem open_frame {t e c ti tb : TypeId} {f0 f1 f2 f3 : Field} {n : Nat} {fl : List Flat} {cs : List Value} {d : DataW H} {ps : List MemPlace} (ht : P.underlying t = some (.struct #[f0, f1, f2, f3])) (hct : P.cellsOf t = 4)
    (o0 : f0.offset = 0) (o1 : f1.offset = 1) (o2 : f2.offset = 2) (o3 : f3.offset = 3) (u0 : P.underlying f0.type = some (.slice e)) (u1 : P.underlying f1.type = some (.int .i64)) (u2 : P.underlying f2.type = some (.int .i64)) (u3 : P.underlying f3.type = some .bool)
    (k0 : P.cellsOf f0.type = 1) (k1 : P.cellsOf f1.type = 1) (k2 : P.cellsOf f2.type = 1) (k3 : P.cellsOf f3.type = 1)
    (he : P.underlying e = some (.slice c)) (hce : P.cellsOf e = 1) (hf : flatOf P n c = some fl) (hc : P.cellsOf c = fl.length) (hpos : 0 < fl.length) {fuel : Nat} {x : DataW H × List MemPlace}
    (h : DataW.trod enc P w base spare held fuel t cs = some x) : ∃ a len cap r c s, cs = [.slice a len cap, .int .i64 r, .int .i64 c, .bool s] ∧ IsRows fl w a len cap ∧ (Lit.int .i64 r).wf = true ∧ (Lit.int .i64 c).wf = true := by
  obtain ⟨xs, m, _, _, hl, hlen, hx⟩ := DataW.trod_struct ht h
  rw [hct] at hl
  obtain ⟨v0, v1, v2, v3, rfl⟩ : ∃ v0 v1 v2 v3, cs = [v0, v1, v2, v3] := by
    match cs, hl with
    | [a, b, c, d], _ => exact ⟨a, b, c, d, rfl⟩
  have g : ∀ (i : Nat) (f : Field), (#[f0, f1, f2, f3] : Array Field)[i]? = some f → ∃ y, DataW.trod enc P w base spare held m f.type (([v0, v1, v2, v3].drop f.offset).take (P.cellsOf f.type)) = some y := fun i f hi => by
    have h1 := hx i f hi
    have h2 : i < xs.length := by
      have := (Array.getElem?_eq_some_iff.1 hi).1
      simp only [List.size_toArray, List.length_cons, List.length_nil] at this hlen
      omega
    rw [List.getElem?_eq_getElem h2] at h1
    exact ⟨_, h1⟩
  obtain ⟨y0, g0⟩ := g 0 f0 rfl
  obtain ⟨y1, g1⟩ := g 1 f1 rfl
  obtain ⟨y2, g2⟩ := g 2 f2 rfl
  obtain ⟨y3, g3⟩ := g 3 f3 rfl
  rw [o0, k0] at g0
  rw [o1, k1] at g1
  rw [o2, k2] at g2
  rw [o3, k3] at g3
  obtain ⟨a, len, cap, h0, hr⟩ := open_rows u0 he hce hf hc hpos g0
  obtain ⟨z1, h1, _, w1⟩ := DataW.trod_int u1 g1
  obtain ⟨z2, h2, _, w2⟩ := DataW.trod_int u2 g2
  obtain ⟨z3, h3, _⟩ := DataW.trod_bool u3 g3
  simp at h0 h1 h2 h3
  subst h0 h1 h2 h3
  exact ⟨a, len, cap, z1, z2, z3, rfl, hr, w1, w2⟩
end
end Go.Proofs.YtekodpcedjpnjaaGreat
