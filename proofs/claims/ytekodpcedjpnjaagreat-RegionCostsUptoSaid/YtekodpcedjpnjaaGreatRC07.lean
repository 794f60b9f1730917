/- Two cells compared. No condition. Two rows of cells compared. -/
import Derived.Test.YtekodpcedjpnjaaGreatRC05
import Derived.Test.YtekodpcedjpnjaaGreatRC06
set_option linter.unusedVariables false
set_option linter.unusedSimpArgs false
namespace Go.Proofs.YtekodpcedjpnjaaGreat
open Go.RowKit Go.Maps
def eqC (c d : GC) : Bool := decide (c.s = d.s ∧ c.w = d.w ∧ c.y.b = d.y.b ∧ c.y.u = d.y.u ∧ c.y.i = d.y.i ∧ c.y.f = d.y.f ∧ c.y.g = d.y.g)
theorem eqC_iff (c d : GC) : eqC c d = true ↔ c = d := by
  obtain ⟨s, w, b, u, i, f, g⟩ := c
  obtain ⟨s', w', b', u', i', f', g'⟩ := d
  simp [eqC]
theorem toList_inj (s t : ByteArray) : (s.toList = t.toList) = (s = t) := by
  rw [ByteArray.toList_eq, ByteArray.toList_eq]
  exact propext ⟨fun h => ByteArray.ext (Array.toList_inj.1 h), fun h => by rw [h]⟩
set_option maxRecDepth 100000 in
theorem neq_gc (c d : GC) (W : World) : (binOp .neq 171 (.agg #[.string c.s, .int .i64 c.w, .bool c.y.b, .bool c.y.u, .bool c.y.i, .int .i64 c.y.f, .int .i64 c.y.g]) (.agg #[.string d.s, .int .i64 d.w, .bool d.y.b, .bool d.y.u, .bool d.y.i, .int .i64 d.y.f, .int .i64 d.y.g])).run Tryz.prog W = .ok (.bool (!eqC c d)) W := by
  obtain ⟨s, w, b, u, i, f, g⟩ := c
  obtain ⟨s', w', b', u', i', f', g'⟩ := d
  unfold eqC
  go_simp
  simp only [toList_inj]
  by_cases h0 : s = s' <;> by_cases h1 : w = w' <;> by_cases h2 : b = b' <;> by_cases h3 : u = u' <;> by_cases h4 : i = i' <;> by_cases h5 : f = f' <;> by_cases h6 : g = g' <;> simp [h0, h1, h2, h3, h4, h5, h6]
end Go.Proofs.YtekodpcedjpnjaaGreat
namespace Go.Proofs.YtekodpcedjpnjaaGreat
open Go.RowKit Go.Maps
structure CellsAt (W : World) (a : Option Addr) (n : Nat) (M : List GC) : Prop where
  len : M.length = n
  at_ : ∀ i c, M[i]? = some c → ∃ b off, a = some ⟨b, off, none⟩ ∧ b < W.heap.size ∧ W.rangeAt b (off + i * 7) c.vals
theorem CellsAt.nil (W : World) (a : Option Addr) : CellsAt W a 0 [] := ⟨rfl, fun i c hi => by simp at hi⟩
theorem CellsAt.below {W W' : World} {a : Option Addr} {n : Nat} {M : List GC} (h : CellsAt W a n M) (hb : Below W.heap.size W W') : CellsAt W' a n M :=
  ⟨h.len, fun i c hi => by
    obtain ⟨b, off, h1, h2, h3⟩ := h.at_ i c hi
    exact ⟨b, off, h1, Nat.lt_of_lt_of_le h2 hb.size, fun j v hv => (hb.cell (p := ⟨b, _, none⟩) h2).trans (h3 j v hv)⟩⟩
theorem vals_at {W : World} {b o : Nat} {c : GC} (h : W.rangeAt b o c.vals) : W.cell? ⟨b, o, none⟩ = some (.string c.s) ∧ W.cell? ⟨b, o + 1, none⟩ = some (.int .i64 c.w) ∧ W.cell? ⟨b, o + 2, none⟩ = some (.bool c.y.b) ∧ W.cell? ⟨b, o + 3, none⟩ = some (.bool c.y.u) ∧ W.cell? ⟨b, o + 4, none⟩ = some (.bool c.y.i) ∧ W.cell? ⟨b, o + 5, none⟩ = some (.int .i64 c.y.f) ∧ W.cell? ⟨b, o + 6, none⟩ = some (.int .i64 c.y.g) :=
  ⟨h 0 _ rfl, h 1 _ rfl, h 2 _ rfl, h 3 _ rfl, h 4 _ rfl, h 5 _ rfl, h 6 _ rfl⟩
end Go.Proofs.YtekodpcedjpnjaaGreat
