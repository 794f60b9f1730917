/- Two cells compared. No condition. -/
import Derived.Test.YtnakgjcmepimiaaGMath
namespace Go.Proofs.Ytnakgjcmepimiaa
set_option linter.unusedVariables false
set_option linter.unusedSimpArgs false
open Go.RowKit Go.Maps
def eqC (c d : GC) : Bool := decide (c.s = d.s ∧ c.w = d.w ∧ c.y.b = d.y.b ∧ c.y.u = d.y.u ∧ c.y.i = d.y.i ∧ c.y.f = d.y.f ∧ c.y.g = d.y.g)
theorem eqC_iff (c d : GC) : eqC c d = true ↔ c = d := by
  obtain ⟨s, w, b, u, i, f, g⟩ := c
  obtain ⟨s', w', b', u', i', f', g'⟩ := d
  simp [eqC]
theorem eqC_self (c : GC) : eqC c c = true := (eqC_iff c c).2 rfl
theorem toList_inj (s t : ByteArray) : (s.toList = t.toList) = (s = t) := by
  rw [ByteArray.toList_eq, ByteArray.toList_eq]
  exact propext ⟨fun h => ByteArray.ext (Array.toList_inj.1 h), fun h => by rw [h]⟩
set_option maxRecDepth 100000 in
theorem eql_gc (c d : GC) (W : World) : (binOp .eql 67 (.agg #[.string c.s, .int .i64 c.w, .bool c.y.b, .bool c.y.u, .bool c.y.i, .int .i64 c.y.f, .int .i64 c.y.g]) (.agg #[.string d.s, .int .i64 d.w, .bool d.y.b, .bool d.y.u, .bool d.y.i, .int .i64 d.y.f, .int .i64 d.y.g])).run Try.prog W = .ok (.bool (eqC c d)) W := by
  obtain ⟨s, w, b, u, i, f, g⟩ := c
  obtain ⟨s', w', b', u', i', f', g'⟩ := d
  unfold eqC
  go_simp
  simp only [toList_inj]
  by_cases h0 : s = s' <;> by_cases h1 : w = w' <;> by_cases h2 : b = b' <;> by_cases h3 : u = u' <;> by_cases h4 : i = i' <;> by_cases h5 : f = f' <;> by_cases h6 : g = g' <;> simp [h0, h1, h2, h3, h4, h5, h6]
set_option maxRecDepth 100000 in
theorem neq_gc (c d : GC) (W : World) : (binOp .neq 67 (.agg #[.string c.s, .int .i64 c.w, .bool c.y.b, .bool c.y.u, .bool c.y.i, .int .i64 c.y.f, .int .i64 c.y.g]) (.agg #[.string d.s, .int .i64 d.w, .bool d.y.b, .bool d.y.u, .bool d.y.i, .int .i64 d.y.f, .int .i64 d.y.g])).run Try.prog W = .ok (.bool (!eqC c d)) W := by
  obtain ⟨s, w, b, u, i, f, g⟩ := c
  obtain ⟨s', w', b', u', i', f', g'⟩ := d
  unfold eqC
  go_simp
  simp only [toList_inj]
  by_cases h0 : s = s' <;> by_cases h1 : w = w' <;> by_cases h2 : b = b' <;> by_cases h3 : u = u' <;> by_cases h4 : i = i' <;> by_cases h5 : f = f' <;> by_cases h6 : g = g' <;> simp [h0, h1, h2, h3, h4, h5, h6]
end Go.Proofs.Ytnakgjcmepimiaa
