/- The law's list of calls, out of a slice handed in. -/
import Derived.Test.YtekodpcedjpnjaaGrid17
import Derived.OpenShut
namespace Go.Proofs.Ytekodpcedjpnjaa
set_option linter.unusedVariables false
set_option linter.unusedSimpArgs false
open Go.RowKit Go.Maps
theorem list_of_forall {α : Type} {p : Nat → α → Prop} : ∀ n : Nat, (∀ i, i < n → ∃ x, p i x) → ∃ l : List α, l.length = n ∧ ∀ i x, l[i]? = some x → p i x
  | 0, _ => ⟨[], rfl, fun i x h => by simp at h⟩
  | n + 1, h => by
    obtain ⟨l, hl, hp⟩ := list_of_forall n (fun i hi => h i (by omega))
    obtain ⟨x, hx⟩ := h n (by omega)
    refine ⟨l ++ [x], by simp [hl], fun i y hy => ?_⟩
    by_cases hi : i < l.length
    · rw [List.getElem?_append_left hi] at hy
      exact hp i y hy
    · rw [List.getElem?_append_right (by omega)] at hy
      have h0 : i - l.length = 0 := by
        cases hk : i - l.length with
        | zero => rfl
        | succ k => rw [hk] at hy; simp at hy
      rw [h0] at hy
      simp only [List.getElem?_cons_zero, Option.some.injEq] at hy
      subst hy
      obtain rfl : i = n := by omega
      exact hx
def opFlat : List Flat := [.int .u8, .int .i64, .int .i64, .str, .int .i64, .bool, .bool, .bool, .int .i64, .int .i64, .int .i64, .int .i64]
theorem wf_u8 {n : Int} (h : (Lit.int .u8 n).wf = true) : 0 ≤ n ∧ n ≤ 255 := bounds_u8 h
theorem opV_of_flat {V : List Value} (h : FlatAll opFlat V) : ∃ o : OpV, o.Ok ∧ V = o.vals := by
  obtain ⟨_, V1, rfl, ⟨d, rfl, hd⟩, h1⟩ := h.uncons
  obtain ⟨_, V2, rfl, ⟨r, rfl, _⟩, h2⟩ := h1.uncons
  obtain ⟨_, V3, rfl, ⟨c, rfl, _⟩, h3⟩ := h2.uncons
  obtain ⟨_, V4, rfl, ⟨s, rfl, _⟩, h4⟩ := h3.uncons
  obtain ⟨_, V5, rfl, ⟨k, rfl, _⟩, h5⟩ := h4.uncons
  obtain ⟨_, V6, rfl, ⟨b, rfl⟩, h6⟩ := h5.uncons
  obtain ⟨_, V7, rfl, ⟨u, rfl⟩, h7⟩ := h6.uncons
  obtain ⟨_, V8, rfl, ⟨i, rfl⟩, h8⟩ := h7.uncons
  obtain ⟨_, V9, rfl, ⟨f, rfl, _⟩, h9⟩ := h8.uncons
  obtain ⟨_, V10, rfl, ⟨g, rfl, _⟩, h10⟩ := h9.uncons
  obtain ⟨_, V11, rfl, ⟨t, rfl, _⟩, h11⟩ := h10.uncons
  obtain ⟨_, V12, rfl, ⟨n, rfl, _⟩, h12⟩ := h11.uncons
  obtain rfl := h12.unnil
  have hb := wf_u8 hd
  exact ⟨⟨d, r, c, s, k, ⟨b, u, i, f, g⟩, t, n⟩, ⟨hb.1, hb.2⟩, rfl⟩
theorem opsAt_of {W : World} {a : Option Addr} {len cap : Nat} (h : IsFlats opFlat W a len cap) : ∃ ops, OpsAt W a len ops := by
  obtain ⟨_, _, h⟩ := h
  obtain ⟨ops, hl, hp⟩ := list_of_forall (p := fun i (o : OpV) => o.Ok ∧ ∃ b off, a = some ⟨b, off, none⟩ ∧ b < W.heap.size ∧ W.rangeAt b (off + i * 12) o.vals) len (fun i hi => by
    obtain ⟨b, off, V, ha, hb, hf, hc⟩ := h i hi
    obtain ⟨o, ho, rfl⟩ := opV_of_flat hf
    refine ⟨o, ho, b, off, ha, hb, fun j v hv => ?_⟩
    have hj : j < 12 := (List.getElem?_eq_some_iff.1 hv).1
    have := hc j hj
    rw [hv] at this
    rw [Nat.add_assoc]; exact this)
  exact ⟨ops, hl, hp⟩
end Go.Proofs.Ytekodpcedjpnjaa
