/- A frame handed in, as rows of cells. No condition. A frame handed in: its rows of cells, and that none of its strings is longer than what is read is great. No condition. -/
import Derived.Test.YtekodpcedjpnjaaGreatRows
import Derived.Test.YtekodpcedjpnjaaGreatRN09
set_option linter.unusedVariables false
set_option linter.unusedSimpArgs false
namespace Go.Proofs.YtekodpcedjpnjaaGreat
open Go.RowKit Go.Maps
theorem list_forallF {α : Type} {p : Nat → α → Prop} : ∀ n : Nat, (∀ i, i < n → ∃ x, p i x) → ∃ l : List α, l.length = n ∧ ∀ i x, l[i]? = some x → p i x
  | 0, _ => ⟨[], rfl, fun i x h => by simp at h⟩
  | n + 1, h => by
    obtain ⟨l, hl, hp⟩ := list_forallF n (fun i hi => h i (by omega))
    obtain ⟨x, hx⟩ := h n (by omega)
    refine ⟨l ++ [x], by simp [hl], fun i y hy => ?_⟩
    by_cases hi : i < l.length
    · rw [List.getElem?_append_left hi] at hy
      exact hp i y hy
    · rw [List.getElem?_append_right (by omega)] at hy
      have h0 : i - l.length = 0 := by
        cases hk : i - l.length with
        | zero => rfl
        | succ k => rw [hk] at hy; simp at hy
      rw [h0] at hy
      simp only [List.getElem?_cons_zero, Option.some.injEq] at hy
      subst hy
      obtain rfl : i = n := by omega
      exact hx
def cellFlat : List Flat := [.str, .int .i64, .bool, .bool, .bool, .int .i64, .int .i64]
theorem gc_of_flat {V : List Value} (h : FlatAll cellFlat V) : ∃ c : GC, V = c.vals := by
  obtain ⟨_, V1, rfl, ⟨s, rfl, _⟩, h1⟩ := h.uncons
  obtain ⟨_, V2, rfl, ⟨w, rfl, _⟩, h2⟩ := h1.uncons
  obtain ⟨_, V3, rfl, ⟨b, rfl⟩, h3⟩ := h2.uncons
  obtain ⟨_, V4, rfl, ⟨u, rfl⟩, h4⟩ := h3.uncons
  obtain ⟨_, V5, rfl, ⟨i, rfl⟩, h5⟩ := h4.uncons
  obtain ⟨_, V6, rfl, ⟨f, rfl, _⟩, h6⟩ := h5.uncons
  obtain ⟨_, V7, rfl, ⟨g, rfl, _⟩, h7⟩ := h6.uncons
  obtain rfl := h7.unnil
  exact ⟨⟨s, w, ⟨b, u, i, f, g⟩⟩, rfl⟩
theorem cellsAt_of {W : World} {a : Option Addr} {len cap : Nat} (h : IsFlats cellFlat W a len cap) : ∃ M, CellsAt W a len M := by
  obtain ⟨_, _, h⟩ := h
  obtain ⟨M, hl, hp⟩ := list_forallF (p := fun i (c : GC) => ∃ b off, a = some ⟨b, off, none⟩ ∧ b < W.heap.size ∧ W.rangeAt b (off + i * 7) c.vals) len (fun i hi => by
    obtain ⟨b, off, V, ha, hb, hf, hc⟩ := h i hi
    obtain ⟨c, rfl⟩ := gc_of_flat hf
    refine ⟨c, b, off, ha, hb, fun j v hv => ?_⟩
    have hj : j < 7 := (List.getElem?_eq_some_iff.1 hv).1
    have := hc j hj
    rw [hv] at this
    rw [Nat.add_assoc]; exact this)
  exact ⟨M, hl, hp⟩
theorem rowsAt_of {W : World} {a : Option Addr} {len cap : Nat} (h : IsRows cellFlat W a len cap) : ∃ R, RowsAt W a len R := by
  obtain ⟨_, _, h⟩ := h
  obtain ⟨R, hl, hp⟩ := list_forallF (p := fun i (M : List GC) => ∃ b off a2 c2, a = some ⟨b, off, none⟩ ∧ b < W.heap.size ∧ W.cell? ⟨b, off + i, none⟩ = some (.slice a2 M.length c2) ∧ (M.length ≤ c2 ∧ c2 ≤ maxLen) ∧ CellsAt W a2 M.length M) len (fun i hi => by
    obtain ⟨b, off, a', n', c', ha, hb, hc, hf⟩ := h i hi
    obtain ⟨M, hM⟩ := cellsAt_of hf
    have hn := hM.len
    subst hn
    exact ⟨M, b, off, a', c', ha, hb, hc, ⟨hf.1, hf.2.1⟩, hM⟩)
  exact ⟨R, hl, hp⟩
end Go.Proofs.YtekodpcedjpnjaaGreat
namespace Go.Proofs.YtekodpcedjpnjaaGreat
open Go.ChangeShapes Go.WideShapes Go.Deep Go.RowKit Go.Maps
theorem bulk_mem {H : Type} {d : DataW H} : ∀ {ds : List (DataW H)}, d ∈ ds → Rows.uptoBulk d ≤ Rows.uptoBulkAll ds
  | x :: r, h => by
    simp only [Rows.uptoBulkAll]
    rcases List.mem_cons.1 h with rfl | h
    · omega
    · have := bulk_mem h; omega
section
variable {H : Type} {enc : TypeId × Value → H} {P : Program} {w : World} {base : Nat} {spare : Nat → Bool} {held : Bool}
theorem first_small {t : TypeId} {f0 : Field} {fs : Array Field} {fuel : Nat} {cs : List Value} {x : DataW H × List MemPlace} (ht : P.underlying t = some (.struct fs)) (hf : fs[0]? = some f0) (ho : f0.offset = 0) (hk : P.cellsOf f0.type = 1) (hu : P.underlying f0.type = some .string)
    (h : DataW.trod enc P w base spare held fuel t cs = some x) : ∀ s : ByteArray, cs[0]? = some (.string s) → s.size ≤ Rows.uptoBulk x.1 := by
  intro s hs
  obtain ⟨xs, m, _, rfl, _, hlen, hx⟩ := DataW.trod_struct ht h
  have h1 := hx 0 f0 hf
  have h2 : 0 < xs.length := by
    have := (Array.getElem?_eq_some_iff.1 hf).1
    omega
  rw [ho, hk, List.drop_zero, List.getElem?_eq_getElem h2] at h1
  obtain ⟨v, hv, hy, _⟩ := DataW.trod_string hu h1
  cases cs with
  | nil => simp at hs
  | cons c r =>
    simp only [List.getElem?_cons_zero, Option.some.injEq] at hs
    subst hs
    simp only [List.take_succ_cons, List.take_zero, List.cons.injEq, and_true, Value.string.injEq] at hv
    subst hv
    have h3 : xs[0].1 ∈ xs.map (·.1) := List.mem_map_of_mem (List.getElem_mem _)
    have h4 := bulk_mem h3
    rw [hy] at h4
    simp only [Rows.uptoBulk] at h4 ⊢
    rw [Array.length_toList, ByteArray.size_data] at h4
    omega
theorem elem_small {t e : TypeId} {fuel : Nat} {a : Addr} {len cap : Nat} {x : DataW H × List MemPlace} (ht : P.underlying t = some (.slice e))
    (h : DataW.trod enc P w base spare held fuel t [.slice (some a) len cap] = some x) : ∀ i, i < len → ∃ n cs y, w.cells? base (a.add (i * P.cellsOf e)) (P.cellsOf e) = some cs ∧ DataW.trod enc P w base spare held n e cs = some y ∧ Rows.uptoBulk y.1 ≤ Rows.uptoBulk x.1 := by
  intro i hi
  rcases DataW.trod_slice ht h with ⟨h0, _⟩ | ⟨a', len', cap', elems, rest, n, _, hc, rfl, _, _, _, hel, hx, _, _⟩
  · simp at h0
  · simp only [List.cons.injEq, Value.slice.injEq, Option.some.injEq, and_true] at hc
    obtain ⟨rfl, rfl, rfl⟩ := hc
    have h1 := hx i hi
    have hi' : i < elems.length := by omega
    rw [List.getElem?_eq_getElem hi'] at h1
    obtain ⟨cs, h2, h3⟩ := Option.bind_eq_some_iff.1 h1
    refine ⟨n, cs, _, h2, h3, ?_⟩
    have h4 : elems[i].1 ∈ elems.map (·.1) := List.mem_map_of_mem (List.getElem_mem _)
    have := bulk_mem h4
    simp only [Rows.uptoBulk]
    omega
theorem rows_small {t e c : TypeId} {f0 : Field} {fs : Array Field} {fuel : Nat} {a : Option Addr} {len cap : Nat} {x : DataW H × List MemPlace} {R : List (List GC)} (ht : P.underlying t = some (.slice e)) (he : P.underlying e = some (.slice c)) (hce : P.cellsOf e = 1) (hcc : P.cellsOf c = 7)
    (hc : P.underlying c = some (.struct fs)) (hf : fs[0]? = some f0) (ho : f0.offset = 0) (hk : P.cellsOf f0.type = 1) (hu : P.underlying f0.type = some .string)
    (h : DataW.trod enc P w base spare held fuel t [.slice a len cap] = some x) (hR : RowsAt w a len R) : ∀ M ∈ R, ∀ c ∈ M, c.s.size ≤ Rows.uptoBulk x.1 := by
  intro M hM k hk'
  obtain ⟨hl, hp⟩ := hR
  obtain ⟨i, hi, rfl⟩ := List.mem_iff_getElem.1 hM
  obtain ⟨b, off, a2, c2, rfl, _, h1, _, h2⟩ := hp i _ (List.getElem?_eq_getElem hi)
  obtain ⟨n, cs, y, h3, h4, h5⟩ := elem_small ht h i (by omega)
  rw [hce, Nat.mul_one, add_plain] at h3
  have h6 : cs = [.slice a2 R[i].length c2] := by
    obtain ⟨_, hlen, hcell⟩ := World.cells?_some h3
    match cs, hlen with
    | [v], _ =>
      have := cell_of_cells?_one h3
      rw [h1] at this
      simp only [Option.some.injEq] at this
      rw [this]
  subst h6
  obtain ⟨j, hj, rfl⟩ := List.mem_iff_getElem.1 hk'
  obtain ⟨_, hq⟩ := h2
  obtain ⟨b2, off2, rfl, _, h7⟩ := hq j _ (List.getElem?_eq_getElem hj)
  obtain ⟨n2, cs2, y2, h8, h9, h10⟩ := elem_small he h4 j (by omega)
  rw [hcc, add_plain] at h8
  have h11 : cs2[0]? = some (.string R[i][j].s) := by
    obtain ⟨_, hlen, hcell⟩ := World.cells?_some h8
    rw [← hcell 0 (by omega), add_plain]
    exact h7 0 _ rfl
  have := first_small hc hf ho hk hu h9 _ h11
  omega
theorem open_frameS {t e c : TypeId} {f0 f1 f2 f3 g0 : Field} {n : Nat} {fs : Array Field} {cs : Array Value} {d : DataW H} {ps : List MemPlace} (ht : P.underlying t = some (.struct #[f0, f1, f2, f3])) (hct : P.cellsOf t = 4)
    (o0 : f0.offset = 0) (o1 : f1.offset = 1) (o2 : f2.offset = 2) (o3 : f3.offset = 3) (u0 : P.underlying f0.type = some (.slice e)) (u1 : P.underlying f1.type = some (.int .i64)) (u2 : P.underlying f2.type = some (.int .i64)) (u3 : P.underlying f3.type = some .bool)
    (k0 : P.cellsOf f0.type = 1) (k1 : P.cellsOf f1.type = 1) (k2 : P.cellsOf f2.type = 1) (k3 : P.cellsOf f3.type = 1)
    (he : P.underlying e = some (.slice c)) (hce : P.cellsOf e = 1) (hf : flatOf P n c = some cellFlat) (hc : P.cellsOf c = 7)
    (hcu : P.underlying c = some (.struct fs)) (hg : fs[0]? = some g0) (hgo : g0.offset = 0) (hgk : P.cellsOf g0.type = 1) (hgu : P.underlying g0.type = some .string)
    (h : DataW.Trod enc P w base spare held t (.agg cs) d ps) : ∃ a len cap r c s R, cs = #[.slice a len cap, .int .i64 r, .int .i64 c, .bool s] ∧ RowsAt w a len R ∧ len ≤ maxLen ∧ len ≤ cap ∧ cap ≤ maxLen ∧ (∀ M ∈ R, ∀ c ∈ M, c.s.size ≤ Rows.uptoBulk d) := by
  obtain ⟨fuel, h⟩ := h
  obtain ⟨a, len, cap, r, c', s, hcs, hr, _, _⟩ := open_frame (ti := t) (tb := t) (d := d) (ps := ps) ht hct o0 o1 o2 o3 u0 u1 u2 u3 k0 k1 k2 k3 he hce hf hc (by decide) h
  obtain ⟨R, hR⟩ := rowsAt_of hr
  obtain ⟨l⟩ := cs
  simp only [Value.cells] at hcs
  have hl : l = [.slice a len cap, .int .i64 r, .int .i64 c', .bool s] := hcs
  subst hl
  refine ⟨a, len, cap, r, c', s, R, rfl, hR, Nat.le_trans hr.1 hr.2.1, hr.1, hr.2.1, ?_⟩
  obtain ⟨xs, m, _, hxe, _, hlen, hx⟩ := DataW.trod_struct ht h
  have h1 := hx 0 f0 rfl
  have h2 : 0 < xs.length := by
    simp only [List.size_toArray, List.length_cons, List.length_nil] at hlen
    omega
  rw [o0, k0, List.drop_zero, List.getElem?_eq_getElem h2] at h1
  have h3 := rows_small u0 he hce hc hcu hg hgo hgk hgu (h1 : DataW.trod enc P w base spare held m f0.type [.slice a len cap] = some xs[0]) hR
  intro M hM k hk
  have h4 := h3 M hM k hk
  have h5 : xs[0].1 ∈ xs.map (·.1) := List.mem_map_of_mem (List.getElem_mem _)
  have h6 := bulk_mem h5
  simp only [Prod.mk.injEq] at hxe
  rw [hxe.1]
  simp only [Rows.uptoBulk]
  omega
end
end Go.Proofs.YtekodpcedjpnjaaGreat
