/- A frame handed in: the text of each of its rows is no longer than what is read is great. No condition. -/
import Derived.Test.YtekodpcedjpnjaaFBulk
import Derived.Test.YtekodpcedjpnjaaFrame9
namespace Go.Proofs.Ytekodpcedjpnjaa
set_option linter.unusedVariables false
set_option linter.unusedSimpArgs false
open Go.ChangeShapes Go.WideShapes Go.Deep Go.RowKit Go.Maps
section
variable {H : Type} {enc : TypeId × Value → H} {P : Program} {w : World} {base : Nat} {spare : Nat → Bool} {held : Bool}
theorem sum_bulk : ∀ (E : List (DataW H × List MemPlace)) (M : List GC), E.length = M.length → (∀ (i : Nat) (x : DataW H × List MemPlace) (c : GC), E[i]? = some x → M[i]? = some c → c.s.size ≤ Rows.uptoBulk x.1) → (lineT M).length ≤ Rows.uptoBulkAll (E.map (·.1))
  | [], [], _, _ => Nat.le_refl _
  | [], _ :: _, h, _ => by cases h
  | _ :: _, [], h, _ => by cases h
  | x :: E, c :: M, h, hx => by
    have h1 := hx 0 x c rfl rfl
    have h2 := sum_bulk E M (by simpa using h) (fun i y d hy hd => hx (i + 1) y d (by simpa using hy) (by simpa using hd))
    have h3 : (lineT (c :: M)).length = c.s.size + (lineT M).length := by
      unfold lineT
      rw [List.flatMap_cons, List.length_append, Array.length_toList, ByteArray.size_data]
    rw [h3]
    simp only [List.map_cons, Rows.uptoBulkAll]
    omega
/-- The text of a row of cells. -/
theorem row_sum {t e : TypeId} {f0 : Field} {fs : Array Field} {fuel : Nat} {a : Option Addr} {len cap : Nat} {x : DataW H × List MemPlace} {M : List GC} (ht : P.underlying t = some (.slice e)) (hcc : P.cellsOf e = 7)
    (hc : P.underlying e = some (.struct fs)) (hf : fs[0]? = some f0) (ho : f0.offset = 0) (hk : P.cellsOf f0.type = 1) (hu : P.underlying f0.type = some .string)
    (h : DataW.trod enc P w base spare held fuel t [.slice a len cap] = some x) (hM : CellsAt w a len M) : (lineT M).length ≤ Rows.uptoBulk x.1 := by
  have hl := hM.len
  rcases DataW.trod_slice ht h with ⟨h0, _⟩ | ⟨a', len', cap', elems, rest, n, _, hcs, rfl, _, _, _, hel, hx, _, _⟩
  · simp only [List.cons.injEq, Value.slice.injEq, and_true] at h0
    obtain ⟨_, rfl, _⟩ := h0
    rw [List.length_eq_zero_iff.1 hl]
    exact Nat.zero_le _
  · simp only [List.cons.injEq, Value.slice.injEq, and_true] at hcs
    obtain ⟨rfl, rfl, rfl⟩ := hcs
    have h1 := sum_bulk elems M (by omega) (fun i y c hy hc' => by
      have hi : i < len := by have := (List.getElem?_eq_some_iff.1 hy).1; omega
      have h2 := hx i hi
      rw [hy] at h2
      obtain ⟨cs, h3, h4⟩ := Option.bind_eq_some_iff.1 h2
      obtain ⟨b2, off2, e1, _, h7⟩ := hM.at_ i c hc'
      simp only [Option.some.injEq] at e1
      subst e1
      rw [hcc, add_plain] at h3
      have h11 : cs[0]? = some (.string c.s) := by
        obtain ⟨_, hlen, hcell⟩ := World.cells?_some h3
        rw [← hcell 0 (by omega), add_plain]
        exact h7 0 _ rfl
      exact first_small hc hf ho hk hu h4 _ h11)
    simp only [Rows.uptoBulk]
    omega
theorem rows_sum {t e c : TypeId} {f0 : Field} {fs : Array Field} {fuel : Nat} {a : Option Addr} {len cap : Nat} {x : DataW H × List MemPlace} {R : List (List GC)} (ht : P.underlying t = some (.slice e)) (he : P.underlying e = some (.slice c)) (hce : P.cellsOf e = 1) (hcc : P.cellsOf c = 7)
    (hc : P.underlying c = some (.struct fs)) (hf : fs[0]? = some f0) (ho : f0.offset = 0) (hk : P.cellsOf f0.type = 1) (hu : P.underlying f0.type = some .string)
    (h : DataW.trod enc P w base spare held fuel t [.slice a len cap] = some x) (hR : RowsAt w a len R) : ∀ M ∈ R, (lineT M).length ≤ Rows.uptoBulk x.1 := by
  intro M hM
  obtain ⟨hl, hp⟩ := hR
  obtain ⟨i, hi, rfl⟩ := List.mem_iff_getElem.1 hM
  obtain ⟨b, off, a2, c2, rfl, _, h1, _, h2⟩ := hp i _ (List.getElem?_eq_getElem hi)
  obtain ⟨n, cs, y, h3, h4, h5⟩ := elem_small ht h i (by omega)
  rw [hce, Nat.mul_one, add_plain] at h3
  have h6 : cs = [.slice a2 R[i].length c2] := by
    obtain ⟨_, hlen, hcell⟩ := World.cells?_some h3
    match cs, hlen with
    | [v], _ =>
      have := cell_of_cells?_one h3
      rw [h1] at this
      simp only [Option.some.injEq] at this
      rw [this]
  subst h6
  have := row_sum he hcc hc hf ho hk hu h4 h2
  omega
/-- A frame handed in by value: its rows, and their texts. -/
theorem open_frameL {t e c : TypeId} {f0 f1 f2 f3 g0 : Field} {n : Nat} {fs : Array Field} {cs : Array Value} {d : DataW H} {ps : List MemPlace} (ht : P.underlying t = some (.struct #[f0, f1, f2, f3])) (hct : P.cellsOf t = 4)
    (o0 : f0.offset = 0) (o1 : f1.offset = 1) (o2 : f2.offset = 2) (o3 : f3.offset = 3) (u0 : P.underlying f0.type = some (.slice e)) (u1 : P.underlying f1.type = some (.int .i64)) (u2 : P.underlying f2.type = some (.int .i64)) (u3 : P.underlying f3.type = some .bool)
    (k0 : P.cellsOf f0.type = 1) (k1 : P.cellsOf f1.type = 1) (k2 : P.cellsOf f2.type = 1) (k3 : P.cellsOf f3.type = 1)
    (he : P.underlying e = some (.slice c)) (hce : P.cellsOf e = 1) (hf : flatOf P n c = some cellFlat) (hc : P.cellsOf c = 7)
    (hcu : P.underlying c = some (.struct fs)) (hg : fs[0]? = some g0) (hgo : g0.offset = 0) (hgk : P.cellsOf g0.type = 1) (hgu : P.underlying g0.type = some .string)
    (h : DataW.Trod enc P w base spare held t (.agg cs) d ps) : ∃ a len cap r c s R, cs = #[.slice a len cap, .int .i64 r, .int .i64 c, .bool s] ∧ RowsAt w a len R ∧ len ≤ maxLen ∧ len ≤ cap ∧ cap ≤ maxLen ∧ (∀ M ∈ R, (lineT M).length ≤ Rows.uptoBulk d) := by
  obtain ⟨a, len, cap, r, c', s, R, rfl, hR, h1, h2, h3, _⟩ := open_frameS ht hct o0 o1 o2 o3 u0 u1 u2 u3 k0 k1 k2 k3 he hce hf hc hcu hg hgo hgk hgu h
  refine ⟨a, len, cap, r, c', s, R, rfl, hR, h1, h2, h3, ?_⟩
  obtain ⟨fuel, h⟩ := h
  obtain ⟨xs, m, _, hxe, _, hlen, hx⟩ := DataW.trod_struct ht h
  have k1' := hx 0 f0 rfl
  have k2' : 0 < xs.length := by
    simp only [List.size_toArray, List.length_cons, List.length_nil] at hlen
    omega
  rw [o0, k0, List.drop_zero, List.getElem?_eq_getElem k2'] at k1'
  have k3' := rows_sum u0 he hce hc hcu hg hgo hgk hgu (k1' : DataW.trod enc P w base spare held m f0.type [.slice a len cap] = some xs[0]) hR
  intro M hM
  have h4 := k3' M hM
  have h5 : xs[0].1 ∈ xs.map (·.1) := List.mem_map_of_mem (List.getElem_mem _)
  have h6 := bulk_mem h5
  simp only [Prod.mk.injEq] at hxe
  rw [hxe.1]
  simp only [Rows.uptoBulk]
  omega
end
theorem line_small {M : List GC} {N : Nat} (h : (lineT M).length ≤ N) : ∀ c ∈ M, c.s.size ≤ N := fun c hc => by
  induction M with
  | nil => cases hc
  | cons d M ih =>
    have h3 : (lineT (d :: M)).length = d.s.size + (lineT M).length := by
      unfold lineT
      rw [List.flatMap_cons, List.length_append, Array.length_toList, ByteArray.size_data]
    rcases List.mem_cons.1 hc with rfl | hc
    · omega
    · exact ih (by omega) hc
end Go.Proofs.Ytekodpcedjpnjaa
