/- Two cells compared. No condition. Two rows of cells compared. -/
import Derived.Test.YtekodpcedjpnjaaGMath
import Derived.Test.YtekodpcedjpnjaaGridE
namespace Go.Proofs.Ytekodpcedjpnjaa
set_option linter.unusedVariables false
set_option linter.unusedSimpArgs false
open Go.RowKit Go.Maps
def eqC (c d : GC) : Bool := decide (c.s = d.s ∧ c.w = d.w ∧ c.y.b = d.y.b ∧ c.y.u = d.y.u ∧ c.y.i = d.y.i ∧ c.y.f = d.y.f ∧ c.y.g = d.y.g)
theorem eqC_iff (c d : GC) : eqC c d = true ↔ c = d := by
  obtain ⟨s, w, b, u, i, f, g⟩ := c
  obtain ⟨s', w', b', u', i', f', g'⟩ := d
  simp [eqC]
theorem eqC_self (c : GC) : eqC c c = true := (eqC_iff c c).2 rfl
theorem toList_inj (s t : ByteArray) : (s.toList = t.toList) = (s = t) := by
  rw [ByteArray.toList_eq, ByteArray.toList_eq]
  exact propext ⟨fun h => ByteArray.ext (Array.toList_inj.1 h), fun h => by rw [h]⟩
set_option maxRecDepth 100000 in
theorem eql_gc (c d : GC) (W : World) : (binOp .eql 70 (.agg #[.string c.s, .int .i64 c.w, .bool c.y.b, .bool c.y.u, .bool c.y.i, .int .i64 c.y.f, .int .i64 c.y.g]) (.agg #[.string d.s, .int .i64 d.w, .bool d.y.b, .bool d.y.u, .bool d.y.i, .int .i64 d.y.f, .int .i64 d.y.g])).run Try.prog W = .ok (.bool (eqC c d)) W := by
  obtain ⟨s, w, b, u, i, f, g⟩ := c
  obtain ⟨s', w', b', u', i', f', g'⟩ := d
  unfold eqC
  go_simp
  simp only [toList_inj]
  by_cases h0 : s = s' <;> by_cases h1 : w = w' <;> by_cases h2 : b = b' <;> by_cases h3 : u = u' <;> by_cases h4 : i = i' <;> by_cases h5 : f = f' <;> by_cases h6 : g = g' <;> simp [h0, h1, h2, h3, h4, h5, h6]
set_option maxRecDepth 100000 in
theorem neq_gc (c d : GC) (W : World) : (binOp .neq 70 (.agg #[.string c.s, .int .i64 c.w, .bool c.y.b, .bool c.y.u, .bool c.y.i, .int .i64 c.y.f, .int .i64 c.y.g]) (.agg #[.string d.s, .int .i64 d.w, .bool d.y.b, .bool d.y.u, .bool d.y.i, .int .i64 d.y.f, .int .i64 d.y.g])).run Try.prog W = .ok (.bool (!eqC c d)) W := by
  obtain ⟨s, w, b, u, i, f, g⟩ := c
  obtain ⟨s', w', b', u', i', f', g'⟩ := d
  unfold eqC
  go_simp
  simp only [toList_inj]
  by_cases h0 : s = s' <;> by_cases h1 : w = w' <;> by_cases h2 : b = b' <;> by_cases h3 : u = u' <;> by_cases h4 : i = i' <;> by_cases h5 : f = f' <;> by_cases h6 : g = g' <;> simp [h0, h1, h2, h3, h4, h5, h6]
end Go.Proofs.Ytekodpcedjpnjaa
namespace Go.Proofs.Ytekodpcedjpnjaa
set_option linter.unusedVariables false
set_option linter.unusedSimpArgs false
open Go.RowKit Go.Maps
structure CellsAt (W : World) (a : Option Addr) (n : Nat) (M : List GC) : Prop where
  len : M.length = n
  at_ : ∀ i c, M[i]? = some c → ∃ b off, a = some ⟨b, off, none⟩ ∧ b < W.heap.size ∧ W.rangeAt b (off + i * 7) c.vals
theorem CellsAt.of_blk {W : World} {q : Nat} {M : List GC} (h : GBlk W q M) (n : Nat) (hn : M.length = n) : CellsAt W (some ⟨q, 0, none⟩) n M :=
  ⟨hn, fun i c hi => ⟨q, 0, rfl, h.lt, by rw [show 0 + i * 7 = 7 * i by omega]; exact h.range1 hi⟩⟩
theorem CellsAt.nil (W : World) (a : Option Addr) : CellsAt W a 0 [] := ⟨rfl, fun i c hi => by simp at hi⟩
theorem CellsAt.below {W W' : World} {a : Option Addr} {n : Nat} {M : List GC} (h : CellsAt W a n M) (hb : Below W.heap.size W W') : CellsAt W' a n M :=
  ⟨h.len, fun i c hi => by
    obtain ⟨b, off, h1, h2, h3⟩ := h.at_ i c hi
    exact ⟨b, off, h1, Nat.lt_of_lt_of_le h2 hb.size, fun j v hv => (hb.cell (p := ⟨b, _, none⟩) h2).trans (h3 j v hv)⟩⟩
def eqL : List GC → List GC → Bool
  | [], [] => true
  | c :: M, d :: N => eqC c d && eqL M N
  | _, _ => false
theorem eqL_iff : ∀ (M N : List GC), eqL M N = true ↔ M = N
  | [], [] => by simp [eqL]
  | [], _ :: _ => by simp [eqL]
  | _ :: _, [] => by simp [eqL]
  | c :: M, d :: N => by simp [eqL, eqL_iff M N, eqC_iff]
theorem eqL_self (M : List GC) : eqL M M = true := (eqL_iff M M).2 rfl
theorem eqL_drop (M N : List GC) (k : Nat) (h1 : k < M.length) (h2 : k < N.length) : eqL (M.drop k) (N.drop k) = (eqC (nth GC.zero M k) (nth GC.zero N k) && eqL (M.drop (k + 1)) (N.drop (k + 1))) := by
  rw [List.drop_eq_getElem_cons h1, List.drop_eq_getElem_cons h2, nth_eq _ _ _ h1, nth_eq _ _ _ h2]
  rfl
theorem eqL_len {M N : List GC} (h : M.length ≠ N.length) : eqL M N = false := by
  cases hb : eqL M N with
  | false => rfl
  | true => exact absurd (congrArg List.length ((eqL_iff M N).1 hb)) h
theorem vals_at {W : World} {b o : Nat} {c : GC} (h : W.rangeAt b o c.vals) : W.cell? ⟨b, o, none⟩ = some (.string c.s) ∧ W.cell? ⟨b, o + 1, none⟩ = some (.int .i64 c.w) ∧ W.cell? ⟨b, o + 2, none⟩ = some (.bool c.y.b) ∧ W.cell? ⟨b, o + 3, none⟩ = some (.bool c.y.u) ∧ W.cell? ⟨b, o + 4, none⟩ = some (.bool c.y.i) ∧ W.cell? ⟨b, o + 5, none⟩ = some (.int .i64 c.y.f) ∧ W.cell? ⟨b, o + 6, none⟩ = some (.int .i64 c.y.g) :=
  ⟨h 0 _ rfl, h 1 _ rfl, h 2 _ rfl, h 3 _ rfl, h 4 _ rfl, h 5 _ rfl, h 6 _ rfl⟩
set_option maxRecDepth 100000 in
set_option maxHeartbeats 4000000 in
theorem sameCells_any {W : World} {a1 a2 : Option Addr} {n1 n2 c1 c2 : Nat} {M N : List GC} (hM : CellsAt W a1 n1 M) (hN : CellsAt W a2 n2 N) (hn : n1 ≤ 1000000) (hn2 : n2 ≤ 1000000) :
    Calls Try.prog 69 #[.slice a1 n1 c1, .slice a2 n2 c2] W fun e w' => e = .returned (.bool (eqL M N)) ∧ Below W.heap.size W w' := by
  obtain ⟨z, hz⟩ : ∃ z, z = eqL M N := ⟨_, rfl⟩
  rw [← hz]
  have HZ := Lib.hid hz
  clear hz
  have l1 := hM.len
  have l2 := hN.len
  by_cases hlen : n1 = n2
  · obtain rfl := hlen
    go_enter Try.func69, Try.ntmps69
    go_wp2
    go_loopw [5] (fun i wr => ∃ k : Nat, k ≤ n1 ∧ i = .int .i64 k ∧ Hid (z = eqL (M.drop k) (N.drop k)) ∧ Below W.heap.size W wr) (fun i _ => n1 - (intOf i).toNat)
    case atStart => exact ⟨0, Nat.zero_le _, rfl, HZ, Below.refl _ _⟩
    case round =>
      obtain ⟨k, hk, rfl, hf, hb⟩ := hrel
      by_cases hlt : k < n1
      · obtain ⟨C, hC⟩ : ∃ C, C = nth GC.zero M k := ⟨_, rfl⟩
        obtain ⟨D, hD⟩ : ∃ D, D = nth GC.zero N k := ⟨_, rfl⟩
        have hCi : M[k]? = some C := by rw [hC, nth_eq _ _ _ (by omega), List.getElem?_eq_getElem (by omega)]
        have hDi : N[k]? = some D := by rw [hD, nth_eq _ _ _ (by omega), List.getElem?_eq_getElem (by omega)]
        have hone := eqL_drop M N k (by omega) (by omega)
        rw [← hC, ← hD] at hone
        have HONE := Lib.hid hone
        obtain ⟨b1, o1, rfl, hb1, r1⟩ := (hM.below hb).at_ k C hCi
        obtain ⟨b2, o2, rfl, hb2, r2⟩ := (hN.below hb).at_ k D hDi
        obtain ⟨x0, x1, x2, x3, x4, x5, x6⟩ := vals_at r1
        obtain ⟨y0, y1, y2, y3, y4, y5, y6⟩ := vals_at r2
        have hq := neq_gc C D
        clear hone hC hD hCi hDi r1 r2
        go_wp2
        refine wp_region_still_lit (by kernel_rfl) (by kernel_rfl) ?_
        repeat still_step
        refine wpStill_nil ?_
        cases hcd : eqC C D with
        | true =>
          have HZ2 : Hid (z = eqL (M.drop (k + 1)) (N.drop (k + 1))) := Lib.hid (by rw [hf.out, HONE.out, hcd]; rfl)
          go_wp2
          go_roundw
          case rel => exact ⟨k + 1, by omega, by go_num, HZ2, hb.drew⟩
          case measure => simp [intOf]; omega
        | false =>
          have HZ2 : Hid (z = false) := Lib.hid (by rw [hf.out, HONE.out, hcd]; rfl)
          go_wp2
          go_ret
          exact ⟨ret_bool HZ2.out.symm, hb.drew⟩
      · have HZ2 : Hid (z = true) := Lib.hid (by rw [hf.out, List.drop_eq_nil_of_le (by omega), List.drop_eq_nil_of_le (by omega)]; rfl)
        go_wp2
        go_ret
        exact ⟨ret_bool HZ2.out.symm, hb⟩
  · have HZ2 : Hid (z = false) := Lib.hid (by rw [HZ.out]; exact eqL_len (by omega))
    have hne : (((n1 : Int) == (n2 : Int)) = false) := by simp; omega
    go_enter Try.func69, Try.ntmps69
    go_wp2
    go_ret
    exact ⟨ret_bool HZ2.out.symm, Below.refl _ _⟩
end Go.Proofs.Ytekodpcedjpnjaa
