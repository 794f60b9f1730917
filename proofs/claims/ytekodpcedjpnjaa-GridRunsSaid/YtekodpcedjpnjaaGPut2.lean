/- What Put leaves as it was; the law's call in a block of its own. -/
import Derived.Test.YtekodpcedjpnjaaGPut1
import Derived.Test.YtekodpcedjpnjaaGrid18
namespace Go.Proofs.Ytekodpcedjpnjaa
set_option linter.unusedVariables false
set_option linter.unusedSimpArgs false
open Go.RowKit Go.Maps
theorem nth_set_ne (L : List GC) (i j : Nat) (c : GC) (h : i ≠ j) : nth GC.zero (L.set i c) j = nth GC.zero L j := by
  simp [nth, List.getD, List.getElem?_set_ne h]
theorem wipeL_far (L : List GC) (o n c j : Nat) (h0 : j ≠ o + c) (h1 : c + 1 < n → j ≠ o + (c + 1)) (h2 : 0 < c → j ≠ o + (c - 1)) : nth GC.zero (wipeL L o n c) j = nth GC.zero L j := by
  unfold wipeL
  dsimp only
  split
  · rename_i h
    rw [nth_set_ne _ _ _ _ (fun e => h1 h.2 e.symm), nth_set_ne _ _ _ _ (fun e => h0 e.symm)]
  · split
    · rename_i h
      rw [nth_set_ne _ _ _ _ (fun e => h2 h.2 e.symm), nth_set_ne _ _ _ _ (fun e => h0 e.symm)]
    · rw [nth_set_ne _ _ _ _ (fun e => h0 e.symm)]
theorem putErr_zero {w h : Nat} {r c : Int} {s : ByteArray} {k : Int} (e : putErr w h r c s k = 0) : 0 ≤ r ∧ r < h ∧ 0 ≤ c ∧ c < w ∧ (k = 1 ∨ k = 2) ∧ (k = 2 → c + 1 < w) := by
  unfold putErr at e
  split at e
  · cases e
  · rename_i h1
    split at e
    · cases e
    · rename_i h2
      have h3 : 0 ≤ r ∧ r < h ∧ 0 ≤ c ∧ c < w := Classical.byContradiction fun x => h2 (.inl x)
      have h4 : k = 1 ∨ k = 2 := by
        by_cases a : k = 1
        · exact .inl a
        · by_cases b : k = 2
          · exact .inr b
          · exact absurd (.inr (.inr ⟨a, b⟩)) h1
      exact ⟨h3.1, h3.2.1, h3.2.2.1, h3.2.2.2, h4, fun x => Classical.byContradiction fun y => h2 (.inr ⟨x, y⟩)⟩
theorem put_far (L : List GC) (r c : Int) (s : ByteArray) (k : Int) (y : Sy) (i j : Nat) (hi : i < 4) (hj : j < 12) (hf : putErr 12 4 r c s k ≠ 0 ∨ (i : Int) ≠ r ∨ (j : Int) < c - 1 ∨ c + k < (j : Int)) :
    nth GC.zero (putG 12 4 L r c s k y) (12 * i + j) = nth GC.zero L (12 * i + j) := by
  unfold putG
  by_cases he : putErr 12 4 r c s k = 0
  · rw [if_pos he]
    obtain ⟨h1, h2, h3, h4, h5, h6⟩ := putErr_zero he
    obtain ⟨r', rfl⟩ := Int.eq_ofNat_of_zero_le h1
    obtain ⟨c', rfl⟩ := Int.eq_ofNat_of_zero_le h3
    simp only [Int.toNat_natCast]
    have hf2 : i ≠ r' ∨ (i = r' ∧ ((j : Int) < (c' : Int) - 1 ∨ (c' : Int) + k < (j : Int))) := by
      by_cases hir : i = r'
      · rcases hf with hf | hf | hf
        · exact absurd he hf
        · exact absurd (by rw [hir]) hf
        · exact .inr ⟨hir, hf⟩
      · exact .inl hir
    unfold putL
    rcases h5 with rfl | rfl
    · rw [if_neg (by decide), nth_set_ne _ _ _ _ (by omega), wipeL_far _ _ _ _ _ (by omega) (by omega) (by omega)]
    · have h7 := h6 rfl
      rw [if_pos rfl, nth_set_ne _ _ _ _ (by omega), nth_set_ne _ _ _ _ (by omega), wipeL_far _ _ _ _ _ (by omega) (by omega) (by omega), wipeL_far _ _ _ _ _ (by omega) (by omega) (by omega)]
  · rw [if_neg he]
def alikeN (L' L : List GC) : Nat → Bool
  | 0 => true
  | n + 1 => alikeN L' L n && eqC (nth GC.zero L' n) (nth GC.zero L n)
theorem alikeN_iff (L' L : List GC) : ∀ n, alikeN L' L n = true ↔ ∀ j, j < n → nth GC.zero L' j = nth GC.zero L j
  | 0 => by simp [alikeN]
  | n + 1 => by
    rw [alikeN, Bool.and_eq_true, alikeN_iff L' L n, eqC_iff]
    constructor
    · rintro ⟨h1, h2⟩ j hj
      by_cases h : j < n
      · exact h1 j h
      · obtain rfl : j = n := by omega
        exact h2
    · intro h
      exact ⟨fun j hj => h j (by omega), h n (by omega)⟩
theorem alikeN_eq (L' L : List GC) (n : Nat) (h1 : L'.length = n) (h2 : L.length = n) : alikeN L' L n = eqL L' L := by
  apply Bool.eq_iff_iff.2
  rw [alikeN_iff, eqL_iff]
  constructor
  · intro h
    apply List.ext_getElem?
    intro j
    by_cases hj : j < n
    · have := h j hj
      rw [nth_eq _ _ _ (by omega), nth_eq _ _ _ (by omega)] at this
      rw [List.getElem?_eq_getElem (by omega), List.getElem?_eq_getElem (by omega), this]
    · rw [List.getElem?_eq_none (by omega), List.getElem?_eq_none (by omega)]
  · intro h j _
    rw [h]
theorem eqL_comm (M N : List GC) : eqL M N = eqL N M := by
  apply Bool.eq_iff_iff.2
  rw [eqL_iff, eqL_iff]
  exact ⟨Eq.symm, Eq.symm⟩
theorem vals_at0 {W : World} {b : Nat} {c : GC} (h : W.rangeAt b 0 c.vals) : W.cell? ⟨b, 0, none⟩ = some (.string c.s) ∧ W.cell? ⟨b, 1, none⟩ = some (.int .i64 c.w) ∧ W.cell? ⟨b, 2, none⟩ = some (.bool c.y.b) ∧ W.cell? ⟨b, 3, none⟩ = some (.bool c.y.u) ∧ W.cell? ⟨b, 4, none⟩ = some (.bool c.y.i) ∧ W.cell? ⟨b, 5, none⟩ = some (.int .i64 c.y.f) ∧ W.cell? ⟨b, 6, none⟩ = some (.int .i64 c.y.g) := vals_at h
theorem ret_val {a b : Bool} (h : a = b) : Value.bool a = Value.bool b := by rw [h]
theorem stepG_length (L : List GC) (o : OpV) (h : L.length = 48) : (stepG04 12 4 L o).length = 48 := by
  unfold stepG04
  split
  · unfold joinG
    split
    · rw [joinL_length]; exact h
    · exact h
  · split
    · unfold eraseG
      split
      · rw [eraseL_length]; exact h
      · exact h
    · split
      · rw [scrollL_length _ _ _ (by rw [h]; omega)]; exact h
      · rw [putG_length]; exact h
theorem fillN_length (ops : List OpV) : ∀ k, (fillN ops k).length = 48
  | 0 => by simp [fillN]
  | k + 1 => stepG_length _ _ (fillN_length ops k)
theorem filledL_length (ops : List OpV) : (filledL ops).length = 48 := fillN_length ops _
/-- A block that holds the law's call. -/
def OpBlk (W : World) (b : Nat) (o : OpV) : Prop := W.heap[b]? = some (.cells o.vals.toArray 36 (0, 0))
theorem OpBlk.only {W W' : World} {b : Nat} {o : OpV} {S : List Nat} (h : OpBlk W b o) (ho : Only S W W') (hs : b ∉ S) : OpBlk W' b o := ho.heap h hs
theorem OpBlk.cells {W : World} {b : Nat} {o : OpV} (h : OpBlk W b o) : W.cell? ⟨b, 0, none⟩ = some (.int .u8 o.d) ∧ W.cell? ⟨b, 1, none⟩ = some (.int .i64 o.r) ∧ W.cell? ⟨b, 2, none⟩ = some (.int .i64 o.c) ∧ W.cell? ⟨b, 3, none⟩ = some (.string o.s) ∧ W.cell? ⟨b, 4, none⟩ = some (.int .i64 o.k) ∧
    W.cell? ⟨b, 5, none⟩ = some (.bool o.y.b) ∧ W.cell? ⟨b, 6, none⟩ = some (.bool o.y.u) ∧ W.cell? ⟨b, 7, none⟩ = some (.bool o.y.i) ∧ W.cell? ⟨b, 8, none⟩ = some (.int .i64 o.y.f) ∧ W.cell? ⟨b, 9, none⟩ = some (.int .i64 o.y.g) ∧ W.cell? ⟨b, 10, none⟩ = some (.int .i64 o.t) ∧ W.cell? ⟨b, 11, none⟩ = some (.int .i64 o.n) := by
  refine ⟨?_, ?_, ?_, ?_, ?_, ?_, ?_, ?_, ?_, ?_, ?_, ?_⟩ <;> rw [cell_of_row W b _ _ _ _ h] <;> rfl
theorem wpList_opload {ops : Array Oper} {rest : List Oper} {op : Oper} {a : Act} {w : World} {Q : Exit → Act → World → Prop} (hgd : op.guard = none) (x : Operand) (ho : op.op = .load 36 x)
    (b : Nat) (hx : a.eval x = .pointer (some ⟨b, 0, none⟩)) (o : OpV) (hb : OpBlk w b o) (h : wpList Try.prog ops Q rest (a.put op.dst o.v) w) : wpList Try.prog ops Q (op :: rest) a w :=
  wpList_load_row hgd _ x ho b hx _ _ _ _ hb Try.underlying36 rfl (by kernel_rfl) h
theorem wpList_opstore {ops : Array Oper} {rest : List Oper} {op : Oper} {a : Act} {w : World} {Q : Exit → Act → World → Prop} (hgd : op.guard = none) (x y : Operand) (ho : op.op = .store 36 x y)
    (b : Nat) (hx : a.eval x = .pointer (some ⟨b, 0, none⟩)) (o o' : OpV) (hy : a.eval y = o'.v) (hb : OpBlk w b o) (h : ∀ w', OpBlk w' b o' → Only [b] w w' → wpList Try.prog ops Q rest (a.put op.dst undef) w') : wpList Try.prog ops Q (op :: rest) a w :=
  wpList_plain hgd fun K hK => by
    have hs : (Instr.storeAt 36 (.pointer (some ⟨b, 0, none⟩)) o'.v).run Try.prog w = .ok () (w.setRow b o'.vals.toArray) := by
      have hst := run_storeCells_at Try.prog b 0 _ o'.vals 0 _ w hb (by simp [OpV.vals]) (by
        intro v hv
        simp only [OpV.vals, List.mem_cons, List.not_mem_nil, or_false] at hv
        rcases hv with h | h | h | h | h | h | h | h | h | h | h | h <;> subst h <;> rfl)
      have hs : (Try.prog.info? 36).map (·.size) = some 12 := by kernel_rfl
      cases hq : Try.prog.info? 36 with
      | none => rw [hq] at hs; cases hs
      | some t =>
        have ht : t.size = 12 := by rw [hq] at hs; simpa using hs
        simp only [OpV.vals, OpV.v] at hst ⊢
        simp [Instr.storeAt, Instr.sureAddr, storeVar, sizeOf, typeInfo, hq, Value.cells, ht, hst]
    unfold Oper.wp execOp
    simp only [ho, hx, hy, Sem.run_bind, Sem.run_pure, Result.andThen_ok, hs]
    exact hK _ _ (h _ (setRow_heap w b _ _ _ _ hb) ((Only.refl [b] w).setRow (.inl (by simp)) _))
end Go.Proofs.Ytekodpcedjpnjaa
