/- The contract of Fit: the first clusters that have room. -/
import Derived.Test.YtnakgjcmepimiaaClus5
import Derived.Test.YtnakgjcmepimiaaSBld
import Derived.Deep.RegionHeld3
namespace Go.Proofs.Ytnakgjcmepimiaa
set_option linter.unusedVariables false
set_option linter.unusedSimpArgs false
open Go.RowKit Go.Shelf Go.Maps
attribute [local go_sem] Oper.semAt_some
theorem fitK_end : ∀ (L : List (List UInt8)) (n : Int), (∀ i, i < L.length → ¬ n - sumC (L.take i) < colsL (nth [] L i)) → fitK L n = L.length
  | [], _, _ => rfl
  | c :: L, n, h => by
    have h0 := h 0 (by simp)
    simp only [List.take_zero, nth, List.getD_cons_zero, sumC, List.foldr_nil, Int.sub_zero] at h0
    have ih := fitK_end L (n - colsL c) (by
      intro i hi
      have := h (i + 1) (by simp; omega)
      rw [List.take_succ_cons, sumC_cons] at this
      have e : nth [] (c :: L) (i + 1) = nth [] L i := rfl
      rw [e] at this
      omega)
    unfold fitK
    rw [if_neg h0, ih, List.length_cons]
theorem fitK_stop : ∀ (L : List (List UInt8)) (n : Int) (k : Nat), k < L.length → (∀ i, i < k → ¬ n - sumC (L.take i) < colsL (nth [] L i)) → n - sumC (L.take k) < colsL (nth [] L k) → fitK L n = k
  | [], _, k, hk, _, _ => by simp at hk
  | c :: L, n, 0, _, _, h2 => by
    simp only [List.take_zero, nth, List.getD_cons_zero, sumC, List.foldr_nil, Int.sub_zero] at h2
    unfold fitK
    rw [if_pos h2]
  | c :: L, n, k + 1, hk, h, h2 => by
    have h0 := h 0 (by omega)
    simp only [List.take_zero, nth, List.getD_cons_zero, sumC, List.foldr_nil, Int.sub_zero] at h0
    have ih := fitK_stop L (n - colsL c) k (by simpa using hk) (by
      intro i hi
      have := h (i + 1) (by omega)
      rw [List.take_succ_cons, sumC_cons] at this
      have e : nth [] (c :: L) (i + 1) = nth [] L i := rfl
      rw [e] at this
      omega) (by
      rw [List.take_succ_cons, sumC_cons] at h2
      have e : nth [] (c :: L) (k + 1) = nth [] L k := rfl
      rw [e] at h2
      omega)
    unfold fitK
    rw [if_neg h0, ih]
/-- The first clusters that have room, as a text; their columns. -/
def fitT (l : List UInt8) (n : Int) : List UInt8 := ((cutL l).take (fitK (cutL l) n)).flatten
def fitN (l : List UInt8) (n : Int) : Int := sumC ((cutL l).take (fitK (cutL l) n))
theorem SB.drew {n₀ b o : Nat} {T : TypeId} {W : World} {cs : Array Value} {p v : Value} {bs : List UInt8} (h : SB n₀ b o T W cs p v bs) : SB n₀ b o T W.drew cs p v bs := ⟨h.blk, h.hp, h.hv, h.pn, h.lt, h.le, h.own⟩
theorem SB.kept {n₀ b o : Nat} {T : TypeId} {W W' : World} {cs : Array Value} {p v : Value} {bs : List UInt8} (h : SB n₀ b o T W cs p v bs) {row : Option Nat} (hg : W.grownBy W' row) (hr : ∀ k, row = some k → ∃ o : Obj, W.heap[k]? = some o ∧ o.isCells = false) : SB n₀ b o T W' cs p v bs := by
  refine ⟨(grownBy_keeps_cells hg hr h.blk rfl).trans h.blk, h.hp, h.hv, h.pn, h.lt, Nat.le_trans h.le hg.size, h.own.kept hg ?_⟩
  cases hv : v.ownBlock with
  | none => exact .inl rfl
  | some q =>
    refine .inr (fun e' => ?_)
    obtain ⟨_, cur, h2⟩ := own_cells h.own q hv
    obtain ⟨o', h3, h4⟩ := hr q e'.symm
    rw [h2] at h3; cases h3; cases h4
theorem SB.below {n₀ b o : Nat} {T : TypeId} {W W' : World} {cs : Array Value} {p v : Value} {bs : List UInt8} (h : SB n₀ b o T W cs p v bs) (hb : Below W.heap.size W W') : SB n₀ b o T W' cs p v bs :=
  h.kept (grown_of_below hb) (fun k e => by cases e)
/-- The builder of a call's own. -/
def SBx (n₀ b : Nat) (W : World) (bs : List UInt8) : Prop := ∃ cs p v, SB n₀ b 0 122 W cs p v bs ∧ cs.size = 2
theorem liesBld {cs : Array Value} (h : cs.size = 2) : liesAt Try.prog Try.prog.depth 122 (cs.size / Try.prog.cellsOf 122) 0 122 1 = true := by
  rw [h]; kernel_rfl
theorem SBx.kept {n₀ b : Nat} {W W' : World} {bs : List UInt8} (h : SBx n₀ b W bs) {row : Option Nat} (hg : W.grownBy W' row) (hr : ∀ k, row = some k → ∃ o : Obj, W.heap[k]? = some o ∧ o.isCells = false) : SBx n₀ b W' bs := by
  obtain ⟨cs, p, v, h, hs⟩ := h
  exact ⟨cs, p, v, h.kept hg hr, hs⟩
theorem SBx.below {n₀ b : Nat} {W W' : World} {bs : List UInt8} (h : SBx n₀ b W bs) (hb : Below W.heap.size W W') : SBx n₀ b W' bs := h.kept (grown_of_below hb) (fun k e => by cases e)
theorem SBx.new {n₀ b : Nat} {W : World} (hb : W.heap[b]? = some (.cells #[.pointer none, .slice none 0 0] 122 (0, 0))) (hlt : b < n₀) (hle : n₀ ≤ W.heap.size) : SBx n₀ b W [] :=
  ⟨_, _, _, ⟨hb, rfl, rfl, .inl rfl, hlt, hle, World.ownsRow_nil _ _ _ _⟩, rfl⟩
/-- WriteString to the builder of a call's own. -/
theorem SBx.write {n₀ b : Nat} {W : World} {bs : List UInt8} (h : SBx n₀ b W bs) (l : List UInt8) (hlen : bs.length + l.length ≤ 100000000) :
    Calls Try.prog 85 #[.pointer (some ⟨b, 0, none⟩), .string (S l)] W fun e w' => e = .returned (.tuple #[.int .i64 l.length, .nilIface]) ∧ (SBx n₀ b w' (bs ++ l) ∧ But n₀ b W w' ∧ KeepT b W w') := by
  obtain ⟨cs, p, v, h, hs⟩ := h
  exact (write_any h l (liesBld hs) hlen).mono fun e w' ⟨h1, v', h2, h3, h4⟩ => ⟨h1, ⟨_, _, v', h2, by simpa using hs⟩, h3, h4⟩
theorem SBx.string {n₀ b : Nat} {W : World} {bs : List UInt8} (h : SBx n₀ b W bs) : Calls Try.prog 86 #[.pointer (some ⟨b, 0, none⟩)] W (StrRet n₀ W bs) := by
  obtain ⟨cs, p, v, h, hs⟩ := h
  exact string_any h
theorem SBx.set {n₀ b : Nat} {W : World} {bs : List UInt8} (h : SBx n₀ b W bs) {k : Nat} (off : Nat) (v : Value) (hk : k < n₀) (hne : k ≠ b) : SBx n₀ b (W.setCell ⟨k, off, none⟩ v) bs := by
  obtain ⟨cs, p, u, h, hs⟩ := h
  exact ⟨cs, p, u, ⟨(Below.heap_setCell _ _ _ _ (by exact Ne.symm hne)).trans h.blk, h.hp, h.hv, h.pn, h.lt, by simp [World.setCell]; exact h.le, own_set h.own hk v⟩, hs⟩
theorem SBx.drew {n₀ b : Nat} {W : World} {bs : List UInt8} (h : SBx n₀ b W bs) : SBx n₀ b W.drew bs := by
  obtain ⟨cs, p, u, h, hs⟩ := h
  exact ⟨cs, p, u, h.drew, hs⟩
theorem take_flat (L : List (List UInt8)) (k : Nat) (h : k < L.length) : (L.take (k + 1)).flatten = (L.take k).flatten ++ nth [] L k := by
  rw [List.take_succ_eq_append_getElem h, List.flatten_append, nth_eq _ _ _ h]; simp
theorem four_allocs (w : World) (v1 v3 v4 : Value) (vs : Array Value) (t1 t2 t3 t4 : TypeId) (W : World) (hW : (((w.alloc (.cells #[v1] t1)).alloc (.cells vs t2)).alloc (.cells #[v3] t3)).alloc (.cells #[v4] t4) = W) :
    W.cell? ⟨w.heap.size, 0, none⟩ = some v1 ∧ W.heap[w.heap.size + 1]? = some (.cells vs t2 (0, 0)) ∧ (W.cell? ⟨w.heap.size + 1 + 1, 0, none⟩ = some v3 ∧ W.frozen? ⟨w.heap.size + 1 + 1, 0, none⟩ = false) ∧ W.cell? ⟨w.heap.size + 1 + 1 + 1, 0, none⟩ = some v4 ∧ Below w.heap.size w W ∧ W.heap.size = w.heap.size + 1 + 1 + 1 + 1 := by
  obtain ⟨X1, h1⟩ : ∃ X1, w.alloc (.cells #[v1] t1) = X1 := ⟨_, rfl⟩
  obtain ⟨X2, h2⟩ : ∃ X2, X1.alloc (.cells vs t2) = X2 := ⟨_, rfl⟩
  obtain ⟨X3, h3⟩ : ∃ X3, X2.alloc (.cells #[v3] t3) = X3 := ⟨_, rfl⟩
  rw [h1, h2, h3] at hW
  have s1 : X1.heap.size = w.heap.size + 1 := by rw [← h1]; simp
  have s2 : X2.heap.size = w.heap.size + 1 + 1 := by rw [← h2]; simp [s1]
  have s3 : X3.heap.size = w.heap.size + 1 + 1 + 1 := by rw [← h3]; simp [s2]
  have c0 := cell_new_l w v1 t1
  have c1 : X2.heap[w.heap.size + 1]? = some (.cells vs t2 (0, 0)) := by rw [← s1, ← h2]; exact World.alloc_heap_new X1 _
  have c2 := cell_new_l X2 v3 t3
  have c3 := cell_new_l X3 v4 t4
  rw [h1] at c0
  rw [h3, s2] at c2
  rw [hW, s3] at c3
  have l0 := h3 ▸ cell_alloc_l (.cells #[v3] t3) (h2 ▸ cell_alloc_l (.cells vs t2) c0.1)
  refine ⟨hW ▸ cell_alloc_l _ l0, ?_, ⟨hW ▸ cell_alloc_l _ c2.1, hW ▸ frozen_alloc_l _ c2.1 c2.2⟩, c3.1, ?_, by rw [← hW]; simp [s3]⟩
  · rw [← hW, Below.heap_alloc _ _ _ (by omega), ← h3, Below.heap_alloc _ _ _ (by omega)]; exact c1
  · rw [← hW, ← h3, ← h2, ← h1]
    exact ((((Below.refl _ _).alloc (Nat.le_refl _) _).alloc (by simp) _).alloc (by simp; omega) _).alloc (by simp; omega) _
def FitI (w : World) (n₀ : Nat) (L : List (List UInt8)) (most : Int) (pre : List Nat) (W : World) : Prop :=
  SBx n₀ (w.heap.size + 1) W ((L.take pre.length).flatten) ∧ (W.cell? ⟨w.heap.size, 0, none⟩ = some (.int .i64 most) ∧ W.cell? ⟨w.heap.size + 1 + 1, 0, none⟩ = some (.int .i64 (sumC (L.take pre.length))) ∧ W.frozen? ⟨w.heap.size + 1 + 1, 0, none⟩ = false) ∧
  ((pre = [] ∨ sumC (L.take pre.length) ≤ most) ∧ (∀ i, i < pre.length → colsL (nth [] L i) ≤ most - sumC (L.take i))) ∧ Below w.heap.size w W
theorem FitI.own {w : World} {n₀ : Nat} {L : List (List UInt8)} {most : Int} {B : Nat} (hB : w.heap.size ≤ B) : OwnFrom B (FitI w n₀ L most) := fun s X Y row ⟨h1, ⟨h2, h3, h4⟩, h5, h6⟩ hg hr =>
  ⟨h1.kept hg (fun k e => (hr k e).2), ⟨cell_kept h2 hg (fun k e => (hr k e).2), cell_kept h3 hg (fun k e => (hr k e).2), (frozen_kept h3 hg (fun k e => (hr k e).2)).trans h4⟩, h5, ownFrom_below (β := List Nat) (n₀ := w.heap.size) (w₀ := w) (Nat.le_refl _) hB s X Y row h6 hg hr⟩
end Go.Proofs.Ytnakgjcmepimiaa
