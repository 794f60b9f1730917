/- The columns of a cluster; the iterator over a text's clusters. The contracts of Count, Is, Width, Columns, Join, Clean and Flat. The contract of Fit: the first clusters that have room. -/
import Derived.Test.YtekodpcedjpnjaaGreatClus3
import Derived.Test.YtekodpcedjpnjaaGreatRangeG
import Derived.Test.YtekodpcedjpnjaaGreatShelfG3
import Derived.Test.YtekodpcedjpnjaaGreatStr
import Derived.Test.YtekodpcedjpnjaaGreatSBld
import Derived.Deep.RegionHeld3
namespace Go.Proofs.YtekodpcedjpnjaaGreat
set_option linter.unusedVariables false
set_option linter.unusedSimpArgs false
open Go.RowKit Go.Shelf Go.Maps
attribute [local go_sem] Oper.semAt_some
end Go.Proofs.YtekodpcedjpnjaaGreat
namespace Go.Proofs.YtekodpcedjpnjaaGreat
set_option linter.unusedVariables false
set_option linter.unusedSimpArgs false
open Go.RowKit Go.Shelf Go.Maps
attribute [local go_sem] Oper.semAt_some
/-! ### Join -/
theorem conv_newB (W : World) (l : List UInt8) : (convert 61 9 (.slice (some ⟨W.heap.size, 0, none⟩) l.length l.length)).run Tryz.prog (W.alloc (.cells (u8v l).toArray 5)) = .ok (.string (S l)) (W.alloc (.cells (u8v l).toArray 5)) := by
  have := run_convert_bytes_arg (P := Tryz.prog) (W.alloc (.cells (u8v l).toArray 5)) 61 5 Tryz.underlying61 Tryz.underlying5 W.heap.size 0 l.length l.length (l.map fun b => (b.toNat : Int)) (by simp)
    (fun i hi => ?_) 9 Tryz.underlying9
  · rw [strOfNums_Sc] at this; exact this
  · have h0 : (W.alloc (.cells (u8v l).toArray 5)).heap[W.heap.size]? = some (.cells (u8v l).toArray 5) := World.alloc_heap_new W _
    unfold World.cell?
    dsimp only
    rw [h0]
    simp [u8v, hi]
/-! ### Clean, Flat -/
/-- Bytes in memory that may be written. -/
structure BysW (w : World) (b : Nat) (l : List UInt8) : Prop where
  lt : b < w.heap.size
  at_ : ∀ j, j < l.length → w.cell? ⟨b, j, none⟩ = some (.int .u8 ((nth 0 l j).toNat : Int)) ∧ w.frozen? ⟨b, j, none⟩ = false
theorem BysW.put {w : World} {b : Nat} {l l' : List UInt8} (h : BysW w b l) (k : Nat) (c : UInt8) (hk : k < l.length) (hl : l'.length = l.length) (hn : ∀ j, j < l.length → nth 0 l' j = if j = k then c else nth 0 l j) : BysW (w.setCell ⟨b, k, none⟩ (.int .u8 (c.toNat : Int))) b l' := by
  refine ⟨by simp [World.setCell]; exact h.lt, fun j hj => ?_⟩
  rw [hl] at hj
  refine ⟨?_, by rw [World.frozen?_setCell]; exact (h.at_ j hj).2⟩
  rw [hn j hj]
  by_cases e : j = k
  · subst e
    rw [if_pos rfl]
    exact World.cell?_setCell_same' _ _ _ (by rw [(h.at_ j hj).1]; rfl)
  · rw [if_neg e, World.cell?_setCell_other _ _ _ _ (fun e' => e (by simpa using congrArg Addr.off e'.symm))]
    exact (h.at_ j hj).1
theorem BysW.conv {w : World} {b cap : Nat} {l : List UInt8} (h : BysW w b l) : (convert 61 9 (.slice (some ⟨b, 0, none⟩) l.length cap)).run Tryz.prog w = .ok (.string (S l)) w := by
  have := run_convert_bytes_arg (P := Tryz.prog) w 61 5 Tryz.underlying61 Tryz.underlying5 b 0 l.length cap (l.map fun b => (b.toNat : Int)) (by simp)
    (fun i hi => ?_) 9 Tryz.underlying9
  · rw [strOfNums_Sc] at this; exact this
  · have hi' : i < l.length := by simpa using hi
    rw [Nat.zero_add, (h.at_ i hi').1, nth_eq _ _ _ hi']
    simp [hi']
end Go.Proofs.YtekodpcedjpnjaaGreat
namespace Go.Proofs.YtekodpcedjpnjaaGreat
set_option linter.unusedVariables false
set_option linter.unusedSimpArgs false
open Go.RowKit Go.Shelf Go.Maps
attribute [local go_sem] Oper.semAt_some
theorem SB.drew {n₀ b o : Nat} {T : TypeId} {W : World} {cs : Array Value} {p v : Value} {bs : List UInt8} (h : SB n₀ b o T W cs p v bs) : SB n₀ b o T W.drew cs p v bs := ⟨h.blk, h.hp, h.hv, h.pn, h.lt, h.le, h.own⟩
theorem SB.kept {n₀ b o : Nat} {T : TypeId} {W W' : World} {cs : Array Value} {p v : Value} {bs : List UInt8} (h : SB n₀ b o T W cs p v bs) {row : Option Nat} (hg : W.grownBy W' row) (hr : ∀ k, row = some k → ∃ o : Obj, W.heap[k]? = some o ∧ o.isCells = false) : SB n₀ b o T W' cs p v bs := by
  refine ⟨(grownBy_keeps_cells hg hr h.blk rfl).trans h.blk, h.hp, h.hv, h.pn, h.lt, Nat.le_trans h.le hg.size, h.own.kept hg ?_⟩
  cases hv : v.ownBlock with
  | none => exact .inl rfl
  | some q =>
    refine .inr (fun e' => ?_)
    obtain ⟨_, cur, h2⟩ := own_cells h.own q hv
    obtain ⟨o', h3, h4⟩ := hr q e'.symm
    rw [h2] at h3; cases h3; cases h4
theorem SB.below {n₀ b o : Nat} {T : TypeId} {W W' : World} {cs : Array Value} {p v : Value} {bs : List UInt8} (h : SB n₀ b o T W cs p v bs) (hb : Below W.heap.size W W') : SB n₀ b o T W' cs p v bs :=
  h.kept (grown_of_below hb) (fun k e => by cases e)
/-- The builder of a call's own. -/
def SBx (n₀ b : Nat) (W : World) (bs : List UInt8) : Prop := ∃ cs p v, SB n₀ b 0 232 W cs p v bs ∧ cs.size = 2
theorem SBx.kept {n₀ b : Nat} {W W' : World} {bs : List UInt8} (h : SBx n₀ b W bs) {row : Option Nat} (hg : W.grownBy W' row) (hr : ∀ k, row = some k → ∃ o : Obj, W.heap[k]? = some o ∧ o.isCells = false) : SBx n₀ b W' bs := by
  obtain ⟨cs, p, v, h, hs⟩ := h
  exact ⟨cs, p, v, h.kept hg hr, hs⟩
theorem SBx.below {n₀ b : Nat} {W W' : World} {bs : List UInt8} (h : SBx n₀ b W bs) (hb : Below W.heap.size W W') : SBx n₀ b W' bs := h.kept (grown_of_below hb) (fun k e => by cases e)
theorem SBx.new {n₀ b : Nat} {W : World} (hb : W.heap[b]? = some (.cells #[.pointer none, .slice none 0 0] 232 (0, 0))) (hlt : b < n₀) (hle : n₀ ≤ W.heap.size) : SBx n₀ b W [] :=
  ⟨_, _, _, ⟨hb, rfl, rfl, .inl rfl, hlt, hle, World.ownsRow_nil _ _ _ _⟩, rfl⟩
theorem SBx.string {n₀ b : Nat} {W : World} {bs : List UInt8} (h : SBx n₀ b W bs) : Calls Tryz.prog 174 #[.pointer (some ⟨b, 0, none⟩)] W (StrRet n₀ W bs) := by
  obtain ⟨cs, p, v, h, hs⟩ := h
  exact string_any h
theorem SBx.set {n₀ b : Nat} {W : World} {bs : List UInt8} (h : SBx n₀ b W bs) {k : Nat} (off : Nat) (v : Value) (hk : k < n₀) (hne : k ≠ b) : SBx n₀ b (W.setCell ⟨k, off, none⟩ v) bs := by
  obtain ⟨cs, p, u, h, hs⟩ := h
  exact ⟨cs, p, u, ⟨(Below.heap_setCell _ _ _ _ (by exact Ne.symm hne)).trans h.blk, h.hp, h.hv, h.pn, h.lt, by simp [World.setCell]; exact h.le, own_set h.own hk v⟩, hs⟩
theorem SBx.drew {n₀ b : Nat} {W : World} {bs : List UInt8} (h : SBx n₀ b W bs) : SBx n₀ b W.drew bs := by
  obtain ⟨cs, p, u, h, hs⟩ := h
  exact ⟨cs, p, u, h.drew, hs⟩
def FitI (w : World) (n₀ : Nat) (L : List (List UInt8)) (most : Int) (pre : List Nat) (W : World) : Prop :=
  SBx n₀ (w.heap.size + 1) W ((L.take pre.length).flatten) ∧ (W.cell? ⟨w.heap.size, 0, none⟩ = some (.int .i64 most) ∧ W.cell? ⟨w.heap.size + 1 + 1, 0, none⟩ = some (.int .i64 (sumC (L.take pre.length))) ∧ W.frozen? ⟨w.heap.size + 1 + 1, 0, none⟩ = false) ∧
  ((pre = [] ∨ sumC (L.take pre.length) ≤ most) ∧ (∀ i, i < pre.length → colsL (nth [] L i) ≤ most - sumC (L.take i))) ∧ Below w.heap.size w W
theorem FitI.own {w : World} {n₀ : Nat} {L : List (List UInt8)} {most : Int} {B : Nat} (hB : w.heap.size ≤ B) : OwnFrom B (FitI w n₀ L most) := fun s X Y row ⟨h1, ⟨h2, h3, h4⟩, h5, h6⟩ hg hr =>
  ⟨h1.kept hg (fun k e => (hr k e).2), ⟨cell_kept h2 hg (fun k e => (hr k e).2), cell_kept h3 hg (fun k e => (hr k e).2), (frozen_kept h3 hg (fun k e => (hr k e).2)).trans h4⟩, h5, ownFrom_below (β := List Nat) (n₀ := w.heap.size) (w₀ := w) (Nat.le_refl _) hB s X Y row h6 hg hr⟩
end Go.Proofs.YtekodpcedjpnjaaGreat
