/- What the calls make of a grid's cells; the cells' strings stay short. No condition. -/
import Derived.Test.YtekodpcedjpnjaaGrid10
import Derived.Test.YtekodpcedjpnjaaGridE
namespace Go.Proofs.Ytekodpcedjpnjaa
set_option linter.unusedVariables false
set_option linter.unusedSimpArgs false
open Go.RowKit Go.Maps
theorem GOk.scroll {L : List GC} (h : GOk L) (w m : Nat) : GOk (scrollL L w m) := by
  intro c hc
  rcases List.mem_append.1 hc with h1 | h1
  · exact h c (List.mem_of_mem_drop h1)
  · exact GOk.replicate _ c h1
/-- One call of the law's list. -/
def stepG04 (w h : Nat) (L : List GC) (o : OpV) : List GC :=
  if o.d % 10 = 5 then joinG w h L o.r o.c o.s else if o.d % 10 = 6 then eraseG w h L o.r o.c o.t else if o.d % 10 = 7 then scrollL L w (max 0 (min o.n h)).toNat else putG w h L o.r o.c o.s o.k o.y
theorem GOk.step {L : List GC} (hL : GOk L) (w h : Nat) (o : OpV) : GOk (stepG04 w h L o) := by
  unfold stepG04
  split
  · exact hL.join _ _ _ _ _
  · split
    · exact hL.erase _ _ _ _ _
    · split
      · exact hL.scroll _ _
      · exact hL.put _ _ _ _ _ _ _
def fillN (ops : List OpV) : Nat → List GC
  | 0 => List.replicate 48 GC.blank
  | k + 1 => stepG04 12 4 (fillN ops k) (fewO (nth ⟨0, 0, 0, ⟨#[]⟩, 0, Sy.zero, 0, 0⟩ ops k))
theorem fillN_ok (ops : List OpV) : ∀ k, GOk (fillN ops k)
  | 0 => GOk.replicate _
  | k + 1 => (fillN_ok ops k).step _ _ _
def filledL (ops : List OpV) : List GC := fillN ops (min ops.length 30)
structure OpsAt (W : World) (a : Option Addr) (len : Nat) (ops : List OpV) : Prop where
  len : ops.length = len
  at_ : ∀ i o, ops[i]? = some o → o.Ok ∧ ∃ b off, a = some ⟨b, off, none⟩ ∧ b < W.heap.size ∧ W.rangeAt b (off + i * 12) o.vals
theorem OpsAt.below {W W' : World} {a : Option Addr} {len : Nat} {ops : List OpV} (h : OpsAt W a len ops) (hb : Below W.heap.size W W') : OpsAt W' a len ops :=
  ⟨h.len, fun i o hi => by
    obtain ⟨h1, b, off, h2, h3, h4⟩ := h.at_ i o hi
    exact ⟨h1, b, off, h2, Nat.lt_of_lt_of_le h3 hb.size, fun j v hv => (hb.cell (p := ⟨b, _, none⟩) h3).trans (h4 j v hv)⟩⟩
end Go.Proofs.Ytekodpcedjpnjaa
