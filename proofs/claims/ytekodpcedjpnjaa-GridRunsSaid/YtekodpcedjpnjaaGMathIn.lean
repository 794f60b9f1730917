/- The loads and stores of cells inside a fence; a region that only reads, inside a fence. No condition. -/
import Derived.Test.YtekodpcedjpnjaaGMath
import Derived.OwnWalkIn
namespace Go.Proofs.Ytekodpcedjpnjaa
set_option linter.unusedVariables false
set_option linter.unusedSimpArgs false
open Go.RowKit
theorem wpListIn_gstore {F : Fence} {n : Nat} {ops : Array Oper} {rest : List Oper} {op : Oper} {a : Act} {w : World} {Q : Exit → Act → World → Prop} (hgd : op.guard = none) (x y : Operand) (ho : op.op = .store 70 x y)
    (q off : Nat) (hx : a.eval x = .pointer (some ⟨q, off, none⟩)) (c : GC) (hy : a.eval y = c.v) (L : List GC) (hb : GBlk w q L) (i : Nat) (hoff : off = 7 * i) (hi : i < L.length)
    (h : ∀ w', GBlk w' q (L.set i c) → Only [q] w w' → wpListIn F n Try.prog ops Q rest (a.put op.dst undef) w') : wpListIn F n Try.prog ops Q (op :: rest) a w := by
  refine wpListIn_plain hgd fun K hK => ?_
  have hs := hb.store hi c off hoff
  unfold Oper.wpIn
  refine ⟨?_, ?_⟩
  · simp [Oper.about, ho]
  · rw [Oper.semAt_plain F _ _ (by rw [ho]; intro c hc'; cases hc')]
    unfold execOp
    simp only [ho, hx, hy, Sem.run_bind, Sem.run_pure, Result.andThen_ok, hs]
    exact hK _ _ (h _ (hb.set _) ((Only.refl [q] w).setRow (.inl (by simp)) _))
theorem wpListIn_gload {F : Fence} {n : Nat} {ops : Array Oper} {rest : List Oper} {op : Oper} {a : Act} {w : World} {Q : Exit → Act → World → Prop} (hgd : op.guard = none) (x : Operand) (ho : op.op = .load 70 x)
    (q off : Nat) (hx : a.eval x = .pointer (some ⟨q, off, none⟩)) (c : GC) (hc : w.rangeAt q off c.vals)
    (h : wpListIn F n Try.prog ops Q rest (a.put op.dst c.v) w) : wpListIn F n Try.prog ops Q (op :: rest) a w := by
  refine wpListIn_plain hgd fun K hK => ?_
  have hl := run_loadAt_mid (P := Try.prog) w q off 70 c.vals _ hc Try.underlying70 rfl (by kernel_rfl)
  unfold Oper.wpIn
  refine ⟨?_, ?_⟩
  · simp [Oper.about, ho]
  · rw [Oper.semAt_plain F _ _ (by rw [ho]; intro c hc'; cases hc')]
    unfold execOp
    simp only [ho, hx, Sem.run_bind, Sem.run_pure, Result.andThen_ok, hl]
    exact hK _ _ h
/-- A region that draws and only reads, inside a fence that lets all in: one walk of it. -/
theorem wpIn_region_reads04 {l₀ : Option Nat} {n : Nat} {P : Program} {id : Nat} {Q : Exit → Act → World → Prop} {a : Act} {w : World} {l : List Oper} (hm : P.follows .mixedOrders = true) (hB : Region.lexB .any l.toArray = true)
    (hd : noDefer l.toArray = true) (hq : ∀ a w, ¬ Q .outgrown a w)
    (h : wpQuiet P l.toArray (fun w' => ∃ m, w' = w.drewN m) (fun a' => ∀ w', (∃ m, w' = w.drewN m) → Q .normal a' w') l a) : (Code.region id l.toArray true).wpIn (wideAt l₀) n P Q a w :=
  wpIn_region_quiet (C := fun w' => ∃ m, w' = w.drewN m) hm hB hd hq ⟨1, rfl⟩ h
theorem GBlk.drewN {W : World} {q : Nat} {L : List GC} (b : GBlk W q L) (m : Nat) : GBlk (W.drewN m) q L := b
end Go.Proofs.Ytekodpcedjpnjaa
