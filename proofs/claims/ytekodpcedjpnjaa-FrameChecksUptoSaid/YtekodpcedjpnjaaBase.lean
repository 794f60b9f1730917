/- Small words that all proofs of this seat use: rows of cells in memory, what abides under growth, and two laws for a region that draws its order inside a fence (a still head, then a tail in one forced order). No condition. -/
import Derived.WalkKit
import Derived.Lib.Hide
import Derived.WalkLawsBesides
import Derived.StillTailTactics
import Derived.RangeFuncNested
import Derived.RangeFuncBound
import Derived.RangeFuncCalls
import Derived.RangeFuncLeaves
import Derived.Shelf.Abstract
import Derived.Shelf.RegionOpen
import Derived.OwnWalkIn
import Derived.TacticsInMore
import Derived.LoopNIn
import Derived.LoopIn
import Derived.BigQuiet
import Derived.Deep.QuietTactic
import Derived.OrdersIn
namespace Go.Proofs.Ytekodpcedjpnjaa
set_option linter.unusedVariables false
set_option linter.unusedSimpArgs false
open Go.RowKit

/-- The element at a place; the default beyond the end. A name of its own, so that the walk leaves it as it is written. -/
def nth {α : Type} (d : α) (l : List α) (j : Nat) : α := l.getD j d
theorem nth_eq {α : Type} (d : α) (l : List α) (j : Nat) (h : j < l.length) : nth d l j = l[j] := by simp [nth, h]

/-- The cells vs lie from a on, below the block B. -/
def RowAt (B : Nat) (w : World) (a : Option Addr) (vs : List Value) : Prop :=
  ∀ j, j < vs.length → ∃ b off, a = some ⟨b, off, none⟩ ∧ b < B ∧ w.cell? ⟨b, off + j, none⟩ = some (nth undef vs j)

theorem RowAt.below {B : Nat} {w w' : World} {a : Option Addr} {vs : List Value} (h : RowAt B w a vs) (hb : Below B w w') : RowAt B w' a vs := fun j hj => by
  obtain ⟨b, off, e, hlt, hc⟩ := h j hj
  exact ⟨b, off, e, hlt, (hb.cell (p := ⟨b, off + j, none⟩) hlt).trans hc⟩
theorem RowAt.more {B B' : Nat} {w : World} {a : Option Addr} {vs : List Value} (h : RowAt B w a vs) (hB : B ≤ B') : RowAt B' w a vs := fun j hj => by
  obtain ⟨b, off, e, hlt, hc⟩ := h j hj
  exact ⟨b, off, e, by omega, hc⟩
theorem RowAt.nil (B : Nat) (w : World) (a : Option Addr) : RowAt B w a [] := fun j hj => by simp at hj
theorem nth_map {α : Type} (f : α → Value) (d : α) (l : List α) (j : Nat) (h : j < l.length) : nth undef (l.map f) j = f (nth d l j) := by simp [nth, h]
/-- A new block holds its cells. -/
theorem RowAt.new (w : World) (vs : List Value) (e : TypeId) : RowAt (w.alloc (.cells vs.toArray e)).heap.size (w.alloc (.cells vs.toArray e)) (some ⟨w.heap.size, 0, none⟩) vs := fun j hj => by
  refine ⟨w.heap.size, 0, rfl, by simp, ?_⟩
  have h0 : (w.alloc (.cells vs.toArray e)).heap[w.heap.size]? = some (.cells vs.toArray e) := World.alloc_heap_new w _
  unfold World.cell?
  dsimp only
  rw [h0]
  simp [nth, hj]

/-- All old cells and all old marks read as before. -/
theorem bcell {W w1 : World} {B : Nat} (hb : Below B W w1) : (∀ b o, b < B → w1.cell? ⟨b, o, none⟩ = W.cell? ⟨b, o, none⟩) ∧ (∀ b o, b < B → w1.frozen? ⟨b, o, none⟩ = W.frozen? ⟨b, o, none⟩) :=
  ⟨fun b o h => hb.cell (p := ⟨b, o, none⟩) h, fun b o h => hb.frozen (p := ⟨b, o, none⟩) h⟩
theorem bto {B : Nat} {w w' w'' : World} (h : Below B w w') (h' : Below w'.heap.size w' w'') (hB : B ≤ w'.heap.size) : Below B w w'' := h.trans (h'.mono hB)
/-- Two steps, each of which leaves what it found. -/
theorem bnext {w w' w'' : World} (h : Below w.heap.size w w') (h' : Below w'.heap.size w' w'') : Below w.heap.size w w'' := h.trans (h'.mono h.size)

theorem cell_new_l (W : World) (v : Value) (t : TypeId) : (W.alloc (.cells #[v] t)).cell? ⟨W.heap.size, 0, none⟩ = some v ∧ (W.alloc (.cells #[v] t)).frozen? ⟨W.heap.size, 0, none⟩ = false := by
  have h : (W.alloc (.cells #[v] t)).heap[W.heap.size]? = some (.cells #[v] t) := World.alloc_heap_new W _
  unfold World.cell? World.frozen?
  dsimp only
  rw [h]
  exact ⟨rfl, by simp⟩
theorem cell_alloc_l {W : World} {a : Addr} {v : Value} (o : Obj) (h : W.cell? a = some v) : (W.alloc o).cell? a = some v := cell_kept h (World.grownBy_alloc W o none) (fun r e => by cases e)
theorem frozen_alloc_l {W : World} {a : Addr} {v : Value} (o : Obj) (h : W.cell? a = some v) (hf : W.frozen? a = false) : (W.alloc o).frozen? a = false := (frozen_kept h (World.grownBy_alloc W o none) (fun r e => by cases e)).trans hf
theorem ret_bool {a b : Bool} (h : a = b) : Ending.returned (.bool a) = .returned (.bool b) := by rw [h]
theorem ret_int {k : IntKind} {a b : Int} (h : a = b) : Ending.returned (.int k a) = .returned (.int k b) := by rw [h]
theorem ret_str {a b : ByteArray} (h : a = b) : Ending.returned (.string a) = .returned (.string b) := by rw [h]

/-! ### a region that draws, inside a fence that lets all functions in -/
section
variable {P : Program} {ops : Array Oper} {md : Region.Mode} {w : World} {l₀ : Option Nat} {n : Nat}
/-- The fence that lets all in, in a round or in none. -/
def wideAt (l₀ : Option Nat) : Fence := { Fence.wide with round := l₀ }
theorem wideAt_none : wideAt none = Fence.wide := rfl
theorem callsIn_wideAt {n : Nat} {l₀ : Option Nat} {f : FuncId} {args : Array Value} {w : World} {R : Ending → World → Prop} (h : Calls P f args w R) : CallsIn (wideAt l₀) n P f args w R := by
  cases l₀ with
  | none => exact callsIn_wide.2 h
  | some l => exact CallsIn.inRound l (callsIn_wide.2 h)

theorem wide_all (l₀ : Option Nat) (f : FuncId) : (wideAt l₀).fn f := trivial
theorem wide_depth (l₀ : Option Nat) : (wideAt l₀).depth = none := rfl

/-- No operation of the list is a defer statement. -/
def noDefer (ops : Array Oper) : Bool := ops.toList.all fun o => match o.op with | .defer _ => false | _ => true
theorem noDefer_spec (h : noDefer ops = true) {i : Nat} {o : Oper} (ho : ops[i]? = some o) : ∀ c, o.op ≠ .defer c := by
  intro c hc
  have hm : o ∈ ops.toList := by
    rw [Array.mem_toList_iff]; exact Array.mem_of_getElem? ho
  have := List.all_eq_true.1 h o hm
  rw [hc] at this
  cases this

/-- What an operation asks outside a fence it asks inside a fence that lets all in. -/
theorem uponIn_of_upon {o : Oper} {a : Act} {next : Act → World → Prop} {Q : Exit → Act → World → Prop} {r : Result Next} (h : o.upon P a next Q r) :
    o.uponIn (wideAt l₀) n P a next Q r := by
  cases r with
  | ok x w' =>
    cases x <;> simp only [Oper.upon, Oper.uponIn] at h ⊢ <;> first
      | exact h
      | exact ⟨fun hd => (by cases hd), (callsIn_wideAt h).mono fun e w2 he => (by cases e <;> exact he)⟩
      | (refine ⟨fun hd => (by cases hd), fun c cs _ => ?_⟩
         obtain ⟨v, w2, hR, hs⟩ := h c cs
         refine ⟨v, w2, hR, ?_⟩
         have hs2 := (StepsIn.of_steps hs).mono (I' := Machine.fenced P Fence.wide) (fun m _ => fenced_wide P m)
         cases l₀ <;> exact hs2)
      | exact h.elim
  | halt x w' => cases x <;> simp only [Oper.upon, Oper.uponIn] at h ⊢ <;> first | exact h | exact h.elim

theorem wpOpIn_of_wpOp {Q : Exit → Act → World → Prop} (hq : ∀ a w, ¬ Q .outgrown a w) (hd : noDefer ops = true) {i : Nat} {K : Act → World → Prop} {a : Act} {w : World}
    (h : wpOp P ops Q i K a w) : wpOpIn (wideAt l₀) n P ops Q i K a w := by
  unfold wpOp at h
  unfold wpOpIn
  split
  · rename_i ho; simp only [ho] at h; exact h
  · rename_i o ho
    simp only [ho] at h
    split
    · rename_i hw
      simp only [hw, if_true] at h
      rcases h with h | ⟨_, a₀, w₀, hl⟩
      · refine ⟨fun _ _ => trivial, ?_⟩
        rw [Oper.semAt_eq _ _ _ (noDefer_spec hd ho)]
        exact uponIn_of_upon h
      · exact (hq _ _ hl).elim
    · rename_i hw
      rw [if_neg hw] at h
      exact ⟨fun _ _ => trivial, h⟩

theorem wpAnyIn_of_wpAny {Q : Exit → Act → World → Prop} (hq : ∀ a w, ¬ Q .outgrown a w) (hd : noDefer ops = true) : ∀ (fuel : Nat) (listed : Array Bool) (a : Act) (w : World),
    wpAny P md ops Q fuel listed a w → wpAnyIn (wideAt l₀) n P md ops Q fuel listed a w
  | 0, _, _, _, h => h
  | fuel + 1, _, _, _, h => ⟨h.1, fun i hi => wpOpIn_mono (fun a' w' => wpAnyIn_of_wpAny hq hd fuel _ a' w') (wpOpIn_of_wpOp hq hd (h.2 i hi))⟩

/-- A region that draws and whose operations are quiet in a class of worlds, inside a fence that lets all in. -/
theorem wpIn_region_quiet {id : Nat} {C : World → Prop} {Q : Exit → Act → World → Prop} {a : Act} {w : World} {l : List Oper} (hm : P.follows .mixedOrders = true) (hB : Region.lexB .any l.toArray = true)
    (hd : noDefer l.toArray = true) (hq : ∀ a w, ¬ Q .outgrown a w) (hC : C { w with drawn := w.drawn + 1 })
    (h : wpQuiet P l.toArray C (fun a' => ∀ w', C w' → Q .normal a' w') l a) : (Code.region id l.toArray true).wpIn (wideAt l₀) n P Q a w := by
  simp only [Region.lexB, Bool.and_eq_true] at hB
  refine wpIn_region_any hm (wpAnyIn_of_wpAny hq hd _ _ _ _ (wpAny_of_quiet (Q := fun a' => ∀ w', C w' → Q .normal a' w') (fun _ w' hw' h => h w' hw') _ _ _ _ hC ?_))
  have := wpAnyQ_lex (C := C) (md := .any) hB.1 l 0 (Array.replicate l.toArray.size false) a (by simp) (by simpa using hB.2) h
  simpa using this

/-- A region that draws and whose operations are quiet in a class of worlds. -/
theorem wp_region_quiet_of {id : Nat} {C : World → Prop} {Q : Exit → Act → World → Prop} {a : Act} {w : World} {l : List Oper} (hm : P.follows .mixedOrders = true) (hB : Region.lexB .any l.toArray = true)
    (hC : C { w with drawn := w.drawn + 1 })
    (h : wpQuiet P l.toArray C (fun a' => ∀ w', C w' → Q .normal a' w') l a) : (Code.region id l.toArray true).wp P Q a w :=
  wp_region_quiet hm hB hC (by simpa using h)

theorem wpOpIn_of_stOp {i : Nat} {a : Act} {K : Act → Prop} {K' : Act → World → Prop} {Q' : Exit → Act → World → Prop} (hd : noDefer ops = true) (h : ∀ a, K a → K' a w) (hh : stOp P ops w i K a) :
    wpOpIn (wideAt l₀) n P ops Q' i K' a w := by
  unfold stOp at hh
  unfold wpOpIn
  split
  · rename_i ho; simp only [ho] at hh; exact h _ hh
  · rename_i o ho
    simp only [ho] at hh
    split
    · rename_i hw
      simp only [hw, if_true] at hh
      refine ⟨fun _ _ => trivial, ?_⟩
      rw [Oper.semAt_eq _ _ _ (noDefer_spec hd ho)]
      exact uponIn_of_upon (Oper.wp_of_still h hh)
    · rename_i hw; rw [if_neg hw] at hh; exact ⟨fun _ _ => trivial, h _ hh⟩

theorem wpAnyIn_of_head {n₁ g : Nat} {L : Array Bool → Act → Prop} {Q' : Exit → Act → World → Prop} (hd : noDefer ops = true) (hL : ∀ listed a, L listed a → wpAnyIn (wideAt l₀) n P md ops Q' g listed a w) :
    ∀ (f : Nat) (listed : Array Bool) (a : Act), wpAnyL P md ops w n₁ L f listed a → wpAnyIn (wideAt l₀) n P md ops Q' (f + g) listed a w
  | 0, listed, a, h => by rw [Nat.zero_add]; exact hL _ _ h
  | f + 1, listed, a, h => by
    rw [show f + 1 + g = (f + g) + 1 by omega]
    exact ⟨fun h0 => absurd h0 h.1, fun i hi => wpOpIn_of_stOp hd (fun a' h' => wpAnyIn_of_head hd hL f _ a' h') (h.2 i hi).2⟩

theorem wpAnyIn_of_seq {Q' : Exit → Act → World → Prop} : ∀ (l : List Oper) (k : Nat) (listed : Array Bool) (a : Act) (w : World), (∀ j, l[j]? = ops[k + j]?) →
    Region.seqB md ops l.length k listed = true → wpListIn (wideAt l₀) n P ops Q' l a w → wpAnyIn (wideAt l₀) n P md ops Q' l.length listed a w
  | [], _, _, _, _, _, hB, h => ⟨by simpa [Region.seqB] using hB, h⟩
  | o :: l, k, listed, a, w, hl, hB, h => by
    have h0 : ops[k]? = some o := by simpa using (hl 0).symm
    simp only [List.length_cons, Region.seqB, Bool.and_eq_true, decide_eq_true_eq] at hB
    refine ⟨fun h1 => (by rw [hB.1] at h1; cases h1), fun i hi => ?_⟩
    rw [hB.1] at hi
    have hik : i = k := by simpa using hi
    subst hik
    have hw : wpOpIn (wideAt l₀) n P ops Q' i (wpListIn (wideAt l₀) n P ops Q' l) a w := by unfold wpOpIn; simp only [h0]; exact h
    exact wpOpIn_mono (fun a' w' h' => wpAnyIn_of_seq l (i + 1) _ a' w' (fun j => by have := hl (j + 1); simpa [Nat.add_assoc, Nat.add_comm 1 j] using this) hB.2 h') hw

/-- A region that draws: n₁ operations that leave the world as it is, then a tail in one forced order; inside a fence that lets all in. -/
theorem wpIn_region_still_tail {id : Nat} {Q : Exit → Act → World → Prop} {a : Act} {w : World} {l : List Oper} (n₁ : Nat) (hm : P.follows .mixedOrders = true) (hB : Region.lexTailB .any l.toArray n₁ = true)
    (hd : noDefer l.toArray = true)
    (h : wpStill P l.toArray { w with drawn := w.drawn + 1 } (fun a' => wpListIn (wideAt l₀) n P l.toArray Q (l.drop n₁) a' { w with drawn := w.drawn + 1 }) (l.take n₁) a) : (Code.region id l.toArray true).wpIn (wideAt l₀) n P Q a w := by
  simp only [Region.lexTailB, Bool.and_eq_true, decide_eq_true_eq] at hB
  obtain ⟨⟨⟨⟨hsel, hn⟩, hs⟩, hc⟩, hlex⟩ := hB
  have hn' : n₁ < l.length := by simpa using hn
  have htl : (l.take n₁).length = n₁ := by simp; omega
  have hdl : (l.drop n₁).length = l.toArray.size - n₁ := by simp
  have inv0 : HeadInv .any l.toArray n₁ (Array.replicate l.toArray.size false) :=
    ⟨by simp, fun j oj _ hl => (by rw [getD_replicate_false] at hl; cases hl), fun t _ ht => getD_in (by simpa using ht) (getD_replicate_false _ _)⟩
  have H := wpAnyL_lex (md := .any) (g := l.toArray.size - n₁) hsel hs hc hn (l.take n₁) 0 _ a (fun j hj => by
    have hj' : j < n₁ := by rw [htl] at hj; exact hj
    simp [hj']) (by simpa using htl) inv0 (by rw [htl]; exact hlex) h
  refine wpIn_region_any hm ?_
  have := wpAnyIn_of_head (Q' := Q) (n := n) (l₀ := l₀) (g := l.toArray.size - n₁) hd (fun listed a' hL => by
    have := wpAnyIn_of_seq (md := .any) (Q' := Q) (n := n) (l₀ := l₀) (l.drop n₁) n₁ listed a' { w with drawn := w.drawn + 1 } (fun j => by simp [List.getElem?_drop]) (by rw [hdl]; exact hL.1) hL.2
    rwa [hdl] at this) _ _ _ H
  rw [htl, show n₁ + (l.toArray.size - n₁) = l.toArray.size by omega] at this
  exact this
end

/-! ### straight code that the kernel can run by itself -/
section
variable {P : Program}
/-- One operation whose run is known. -/
theorem wpList_run {ops : Array Oper} {rest : List Oper} {o : Oper} {a : Act} {w : World} {Q : Exit → Act → World → Prop} (hg : o.guard = none) (v : Value) (w' : World)
    (hrun : (execOp a.eval o).run P w = .ok (.value v) w') (h : wpList P ops Q rest (a.put o.dst v) w') : wpList P ops Q (o :: rest) a w :=
  wpList_plain hg fun K hK => by unfold Oper.wp; rw [hrun]; exact hK _ _ h

def runOps (P : Program) (ops : Array Oper) : List Oper → Act → World → Option (Act × World)
  | [], a, w => some (a, w)
  | o :: rest, a, w =>
    if Region.wanted o (yielded ops a.tmps) then
      match (execOp a.eval o).run P w with
      | .ok (.value v) w' => runOps P ops rest (a.put o.dst v) w'
      | _ => none
    else runOps P ops rest (a.put o.dst undef) w
theorem runOps_sound {ops : Array Oper} {Q : Exit → Act → World → Prop} : ∀ (l : List Oper) (a : Act) (w : World) (a' : Act) (w' : World), runOps P ops l a w = some (a', w') → Q .normal a' w' → wpList P ops Q l a w
  | [], a, w, a', w', h, hq => by simp only [runOps, Option.some.injEq, Prod.mk.injEq] at h; obtain ⟨rfl, rfl⟩ := h; exact hq
  | o :: l, a, w, a', w', h, hq => by
    unfold runOps at h
    unfold wpList
    split at h
    · rename_i hw
      rw [if_pos hw]
      split at h
      · rename_i v w1 hr
        refine .inl ?_
        unfold Oper.wp
        rw [hr]
        exact runOps_sound l _ _ _ _ h hq
      · cases h
    · rename_i hw
      rw [if_neg hw]
      exact runOps_sound l _ _ _ _ h hq

/-- Straight code: no loop, no call of a Go function, no region that draws. -/
def runCode (P : Program) : Code → Act → World → Option (Exit × Act × World)
  | .skip, a, w => some (.normal, a, w)
  | .seq x y, a, w =>
    match runCode P x a w with
    | some (.normal, a1, w1) => runCode P y a1 w1
    | r => r
  | .cond c x y, a, w =>
    match a.eval c with
    | .bool true => runCode P x a w
    | .bool false => runCode P y a w
    | _ => none
  | .block id c, a, w =>
    match runCode P c a w with
    | some (.exit id', a1, w1) => if id' = id then some (.normal, a1, w1) else some (.exit id', a1, w1)
    | r => r
  | .ret, a, w => some (.ret, a, w)
  | .exit id, a, w => some (.exit id, a, w)
  | .region _ ops false, a, w => (runOps P ops ops.toList a w).map fun x => (.normal, x.1, x.2)
  | _, _, _ => none
theorem runCode_sound (c : Code) : ∀ {Q : Exit → Act → World → Prop} (a : Act) (w : World) (e : Exit) (a' : Act) (w' : World), runCode P c a w = some (e, a', w') → Q e a' w' → c.wp P Q a w := by
  induction c with
  | skip => intro Q a w e a' w' h hq; simp only [runCode, Option.some.injEq, Prod.mk.injEq] at h; obtain ⟨rfl, rfl, rfl⟩ := h; exact wp_skip hq
  | ret => intro Q a w e a' w' h hq; simp only [runCode, Option.some.injEq, Prod.mk.injEq] at h; obtain ⟨rfl, rfl, rfl⟩ := h; exact wp_ret hq
  | exit id => intro Q a w e a' w' h hq; simp only [runCode, Option.some.injEq, Prod.mk.injEq] at h; obtain ⟨rfl, rfl, rfl⟩ := h; exact wp_exit hq
  | seq x y ihx ihy =>
    intro Q a w e a' w' h hq
    unfold runCode at h
    refine wp_seq ?_
    split at h
    · rename_i a1 w1 hx
      exact ihx _ _ _ _ _ hx (ihy _ _ _ _ _ h hq)
    · rename_i hx
      refine ihx _ _ _ _ _ h ?_
      cases e with
      | normal => exact (hx _ _ h).elim
      | _ => exact hq
  | cond c x y ihx ihy =>
    intro Q a w e a' w' h hq
    unfold runCode at h
    split at h
    · rename_i hc; exact wp_cond_true hc (ihx _ _ _ _ _ h hq)
    · rename_i hc; exact wp_cond_false hc (ihy _ _ _ _ _ h hq)
    · cases h
  | block id c ih =>
    intro Q a w e a' w' h hq
    unfold runCode at h
    refine wp_block ?_
    split at h
    · rename_i id' a1 w1 hc
      refine ih _ _ _ _ _ hc ?_
      split at h
      · rename_i he
        simp only [Option.some.injEq, Prod.mk.injEq] at h; obtain ⟨rfl, rfl, rfl⟩ := h
        simp only [Exit.inBlock, he, if_true]; exact hq
      · rename_i he
        simp only [Option.some.injEq, Prod.mk.injEq] at h; obtain ⟨rfl, rfl, rfl⟩ := h
        simp only [Exit.inBlock, he, if_false]; exact hq
    · rename_i hx
      refine ih _ _ _ _ _ h ?_
      cases e with
      | exit id' => exact (hx _ _ _ h).elim
      | _ => exact hq
  | region id ops draw =>
    intro Q a w e a' w' h hq
    cases draw with
    | true => simp [runCode] at h
    | false =>
      simp only [runCode, Option.map_eq_some_iff] at h
      obtain ⟨⟨a1, w1⟩, h1, h2⟩ := h
      simp only [Prod.mk.injEq] at h2
      obtain ⟨rfl, rfl, rfl⟩ := h2
      exact wp_region_list (runOps_sound _ _ _ _ _ h1 hq)
  | _ => intro Q a w e a' w' h hq; simp [runCode] at h

/-- What a straight function hands back, where the kernel can tell. -/
def runFn (P : Program) (fn : Func) (args : Array Value) (w : World) : Option (Value × World) :=
  match fn.body with
  | some c =>
    match runCode P c { tmps := args ++ Array.replicate (fn.ntmps - args.size) undef, defers := [] } w with
    | some (.ret, a, w') => if a.defers.isEmpty then (match (results fn a.tmps).run P w' with | .ok v w2 => some (v, w2) | _ => none) else none
    | _ => none
  | none => none
theorem calls_of_run {f : FuncId} {fn : Func} {args : Array Value} {w : World} {R : Ending → World → Prop} (hf : P.funcs[f]? = some fn) (v : Value) (w' : World) (hr : runFn P fn args w = some (v, w'))
    (hw : ∀ a w1, (results fn a).run P w1 = .ok v w' → w1 = w') (hR : R (.returned v) w') : Calls P f args w R := by
  unfold runFn at hr
  split at hr
  · rename_i c hb
    split at hr
    · rename_i a w1 hc
      split at hr
      · rename_i hd
        split at hr
        · rename_i v2 w2 hres
          simp only [Option.some.injEq, Prod.mk.injEq] at hr
          obtain ⟨rfl, rfl⟩ := hr
          have e := hw _ _ hres
          subst e
          exact calls_of_wp hf hb (runCode_sound c _ _ _ _ _ hc ⟨by simpa using hd, v2, hres, hR⟩)
        · cases hr
      · cases hr
    · cases hr
  · cases hr
theorem results_keep {fn : Func} {t : Tmp} (h : fn.results = #[.tmp t]) {v : Value} {w' : World} : ∀ a w1, (results fn a).run P w1 = .ok v w' → w1 = w' := by
  intro a w1 h1
  rw [results_tmp h] at h1
  simp only [Result.ok.injEq] at h1
  exact h1.2
end
end Go.Proofs.Ytekodpcedjpnjaa
