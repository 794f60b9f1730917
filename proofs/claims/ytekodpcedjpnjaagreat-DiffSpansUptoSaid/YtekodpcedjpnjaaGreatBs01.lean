/- Small words that all proofs of this seat use: rows of cells in memory, what abides under growth, and two laws for a region that draws its order inside a fence (a still head, then a tail in one forced order). No condition. The order of a region in which the operations stand is a lexical one: a check that the kernel makes fast also where there are many operations. No condition. Regions that draw their order, at the class of all worlds that are as they were below a block. Regions that draw their order, from a world that is as another was below a block. No condition. A loop over an iterator that reads, behind each round, a block that it has made itself: the block goes by a ghost number, and the body keeps it. No condition. What an iterator needs of the worlds between two rounds: its blocks abide. No condition. Worlds that are as they were below a block, but for one block; and whose blocks that are no cells abide. No condition. A region that draws its order: first operations that read, then acts in one forced order, the last of which may write what was read. No condition. A region that draws its order: operations that read are taken where they stand ready and free; the others one after the other in a forced order, the last of which may write what was read. No condition. A drawn region inside a fence: reads, then acts; boxes and rows that abide. No condition. A region that draws its order: reads are taken where they stand ready and free; of the acts, each that may come next. R i: what operation i must keep, so that the reads that may still come are true. No condition. A region that draws its order: as the mixed law (RegT), but that the last act may wait through other operations for what was read. No condition. -/
import Derived.WalkKit
import Derived.Lib.Hide
import Derived.WalkLawsBesides
import Derived.StillTailTactics
import Derived.RangeFuncNested
import Derived.RangeFuncBound
import Derived.RangeFuncCalls
import Derived.RangeFuncLeaves
import Derived.Shelf.Abstract
import Derived.Shelf.RegionOpen
import Derived.OwnWalkIn
import Derived.TacticsInMore
import Derived.LoopNIn
import Derived.LoopIn
import Derived.BigQuiet
import Derived.Deep.QuietTactic
import Derived.OrdersIn
import Derived.Still
import Derived.Shelf.RegionOpenPlain
import Derived.RangeFuncFrom
import Derived.RangeFuncWrites
import Derived.OrdersHeld
import Derived.Deep.RegionHeldLaw
import Derived.RangeFuncBox
import Derived.Maps.OwnIn
set_option linter.unusedVariables false
set_option linter.unusedSimpArgs false
namespace Go.Proofs.YtekodpcedjpnjaaGreat
open Go.RowKit
def nth {α : Type} (d : α) (l : List α) (j : Nat) : α := l.getD j d
theorem nth_eq {α : Type} (d : α) (l : List α) (j : Nat) (h : j < l.length) : nth d l j = l[j] := by simp [nth, h]
def RowAt (B : Nat) (w : World) (a : Option Addr) (vs : List Value) : Prop :=
  ∀ j, j < vs.length → ∃ b off, a = some ⟨b, off, none⟩ ∧ b < B ∧ w.cell? ⟨b, off + j, none⟩ = some (nth undef vs j)
theorem RowAt.below {B : Nat} {w w' : World} {a : Option Addr} {vs : List Value} (h : RowAt B w a vs) (hb : Below B w w') : RowAt B w' a vs := fun j hj => by
  obtain ⟨b, off, e, hlt, hc⟩ := h j hj
  exact ⟨b, off, e, hlt, (hb.cell (p := ⟨b, off + j, none⟩) hlt).trans hc⟩
theorem RowAt.more {B B' : Nat} {w : World} {a : Option Addr} {vs : List Value} (h : RowAt B w a vs) (hB : B ≤ B') : RowAt B' w a vs := fun j hj => by
  obtain ⟨b, off, e, hlt, hc⟩ := h j hj
  exact ⟨b, off, e, by omega, hc⟩
theorem RowAt.nil (B : Nat) (w : World) (a : Option Addr) : RowAt B w a [] := fun j hj => by simp at hj
theorem nth_map {α : Type} (f : α → Value) (d : α) (l : List α) (j : Nat) (h : j < l.length) : nth undef (l.map f) j = f (nth d l j) := by simp [nth, h]
theorem RowAt.new (w : World) (vs : List Value) (e : TypeId) : RowAt (w.alloc (.cells vs.toArray e)).heap.size (w.alloc (.cells vs.toArray e)) (some ⟨w.heap.size, 0, none⟩) vs := fun j hj => by
  refine ⟨w.heap.size, 0, rfl, by simp, ?_⟩
  have h0 : (w.alloc (.cells vs.toArray e)).heap[w.heap.size]? = some (.cells vs.toArray e) := World.alloc_heap_new w _
  unfold World.cell?
  dsimp only
  rw [h0]
  simp [nth, hj]
theorem bcell {W w1 : World} {B : Nat} (hb : Below B W w1) : (∀ b o, b < B → w1.cell? ⟨b, o, none⟩ = W.cell? ⟨b, o, none⟩) ∧ (∀ b o, b < B → w1.frozen? ⟨b, o, none⟩ = W.frozen? ⟨b, o, none⟩) :=
  ⟨fun b o h => hb.cell (p := ⟨b, o, none⟩) h, fun b o h => hb.frozen (p := ⟨b, o, none⟩) h⟩
theorem bto {B : Nat} {w w' w'' : World} (h : Below B w w') (h' : Below w'.heap.size w' w'') (hB : B ≤ w'.heap.size) : Below B w w'' := h.trans (h'.mono hB)
theorem bnext {w w' w'' : World} (h : Below w.heap.size w w') (h' : Below w'.heap.size w' w'') : Below w.heap.size w w'' := h.trans (h'.mono h.size)
theorem cell_new_l (W : World) (v : Value) (t : TypeId) : (W.alloc (.cells #[v] t)).cell? ⟨W.heap.size, 0, none⟩ = some v ∧ (W.alloc (.cells #[v] t)).frozen? ⟨W.heap.size, 0, none⟩ = false := by
  have h : (W.alloc (.cells #[v] t)).heap[W.heap.size]? = some (.cells #[v] t) := World.alloc_heap_new W _
  unfold World.cell? World.frozen?
  dsimp only
  rw [h]
  exact ⟨rfl, by simp⟩
theorem cell_alloc_l {W : World} {a : Addr} {v : Value} (o : Obj) (h : W.cell? a = some v) : (W.alloc o).cell? a = some v := cell_kept h (World.grownBy_alloc W o none) (fun r e => by cases e)
theorem frozen_alloc_l {W : World} {a : Addr} {v : Value} (o : Obj) (h : W.cell? a = some v) (hf : W.frozen? a = false) : (W.alloc o).frozen? a = false := (frozen_kept h (World.grownBy_alloc W o none) (fun r e => by cases e)).trans hf
theorem ret_bool {a b : Bool} (h : a = b) : Ending.returned (.bool a) = .returned (.bool b) := by rw [h]
theorem ret_int {k : IntKind} {a b : Int} (h : a = b) : Ending.returned (.int k a) = .returned (.int k b) := by rw [h]
theorem ret_str {a b : ByteArray} (h : a = b) : Ending.returned (.string a) = .returned (.string b) := by rw [h]
section
variable {P : Program} {ops : Array Oper} {md : Region.Mode} {w : World} {l₀ : Option Nat} {n : Nat}
def wideAt (l₀ : Option Nat) : Fence := { Fence.wide with round := l₀ }
theorem callsIn_wideAt {n : Nat} {l₀ : Option Nat} {f : FuncId} {args : Array Value} {w : World} {R : Ending → World → Prop} (h : Calls P f args w R) : CallsIn (wideAt l₀) n P f args w R := by
  cases l₀ with
  | none => exact callsIn_wide.2 h
  | some l => exact CallsIn.inRound l (callsIn_wide.2 h)
def noDefer (ops : Array Oper) : Bool := ops.toList.all fun o => match o.op with | .defer _ => false | _ => true
theorem noDefer_spec (h : noDefer ops = true) {i : Nat} {o : Oper} (ho : ops[i]? = some o) : ∀ c, o.op ≠ .defer c := by
  intro c hc
  have hm : o ∈ ops.toList := by
    rw [Array.mem_toList_iff]; exact Array.mem_of_getElem? ho
  have := List.all_eq_true.1 h o hm
  rw [hc] at this
  cases this
theorem uponIn_of_upon {o : Oper} {a : Act} {next : Act → World → Prop} {Q : Exit → Act → World → Prop} {r : Result Next} (h : o.upon P a next Q r) :
    o.uponIn (wideAt l₀) n P a next Q r := by
  cases r with
  | ok x w' =>
    cases x <;> simp only [Oper.upon, Oper.uponIn] at h ⊢ <;> first
      | exact h
      | exact ⟨fun hd => (by cases hd), (callsIn_wideAt h).mono fun e w2 he => (by cases e <;> exact he)⟩
      | (refine ⟨fun hd => (by cases hd), fun c cs _ => ?_⟩
         obtain ⟨v, w2, hR, hs⟩ := h c cs
         refine ⟨v, w2, hR, ?_⟩
         have hs2 := (StepsIn.of_steps hs).mono (I' := Machine.fenced P Fence.wide) (fun m _ => fenced_wide P m)
         cases l₀ <;> exact hs2)
      | exact h.elim
  | halt x w' => cases x <;> simp only [Oper.upon, Oper.uponIn] at h ⊢ <;> first | exact h | exact h.elim
theorem wpOpIn_of_wpOp {Q : Exit → Act → World → Prop} (hq : ∀ a w, ¬ Q .outgrown a w) (hd : noDefer ops = true) {i : Nat} {K : Act → World → Prop} {a : Act} {w : World}
    (h : wpOp P ops Q i K a w) : wpOpIn (wideAt l₀) n P ops Q i K a w := by
  unfold wpOp at h
  unfold wpOpIn
  split
  · rename_i ho; simp only [ho] at h; exact h
  · rename_i o ho
    simp only [ho] at h
    split
    · rename_i hw
      simp only [hw, if_true] at h
      rcases h with h | ⟨_, a₀, w₀, hl⟩
      · refine ⟨fun _ _ => trivial, ?_⟩
        rw [Oper.semAt_eq _ _ _ (noDefer_spec hd ho)]
        exact uponIn_of_upon h
      · exact (hq _ _ hl).elim
    · rename_i hw
      rw [if_neg hw] at h
      exact ⟨fun _ _ => trivial, h⟩
theorem wpAnyIn_of_wpAny {Q : Exit → Act → World → Prop} (hq : ∀ a w, ¬ Q .outgrown a w) (hd : noDefer ops = true) : ∀ (fuel : Nat) (listed : Array Bool) (a : Act) (w : World),
    wpAny P md ops Q fuel listed a w → wpAnyIn (wideAt l₀) n P md ops Q fuel listed a w
  | 0, _, _, _, h => h
  | fuel + 1, _, _, _, h => ⟨h.1, fun i hi => wpOpIn_mono (fun a' w' => wpAnyIn_of_wpAny hq hd fuel _ a' w') (wpOpIn_of_wpOp hq hd (h.2 i hi))⟩
theorem wpOpIn_of_stOp {i : Nat} {a : Act} {K : Act → Prop} {K' : Act → World → Prop} {Q' : Exit → Act → World → Prop} (hd : noDefer ops = true) (h : ∀ a, K a → K' a w) (hh : stOp P ops w i K a) :
    wpOpIn (wideAt l₀) n P ops Q' i K' a w := by
  unfold stOp at hh
  unfold wpOpIn
  split
  · rename_i ho; simp only [ho] at hh; exact h _ hh
  · rename_i o ho
    simp only [ho] at hh
    split
    · rename_i hw
      simp only [hw, if_true] at hh
      refine ⟨fun _ _ => trivial, ?_⟩
      rw [Oper.semAt_eq _ _ _ (noDefer_spec hd ho)]
      exact uponIn_of_upon (Oper.wp_of_still h hh)
    · rename_i hw; rw [if_neg hw] at hh; exact ⟨fun _ _ => trivial, h _ hh⟩
theorem wpAnyIn_of_head {n₁ g : Nat} {L : Array Bool → Act → Prop} {Q' : Exit → Act → World → Prop} (hd : noDefer ops = true) (hL : ∀ listed a, L listed a → wpAnyIn (wideAt l₀) n P md ops Q' g listed a w) :
    ∀ (f : Nat) (listed : Array Bool) (a : Act), wpAnyL P md ops w n₁ L f listed a → wpAnyIn (wideAt l₀) n P md ops Q' (f + g) listed a w
  | 0, listed, a, h => by rw [Nat.zero_add]; exact hL _ _ h
  | f + 1, listed, a, h => by
    rw [show f + 1 + g = (f + g) + 1 by omega]
    exact ⟨fun h0 => absurd h0 h.1, fun i hi => wpOpIn_of_stOp hd (fun a' h' => wpAnyIn_of_head hd hL f _ a' h') (h.2 i hi).2⟩
theorem wpAnyIn_of_seq {Q' : Exit → Act → World → Prop} : ∀ (l : List Oper) (k : Nat) (listed : Array Bool) (a : Act) (w : World), (∀ j, l[j]? = ops[k + j]?) →
    Region.seqB md ops l.length k listed = true → wpListIn (wideAt l₀) n P ops Q' l a w → wpAnyIn (wideAt l₀) n P md ops Q' l.length listed a w
  | [], _, _, _, _, _, hB, h => ⟨by simpa [Region.seqB] using hB, h⟩
  | o :: l, k, listed, a, w, hl, hB, h => by
    have h0 : ops[k]? = some o := by simpa using (hl 0).symm
    simp only [List.length_cons, Region.seqB, Bool.and_eq_true, decide_eq_true_eq] at hB
    refine ⟨fun h1 => (by rw [hB.1] at h1; cases h1), fun i hi => ?_⟩
    rw [hB.1] at hi
    have hik : i = k := by simpa using hi
    subst hik
    have hw : wpOpIn (wideAt l₀) n P ops Q' i (wpListIn (wideAt l₀) n P ops Q' l) a w := by unfold wpOpIn; simp only [h0]; exact h
    exact wpOpIn_mono (fun a' w' h' => wpAnyIn_of_seq l (i + 1) _ a' w' (fun j => by have := hl (j + 1); simpa [Nat.add_assoc, Nat.add_comm 1 j] using this) hB.2 h') hw
theorem wpIn_region_still_tail {id : Nat} {Q : Exit → Act → World → Prop} {a : Act} {w : World} {l : List Oper} (n₁ : Nat) (hm : P.follows .mixedOrders = true) (hB : Region.lexTailB .any l.toArray n₁ = true)
    (hd : noDefer l.toArray = true)
    (h : wpStill P l.toArray { w with drawn := w.drawn + 1 } (fun a' => wpListIn (wideAt l₀) n P l.toArray Q (l.drop n₁) a' { w with drawn := w.drawn + 1 }) (l.take n₁) a) : (Code.region id l.toArray true).wpIn (wideAt l₀) n P Q a w := by
  simp only [Region.lexTailB, Bool.and_eq_true, decide_eq_true_eq] at hB
  obtain ⟨⟨⟨⟨hsel, hn⟩, hs⟩, hc⟩, hlex⟩ := hB
  have hn' : n₁ < l.length := by simpa using hn
  have htl : (l.take n₁).length = n₁ := by simp; omega
  have hdl : (l.drop n₁).length = l.toArray.size - n₁ := by simp
  have inv0 : HeadInv .any l.toArray n₁ (Array.replicate l.toArray.size false) :=
    ⟨by simp, fun j oj _ hl => (by rw [getD_replicate_false] at hl; cases hl), fun t _ ht => getD_in (by simpa using ht) (getD_replicate_false _ _)⟩
  have H := wpAnyL_lex (md := .any) (g := l.toArray.size - n₁) hsel hs hc hn (l.take n₁) 0 _ a (fun j hj => by
    have hj' : j < n₁ := by rw [htl] at hj; exact hj
    simp [hj']) (by simpa using htl) inv0 (by rw [htl]; exact hlex) h
  refine wpIn_region_any hm ?_
  have := wpAnyIn_of_head (Q' := Q) (n := n) (l₀ := l₀) (g := l.toArray.size - n₁) hd (fun listed a' hL => by
    have := wpAnyIn_of_seq (md := .any) (Q' := Q) (n := n) (l₀ := l₀) (l.drop n₁) n₁ listed a' { w with drawn := w.drawn + 1 } (fun j => by simp [List.getElem?_drop]) (by rw [hdl]; exact hL.1) hL.2
    rwa [hdl] at this) _ _ _ H
  rw [htl, show n₁ + (l.toArray.size - n₁) = l.toArray.size by omega] at this
  exact this
end
section
variable {P : Program}
def runOps (P : Program) (ops : Array Oper) : List Oper → Act → World → Option (Act × World)
  | [], a, w => some (a, w)
  | o :: rest, a, w =>
    if Region.wanted o (yielded ops a.tmps) then
      match (execOp a.eval o).run P w with
      | .ok (.value v) w' => runOps P ops rest (a.put o.dst v) w'
      | _ => none
    else runOps P ops rest (a.put o.dst undef) w
theorem runOps_sound {ops : Array Oper} {Q : Exit → Act → World → Prop} : ∀ (l : List Oper) (a : Act) (w : World) (a' : Act) (w' : World), runOps P ops l a w = some (a', w') → Q .normal a' w' → wpList P ops Q l a w
  | [], a, w, a', w', h, hq => by simp only [runOps, Option.some.injEq, Prod.mk.injEq] at h; obtain ⟨rfl, rfl⟩ := h; exact hq
  | o :: l, a, w, a', w', h, hq => by
    unfold runOps at h
    unfold wpList
    split at h
    · rename_i hw
      rw [if_pos hw]
      split at h
      · rename_i v w1 hr
        refine .inl ?_
        unfold Oper.wp
        rw [hr]
        exact runOps_sound l _ _ _ _ h hq
      · cases h
    · rename_i hw
      rw [if_neg hw]
      exact runOps_sound l _ _ _ _ h hq
def runCode (P : Program) : Code → Act → World → Option (Exit × Act × World)
  | .skip, a, w => some (.normal, a, w)
  | .seq x y, a, w =>
    match runCode P x a w with
    | some (.normal, a1, w1) => runCode P y a1 w1
    | r => r
  | .cond c x y, a, w =>
    match a.eval c with
    | .bool true => runCode P x a w
    | .bool false => runCode P y a w
    | _ => none
  | .block id c, a, w =>
    match runCode P c a w with
    | some (.exit id', a1, w1) => if id' = id then some (.normal, a1, w1) else some (.exit id', a1, w1)
    | r => r
  | .ret, a, w => some (.ret, a, w)
  | .exit id, a, w => some (.exit id, a, w)
  | .region _ ops false, a, w => (runOps P ops ops.toList a w).map fun x => (.normal, x.1, x.2)
  | _, _, _ => none
theorem runCode_sound (c : Code) : ∀ {Q : Exit → Act → World → Prop} (a : Act) (w : World) (e : Exit) (a' : Act) (w' : World), runCode P c a w = some (e, a', w') → Q e a' w' → c.wp P Q a w := by
  induction c with
  | skip => intro Q a w e a' w' h hq; simp only [runCode, Option.some.injEq, Prod.mk.injEq] at h; obtain ⟨rfl, rfl, rfl⟩ := h; exact wp_skip hq
  | ret => intro Q a w e a' w' h hq; simp only [runCode, Option.some.injEq, Prod.mk.injEq] at h; obtain ⟨rfl, rfl, rfl⟩ := h; exact wp_ret hq
  | exit id => intro Q a w e a' w' h hq; simp only [runCode, Option.some.injEq, Prod.mk.injEq] at h; obtain ⟨rfl, rfl, rfl⟩ := h; exact wp_exit hq
  | seq x y ihx ihy =>
    intro Q a w e a' w' h hq
    unfold runCode at h
    refine wp_seq ?_
    split at h
    · rename_i a1 w1 hx
      exact ihx _ _ _ _ _ hx (ihy _ _ _ _ _ h hq)
    · rename_i hx
      refine ihx _ _ _ _ _ h ?_
      cases e with
      | normal => exact (hx _ _ h).elim
      | _ => exact hq
  | cond c x y ihx ihy =>
    intro Q a w e a' w' h hq
    unfold runCode at h
    split at h
    · rename_i hc; exact wp_cond_true hc (ihx _ _ _ _ _ h hq)
    · rename_i hc; exact wp_cond_false hc (ihy _ _ _ _ _ h hq)
    · cases h
  | block id c ih =>
    intro Q a w e a' w' h hq
    unfold runCode at h
    refine wp_block ?_
    split at h
    · rename_i id' a1 w1 hc
      refine ih _ _ _ _ _ hc ?_
      split at h
      · rename_i he
        simp only [Option.some.injEq, Prod.mk.injEq] at h; obtain ⟨rfl, rfl, rfl⟩ := h
        simp only [Exit.inBlock, he, if_true]; exact hq
      · rename_i he
        simp only [Option.some.injEq, Prod.mk.injEq] at h; obtain ⟨rfl, rfl, rfl⟩ := h
        simp only [Exit.inBlock, he, if_false]; exact hq
    · rename_i hx
      refine ih _ _ _ _ _ h ?_
      cases e with
      | exit id' => exact (hx _ _ _ h).elim
      | _ => exact hq
  | region id ops draw =>
    intro Q a w e a' w' h hq
    cases draw with
    | true => simp [runCode] at h
    | false =>
      simp only [runCode, Option.map_eq_some_iff] at h
      obtain ⟨⟨a1, w1⟩, h1, h2⟩ := h
      simp only [Prod.mk.injEq] at h2
      obtain ⟨rfl, rfl, rfl⟩ := h2
      exact wp_region_list (runOps_sound _ _ _ _ _ h1 hq)
  | _ => intro Q a w e a' w' h hq; simp [runCode] at h
def runFn (P : Program) (fn : Func) (args : Array Value) (w : World) : Option (Value × World) :=
  match fn.body with
  | some c =>
    match runCode P c { tmps := args ++ Array.replicate (fn.ntmps - args.size) undef, defers := [] } w with
    | some (.ret, a, w') => if a.defers.isEmpty then (match (results fn a.tmps).run P w' with | .ok v w2 => some (v, w2) | _ => none) else none
    | _ => none
  | none => none
theorem calls_of_run {f : FuncId} {fn : Func} {args : Array Value} {w : World} {R : Ending → World → Prop} (hf : P.funcs[f]? = some fn) (v : Value) (w' : World) (hr : runFn P fn args w = some (v, w'))
    (hw : ∀ a w1, (results fn a).run P w1 = .ok v w' → w1 = w') (hR : R (.returned v) w') : Calls P f args w R := by
  unfold runFn at hr
  split at hr
  · rename_i c hb
    split at hr
    · rename_i a w1 hc
      split at hr
      · rename_i hd
        split at hr
        · rename_i v2 w2 hres
          simp only [Option.some.injEq, Prod.mk.injEq] at hr
          obtain ⟨rfl, rfl⟩ := hr
          have e := hw _ _ hres
          subst e
          exact calls_of_wp hf hb (runCode_sound c _ _ _ _ _ hc ⟨by simpa using hd, v2, hres, hR⟩)
        · cases hr
      · cases hr
    · cases hr
  · cases hr
theorem results_keep {fn : Func} {t : Tmp} (h : fn.results = #[.tmp t]) {v : Value} {w' : World} : ∀ a w1, (results fn a).run P w1 = .ok v w' → w1 = w' := by
  intro a w1 h1
  rw [results_tmp h] at h1
  simp only [Result.ok.injEq] at h1
  exact h1.2
end
end Go.Proofs.YtekodpcedjpnjaaGreat
namespace Go.Proofs.YtekodpcedjpnjaaGreat
section
variable {md : Region.Mode} {ops : Array Oper}
def fastFrom (md : Region.Mode) (ops : Array Oper) : Nat → List Oper → Bool
  | _, [] => true
  | k, o :: l => (o.after.toList.all fun e => !Region.binds md e || Nat.blt e.on k) && ((l.all fun oj => oj.after.toList.any (fun e => Region.binds md e && Nat.beq e.on k) || o.apart ops oj) && fastFrom md ops (k + 1) l)
def fastB (md : Region.Mode) (ops : Array Oper) : Bool := Region.noSelect ops && fastFrom md ops 0 ops.toList
theorem fast_lex (l : List Oper) : ∀ (k : Nat) (listed : Array Bool), (∀ j, l[j]? = ops[k + j]?) → listed.size = ops.size → (∀ j, j < ops.size → listed[j]? = some (decide (j < k))) → k + l.length = ops.size →
    fastFrom md ops k l = true → Region.lexFrom md ops l.length k listed = true := by
  induction l with
  | nil =>
    intro k listed hl hs hj hk _
    simp only [List.length_nil, Nat.add_zero] at hk
    simp only [List.length_nil, Region.lexFrom, List.isEmpty_iff]
    unfold Region.ready
    rw [List.filter_eq_nil_iff]
    intro i hi
    have hi' := List.mem_range.1 hi
    have := hj i hi'
    have e : listed.getD i true = true := by rw [Array.getD_eq_getD_getElem?, this]; simp; omega
    simp [e]
  | cons o l ih =>
    intro k listed hl hs hj hk hB
    simp only [List.length_cons] at hk
    have h0 : ops[k]? = some o := by simpa using (hl 0).symm
    have hkn : k < ops.size := by omega
    simp only [fastFrom, Bool.and_eq_true] at hB
    obtain ⟨hA, hF, hR⟩ := hB
    have ek : listed.getD k true = false := by rw [Array.getD_eq_getD_getElem?, hj k hkn]; simp
    simp only [List.length_cons, Region.lexFrom, Bool.and_eq_true]
    refine ⟨⟨?_, ?_⟩, ?_⟩
    · rw [List.contains_iff_mem]
      unfold Region.ready
      rw [List.mem_filter]
      refine ⟨List.mem_range.2 hkn, ?_⟩
      rw [ek, h0]
      simp only [Bool.not_false, Bool.true_and, Option.map_some, Option.getD_some]
      rw [← Array.all_toList]
      rw [List.all_eq_true] at hA ⊢
      intro e he
      have := hA e he
      simp only [Bool.or_eq_true] at this ⊢
      rcases this with h | h
      · exact .inl h
      · have h' : e.on < k := by simpa [Nat.blt_eq] using h
        refine .inr ?_
        rw [Array.getD_eq_getD_getElem?, hj e.on (by omega)]
        simpa using h'
    · unfold Region.free
      simp only [h0]
      rw [List.all_eq_true]
      intro j hjr
      have hjn := List.mem_range.1 hjr
      by_cases h1 : j = k
      · simp [h1]
      · by_cases h2 : j < k
        · have : listed.getD j true = true := by rw [Array.getD_eq_getD_getElem?, hj j hjn]; simpa using h2
          simp [this]
        · have hoj : ops[j]? = some ops[j] := Array.getElem?_eq_getElem hjn
          have hm : ops[j] ∈ l := by
            have := hl (j - k)
            rw [show k + (j - k) = j by omega, hoj] at this
            obtain ⟨m, hm⟩ : ∃ m, j - k = m + 1 := ⟨j - k - 1, by omega⟩
            rw [hm, List.getElem?_cons_succ] at this
            exact List.mem_of_getElem? this
          have := (List.all_eq_true.1 hF) _ hm
          simp only [hoj, Bool.or_eq_true] at this ⊢
          refine .inr ?_
          rcases this with h | h
          · refine .inl ?_
            rw [← Array.any_toList]
            rw [List.any_eq_true] at h ⊢
            obtain ⟨e, he, hb⟩ := h
            refine ⟨e, he, ?_⟩
            simp only [Bool.and_eq_true] at hb ⊢
            exact ⟨hb.1, by simpa using Nat.eq_of_beq_eq_true hb.2⟩
          · exact .inr h
    · refine ih (k + 1) _ (fun j => by have := hl (j + 1); simpa [Nat.add_assoc, Nat.add_comm 1 j] using this) (by simpa using hs) (fun j hjn => ?_) (by omega) hR
      rw [Array.getElem?_setIfInBounds]
      by_cases h : k = j
      · subst h
        simp [hs, hjn]
      · rw [if_neg h, hj j hjn]
        congr 1
        rw [decide_eq_decide]
        omega
theorem lexB_fast (h : fastB md ops = true) : Region.lexB md ops = true := by
  simp only [fastB, Bool.and_eq_true] at h
  simp only [Region.lexB, Bool.and_eq_true]
  refine ⟨h.1, ?_⟩
  have := fast_lex ops.toList 0 (Array.replicate ops.size false) (by simp) (by simp) (fun j hj => by simp [hj]) (by simp) h.2
  simpa using this
end
end Go.Proofs.YtekodpcedjpnjaaGreat
namespace Go.Proofs.YtekodpcedjpnjaaGreat
open Go.RowKit
structure BW (B : Nat) (w : World) where
  W : World
  h : Below B w W
instance instBW (B : Nat) (w : World) : Nonempty (BW B w) := ⟨⟨w, Below.refl _ _⟩⟩
theorem wp_region_bw {P : Program} {id : Nat} {Q : Exit → Act → World → Prop} {a : Act} {w : World} {l : List Oper} (B : Nat) (hm : P.follows .mixedOrders = true) (hB : Region.lexB .any l.toArray = true)
    (h : wpQuiet P l.toArray (fun w' => ∃ p : BW B w, w' = p.W) (fun a' => ∀ w', (∃ p : BW B w, w' = p.W) → Q .normal a' w') l a) : (Code.region id l.toArray true).wp P Q a w :=
  wp_region_quiet (C := fun w' => ∃ p : BW B w, w' = p.W) hm hB ⟨⟨{ w with drawn := w.drawn + 1 }, ⟨rfl, rfl, rfl, Nat.le_refl _, fun _ _ => rfl⟩⟩, rfl⟩ (by simpa using h)
theorem Calls.bw_of {P : Program} {f : FuncId} {args : Array Value} {B : Nat} {w : World} {p : BW B w} {v : Value} (hB : B ≤ w.heap.size)
    (h : Calls P f args p.W fun e w' => e = .returned v ∧ Below p.W.heap.size p.W w') : Calls P f args p.W fun e w'' => e = .returned v ∧ ∃ q : BW B w, w'' = q.W :=
  h.mono fun _ _ ⟨he, hb⟩ => ⟨he, ⟨_, bto p.h hb (Nat.le_trans hB p.h.size)⟩, rfl⟩
theorem BW.cell {B : Nat} {w : World} (p : BW B w) {a : Addr} {v : Value} (hb : a.block < B) (h : w.cell? a = some v) : p.W.cell? a = some v := (p.h.cell hb).trans h
end Go.Proofs.YtekodpcedjpnjaaGreat
namespace Go.Proofs.YtekodpcedjpnjaaGreat
open Go.RowKit
end Go.Proofs.YtekodpcedjpnjaaGreat
namespace Go.Proofs.YtekodpcedjpnjaaGreat
open Go.RowKit
def SeqG {α : Type} (F : Fence) (n : Nat) (P : Program) (gf : Nat) (lb : Array Value) (encs : α → Array Value) (Kp : World → World → Prop) (X : Nat → List α → α → World → Prop) (S Sp : List α → Prop) (N : Nat) (w : World) : Prop :=
  ∀ (l : Nat) (J Jx : Nat → List α → World → Prop) (W : World), Below w.heap.size w W → (∀ g, AbidesFrom W.heap.size (J g)) → (∀ g, AbidesFrom W.heap.size (Jx g)) →
    (∀ g pre x W1, W.heap.size ≤ g → J g pre W1 → X g pre x W1 → pre.length < N → YieldAt F (n - 1) P l (encs x) W1 fun e W' =>
      (e = .returned (.bool true) ∧ J g (pre ++ [x]) W' ∧ (Kp W1 W' ∧ W'.heap[g]? = W1.heap[g]?)) ∨ (e = .returned (.bool false) ∧ Jx g (pre ++ [x]) W')) →
    (∀ g, W.heap.size ≤ g → J g [] W) →
    CallsIn F n P gf (#[.func (.yield l) #[] #[]] ++ lb) W fun e W' => (∃ v, e = .returned v) ∧ ∃ g, ((∃ xs, S xs ∧ J g xs W') ∨ (∃ pre, Sp pre ∧ Jx g pre W'))
section
variable {F : Fence} {n : Nat} {P : Program}
theorem wpIn_rangeFunc_GH {α : Type} {g : Operand} {ps : Array Tmp} {assign body : Code} {Q : Exit → Act → World → Prop} {a : Act} {w : World}
    (hro : F.round = none) (h1 : 1 ≤ n) {gf : Nat} {lb : Array Value} (hg : a.eval g = .func (.func gf) #[] lb) (hFg : F.fn gf) (eg : ∀ args w, (callFunc gf args).run P w = .ok (.enter gf args) w)
    {encs : α → Array Value} {Kp : World → World → Prop} {X : Nat → List α → α → World → Prop} {S Sp : List α → Prop} {N : Nat} {w0 : World} (hseq : SeqG F (n - 1) P gf lb encs Kp X S Sp N w0)
    (hKt : ∀ {A B C : World}, Kp A B → Kp B C → Kp A C) (hKb : ∀ (W : World) (l : Nat) (o o' : Obj), w.heap.size ≤ l → W.heap[l]? = some o → o.isCells = false → o.isWalk = false → Kp W (W.putObj l o')) (hb0 : Below w0.heap.size w0 w) (hps : ∀ x, (encs x).size = ps.size)
    (I : Nat → List α → World → Prop) (Ix : Nat → Code → List α → World → Prop) (hI : ∀ g, OwnFrom w.heap.size (I g)) (hIx : ∀ g c, OwnFrom w.heap.size (Ix g c)) (hX : ∀ g x, OwnFrom w.heap.size (fun pre W => X g pre x W)) (h0 : ∀ g, w.heap.size + 2 ≤ g → I g [] w) (a₁ : α → Act)
    (hassign : ∀ (l : Nat) (x : α) (W : World) (K : Act → World → Prop), K (a₁ x) W →
      assign.wpIn (F.inRound l) (n - 1 - 1) P (Exit.then K (fun _ _ _ => False)) { tmps := (ps.zip (encs x)).foldl (fun t (p, v) => t.setIfInBounds p v) a.tmps, defers := [] } W)
    (hbody : ∀ (l g : Nat) (pre : List α) (x : α) (W : World), w.heap.size ≤ l → l < W.heap.size → w.heap.size + 2 ≤ g → I g pre W → X g pre x W → pre.length < N → body.wpIn (F.inRound l) (n - 1 - 1) P (ownPostG w.heap.size (fun A B => Kp A B ∧ B.heap[g]? = A.heap[g]?) (I g) (Ix g) (pre ++ [x]) W) (a₁ x) W)
    (hdone : ∀ (D g : Nat) (xs : List α) (W : World), w.heap.size ≤ D → S xs → I g xs W → W.heap[D]? = some (.deferred (some [])) → Q .normal { a with defers := { target := .collected D, args := #[] } :: a.defers } W)
    (hstop : ∀ (D g : Nat) (c : Code) (pre : List α) (W : World), w.heap.size ≤ D → Sp pre → Ix g c pre W → W.heap[D]? = some (.deferred (some [])) → c.wpIn F n P Q { a with defers := { target := .collected D, args := #[] } :: a.defers } W) :
    (Code.rangeFunc g ps assign body).wpIn F n P Q a w := by
  refine wpIn_rangeFunc ?_
  intro fn hfn
  rw [hro]
  -- the loop's record, and the block for the rounds' deferred calls
  obtain ⟨R, hR⟩ : ∃ R : LoopState → Option Code → Loop, R = fun st pe => { state := st, pending := pe, fn, tmps := a.tmps, params := ps, assign, body, defers := w.heap.size } := ⟨_, rfl⟩
  obtain ⟨V, hV⟩ : ∃ V, (w.alloc (.deferred (some []))).alloc (.loop (R .ready none)) = V := ⟨_, rfl⟩
  have rec0 : V.heap[w.heap.size + 1]? = some (.loop (R .ready none)) := by
    have := World.alloc_heap_new (w.alloc (.deferred (some []))) (.loop (R .ready none))
    rw [World.size_alloc] at this
    rw [← hV]; exact this
  have def0 : V.heap[w.heap.size]? = some (.deferred (some [])) := by
    rw [← hV, Below.heap_alloc _ _ _ (by simp)]; exact World.alloc_heap_new w _
  have size0 : V.heap.size = w.heap.size + 1 + 1 := by rw [← hV]; simp
  have inv0 : ∀ g, V.heap.size ≤ g → I g [] V := fun g hg => by rw [← hV]; exact (hI g).alloc _ ((hI g).alloc _ (h0 g (by omega)))
  have below0 : Below w0.heap.size w0 V := by
    rw [← hV]; exact hb0.trans ((((Below.refl _ w).alloc (Nat.le_refl _) _).alloc (by simp) _).mono hb0.size)
  refine ⟨w.heap.size + 1, [{ target := .collected w.heap.size, args := #[] }], V, { target := .fn (.func gf) lb, args := #[.func (.yield (w.heap.size + 1)) #[] #[]] }, V, gf,
    #[.func (.yield (w.heap.size + 1)) #[] #[]] ++ lb, V, ?_, ?_, ?_, ?_, fun _ => h1, ?_⟩
  · rw [← hV, hR]; exact run_enterLoop_outer _ _ _ _ _
  · simp only [resolve, hg]
    simp [go_sem]
  · intro f' hf'; simp [Target.leads] at hf'; subst hf'; exact hFg
  · simp [invoke, go_sem, eg]
  · have far : ∀ {A : World} {row : Option Nat}, (∀ r, row = some r → V.heap.size ≤ r ∧ ∃ o : Obj, A.heap[r]? = some o ∧ o.isWalk = true) → ∀ r, row = some r → w.heap.size ≤ r ∧ ∃ o : Obj, A.heap[r]? = some o ∧ o.isCells = false := by
      intro A row hr r e
      obtain ⟨hB, o, ho, hw⟩ := hr r e
      exact ⟨by omega, o, ho, Obj.not_cells_of_walk hw⟩
    have stay : ∀ {A B : World} {row : Option Nat} {k : Nat} {o : Obj}, A.grownBy B row → (∀ r, row = some r → V.heap.size ≤ r ∧ ∃ o : Obj, A.heap[r]? = some o ∧ o.isWalk = true) → A.heap[k]? = some o → o.isWalk = false → B.heap[k]? = some o :=
      fun hg' hr hk ho => (grownBy_keeps hg' (fun r e => (hr r e).2) hk ho).trans hk
    refine (hseq (w.heap.size + 1)
      (fun g pre W => I g pre W ∧ W.heap[w.heap.size + 1]? = some (.loop (R .ready none)) ∧ W.heap[w.heap.size]? = some (.deferred (some [])))
      (fun g pre W => ∃ c, Ix g c pre W ∧ W.heap[w.heap.size + 1]? = some (.loop (R .done (some c))) ∧ W.heap[w.heap.size]? = some (.deferred (some [])))
      V below0
      (fun g s A B row hs hg' hr => ⟨hI g s A B row hs.1 hg' (far hr), stay hg' hr hs.2.1 rfl, stay hg' hr hs.2.2 rfl⟩)
      (fun g s A B row ⟨c, hc, hl, hk⟩ hg' hr => ⟨c, hIx g c s A B row hc hg' (far hr), stay hg' hr hl rfl, stay hg' hr hk rfl⟩)
      ?_ (fun g hg => ⟨inv0 g hg, rec0, def0⟩)).mono ?_
    · rintro gh pre x W hgh ⟨hi, hl, hk⟩ hx hlen
      have hgh2 : w.heap.size + 2 ≤ gh := by omega
      have hlt : w.heap.size + 1 < W.heap.size := (Array.getElem?_eq_some_iff.1 hl).1
      have hy := run_yield (P := P) (args := encs x) hl (by rw [hR]; exact hps x)
      rw [hR] at hy
      refine ⟨fn, _, assign, body, hy, roundIn_of_wpIn hfn (hassign _ x W _ ⟨_, run_beginRound hl (by rw [hR]), ?_⟩)⟩
      obtain ⟨W2, hW2⟩ : ∃ W2, W.putObj (w.heap.size + 1) (.loop { R .ready none with state := .busy }) = W2 := ⟨_, rfl⟩
      have hl2 : W2.heap[w.heap.size + 1]? = some (.loop { R .ready none with state := .busy }) := by rw [← hW2]; exact World.putObj_heap_same hlt
      have hk2 : W2.heap[w.heap.size]? = some (.deferred (some [])) := by rw [← hW2]; exact (World.putObj_heap_other (by omega)).trans hk
      have kp2 : Kp W W2 := by rw [← hW2]; exact hKb _ _ _ _ (by omega) hl rfl rfl
      have hg2 : W2.heap[gh]? = W.heap[gh]? := by rw [← hW2]; exact World.putObj_heap_other (by omega)
      have hi2 : I gh pre W2 := by rw [← hW2]; exact (hI gh).putObj _ hi (by omega) hl rfl
      have hx2 : X gh pre x W2 := by rw [← hW2]; exact (hX gh x).putObj _ hx (by omega) hl rfl
      rw [hW2]
      refine wpIn_mono (hbody _ gh pre x _ (by omega) (Array.getElem?_eq_some_iff.1 hl2).1 hgh2 hi2 hx2 hlen) ?_
      -- the round's end: what it turns in the record
      have fin : ∀ (jump : Option Code) (W3 : World), KeepsFrom w.heap.size W2 W3 →
          ∃ st, st = (if jump.isNone then LoopState.ready else LoopState.done) ∧
          (Instr.endRound (w.heap.size + 1) jump).run P W3 = .ok (.bool jump.isNone) (W3.putObj (w.heap.size + 1) (.loop (R st jump))) ∧
          W3.heap[w.heap.size + 1]? = some (.loop { R .ready none with state := .busy }) ∧
          (W3.putObj (w.heap.size + 1) (.loop (R st jump))).heap[w.heap.size + 1]? = some (.loop (R st jump)) ∧
          (W3.putObj (w.heap.size + 1) (.loop (R st jump))).heap[w.heap.size]? = some (.deferred (some [])) := by
        intro jump W3 hk3
        have hl3 := hk3.same _ _ (by omega) hl2 rfl
        have hrun := run_endRound (P := P) jump hl3
        rw [hR] at hrun hl3 ⊢
        exact ⟨_, rfl, hrun, hl3, World.putObj_heap_same (Array.getElem?_eq_some_iff.1 hl3).1, (World.putObj_heap_other (by omega)).trans (hk3.same _ _ (Nat.le_refl _) hk2 rfl)⟩
      intro e a3 W3 hp
      cases e with
      | normal =>
        obtain ⟨hk3, ⟨kp3, hg3⟩, hi3⟩ := hp
        obtain ⟨_, rfl, hr, hl3, hl4, hk4⟩ := fin none W3 hk3
        exact ⟨_, _, hr, .inl ⟨rfl, ⟨(hI gh).putObj _ hi3 (by omega) hl3 rfl, hl4, hk4⟩, hKt (hKt kp2 kp3) (hKb _ _ _ _ (by omega) hl3 rfl rfl), (World.putObj_heap_other (by omega)).trans (hg3.trans hg2)⟩⟩
      | ret =>
        obtain ⟨hk3, hi3⟩ := hp
        obtain ⟨_, rfl, hr, hl3, hl4, hk4⟩ := fin (some .ret) W3 hk3
        exact ⟨_, _, hr, .inr ⟨rfl, .ret, (hIx gh _).putObj _ hi3 (by omega) hl3 rfl, hl4, hk4⟩⟩
      | exit id =>
        obtain ⟨hk3, hi3⟩ := hp
        obtain ⟨_, rfl, hr, hl3, hl4, hk4⟩ := fin (some (.exit id)) W3 hk3
        exact ⟨_, _, hr, .inr ⟨rfl, .exit id, (hIx gh _).putObj _ hi3 (by omega) hl3 rfl, hl4, hk4⟩⟩
      | goto t =>
        obtain ⟨hk3, hi3⟩ := hp
        obtain ⟨_, rfl, hr, hl3, hl4, hk4⟩ := fin (some (.goto t)) W3 hk3
        exact ⟨_, _, hr, .inr ⟨rfl, .goto t, (hIx gh _).putObj _ hi3 (by omega) hl3 rfl, hl4, hk4⟩⟩
      | panic ch => exact hp.elim
      | outgrown => exact hp.elim
    · rintro e W2 ⟨⟨v, rfl⟩, gh, (⟨xs, hS, hi, hl, hk⟩ | ⟨pre, hSp, c, hi, hl, hk⟩)⟩
      · have hrun := run_endLoop (P := P) hl (by rw [hR]; simp)
        rw [hR] at hrun
        exact ⟨none, _, hrun, hdone _ gh xs _ (Nat.le_refl _) hS ((hI gh).putObj _ hi (by omega) hl rfl) ((World.putObj_heap_other (by omega)).trans hk)⟩
      · have hrun := run_endLoop (P := P) hl (by rw [hR]; simp)
        rw [hR] at hrun
        exact ⟨some c, _, hrun, hstop _ gh c pre _ (Nat.le_refl _) hSp ((hIx gh c).putObj _ hi (by omega) hl rfl) ((World.putObj_heap_other (by omega)).trans hk)⟩
end
end Go.Proofs.YtekodpcedjpnjaaGreat
namespace Go.Proofs.YtekodpcedjpnjaaGreat
open Go.RowKit Go.Shelf Go.Maps
theorem grown_of_below {W W' : World} (h : Below W.heap.size W W') : W.grownBy W' none := ⟨h.os, h.tape, h.output, h.size, fun k hk _ => h.block k hk⟩
structure KB (A B : Nat) (W W' : World) : Prop where
  a : W'.heap[A]? = W.heap[A]?
  b : W'.heap[B]? = W.heap[B]?
  size : W.heap.size ≤ W'.heap.size
theorem KB.refl (A B : Nat) (W : World) : KB A B W W := ⟨rfl, rfl, Nat.le_refl _⟩
theorem KB.trans {A B : Nat} {u v w : World} (h : KB A B u v) (k : KB A B v w) : KB A B u w := ⟨k.a.trans h.a, k.b.trans h.b, Nat.le_trans h.size k.size⟩
theorem KB.of_below {A B n : Nat} {W W' : World} (h : Below n W W') (ha : A < n) (hb : B < n) : KB A B W W' := ⟨h.block A ha, h.block B hb, h.size⟩
theorem KB.put {A B : Nat} {w : World} (ha : A < w.heap.size) (hb : B < w.heap.size) (W : World) (l : Nat) (o o' : Obj) (hl : w.heap.size ≤ l) (h : W.heap[l]? = some o) (h1 : o.isCells = false) (h2 : o.isWalk = false) : KB A B W (W.putObj l o') :=
  KB.of_below (belowK_b (Nat.le_refl _) W l o o' hl h h1 h2) ha hb
theorem KB.setCell {A B : Nat} (W : World) (b : Nat) (v : Value) (off : Nat) (ha : A ≠ b) (hb : B ≠ b) : KB A B W (W.setCell ⟨b, off, none⟩ v) :=
  ⟨Below.heap_setCell _ _ _ _ (by exact ha), Below.heap_setCell _ _ _ _ (by exact hb), by simp [World.setCell]⟩
theorem cell_block {W W' : World} {b o : Nat} (h : W'.heap[b]? = W.heap[b]?) : W'.cell? ⟨b, o, none⟩ = W.cell? ⟨b, o, none⟩ := by unfold World.cell?; dsimp only; rw [h]
end Go.Proofs.YtekodpcedjpnjaaGreat
namespace Go.Proofs.YtekodpcedjpnjaaGreat
open Go.RowKit Go.Shelf Go.Maps
structure But (n₀ B : Nat) (w w' : World) : Prop where
  os : w'.os = w.os
  tape : w'.tape = w.tape
  output : w'.output = w.output
  size : w.heap.size ≤ w'.heap.size
  block : ∀ k, k < n₀ → k ≠ B → w'.heap[k]? = w.heap[k]?
  others : KeepsOthers w w'
theorem But.refl (n₀ B : Nat) (w : World) : But n₀ B w w := ⟨rfl, rfl, rfl, Nat.le_refl _, fun _ _ _ => rfl, KeepsOthers.refl _⟩
theorem But.trans {n₀ B : Nat} {a b c : World} (h : But n₀ B a b) (k : But n₀ B b c) : But n₀ B a c :=
  ⟨k.os.trans h.os, k.tape.trans h.tape, k.output.trans h.output, Nat.le_trans h.size k.size, fun j h1 h2 => (k.block j h1 h2).trans (h.block j h1 h2), h.others.trans k.others⟩
theorem others_of_below {w w' : World} (h : Below w.heap.size w w') : KeepsOthers w w' := KeepsOthers.of_grownBy (grown_of_below h) (fun j o e _ => by cases e)
theorem But.of_below {n₀ B : Nat} {w w' : World} (hn : n₀ ≤ w.heap.size) (h : Below w.heap.size w w') : But n₀ B w w' :=
  ⟨h.os, h.tape, h.output, h.size, fun k hk _ => h.block k (by omega), others_of_below h⟩
theorem But.alloc {n₀ B : Nat} {a w : World} (h : But n₀ B a w) (hn : n₀ ≤ w.heap.size) (o : Obj) : But n₀ B a (w.alloc o) :=
  h.trans (But.of_below hn ((Below.refl _ _).alloc (Nat.le_refl _) o))
theorem But.drew {n₀ B : Nat} {a w : World} (h : But n₀ B a w) : But n₀ B a w.drew := ⟨h.os, h.tape, h.output, h.size, h.block, h.others.trans (KeepsOthers.drew w)⟩
theorem But.setCell {n₀ B : Nat} {a w : World} (h : But n₀ B a w) (off : Nat) (v : Value) : But n₀ B a (w.setCell ⟨B, off, none⟩ v) :=
  h.trans ⟨rfl, rfl, rfl, by simp [World.setCell], fun k _ hk => Below.heap_setCell _ _ _ _ (by exact hk), KeepsOthers.setCell _ _ _⟩
theorem But.grown {n₀ B : Nat} {a w w' : World} {row : Option Nat} (h : But n₀ B a w) (hn : n₀ ≤ w.heap.size) (hg : w.grownBy w' row) (hr : ∀ k, row = some k → n₀ ≤ k ∧ ∃ o, w.heap[k]? = some o ∧ o.isCells = true) : But n₀ B a w' :=
  h.trans ⟨hg.os, hg.tape, hg.output, hg.size, fun k hk _ => hg.block k (by omega) (fun e => by have := (hr k e.symm).1; omega), KeepsOthers.of_grownBy hg (fun j o e ho => by
    obtain ⟨o', h1, h2⟩ := (hr j e).2
    rw [ho] at h1; cases h1; exact h2)⟩
theorem But.below {n₀ B m : Nat} {w w' : World} (h : But n₀ B w w') (h1 : m ≤ n₀) (h2 : m ≤ B) : Below m w w' := ⟨h.os, h.tape, h.output, h.size, fun k hk => h.block k (by omega) (by omega)⟩
theorem But.kb {n₀ B x y : Nat} {w w' : World} (h : But n₀ B w w') (hx : x < n₀) (hx' : x ≠ B) (hy : y < n₀) (hy' : y ≠ B) : KB x y w w' := ⟨h.block x hx hx', h.block y hy hy', h.size⟩
theorem But.from {n₀ B m : Nat} {w w' : World} (h : But n₀ B w w') : KeepsFrom m w w' := h.others.from _
theorem own_cells {W : World} {base : Nat} {e : TypeId} {size : Nat} {v : Value} {n : Nat} {xs : List Value} (h : W.ownsRow base e size v n xs) : ∀ k, v.ownBlock = some k → base ≤ k ∧ ∃ cur, W.heap[k]? = some (.cells cur e (0, 0)) := fun k hk => by
  rcases h.2 with ⟨rfl, _⟩ | ⟨g, cap, cur, rfl, hg, hc, _⟩
  · simp [Value.ownBlock] at hk
  · obtain rfl : g = k := by simpa [Value.ownBlock] using hk
    exact ⟨hg, cur, hc⟩
theorem own_but {W W' : World} {n₀ : Nat} {e : TypeId} {size : Nat} {v : Value} {n : Nat} {xs : List Value} {row : Option Nat} (h : W.ownsRow n₀ e size v n xs) (hg : W.grownBy W' row) (hr : ∀ k, row = some k → k < n₀ ∨ ∃ cur t fr, t ≠ e ∧ W.heap[k]? = some (.cells cur t fr)) : W'.ownsRow n₀ e size v n xs := by
  refine h.kept hg ?_
  cases hv : v.ownBlock with
  | none => exact .inl rfl
  | some k =>
    refine .inr (fun e' => ?_)
    obtain ⟨h1, cur, h2⟩ := own_cells h k hv
    rcases hr k e'.symm with h3 | ⟨cur', t, fr, h3, h4⟩
    · omega
    · rw [h2] at h4
      injection h4 with h5
      injection h5 with _ h6
      exact h3 h6.symm
theorem own_shape {W : World} {n₀ : Nat} {e : TypeId} {v : Value} {n : Nat} {xs : List Value} (h : W.ownsRow n₀ e 1 v n xs) : v = .slice none 0 0 ∧ n = 0 ∨ ∃ g c, v = .slice (some ⟨g, 0, none⟩) n c ∧ n ≤ c ∧ n₀ ≤ g ∧ g < W.heap.size := by
  rcases h.2 with ⟨rfl, h0⟩ | ⟨g, cap, cur, rfl, hg, hc, h2, h3, h4, _⟩
  · exact .inl ⟨rfl, h0⟩
  · exact .inr ⟨g, cap, rfl, h2, hg, (Array.getElem?_eq_some_iff.1 hc).1⟩
theorem own_ne {W : World} {n₀ : Nat} {e : TypeId} {v : Value} {n : Nat} {xs : List Value} (h : W.ownsRow n₀ e 1 v n xs) (hn : n ≠ 0) : ∃ g c, v = .slice (some ⟨g, 0, none⟩) n c := by
  rcases own_shape h with ⟨_, h0⟩ | ⟨g, c, e, _⟩
  · exact absurd h0 hn
  · exact ⟨g, c, e⟩
theorem own_slice {W : World} {n₀ : Nat} {e : TypeId} {v : Value} {n : Nat} {xs : List Value} (h : W.ownsRow n₀ e 1 v n xs) : ∃ a c, v = .slice a n c := by
  rcases own_shape h with ⟨rfl, rfl⟩ | ⟨g, c, rfl, _⟩
  · exact ⟨_, _, rfl⟩
  · exact ⟨_, _, rfl⟩
theorem own_row_at {W : World} {n₀ : Nat} {e : TypeId} {a : Option Addr} {n c : Nat} {vs : List Value} (h : W.ownsRow n₀ e 1 (.slice a n c) n vs) : RowAt W.heap.size W a vs ∧ n ≤ c ∧ c ≤ maxLen := by
  rcases h with ⟨hl, ⟨h1, h0⟩ | ⟨g, cap, cur, h1, hg, hc, h2, h3, h4, h5⟩⟩
  · simp only [Value.slice.injEq] at h1
    obtain ⟨rfl, rfl, rfl⟩ := h1
    have : vs = [] := List.length_eq_zero_iff.1 (by omega)
    subst this
    exact ⟨RowAt.nil _ _ _, Nat.le_refl _, by unfold maxLen; omega⟩
  · simp only [Value.slice.injEq] at h1
    obtain ⟨rfl, _, rfl⟩ := h1
    refine ⟨fun j hj => ⟨g, 0, rfl, (Array.getElem?_eq_some_iff.1 hc).1, ?_⟩, h2, h3⟩
    unfold World.cell?
    dsimp only
    rw [hc, Nat.zero_add]
    have h6 : (cur.toList.take (n * 1))[j]? = vs[j]? := by rw [h5]
    rw [List.getElem?_take_of_lt (by omega), Array.getElem?_toList] at h6
    simp only [Option.isSome_none, Bool.false_eq_true, if_false]
    rw [h6]
    simp [nth, hj]
end Go.Proofs.YtekodpcedjpnjaaGreat
namespace Go.Proofs.YtekodpcedjpnjaaGreat
section
variable {P : Program} {ops : Array Oper} {Q : Exit → Act → World → Prop} {md : Region.Mode} {S : World → Prop} {z : Nat}
def wpAnyZ (P : Program) (md : Region.Mode) (ops : Array Oper) (Q : Exit → Act → World → Prop) (S : World → Prop) (z : Nat) : Nat → Array Bool → Act → World → Prop
  | 0, listed, a, w => Region.ready md ops listed = [] ∧ Q .normal a w
  | fuel + 1, listed, a, w =>
    (Region.ready md ops listed = [] → Q .normal a w) ∧
    ∀ i ∈ Region.ready md ops listed, wpOp P ops Q i (fun a' w' => (i ≠ z → S w') ∧ wpAnyZ P md ops Q S z fuel (listed.setIfInBounds i true) a' w') a w
theorem wpAny_of_Z : ∀ (fuel : Nat) (listed : Array Bool) (a : Act) (w : World), wpAnyZ P md ops Q S z fuel listed a w → wpAny P md ops Q fuel listed a w
  | 0, _, _, _, h => h
  | fuel + 1, _, _, _, h => ⟨h.1, fun i hi => wpOp_mono (fun a' w' h' => wpAny_of_Z fuel _ a' w' h'.2) (h.2 i hi)⟩
theorem wpAnyZ_first {i : Nat} {oi : Oper} {v : Value} (hi : ops[i]? = some oi) (hsel : ∀ (j : Nat) (o : Oper) cs b, ops[j]? = some o → o.op ≠ .select cs b)
    (hQ : ∀ c a w, Q (.panic c) (a.put oi.dst v) w → Q (.panic c) a w) (hz : ∀ oz, ops[z]? = some oz → ∃ e ∈ oz.after, Region.binds md e = true ∧ e.on = i) :
    ∀ (fuel : Nat) (listed : Array Bool) (a : Act) (w : World),
      (∀ j oj, ops[j]? = some oj → j ≠ i → listed.getD j true = false → (∀ e ∈ oj.after, Region.binds md e = true → e.on ≠ i) → oi.apart ops oj = true) →
      i ∈ Region.ready md ops listed → YieldsIf P ops S oi v a → S w →
      wpAnyZ P md ops Q S z fuel (listed.setIfInBounds i true) (a.put oi.dst v) w → wpAnyZ P md ops Q S z (fuel + 1) listed a w := by
  intro fuel
  induction fuel with
  | zero =>
    intro listed a w _ hr hy hS H
    refine ⟨fun h => (by rw [h] at hr; cases hr), fun j hj => ?_⟩
    by_cases hji : j = i
    · subst hji; exact hy.wpOp hi hS ⟨fun _ => hS, H⟩
    · have := ready_mono hj hji
      rw [H.1] at this
      cases this
  | succ fuel ih =>
    intro listed a w hfree hr hy hS H
    refine ⟨fun h => (by rw [h] at hr; cases hr), fun j hj => ?_⟩
    by_cases hji : j = i
    · subst hji; exact hy.wpOp hi hS ⟨fun _ => hS, H⟩
    · have h1 := H.2 j (ready_mono hj hji)
      obtain ⟨hjun, oj, hoj, hall⟩ := mem_ready.1 hj
      have hnot : ∀ e ∈ oj.after, Region.binds md e = true → e.on ≠ i := fun e he hb heq => by
        have h1 := hall e he hb
        have h0 := (mem_ready.1 hr).1
        rw [heq] at h1
        rcases Nat.lt_or_ge i listed.size with h' | h'
        · simp [h'] at h0 h1; rw [h0] at h1; cases h1
        · simp [Array.getElem?_eq_none h'] at h1
      have hjz : j ≠ z := fun e => by
        subst e
        obtain ⟨e, he, hb, heq⟩ := hz oj hoj
        exact hnot e he hb heq
      have h2 := wpOp_putIf hoj (hfree j oj hoj hji hjun hnot) (fun cs b => hsel i oi cs b hi) (fun cs b => hsel j oj cs b hoj) hQ hy h1
      have hfree' : ∀ k ok, ops[k]? = some ok → k ≠ i → (listed.setIfInBounds j true).getD k true = false →
          (∀ e ∈ ok.after, Region.binds md e = true → e.on ≠ i) → oi.apart ops ok = true := fun k ok hk hki hun hno => by
        refine hfree k ok hk hki ?_ hno
        by_cases hjk : j = k
        · subst hjk; exact hjun
        · rw [getD_set_ne true hjk] at hun; exact hun
      refine wpOp_mono (fun a' w' h3 => ⟨fun _ => h3.2.1 hjz, ih (listed.setIfInBounds j true) a' w' hfree' (ready_mono hr (Ne.symm hji)) h3.1 (h3.2.1 hjz) ?_⟩) h2
      rw [Array.setIfInBounds_comm _ _ hji]
      exact h3.2.2
def wpRead (P : Program) (ops : Array Oper) (S : World → Prop) (K : Act → Prop) : List Oper → Act → Prop
  | [], a => K a
  | o :: rest, a => ∃ v, YieldsIf P ops S o v a ∧ wpRead P ops S K rest (a.put o.dst v)
theorem wpRead_nil {K : Act → Prop} {a : Act} (h : K a) : wpRead P ops S K [] a := h
theorem wpRead_step {K : Act → Prop} {o : Oper} {rest : List Oper} {a : Act} {v : Value} (hw : Region.wanted o (yielded ops a.tmps) = true) (hy : ∀ w, S w → (execOp a.eval o).run P w = .ok (.value v) w)
    (h : wpRead P ops S K rest (a.put o.dst v)) : wpRead P ops S K (o :: rest) a := ⟨v, .inl ⟨hw, hy⟩, h⟩
def wpActs (P : Program) (ops : Array Oper) (Q : Exit → Act → World → Prop) (S : World → Prop) : List Oper → Act → World → Prop
  | [], a, w => Q .normal a w
  | [o], a, w => wpList P ops Q [o] a w
  | o :: o' :: rest, a, w => wpList P ops (Exit.then (fun a' w' => S w' ∧ wpActs P ops Q S (o' :: rest) a' w') Q) [o] a w
theorem upon_then {o : Oper} {a : Act} {K next : Act → World → Prop} {r : Result Next} (h : o.upon P a next (Exit.then K Q) r) : o.upon P a next Q r := by
  cases r with
  | ok x w' =>
    cases x with
    | enter f args => exact Calls.mono h (fun e w'' he => by cases e <;> exact he)
    | _ => exact h
  | halt x w' => cases x <;> exact h
theorem wpOp_of_list {i : Nat} {o : Oper} {a : Act} {w : World} {K : Act → World → Prop} (ho : ops[i]? = some o) (h : wpList P ops (Exit.then K Q) [o] a w) : wpOp P ops Q i K a w := by
  unfold wpList at h
  unfold wpOp
  simp only [ho]
  split
  · rename_i hw
    rw [if_pos hw] at h
    rcases h with h | ⟨h1, h2⟩
    · exact .inl (upon_then h)
    · exact .inr ⟨h1, h2⟩
  · rename_i hw
    rw [if_neg hw] at h
    exact h
theorem wpList_then_self {o : Oper} {a : Act} {w : World} (h : wpList P ops Q [o] a w) : wpList P ops (Exit.then (fun a w => Q .normal a w) Q) [o] a w := by
  have e : Exit.then (fun a w => Q .normal a w) Q = Q := by
    funext e a w
    cases e <;> rfl
  rw [e]; exact h
theorem wpAnyZ_acts : ∀ (l : List Oper) (k : Nat) (listed : Array Bool) (a : Act) (w : World), (∀ j, l[j]? = ops[k + j]?) → k + l.length = z + 1 →
    Region.seqB md ops l.length k listed = true → wpActs P ops Q S l a w → wpAnyZ P md ops Q S z l.length listed a w
  | [], _, _, _, _, _, _, hB, h => ⟨by simpa [Region.seqB] using hB, h⟩
  | [o], k, listed, a, w, hl, hk, hB, h => by
    have h0 : ops[k]? = some o := by simpa using (hl 0).symm
    simp only [List.length_cons, List.length_nil, Region.seqB, Bool.and_eq_true, decide_eq_true_eq] at hB
    refine ⟨fun h1 => (by rw [hB.1] at h1; cases h1), fun i hi => ?_⟩
    rw [hB.1] at hi
    obtain rfl : i = k := by simpa using hi
    have hz : i = z := by simpa using hk
    refine wpOp_mono (fun a' w' h' => ⟨fun hne => absurd hz hne, ⟨by simpa [Region.seqB] using hB.2, h'⟩⟩) (wpOp_of_list h0 (wpList_then_self h))
  | o :: o' :: l, k, listed, a, w, hl, hk, hB, h => by
    have h0 : ops[k]? = some o := by simpa using (hl 0).symm
    have hB' : Region.seqB md ops ((o' :: l).length + 1) k listed = true := hB
    simp only [Region.seqB, Bool.and_eq_true, decide_eq_true_eq] at hB'
    refine ⟨fun h1 => (by rw [hB'.1] at h1; cases h1), fun i hi => ?_⟩
    rw [hB'.1] at hi
    obtain rfl : i = k := by simpa using hi
    refine wpOp_mono (fun a' w' h' => ⟨fun _ => h'.1, wpAnyZ_acts (o' :: l) (i + 1) _ a' w' (fun j => by have := hl (j + 1); simpa [Nat.add_assoc, Nat.add_comm 1 j] using this) (by simp at hk ⊢; omega) hB'.2 h'.2⟩) (wpOp_of_list h0 h)
def waitsB (md : Region.Mode) (ops : Array Oper) (z i : Nat) : Bool := match ops[z]? with | some oz => oz.after.toList.any fun e => Region.binds md e && Nat.beq e.on i | none => false
def readsB (md : Region.Mode) (ops : Array Oper) (z : Nat) : Nat → Nat → Array Bool → Bool
  | 0, k, listed => Region.seqB md ops (ops.size - k) k listed
  | m + 1, k, listed => (Region.ready md ops listed).contains k && (Region.free md ops listed k && (waitsB md ops z k && readsB md ops z m (k + 1) (listed.setIfInBounds k true)))
theorem waitsB_spec {i : Nat} (h : waitsB md ops z i = true) : ∀ oz, ops[z]? = some oz → ∃ e ∈ oz.after, Region.binds md e = true ∧ e.on = i := fun oz hoz => by
  unfold waitsB at h
  rw [hoz] at h
  dsimp only at h
  rw [List.any_eq_true] at h
  obtain ⟨e, he, hb⟩ := h
  rw [Bool.and_eq_true] at hb
  exact ⟨e, by simpa using he, hb.1, Nat.eq_of_beq_eq_true hb.2⟩
theorem wpAnyZ_reads (hs : Region.noSelect ops = true) (hQ : ∀ c a d v w, Q (.panic c) (Act.put a d v) w → Q (.panic c) a w) : ∀ (l : List Oper) (k g : Nat) (listed : Array Bool) (a : Act) (w : World), (∀ j, j < l.length → l[j]? = ops[k + j]?) →
    readsB md ops z l.length k listed = true → S w → k + l.length + g = ops.size → wpRead P ops S (fun a' => ∀ listed', Region.seqB md ops g (k + l.length) listed' = true → wpAnyZ P md ops Q S z g listed' a' w) l a → wpAnyZ P md ops Q S z (l.length + g) listed a w
  | [], k, g, listed, a, w, _, hB, _, hg, h => by
    simp only [readsB, List.length_nil, Nat.add_zero] at hB hg h ⊢
    rw [show ops.size - k = g by omega] at hB
    rw [Nat.zero_add]
    exact h listed hB
  | o :: l, k, g, listed, a, w, hl, hB, hS, hg, ⟨v, hy, h⟩ => by
    have h0 : ops[k]? = some o := by simpa using (hl 0 (by simp)).symm
    simp only [List.length_cons, readsB, Bool.and_eq_true] at hB
    obtain ⟨h1, h2, h3, h4⟩ := hB
    rw [show (o :: l).length + g = (l.length + g) + 1 by simp; omega]
    refine wpAnyZ_first h0 (Region.noSelect_spec hs) (fun c a w => hQ c a _ _ w) (waitsB_spec h3) _ _ _ _ (Region.free_spec h0 h2) (by simpa using h1) hy hS ?_
    refine wpAnyZ_reads hs hQ l (k + 1) g _ _ w (fun j hj => by have := hl (j + 1) (by simp; omega); simpa [Nat.add_assoc, Nat.add_comm 1 j] using this) h4 hS (by simp at hg; omega) ?_
    have e : k + 1 + l.length = k + (o :: l).length := by simp; omega
    rw [e]; exact h
theorem wp_region_reads {id : Nat} {a : Act} {w : World} {l : List Oper} (n₁ : Nat) (S : World → Prop) (hm : P.follows .mixedOrders = true) (hs : Region.noSelect l.toArray = true) (hn : Nat.blt n₁ l.length = true) (hB : readsB .any l.toArray (l.length - 1) n₁ 0 (Array.replicate l.length false) = true)
    (hQ : ∀ c a d v w, Q (.panic c) (Act.put a d v) w → Q (.panic c) a w) (hS : S w.drew)
    (h : wpRead P l.toArray S (fun a' => wpActs P l.toArray Q S (l.drop n₁) a' w.drew) (l.take n₁) a) : (Code.region id l.toArray true).wp P Q a w := by
  have hn : n₁ < l.length := by simpa [Nat.blt_eq] using hn
  refine wp_region_any hm (wpAny_of_Z (S := S) (z := l.length - 1) _ _ _ _ ?_)
  have htl : (l.take n₁).length = n₁ := by simp; omega
  have hdl : (l.drop n₁).length = l.length - n₁ := by simp
  have mono : ∀ (K K' : Act → Prop), (∀ a, K a → K' a) → ∀ (q : List Oper) (a : Act), wpRead P l.toArray S K q a → wpRead P l.toArray S K' q a := by
    intro K K' hK q
    induction q with
    | nil => intro a h; exact hK a h
    | cons o q ih => intro a ⟨v, hy, h⟩; exact ⟨v, hy, ih _ h⟩
  have := wpAnyZ_reads (md := .any) (z := l.length - 1) (P := P) (Q := Q) (S := S) hs hQ (l.take n₁) 0 (l.length - n₁) (Array.replicate l.length false) a w.drew (fun j hj => by
      rw [htl] at hj
      simp [hj]) (by rw [htl]; exact hB) hS (by rw [htl]; simp; omega) (mono _ _ (fun a' ha' listed' hq => by
        rw [htl, Nat.zero_add] at hq
        have := wpAnyZ_acts (md := .any) (z := l.length - 1) (l.drop n₁) n₁ listed' a' w.drew (fun j => by simp [List.getElem?_drop]) (by rw [hdl]; omega) (by rw [hdl]; exact hq) ha'
        rwa [hdl] at this) _ _ h)
  rw [htl, show n₁ + (l.length - n₁) = l.length by omega] at this
  simpa using this
theorem wpActs_step {o o' : Oper} {rest : List Oper} {a : Act} {w : World} (h : ∀ K : Act → World → Prop, (∀ a w, S w → wpActs P ops Q S (o' :: rest) a w → K a w) → wpList P ops (Exit.then K Q) [o] a w) : wpActs P ops Q S (o :: o' :: rest) a w :=
  h _ (fun _ _ h1 h2 => ⟨h1, h2⟩)
theorem wpActs_last {o : Oper} {a : Act} {w : World} (h : wpList P ops Q [o] a w) : wpActs P ops Q S [o] a w := h
end
end Go.Proofs.YtekodpcedjpnjaaGreat
namespace Go.Proofs.YtekodpcedjpnjaaGreat
section
variable {P : Program} {ops : Array Oper} {Q : Exit → Act → World → Prop} {md : Region.Mode} {S : World → Prop} {z : Nat}
def mixB (md : Region.Mode) (ops : Array Oper) (z : Nat) : List (Bool × Nat) → Array Bool → Bool
  | [], listed => (Region.ready md ops listed).isEmpty
  | (true, k) :: r, listed => (Region.ready md ops listed).contains k && (Region.free md ops listed k && (waitsB md ops z k && mixB md ops z r (listed.setIfInBounds k true)))
  | (false, k) :: r, listed => decide (Region.ready md ops listed = [k]) && ((!r.isEmpty || Nat.beq k z) && mixB md ops z r (listed.setIfInBounds k true))
def wpMix (P : Program) (ops : Array Oper) (Q : Exit → Act → World → Prop) (S : World → Prop) : List (Bool × Oper) → Act → World → Prop
  | [], a, w => Q .normal a w
  | (true, o) :: rest, a, w => ∃ v, YieldsIf P ops S o v a ∧ wpMix P ops Q S rest (a.put o.dst v) w
  | (false, o) :: rest, a, w => wpList P ops (Exit.then (fun a' w' => (rest ≠ [] → S w') ∧ wpMix P ops Q S rest a' w') Q) [o] a w
theorem wpAnyZ_mix (hs : Region.noSelect ops = true) (hQ : ∀ c a d v w, Q (.panic c) (Act.put a d v) w → Q (.panic c) a w) : ∀ (is : List (Bool × Nat)) (l : List (Bool × Oper)) (listed : Array Bool) (a : Act) (w : World),
    is.map (fun p => (p.1, ops[p.2]?)) = l.map (fun p => (p.1, some p.2)) → mixB md ops z is listed = true → (l ≠ [] → S w) → wpMix P ops Q S l a w → wpAnyZ P md ops Q S z l.length listed a w
  | [], l, listed, a, w, hl, hB, hS, h => by
    have e : l = [] := by
      rw [List.map_nil] at hl
      exact List.map_eq_nil_iff.1 hl.symm
    subst e
    exact ⟨by simpa [mixB] using hB, h⟩
  | (b, k) :: is, l, listed, a, w, hl, hB, hS, h => by
    obtain ⟨⟨b', o⟩, l, rfl⟩ : ∃ o l', l = o :: l' := by
      match l, hl with
      | [], hl => simp at hl
      | o :: l', _ => exact ⟨o, l', rfl⟩
    rw [List.map_cons, List.map_cons] at hl
    obtain ⟨hp, hl'⟩ := List.cons.inj hl
    have hb : b = b' := congrArg Prod.fst hp
    have h0 : ops[k]? = some o := congrArg Prod.snd hp
    clear hp
    subst hb
    have hSw := hS (by simp)
    have hle : is.length = l.length := by have := congrArg List.length hl'; simpa using this
    cases b with
    | true =>
      obtain ⟨v, hy, h⟩ := h
      simp only [mixB, Bool.and_eq_true] at hB
      obtain ⟨h1, h2, h3, h4⟩ := hB
      exact wpAnyZ_first h0 (Region.noSelect_spec hs) (fun c a w => hQ c a _ _ w) (waitsB_spec h3) _ _ _ _ (Region.free_spec h0 h2) (by simpa using h1) hy hSw
        (wpAnyZ_mix hs hQ is l _ _ w hl' h4 (fun _ => hSw) h)
    | false =>
      simp only [mixB, Bool.and_eq_true, decide_eq_true_eq] at hB
      obtain ⟨h1, h2, h3⟩ := hB
      refine ⟨fun h4 => (by rw [h1] at h4; cases h4), fun i hi => ?_⟩
      rw [h1] at hi
      obtain rfl : i = k := by simpa using hi
      refine wpOp_mono (fun a' w' h' => ⟨fun hne => h'.1 (fun e => hne ?_), wpAnyZ_mix hs hQ is l _ a' w' hl' h3 h'.1 h'.2⟩) (wpOp_of_list h0 h)
      have e2 : is = [] := by
        rw [e] at hle
        exact List.length_eq_zero_iff.1 hle
      rw [e2] at h2
      simpa using h2
def mixL (l : List Oper) : List (Bool × Nat) → List (Bool × Oper)
  | [] => []
  | (b, i) :: r => match l[i]? with
    | some o => (b, o) :: mixL l r
    | none => mixL l r
theorem wp_region_mix {id : Nat} {a : Act} {w : World} {l : List Oper} (is : List (Bool × Nat)) (S : World → Prop) (hm : P.follows .mixedOrders = true) (hs : Region.noSelect l.toArray = true)
    (hr : is.map (fun p => (p.1, l.toArray[p.2]?)) = (mixL l is).map (fun p => (p.1, some p.2))) (hn : Nat.beq (mixL l is).length l.length = true)
    (hB : mixB .any l.toArray (l.length - 1) is (Array.replicate l.length false) = true)
    (hQ : ∀ c a d v w, Q (.panic c) (Act.put a d v) w → Q (.panic c) a w) (hS : S w.drew)
    (h : wpMix P l.toArray Q S (mixL l is) a w.drew) : (Code.region id l.toArray true).wp P Q a w := by
  have hn := Nat.eq_of_beq_eq_true hn
  refine wp_region_any hm (wpAny_of_Z (S := S) (z := l.length - 1) _ _ _ _ ?_)
  have := wpAnyZ_mix (md := .any) (z := l.length - 1) (P := P) (Q := Q) (S := S) hs hQ is (mixL l is) (Array.replicate l.length false) a w.drew hr hB (fun _ => hS) h
  rw [hn] at this
  simpa using this
theorem wpMix_read {o : Oper} {rest : List (Bool × Oper)} {a : Act} {w : World} {v : Value} (hw : Region.wanted o (yielded ops a.tmps) = true) (hy : ∀ w, S w → (execOp a.eval o).run P w = .ok (.value v) w)
    (h : wpMix P ops Q S rest (a.put o.dst v) w) : wpMix P ops Q S ((true, o) :: rest) a w := ⟨v, .inl ⟨hw, hy⟩, h⟩
theorem wpMix_act {o : Oper} {rest : List (Bool × Oper)} {a : Act} {w : World} (h : ∀ K : Act → World → Prop, (∀ a w, (rest ≠ [] → S w) → wpMix P ops Q S rest a w → K a w) → wpList P ops (Exit.then K Q) [o] a w) :
    wpMix P ops Q S ((false, o) :: rest) a w := h _ (fun _ _ h1 h2 => ⟨h1, h2⟩)
theorem wpMix_nil {a : Act} {w : World} (h : Q .normal a w) : wpMix P ops Q S [] a w := h
def mixB2 (md : Region.Mode) (ops : Array Oper) : List (Bool × Nat) → Array Bool → Bool
  | [], listed => (Region.ready md ops listed).isEmpty
  | (true, k) :: r, listed => (Region.ready md ops listed).contains k && (Region.free md ops listed k && mixB2 md ops r (listed.setIfInBounds k true))
  | (false, k) :: r, listed => decide (Region.ready md ops listed = [k]) && mixB2 md ops r (listed.setIfInBounds k true)
def wpMix2 (P : Program) (ops : Array Oper) (Q : Exit → Act → World → Prop) (S : World → Prop) : List (Bool × Oper) → Act → World → Prop
  | [], a, w => Q .normal a w
  | (true, o) :: rest, a, w => ∃ v, YieldsIf P ops S o v a ∧ wpMix2 P ops Q S rest (a.put o.dst v) w
  | (false, o) :: rest, a, w => wpList P ops (Exit.then (fun a' w' => S w' ∧ wpMix2 P ops Q S rest a' w') Q) [o] a w
theorem wpAnyZ_mix2 (hs : Region.noSelect ops = true) (hQ : ∀ c a d v w, Q (.panic c) (Act.put a d v) w → Q (.panic c) a w) (hz : ops[z]? = none) : ∀ (is : List (Bool × Nat)) (l : List (Bool × Oper)) (listed : Array Bool) (a : Act) (w : World),
    is.map (fun p => (p.1, ops[p.2]?)) = l.map (fun p => (p.1, some p.2)) → mixB2 md ops is listed = true → S w → wpMix2 P ops Q S l a w → wpAnyZ P md ops Q S z l.length listed a w
  | [], l, listed, a, w, hl, hB, hS, h => by
    have e : l = [] := by
      rw [List.map_nil] at hl
      exact List.map_eq_nil_iff.1 hl.symm
    subst e
    exact ⟨by simpa [mixB2] using hB, h⟩
  | (b, k) :: is, l, listed, a, w, hl, hB, hS, h => by
    obtain ⟨⟨b', o⟩, l, rfl⟩ : ∃ o l', l = o :: l' := by
      match l, hl with
      | [], hl => simp at hl
      | o :: l', _ => exact ⟨o, l', rfl⟩
    rw [List.map_cons, List.map_cons] at hl
    obtain ⟨hp, hl'⟩ := List.cons.inj hl
    have hb : b = b' := congrArg Prod.fst hp
    have h0 : ops[k]? = some o := congrArg Prod.snd hp
    clear hp
    subst hb
    cases b with
    | true =>
      obtain ⟨v, hy, h⟩ := h
      simp only [mixB2, Bool.and_eq_true] at hB
      obtain ⟨h1, h2, h4⟩ := hB
      exact wpAnyZ_first h0 (Region.noSelect_spec hs) (fun c a w => hQ c a _ _ w) (fun oz hoz => by rw [hz] at hoz; cases hoz) _ _ _ _ (Region.free_spec h0 h2) (by simpa using h1) hy hS
        (wpAnyZ_mix2 hs hQ hz is l _ _ w hl' h4 hS h)
    | false =>
      simp only [mixB2, Bool.and_eq_true, decide_eq_true_eq] at hB
      obtain ⟨h1, h3⟩ := hB
      refine ⟨fun h4 => (by rw [h1] at h4; cases h4), fun i hi => ?_⟩
      rw [h1] at hi
      obtain rfl : i = k := by simpa using hi
      exact wpOp_mono (fun a' w' h' => ⟨fun _ => h'.1, wpAnyZ_mix2 hs hQ hz is l _ a' w' hl' h3 h'.1 h'.2⟩) (wpOp_of_list h0 h)
theorem wp_region_mix2 {id : Nat} {a : Act} {w : World} {l : List Oper} (is : List (Bool × Nat)) (S : World → Prop) (hm : P.follows .mixedOrders = true) (hs : Region.noSelect l.toArray = true)
    (hr : is.map (fun p => (p.1, l.toArray[p.2]?)) = (mixL l is).map (fun p => (p.1, some p.2))) (hn : Nat.beq (mixL l is).length l.length = true)
    (hB : mixB2 .any l.toArray is (Array.replicate l.length false) = true)
    (hQ : ∀ c a d v w, Q (.panic c) (Act.put a d v) w → Q (.panic c) a w) (hS : S w.drew)
    (h : wpMix2 P l.toArray Q S (mixL l is) a w.drew) : (Code.region id l.toArray true).wp P Q a w := by
  have hn := Nat.eq_of_beq_eq_true hn
  refine wp_region_any hm (wpAny_of_Z (S := S) (z := l.length) _ _ _ _ ?_)
  have := wpAnyZ_mix2 (md := .any) (z := l.length) (P := P) (Q := Q) (S := S) hs hQ (by simp) is (mixL l is) (Array.replicate l.length false) a w.drew hr hB hS h
  rw [hn] at this
  simpa using this
theorem wpMix2_read {o : Oper} {rest : List (Bool × Oper)} {a : Act} {w : World} {v : Value} (hw : Region.wanted o (yielded ops a.tmps) = true) (hy : ∀ w, S w → (execOp a.eval o).run P w = .ok (.value v) w)
    (h : wpMix2 P ops Q S rest (a.put o.dst v) w) : wpMix2 P ops Q S ((true, o) :: rest) a w := ⟨v, .inl ⟨hw, hy⟩, h⟩
theorem wpMix2_skip {o : Oper} {rest : List (Bool × Oper)} {a : Act} {w : World} (hw : Region.wanted o (yielded ops a.tmps) = false)
    (h : wpMix2 P ops Q S rest (a.put o.dst undef) w) : wpMix2 P ops Q S ((true, o) :: rest) a w := ⟨undef, .inr ⟨hw, rfl⟩, h⟩
theorem wpMix2_act {o : Oper} {rest : List (Bool × Oper)} {a : Act} {w : World} (h : ∀ K : Act → World → Prop, (∀ a w, S w → wpMix2 P ops Q S rest a w → K a w) → wpList P ops (Exit.then K Q) [o] a w) :
    wpMix2 P ops Q S ((false, o) :: rest) a w := h _ (fun _ _ h1 h2 => ⟨h1, h2⟩)
theorem wpMix2_nil {a : Act} {w : World} (h : Q .normal a w) : wpMix2 P ops Q S [] a w := h
end
end Go.Proofs.YtekodpcedjpnjaaGreat
namespace Go.Proofs.YtekodpcedjpnjaaGreat
open Go.RowKit Go.Shelf Go.Maps
theorem wpIn_region_reads {P : Program} {Q : Exit → Act → World → Prop} {id : Nat} {a : Act} {w : World} {l : List Oper} {l₀ : Option Nat} {n : Nat} (n₁ : Nat) (S : World → Prop) (hm : P.follows .mixedOrders = true) (hs : Region.noSelect l.toArray = true) (hn : Nat.blt n₁ l.length = true) (hB : readsB .any l.toArray (l.length - 1) n₁ 0 (Array.replicate l.toArray.size false) = true)
    (hd : noDefer l.toArray = true) (ho : ∀ a w, ¬ Q .outgrown a w) (hQ : ∀ c a d v w, Q (.panic c) (Act.put a d v) w → Q (.panic c) a w) (hS : S w.drew)
    (h : wpRead P l.toArray S (fun a' => wpActs P l.toArray Q S (l.drop n₁) a' w.drew) (l.take n₁) a) : (Code.region id l.toArray true).wpIn (wideAt l₀) n P Q a w := by
  have hn : n₁ < l.length := by simpa [Nat.blt_eq] using hn
  refine wpIn_region_any hm (wpAnyIn_of_wpAny ho hd _ _ _ _ (wpAny_of_Z (S := S) (z := l.length - 1) _ _ _ _ ?_))
  have htl : (l.take n₁).length = n₁ := by simp; omega
  have hdl : (l.drop n₁).length = l.length - n₁ := by simp
  have mono : ∀ (K K' : Act → Prop), (∀ a, K a → K' a) → ∀ (q : List Oper) (a : Act), wpRead P l.toArray S K q a → wpRead P l.toArray S K' q a := by
    intro K K' hK q
    induction q with
    | nil => intro a h; exact hK a h
    | cons o q ih => intro a ⟨v, hy, h⟩; exact ⟨v, hy, ih _ h⟩
  have := wpAnyZ_reads (md := .any) (z := l.length - 1) (P := P) (Q := Q) (S := S) hs hQ (l.take n₁) 0 (l.length - n₁) (Array.replicate l.toArray.size false) a w.drew (fun j hj => by
      rw [htl] at hj
      simp [hj]) (by rw [htl]; exact hB) hS (by rw [htl]; simp; omega) (mono _ _ (fun a' ha' listed' hq => by
        rw [htl, Nat.zero_add] at hq
        have := wpAnyZ_acts (md := .any) (z := l.length - 1) (l.drop n₁) n₁ listed' a' w.drew (fun j => by simp [List.getElem?_drop]) (by rw [hdl]; omega) (by rw [hdl]; exact hq) ha'
        rwa [hdl] at this) _ _ h)
  rw [htl, show n₁ + (l.length - n₁) = l.length by omega] at this
  simpa using this
theorem boxed_own {X Y : World} {b : Nat} {t : TypeId} {v : Value} {row : Option Nat} (h : Boxed X b t v) (hg : X.grownBy Y row) (hr : ∀ r, row = some r → ∃ o, X.heap[r]? = some o ∧ o.isCells = false) : Boxed Y b t v :=
  h.kept hg fun e => by
    obtain ⟨o, ho, hc⟩ := hr b e.symm
    rw [show X.heap[b]? = _ from h] at ho
    cases ho
    cases hc
theorem boxed_put {X : World} {b : Nat} {t : TypeId} {v : Value} (h : Boxed X b t v) {k : Nat} (hk : b ≠ k) (u : Value) : Boxed (X.setCell ⟨k, 0, none⟩ u) b t v := (Below.heap_setCell _ _ _ _ (by exact hk)).trans h
theorem own_far {W W' : World} {n₀ : Nat} {e : TypeId} {size : Nat} {v : Value} {n : Nat} {xs : List Value} {row : Option Nat} (h : W.ownsRow n₀ e size v n xs) (hg : W.grownBy W' row) (hr : ∀ r, row = some r → ∃ o : Obj, W.heap[r]? = some o ∧ o.isCells = false) : W'.ownsRow n₀ e size v n xs := by
  refine h.kept hg ?_
  cases hv : v.ownBlock with
  | none => exact .inl rfl
  | some k =>
    refine .inr (fun e' => ?_)
    obtain ⟨h1, cur, h2⟩ := own_cells h k hv
    obtain ⟨o, h3, h4⟩ := hr k e'.symm
    rw [h2] at h3; cases h3; cases h4
end Go.Proofs.YtekodpcedjpnjaaGreat
namespace Go.Proofs.YtekodpcedjpnjaaGreat
section
variable {P : Program} {ops : Array Oper} {Q : Exit → Act → World → Prop} {md : Region.Mode} {R : Nat → World → World → Prop}
def wpAnyY (P : Program) (md : Region.Mode) (ops : Array Oper) (Q : Exit → Act → World → Prop) (R : Nat → World → World → Prop) : Nat → Array Bool → Act → World → Prop
  | 0, listed, a, w => Region.ready md ops listed = [] ∧ Q .normal a w
  | fuel + 1, listed, a, w =>
    (Region.ready md ops listed = [] → Q .normal a w) ∧
    ∀ i ∈ Region.ready md ops listed, wpOp P ops Q i (fun a' w' => R i w w' ∧ wpAnyY P md ops Q R fuel (listed.setIfInBounds i true) a' w') a w
theorem wpAny_of_Y : ∀ (fuel : Nat) (listed : Array Bool) (a : Act) (w : World), wpAnyY P md ops Q R fuel listed a w → wpAny P md ops Q fuel listed a w
  | 0, _, _, _, h => h
  | fuel + 1, _, _, _, h => ⟨h.1, fun i hi => wpOp_mono (fun a' w' h' => wpAny_of_Y fuel _ a' w' h'.2) (h.2 i hi)⟩
theorem wpAnyY_first {S : World → Prop} {i : Nat} {oi : Oper} {v : Value} (hi : ops[i]? = some oi) (hsel : ∀ (j : Nat) (o : Oper) cs b, ops[j]? = some o → o.op ≠ .select cs b)
    (hQ : ∀ c a w, Q (.panic c) (a.put oi.dst v) w → Q (.panic c) a w) (hz : ∀ j oj w w', ops[j]? = some oj → (∀ e ∈ oj.after, Region.binds md e = true → e.on ≠ i) → R j w w' → S w → S w') :
    ∀ (fuel : Nat) (listed : Array Bool) (a : Act) (w : World),
      (∀ j oj, ops[j]? = some oj → j ≠ i → listed.getD j true = false → (∀ e ∈ oj.after, Region.binds md e = true → e.on ≠ i) → oi.apart ops oj = true) →
      i ∈ Region.ready md ops listed → YieldsIf P ops S oi v a → S w → (∀ w, R i w w) →
      wpAnyY P md ops Q R fuel (listed.setIfInBounds i true) (a.put oi.dst v) w → wpAnyY P md ops Q R (fuel + 1) listed a w := by
  intro fuel
  induction fuel with
  | zero =>
    intro listed a w _ hr hy hS hRi H
    refine ⟨fun h => (by rw [h] at hr; cases hr), fun j hj => ?_⟩
    by_cases hji : j = i
    · subst hji; exact hy.wpOp hi hS ⟨hRi _, H⟩
    · have := ready_mono hj hji
      rw [H.1] at this
      cases this
  | succ fuel ih =>
    intro listed a w hfree hr hy hS hRi H
    refine ⟨fun h => (by rw [h] at hr; cases hr), fun j hj => ?_⟩
    by_cases hji : j = i
    · subst hji; exact hy.wpOp hi hS ⟨hRi _, H⟩
    · have h1 := H.2 j (ready_mono hj hji)
      obtain ⟨hjun, oj, hoj, hall⟩ := mem_ready.1 hj
      have hnot : ∀ e ∈ oj.after, Region.binds md e = true → e.on ≠ i := fun e he hb heq => by
        have h1 := hall e he hb
        have h0 := (mem_ready.1 hr).1
        rw [heq] at h1
        rcases Nat.lt_or_ge i listed.size with h' | h'
        · simp [h'] at h0 h1; rw [h0] at h1; cases h1
        · simp [Array.getElem?_eq_none h'] at h1
      have hjz := hz j oj
      have h2 := wpOp_putIf hoj (hfree j oj hoj hji hjun hnot) (fun cs b => hsel i oi cs b hi) (fun cs b => hsel j oj cs b hoj) hQ hy h1
      have hfree' : ∀ k ok, ops[k]? = some ok → k ≠ i → (listed.setIfInBounds j true).getD k true = false →
          (∀ e ∈ ok.after, Region.binds md e = true → e.on ≠ i) → oi.apart ops ok = true := fun k ok hk hki hun hno => by
        refine hfree k ok hk hki ?_ hno
        by_cases hjk : j = k
        · subst hjk; exact hjun
        · rw [getD_set_ne true hjk] at hun; exact hun
      refine wpOp_mono (fun a' w' h3 => ⟨h3.2.1, ih (listed.setIfInBounds j true) a' w' hfree' (ready_mono hr (Ne.symm hji)) h3.1 (hjz w w' hoj hnot h3.2.1 hS) hRi ?_⟩) h2
      rw [Array.setIfInBounds_comm _ _ hji]
      exact h3.2.2
theorem wpAnyY_read (i : Nat) (S : World → Prop) (zs : List Nat) {oi : Oper} {v : Value} {fuel : Nat} {listed : Array Bool} {a : Act} {w : World} (hs : Region.noSelect ops = true) (hQ : ∀ c a d v w, Q (.panic c) (Act.put a d v) w → Q (.panic c) a w)
    (hB : ((Region.ready md ops listed).contains i && (Region.free md ops listed i && zs.all fun z => waitsB md ops z i)) = true) (hi : ops[i]? = some oi) (hR : ∀ j w w', j ∉ zs → R j w w' → S w → S w') (hRi : ∀ w, R i w w) (hS : S w)
    (hw : Region.wanted oi (yielded ops a.tmps) = true) (hy : ∀ w, S w → (execOp a.eval oi).run P w = .ok (.value v) w)
    (h : wpAnyY P md ops Q R fuel (listed.setIfInBounds i true) (a.put oi.dst v) w) : wpAnyY P md ops Q R (fuel + 1) listed a w := by
  simp only [Bool.and_eq_true, List.all_eq_true] at hB
  obtain ⟨h1, h2, h3⟩ := hB
  refine wpAnyY_first hi (Region.noSelect_spec hs) (fun c a w => hQ c a _ _ w) (fun j oj w w' hoj hnot hr hs => hR j w w' (fun hjz => ?_) hr hs) _ _ _ _ (Region.free_spec hi h2) (by simpa using h1) (.inl ⟨hw, hy⟩) hS hRi h
  obtain ⟨e, he, hb, heq⟩ := waitsB_spec (h3 j hjz) oj hoj
  exact hnot e he hb heq
theorem wpAnyY_one {i : Nat} {oi : Oper} {fuel : Nat} {listed : Array Bool} {a : Act} {w : World} (hr : Region.ready md ops listed = [i]) (hi : ops[i]? = some oi)
    (h : ∀ K : Act → World → Prop, (∀ a w', R i w w' → wpAnyY P md ops Q R fuel (listed.setIfInBounds i true) a w' → K a w') → wpList P ops (Exit.then K Q) [oi] a w) : wpAnyY P md ops Q R (fuel + 1) listed a w := by
  refine ⟨fun h1 => (by rw [hr] at h1; cases h1), fun j hj => ?_⟩
  rw [hr] at hj
  obtain rfl : j = i := by simpa using hj
  exact wpOp_of_list hi (h _ fun _ _ h1 h2 => ⟨h1, h2⟩)
theorem wpAnyY_two {i j : Nat} {oi oj : Oper} {fuel : Nat} {listed : Array Bool} {a : Act} {w : World} (hr : Region.ready md ops listed = [i, j]) (hi : ops[i]? = some oi) (hj : ops[j]? = some oj)
    (h1 : ∀ K : Act → World → Prop, (∀ a w', R i w w' → wpAnyY P md ops Q R fuel (listed.setIfInBounds i true) a w' → K a w') → wpList P ops (Exit.then K Q) [oi] a w)
    (h2 : ∀ K : Act → World → Prop, (∀ a w', R j w w' → wpAnyY P md ops Q R fuel (listed.setIfInBounds j true) a w' → K a w') → wpList P ops (Exit.then K Q) [oj] a w) : wpAnyY P md ops Q R (fuel + 1) listed a w := by
  refine ⟨fun h => (by rw [hr] at h; cases h), fun k hk => ?_⟩
  rw [hr] at hk
  simp only [List.mem_cons, List.not_mem_nil, or_false] at hk
  rcases hk with rfl | rfl
  · exact wpOp_of_list hi (h1 _ fun _ _ h3 h4 => ⟨h3, h4⟩)
  · exact wpOp_of_list hj (h2 _ fun _ _ h3 h4 => ⟨h3, h4⟩)
theorem wpAnyY_end {fuel : Nat} {listed : Array Bool} {a : Act} {w : World} (hr : Region.ready md ops listed = []) (h : Q .normal a w) : wpAnyY P md ops Q R fuel listed a w := by
  cases fuel with
  | zero => exact ⟨hr, h⟩
  | succ n => exact ⟨fun _ => h, fun i hi => (by rw [hr] at hi; cases hi)⟩
theorem wpIn_region_tree {id : Nat} {a : Act} {w : World} {l : List Oper} {l₀ : Option Nat} {n : Nat} (R : Nat → World → World → Prop) (hm : P.follows .mixedOrders = true)
    (hd : noDefer l.toArray = true) (ho : ∀ a w, ¬ Q .outgrown a w) (h : wpAnyY P .any l.toArray Q R l.toArray.size (Array.replicate l.toArray.size false) a w.drew) : (Code.region id l.toArray true).wpIn (wideAt l₀) n P Q a w :=
  wpIn_region_any hm (wpAnyIn_of_wpAny ho hd _ _ _ _ (wpAny_of_Y _ _ _ _ h))
theorem wp_region_tree {id : Nat} {a : Act} {w : World} {l : List Oper} (R : Nat → World → World → Prop) (hm : P.follows .mixedOrders = true)
    (h : wpAnyY P .any l.toArray Q R l.toArray.size (Array.replicate l.toArray.size false) a w.drew) : (Code.region id l.toArray true).wp P Q a w :=
  wp_region_any hm (wpAny_of_Y _ _ _ _ h)
end
end Go.Proofs.YtekodpcedjpnjaaGreat
namespace Go.Proofs.YtekodpcedjpnjaaGreat
section
variable {P : Program} {ops : Array Oper} {Q : Exit → Act → World → Prop} {md : Region.Mode} {S : World → Prop} {z : Nat}
def ClosedL (md : Region.Mode) (ops : Array Oper) (listed : Array Bool) : Prop := ∀ (k : Nat) (ok : Oper), ops[k]? = some ok → listed.getD k false = true → ∀ e ∈ ok.after, Region.binds md e = true → listed.getD e.on false = true
theorem ClosedL.start (n : Nat) : ClosedL md ops (Array.replicate n false) := fun k ok _ h => by
  exfalso
  rcases Nat.lt_or_ge k n with h' | h'
  · simp [h'] at h
  · rw [Array.getD_eq_getD_getElem?, Array.getElem?_eq_none (by simpa using h')] at h
    cases h
theorem getD_set_f (listed : Array Bool) (i j : Nat) : (listed.setIfInBounds i true).getD j false = true ↔ listed.getD j false = true ∨ (i = j ∧ j < listed.size) := by
  simp only [Array.getD_eq_getD_getElem?, Array.getElem?_setIfInBounds]
  by_cases h : i = j
  · subst h
    by_cases h2 : i < listed.size <;> simp [h2]
  · simp [h]
theorem ClosedL.set {listed : Array Bool} (hc : ClosedL md ops listed) {i : Nat} (hi : i ∈ Region.ready md ops listed) : ClosedL md ops (listed.setIfInBounds i true) := fun k ok hk hl e he hb => by
  refine (getD_set_f _ _ _).2 (.inl ?_)
  rcases (getD_set_f _ _ _).1 hl with h1 | ⟨rfl, _⟩
  · exact hc k ok hk h1 e he hb
  · obtain ⟨_, oi, hoi, hall⟩ := mem_ready.1 hi
    rw [hk] at hoi
    cases hoi
    exact hall e he hb
def waitsTB (md : Region.Mode) (ops : Array Oper) : Nat → Nat → Nat → Bool
  | 0, _, _ => false
  | f + 1, z, i => match ops[z]? with
    | some oz => oz.after.toList.any fun e => Region.binds md e && (Nat.beq e.on i || waitsTB md ops f e.on i)
    | none => false
theorem waitsTB_listed {listed : Array Bool} (hc : ClosedL md ops listed) {i : Nat} : ∀ (f z : Nat), (∀ oz, ops[z]? = some oz → ∀ e ∈ oz.after, Region.binds md e = true → listed.getD e.on false = true) → waitsTB md ops f z i = true → listed.getD i false = true
  | 0, _, _, h => by cases h
  | f + 1, z, hz, h => by
    unfold waitsTB at h
    cases ho : ops[z]? with
    | none => rw [ho] at h; cases h
    | some oz =>
      rw [ho] at h
      dsimp only at h
      rw [List.any_eq_true] at h
      obtain ⟨e, he, hb⟩ := h
      rw [Bool.and_eq_true, Bool.or_eq_true] at hb
      have hl := hz oz ho e (by simpa using he) hb.1
      rcases hb.2 with h1 | h1
      · rw [← Nat.eq_of_beq_eq_true h1]; exact hl
      · exact waitsTB_listed hc f e.on (fun o2 ho2 e2 he2 hb2 => hc e.on o2 ho2 hl e2 he2 hb2) h1
theorem wpAnyZ_firstT {i f : Nat} {oi : Oper} {v : Value} (hi : ops[i]? = some oi) (hsel : ∀ (j : Nat) (o : Oper) cs b, ops[j]? = some o → o.op ≠ .select cs b)
    (hQ : ∀ c a w, Q (.panic c) (a.put oi.dst v) w → Q (.panic c) a w) (ht : waitsTB md ops f z i = true) :
    ∀ (fuel : Nat) (listed : Array Bool) (a : Act) (w : World), ClosedL md ops listed →
      (∀ j oj, ops[j]? = some oj → j ≠ i → listed.getD j true = false → (∀ e ∈ oj.after, Region.binds md e = true → e.on ≠ i) → oi.apart ops oj = true) →
      i ∈ Region.ready md ops listed → YieldsIf P ops S oi v a → S w →
      wpAnyZ P md ops Q S z fuel (listed.setIfInBounds i true) (a.put oi.dst v) w → wpAnyZ P md ops Q S z (fuel + 1) listed a w := by
  intro fuel
  induction fuel with
  | zero =>
    intro listed a w _ _ hr hy hS H
    refine ⟨fun h => (by rw [h] at hr; cases hr), fun j hj => ?_⟩
    by_cases hji : j = i
    · subst hji; exact hy.wpOp hi hS ⟨fun _ => hS, H⟩
    · have := ready_mono hj hji
      rw [H.1] at this
      cases this
  | succ fuel ih =>
    intro listed a w hcl hfree hr hy hS H
    refine ⟨fun h => (by rw [h] at hr; cases hr), fun j hj => ?_⟩
    by_cases hji : j = i
    · subst hji; exact hy.wpOp hi hS ⟨fun _ => hS, H⟩
    · have h1 := H.2 j (ready_mono hj hji)
      obtain ⟨hjun, oj, hoj, hall⟩ := mem_ready.1 hj
      have no : listed.getD i false = true → False := fun h1 => by
        have h0 := (mem_ready.1 hr).1
        rcases Nat.lt_or_ge i listed.size with h' | h'
        · simp [h'] at h0 h1; rw [h0] at h1; cases h1
        · simp [Array.getElem?_eq_none h'] at h1
      have hnot : ∀ e ∈ oj.after, Region.binds md e = true → e.on ≠ i := fun e he hb heq => by
        have h1 := hall e he hb
        rw [heq] at h1
        exact no h1
      have hjz : j ≠ z := fun e => by
        subst e
        exact no (waitsTB_listed hcl f j (fun oz hoz e he hb => by rw [hoj] at hoz; cases hoz; exact hall e he hb) ht)
      have h2 := wpOp_putIf hoj (hfree j oj hoj hji hjun hnot) (fun cs b => hsel i oi cs b hi) (fun cs b => hsel j oj cs b hoj) hQ hy h1
      have hfree' : ∀ k ok, ops[k]? = some ok → k ≠ i → (listed.setIfInBounds j true).getD k true = false →
          (∀ e ∈ ok.after, Region.binds md e = true → e.on ≠ i) → oi.apart ops ok = true := fun k ok hk hki hun hno => by
        refine hfree k ok hk hki ?_ hno
        by_cases hjk : j = k
        · subst hjk; exact hjun
        · rw [getD_set_ne true hjk] at hun; exact hun
      refine wpOp_mono (fun a' w' h3 => ⟨fun _ => h3.2.1 hjz, ih (listed.setIfInBounds j true) a' w' (hcl.set hj) hfree' (ready_mono hr (Ne.symm hji)) h3.1 (h3.2.1 hjz) ?_⟩) h2
      rw [Array.setIfInBounds_comm _ _ hji]
      exact h3.2.2
def mixBT (md : Region.Mode) (ops : Array Oper) (f z : Nat) : List (Bool × Nat) → Array Bool → Bool
  | [], listed => (Region.ready md ops listed).isEmpty
  | (true, k) :: r, listed => (Region.ready md ops listed).contains k && (Region.free md ops listed k && (waitsTB md ops f z k && mixBT md ops f z r (listed.setIfInBounds k true)))
  | (false, k) :: r, listed => decide (Region.ready md ops listed = [k]) && ((!r.isEmpty || Nat.beq k z) && mixBT md ops f z r (listed.setIfInBounds k true))
theorem wpAnyZ_mixT {f : Nat} (hs : Region.noSelect ops = true) (hQ : ∀ c a d v w, Q (.panic c) (Act.put a d v) w → Q (.panic c) a w) : ∀ (is : List (Bool × Nat)) (l : List (Bool × Oper)) (listed : Array Bool) (a : Act) (w : World), ClosedL md ops listed →
    is.map (fun p => (p.1, ops[p.2]?)) = l.map (fun p => (p.1, some p.2)) → mixBT md ops f z is listed = true → (l ≠ [] → S w) → wpMix P ops Q S l a w → wpAnyZ P md ops Q S z l.length listed a w
  | [], l, listed, a, w, _, hl, hB, hS, h => by
    have e : l = [] := by
      rw [List.map_nil] at hl
      exact List.map_eq_nil_iff.1 hl.symm
    subst e
    exact ⟨by simpa [mixBT] using hB, h⟩
  | (b, k) :: is, l, listed, a, w, hc, hl, hB, hS, h => by
    obtain ⟨⟨b', o⟩, l, rfl⟩ : ∃ o l', l = o :: l' := by
      match l, hl with
      | [], hl => simp at hl
      | o :: l', _ => exact ⟨o, l', rfl⟩
    rw [List.map_cons, List.map_cons] at hl
    obtain ⟨hp, hl'⟩ := List.cons.inj hl
    have hb : b = b' := congrArg Prod.fst hp
    have h0 : ops[k]? = some o := congrArg Prod.snd hp
    clear hp
    subst hb
    have hSw := hS (by simp)
    have hle : is.length = l.length := by have := congrArg List.length hl'; simpa using this
    cases b with
    | true =>
      obtain ⟨v, hy, h⟩ := h
      simp only [mixBT, Bool.and_eq_true] at hB
      obtain ⟨h1, h2, h3, h4⟩ := hB
      have h1 : k ∈ Region.ready md ops listed := by simpa using h1
      exact wpAnyZ_firstT h0 (Region.noSelect_spec hs) (fun c a w => hQ c a _ _ w) h3 _ _ _ _ hc (Region.free_spec h0 h2) h1 hy hSw
        (wpAnyZ_mixT hs hQ is l _ _ w (hc.set h1) hl' h4 (fun _ => hSw) h)
    | false =>
      simp only [mixBT, Bool.and_eq_true, decide_eq_true_eq] at hB
      obtain ⟨h1, h2, h3⟩ := hB
      refine ⟨fun h4 => (by rw [h1] at h4; cases h4), fun i hi => ?_⟩
      have hi' := hi
      rw [h1] at hi
      obtain rfl : i = k := by simpa using hi
      refine wpOp_mono (fun a' w' h' => ⟨fun hne => h'.1 (fun e => hne ?_), wpAnyZ_mixT hs hQ is l _ a' w' (hc.set hi') hl' h3 h'.1 h'.2⟩) (wpOp_of_list h0 h)
      have e2 : is = [] := by
        rw [e] at hle
        exact List.length_eq_zero_iff.1 hle
      rw [e2] at h2
      simpa using h2
theorem wp_region_mixT {id : Nat} {a : Act} {w : World} {l : List Oper} (f : Nat) (is : List (Bool × Nat)) (S : World → Prop) (hm : P.follows .mixedOrders = true) (hs : Region.noSelect l.toArray = true)
    (hr : is.map (fun p => (p.1, l.toArray[p.2]?)) = (mixL l is).map (fun p => (p.1, some p.2))) (hn : Nat.beq (mixL l is).length l.length = true)
    (hB : mixBT .any l.toArray f (l.length - 1) is (Array.replicate l.length false) = true)
    (hQ : ∀ c a d v w, Q (.panic c) (Act.put a d v) w → Q (.panic c) a w) (hS : S w.drew)
    (h : wpMix P l.toArray Q S (mixL l is) a w.drew) : (Code.region id l.toArray true).wp P Q a w := by
  have hn := Nat.eq_of_beq_eq_true hn
  refine wp_region_any hm (wpAny_of_Z (S := S) (z := l.length - 1) _ _ _ _ ?_)
  have := wpAnyZ_mixT (md := .any) (z := l.length - 1) (P := P) (Q := Q) (S := S) hs hQ is (mixL l is) (Array.replicate l.length false) a w.drew (ClosedL.start _) hr hB (fun _ => hS) h
  rw [hn] at this
  simpa using this
end
end Go.Proofs.YtekodpcedjpnjaaGreat
