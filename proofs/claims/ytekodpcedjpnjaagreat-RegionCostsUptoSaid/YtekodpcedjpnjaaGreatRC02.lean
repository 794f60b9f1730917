/- Small words that all proofs of this seat use: rows of cells in memory, what abides under growth, and two laws for a region that draws its order inside a fence (a still head, then a tail in one forced order). No condition. The order of a region in which the operations stand is a lexical one: a check that the kernel makes fast also where there are many operations. No condition. Regions that draw their order, at the class of all worlds that are as they were below a block. Regions that draw their order, from a world that is as another was below a block. No condition. A loop over an iterator that reads, behind each round, a block that it has made itself: the block goes by a ghost number, and the body keeps it. No condition. -/
import Derived.WalkKit
import Derived.Lib.Hide
import Derived.WalkLawsBesides
import Derived.StillTailTactics
import Derived.RangeFuncNested
import Derived.RangeFuncBound
import Derived.RangeFuncCalls
import Derived.RangeFuncLeaves
import Derived.Shelf.Abstract
import Derived.Shelf.RegionOpen
import Derived.OwnWalkIn
import Derived.TacticsInMore
import Derived.LoopNIn
import Derived.LoopIn
import Derived.BigQuiet
import Derived.Deep.QuietTactic
import Derived.OrdersIn
import Derived.Still
import Derived.Shelf.RegionOpenPlain
import Derived.RangeFuncFrom
set_option linter.unusedVariables false
set_option linter.unusedSimpArgs false
namespace Go.Proofs.YtekodpcedjpnjaaGreat
open Go.RowKit
def nth {α : Type} (d : α) (l : List α) (j : Nat) : α := l.getD j d
theorem nth_eq {α : Type} (d : α) (l : List α) (j : Nat) (h : j < l.length) : nth d l j = l[j] := by simp [nth, h]
def RowAt (B : Nat) (w : World) (a : Option Addr) (vs : List Value) : Prop :=
  ∀ j, j < vs.length → ∃ b off, a = some ⟨b, off, none⟩ ∧ b < B ∧ w.cell? ⟨b, off + j, none⟩ = some (nth undef vs j)
theorem RowAt.below {B : Nat} {w w' : World} {a : Option Addr} {vs : List Value} (h : RowAt B w a vs) (hb : Below B w w') : RowAt B w' a vs := fun j hj => by
  obtain ⟨b, off, e, hlt, hc⟩ := h j hj
  exact ⟨b, off, e, hlt, (hb.cell (p := ⟨b, off + j, none⟩) hlt).trans hc⟩
theorem RowAt.more {B B' : Nat} {w : World} {a : Option Addr} {vs : List Value} (h : RowAt B w a vs) (hB : B ≤ B') : RowAt B' w a vs := fun j hj => by
  obtain ⟨b, off, e, hlt, hc⟩ := h j hj
  exact ⟨b, off, e, by omega, hc⟩
theorem RowAt.nil (B : Nat) (w : World) (a : Option Addr) : RowAt B w a [] := fun j hj => by simp at hj
theorem nth_map {α : Type} (f : α → Value) (d : α) (l : List α) (j : Nat) (h : j < l.length) : nth undef (l.map f) j = f (nth d l j) := by simp [nth, h]
theorem RowAt.new (w : World) (vs : List Value) (e : TypeId) : RowAt (w.alloc (.cells vs.toArray e)).heap.size (w.alloc (.cells vs.toArray e)) (some ⟨w.heap.size, 0, none⟩) vs := fun j hj => by
  refine ⟨w.heap.size, 0, rfl, by simp, ?_⟩
  have h0 : (w.alloc (.cells vs.toArray e)).heap[w.heap.size]? = some (.cells vs.toArray e) := World.alloc_heap_new w _
  unfold World.cell?
  dsimp only
  rw [h0]
  simp [nth, hj]
theorem bcell {W w1 : World} {B : Nat} (hb : Below B W w1) : (∀ b o, b < B → w1.cell? ⟨b, o, none⟩ = W.cell? ⟨b, o, none⟩) ∧ (∀ b o, b < B → w1.frozen? ⟨b, o, none⟩ = W.frozen? ⟨b, o, none⟩) :=
  ⟨fun b o h => hb.cell (p := ⟨b, o, none⟩) h, fun b o h => hb.frozen (p := ⟨b, o, none⟩) h⟩
theorem bto {B : Nat} {w w' w'' : World} (h : Below B w w') (h' : Below w'.heap.size w' w'') (hB : B ≤ w'.heap.size) : Below B w w'' := h.trans (h'.mono hB)
theorem bnext {w w' w'' : World} (h : Below w.heap.size w w') (h' : Below w'.heap.size w' w'') : Below w.heap.size w w'' := h.trans (h'.mono h.size)
theorem cell_new_l (W : World) (v : Value) (t : TypeId) : (W.alloc (.cells #[v] t)).cell? ⟨W.heap.size, 0, none⟩ = some v ∧ (W.alloc (.cells #[v] t)).frozen? ⟨W.heap.size, 0, none⟩ = false := by
  have h : (W.alloc (.cells #[v] t)).heap[W.heap.size]? = some (.cells #[v] t) := World.alloc_heap_new W _
  unfold World.cell? World.frozen?
  dsimp only
  rw [h]
  exact ⟨rfl, by simp⟩
theorem cell_alloc_l {W : World} {a : Addr} {v : Value} (o : Obj) (h : W.cell? a = some v) : (W.alloc o).cell? a = some v := cell_kept h (World.grownBy_alloc W o none) (fun r e => by cases e)
theorem frozen_alloc_l {W : World} {a : Addr} {v : Value} (o : Obj) (h : W.cell? a = some v) (hf : W.frozen? a = false) : (W.alloc o).frozen? a = false := (frozen_kept h (World.grownBy_alloc W o none) (fun r e => by cases e)).trans hf
theorem ret_bool {a b : Bool} (h : a = b) : Ending.returned (.bool a) = .returned (.bool b) := by rw [h]
theorem ret_int {k : IntKind} {a b : Int} (h : a = b) : Ending.returned (.int k a) = .returned (.int k b) := by rw [h]
theorem ret_str {a b : ByteArray} (h : a = b) : Ending.returned (.string a) = .returned (.string b) := by rw [h]
section
variable {P : Program} {ops : Array Oper} {md : Region.Mode} {w : World} {l₀ : Option Nat} {n : Nat}
def wideAt (l₀ : Option Nat) : Fence := { Fence.wide with round := l₀ }
theorem callsIn_wideAt {n : Nat} {l₀ : Option Nat} {f : FuncId} {args : Array Value} {w : World} {R : Ending → World → Prop} (h : Calls P f args w R) : CallsIn (wideAt l₀) n P f args w R := by
  cases l₀ with
  | none => exact callsIn_wide.2 h
  | some l => exact CallsIn.inRound l (callsIn_wide.2 h)
def noDefer (ops : Array Oper) : Bool := ops.toList.all fun o => match o.op with | .defer _ => false | _ => true
theorem noDefer_spec (h : noDefer ops = true) {i : Nat} {o : Oper} (ho : ops[i]? = some o) : ∀ c, o.op ≠ .defer c := by
  intro c hc
  have hm : o ∈ ops.toList := by
    rw [Array.mem_toList_iff]; exact Array.mem_of_getElem? ho
  have := List.all_eq_true.1 h o hm
  rw [hc] at this
  cases this
theorem uponIn_of_upon {o : Oper} {a : Act} {next : Act → World → Prop} {Q : Exit → Act → World → Prop} {r : Result Next} (h : o.upon P a next Q r) :
    o.uponIn (wideAt l₀) n P a next Q r := by
  cases r with
  | ok x w' =>
    cases x <;> simp only [Oper.upon, Oper.uponIn] at h ⊢ <;> first
      | exact h
      | exact ⟨fun hd => (by cases hd), (callsIn_wideAt h).mono fun e w2 he => (by cases e <;> exact he)⟩
      | (refine ⟨fun hd => (by cases hd), fun c cs _ => ?_⟩
         obtain ⟨v, w2, hR, hs⟩ := h c cs
         refine ⟨v, w2, hR, ?_⟩
         have hs2 := (StepsIn.of_steps hs).mono (I' := Machine.fenced P Fence.wide) (fun m _ => fenced_wide P m)
         cases l₀ <;> exact hs2)
      | exact h.elim
  | halt x w' => cases x <;> simp only [Oper.upon, Oper.uponIn] at h ⊢ <;> first | exact h | exact h.elim
theorem wpOpIn_of_wpOp {Q : Exit → Act → World → Prop} (hq : ∀ a w, ¬ Q .outgrown a w) (hd : noDefer ops = true) {i : Nat} {K : Act → World → Prop} {a : Act} {w : World}
    (h : wpOp P ops Q i K a w) : wpOpIn (wideAt l₀) n P ops Q i K a w := by
  unfold wpOp at h
  unfold wpOpIn
  split
  · rename_i ho; simp only [ho] at h; exact h
  · rename_i o ho
    simp only [ho] at h
    split
    · rename_i hw
      simp only [hw, if_true] at h
      rcases h with h | ⟨_, a₀, w₀, hl⟩
      · refine ⟨fun _ _ => trivial, ?_⟩
        rw [Oper.semAt_eq _ _ _ (noDefer_spec hd ho)]
        exact uponIn_of_upon h
      · exact (hq _ _ hl).elim
    · rename_i hw
      rw [if_neg hw] at h
      exact ⟨fun _ _ => trivial, h⟩
theorem wpAnyIn_of_wpAny {Q : Exit → Act → World → Prop} (hq : ∀ a w, ¬ Q .outgrown a w) (hd : noDefer ops = true) : ∀ (fuel : Nat) (listed : Array Bool) (a : Act) (w : World),
    wpAny P md ops Q fuel listed a w → wpAnyIn (wideAt l₀) n P md ops Q fuel listed a w
  | 0, _, _, _, h => h
  | fuel + 1, _, _, _, h => ⟨h.1, fun i hi => wpOpIn_mono (fun a' w' => wpAnyIn_of_wpAny hq hd fuel _ a' w') (wpOpIn_of_wpOp hq hd (h.2 i hi))⟩
theorem wpOpIn_of_stOp {i : Nat} {a : Act} {K : Act → Prop} {K' : Act → World → Prop} {Q' : Exit → Act → World → Prop} (hd : noDefer ops = true) (h : ∀ a, K a → K' a w) (hh : stOp P ops w i K a) :
    wpOpIn (wideAt l₀) n P ops Q' i K' a w := by
  unfold stOp at hh
  unfold wpOpIn
  split
  · rename_i ho; simp only [ho] at hh; exact h _ hh
  · rename_i o ho
    simp only [ho] at hh
    split
    · rename_i hw
      simp only [hw, if_true] at hh
      refine ⟨fun _ _ => trivial, ?_⟩
      rw [Oper.semAt_eq _ _ _ (noDefer_spec hd ho)]
      exact uponIn_of_upon (Oper.wp_of_still h hh)
    · rename_i hw; rw [if_neg hw] at hh; exact ⟨fun _ _ => trivial, h _ hh⟩
theorem wpAnyIn_of_head {n₁ g : Nat} {L : Array Bool → Act → Prop} {Q' : Exit → Act → World → Prop} (hd : noDefer ops = true) (hL : ∀ listed a, L listed a → wpAnyIn (wideAt l₀) n P md ops Q' g listed a w) :
    ∀ (f : Nat) (listed : Array Bool) (a : Act), wpAnyL P md ops w n₁ L f listed a → wpAnyIn (wideAt l₀) n P md ops Q' (f + g) listed a w
  | 0, listed, a, h => by rw [Nat.zero_add]; exact hL _ _ h
  | f + 1, listed, a, h => by
    rw [show f + 1 + g = (f + g) + 1 by omega]
    exact ⟨fun h0 => absurd h0 h.1, fun i hi => wpOpIn_of_stOp hd (fun a' h' => wpAnyIn_of_head hd hL f _ a' h') (h.2 i hi).2⟩
theorem wpAnyIn_of_seq {Q' : Exit → Act → World → Prop} : ∀ (l : List Oper) (k : Nat) (listed : Array Bool) (a : Act) (w : World), (∀ j, l[j]? = ops[k + j]?) →
    Region.seqB md ops l.length k listed = true → wpListIn (wideAt l₀) n P ops Q' l a w → wpAnyIn (wideAt l₀) n P md ops Q' l.length listed a w
  | [], _, _, _, _, _, hB, h => ⟨by simpa [Region.seqB] using hB, h⟩
  | o :: l, k, listed, a, w, hl, hB, h => by
    have h0 : ops[k]? = some o := by simpa using (hl 0).symm
    simp only [List.length_cons, Region.seqB, Bool.and_eq_true, decide_eq_true_eq] at hB
    refine ⟨fun h1 => (by rw [hB.1] at h1; cases h1), fun i hi => ?_⟩
    rw [hB.1] at hi
    have hik : i = k := by simpa using hi
    subst hik
    have hw : wpOpIn (wideAt l₀) n P ops Q' i (wpListIn (wideAt l₀) n P ops Q' l) a w := by unfold wpOpIn; simp only [h0]; exact h
    exact wpOpIn_mono (fun a' w' h' => wpAnyIn_of_seq l (i + 1) _ a' w' (fun j => by have := hl (j + 1); simpa [Nat.add_assoc, Nat.add_comm 1 j] using this) hB.2 h') hw
theorem wpIn_region_still_tail {id : Nat} {Q : Exit → Act → World → Prop} {a : Act} {w : World} {l : List Oper} (n₁ : Nat) (hm : P.follows .mixedOrders = true) (hB : Region.lexTailB .any l.toArray n₁ = true)
    (hd : noDefer l.toArray = true)
    (h : wpStill P l.toArray { w with drawn := w.drawn + 1 } (fun a' => wpListIn (wideAt l₀) n P l.toArray Q (l.drop n₁) a' { w with drawn := w.drawn + 1 }) (l.take n₁) a) : (Code.region id l.toArray true).wpIn (wideAt l₀) n P Q a w := by
  simp only [Region.lexTailB, Bool.and_eq_true, decide_eq_true_eq] at hB
  obtain ⟨⟨⟨⟨hsel, hn⟩, hs⟩, hc⟩, hlex⟩ := hB
  have hn' : n₁ < l.length := by simpa using hn
  have htl : (l.take n₁).length = n₁ := by simp; omega
  have hdl : (l.drop n₁).length = l.toArray.size - n₁ := by simp
  have inv0 : HeadInv .any l.toArray n₁ (Array.replicate l.toArray.size false) :=
    ⟨by simp, fun j oj _ hl => (by rw [getD_replicate_false] at hl; cases hl), fun t _ ht => getD_in (by simpa using ht) (getD_replicate_false _ _)⟩
  have H := wpAnyL_lex (md := .any) (g := l.toArray.size - n₁) hsel hs hc hn (l.take n₁) 0 _ a (fun j hj => by
    have hj' : j < n₁ := by rw [htl] at hj; exact hj
    simp [hj']) (by simpa using htl) inv0 (by rw [htl]; exact hlex) h
  refine wpIn_region_any hm ?_
  have := wpAnyIn_of_head (Q' := Q) (n := n) (l₀ := l₀) (g := l.toArray.size - n₁) hd (fun listed a' hL => by
    have := wpAnyIn_of_seq (md := .any) (Q' := Q) (n := n) (l₀ := l₀) (l.drop n₁) n₁ listed a' { w with drawn := w.drawn + 1 } (fun j => by simp [List.getElem?_drop]) (by rw [hdl]; exact hL.1) hL.2
    rwa [hdl] at this) _ _ _ H
  rw [htl, show n₁ + (l.toArray.size - n₁) = l.toArray.size by omega] at this
  exact this
end
section
variable {P : Program}
def runOps (P : Program) (ops : Array Oper) : List Oper → Act → World → Option (Act × World)
  | [], a, w => some (a, w)
  | o :: rest, a, w =>
    if Region.wanted o (yielded ops a.tmps) then
      match (execOp a.eval o).run P w with
      | .ok (.value v) w' => runOps P ops rest (a.put o.dst v) w'
      | _ => none
    else runOps P ops rest (a.put o.dst undef) w
theorem runOps_sound {ops : Array Oper} {Q : Exit → Act → World → Prop} : ∀ (l : List Oper) (a : Act) (w : World) (a' : Act) (w' : World), runOps P ops l a w = some (a', w') → Q .normal a' w' → wpList P ops Q l a w
  | [], a, w, a', w', h, hq => by simp only [runOps, Option.some.injEq, Prod.mk.injEq] at h; obtain ⟨rfl, rfl⟩ := h; exact hq
  | o :: l, a, w, a', w', h, hq => by
    unfold runOps at h
    unfold wpList
    split at h
    · rename_i hw
      rw [if_pos hw]
      split at h
      · rename_i v w1 hr
        refine .inl ?_
        unfold Oper.wp
        rw [hr]
        exact runOps_sound l _ _ _ _ h hq
      · cases h
    · rename_i hw
      rw [if_neg hw]
      exact runOps_sound l _ _ _ _ h hq
def runCode (P : Program) : Code → Act → World → Option (Exit × Act × World)
  | .skip, a, w => some (.normal, a, w)
  | .seq x y, a, w =>
    match runCode P x a w with
    | some (.normal, a1, w1) => runCode P y a1 w1
    | r => r
  | .cond c x y, a, w =>
    match a.eval c with
    | .bool true => runCode P x a w
    | .bool false => runCode P y a w
    | _ => none
  | .block id c, a, w =>
    match runCode P c a w with
    | some (.exit id', a1, w1) => if id' = id then some (.normal, a1, w1) else some (.exit id', a1, w1)
    | r => r
  | .ret, a, w => some (.ret, a, w)
  | .exit id, a, w => some (.exit id, a, w)
  | .region _ ops false, a, w => (runOps P ops ops.toList a w).map fun x => (.normal, x.1, x.2)
  | _, _, _ => none
theorem runCode_sound (c : Code) : ∀ {Q : Exit → Act → World → Prop} (a : Act) (w : World) (e : Exit) (a' : Act) (w' : World), runCode P c a w = some (e, a', w') → Q e a' w' → c.wp P Q a w := by
  induction c with
  | skip => intro Q a w e a' w' h hq; simp only [runCode, Option.some.injEq, Prod.mk.injEq] at h; obtain ⟨rfl, rfl, rfl⟩ := h; exact wp_skip hq
  | ret => intro Q a w e a' w' h hq; simp only [runCode, Option.some.injEq, Prod.mk.injEq] at h; obtain ⟨rfl, rfl, rfl⟩ := h; exact wp_ret hq
  | exit id => intro Q a w e a' w' h hq; simp only [runCode, Option.some.injEq, Prod.mk.injEq] at h; obtain ⟨rfl, rfl, rfl⟩ := h; exact wp_exit hq
  | seq x y ihx ihy =>
    intro Q a w e a' w' h hq
    unfold runCode at h
    refine wp_seq ?_
    split at h
    · rename_i a1 w1 hx
      exact ihx _ _ _ _ _ hx (ihy _ _ _ _ _ h hq)
    · rename_i hx
      refine ihx _ _ _ _ _ h ?_
      cases e with
      | normal => exact (hx _ _ h).elim
      | _ => exact hq
  | cond c x y ihx ihy =>
    intro Q a w e a' w' h hq
    unfold runCode at h
    split at h
    · rename_i hc; exact wp_cond_true hc (ihx _ _ _ _ _ h hq)
    · rename_i hc; exact wp_cond_false hc (ihy _ _ _ _ _ h hq)
    · cases h
  | block id c ih =>
    intro Q a w e a' w' h hq
    unfold runCode at h
    refine wp_block ?_
    split at h
    · rename_i id' a1 w1 hc
      refine ih _ _ _ _ _ hc ?_
      split at h
      · rename_i he
        simp only [Option.some.injEq, Prod.mk.injEq] at h; obtain ⟨rfl, rfl, rfl⟩ := h
        simp only [Exit.inBlock, he, if_true]; exact hq
      · rename_i he
        simp only [Option.some.injEq, Prod.mk.injEq] at h; obtain ⟨rfl, rfl, rfl⟩ := h
        simp only [Exit.inBlock, he, if_false]; exact hq
    · rename_i hx
      refine ih _ _ _ _ _ h ?_
      cases e with
      | exit id' => exact (hx _ _ _ h).elim
      | _ => exact hq
  | region id ops draw =>
    intro Q a w e a' w' h hq
    cases draw with
    | true => simp [runCode] at h
    | false =>
      simp only [runCode, Option.map_eq_some_iff] at h
      obtain ⟨⟨a1, w1⟩, h1, h2⟩ := h
      simp only [Prod.mk.injEq] at h2
      obtain ⟨rfl, rfl, rfl⟩ := h2
      exact wp_region_list (runOps_sound _ _ _ _ _ h1 hq)
  | _ => intro Q a w e a' w' h hq; simp [runCode] at h
def runFn (P : Program) (fn : Func) (args : Array Value) (w : World) : Option (Value × World) :=
  match fn.body with
  | some c =>
    match runCode P c { tmps := args ++ Array.replicate (fn.ntmps - args.size) undef, defers := [] } w with
    | some (.ret, a, w') => if a.defers.isEmpty then (match (results fn a.tmps).run P w' with | .ok v w2 => some (v, w2) | _ => none) else none
    | _ => none
  | none => none
theorem calls_of_run {f : FuncId} {fn : Func} {args : Array Value} {w : World} {R : Ending → World → Prop} (hf : P.funcs[f]? = some fn) (v : Value) (w' : World) (hr : runFn P fn args w = some (v, w'))
    (hw : ∀ a w1, (results fn a).run P w1 = .ok v w' → w1 = w') (hR : R (.returned v) w') : Calls P f args w R := by
  unfold runFn at hr
  split at hr
  · rename_i c hb
    split at hr
    · rename_i a w1 hc
      split at hr
      · rename_i hd
        split at hr
        · rename_i v2 w2 hres
          simp only [Option.some.injEq, Prod.mk.injEq] at hr
          obtain ⟨rfl, rfl⟩ := hr
          have e := hw _ _ hres
          subst e
          exact calls_of_wp hf hb (runCode_sound c _ _ _ _ _ hc ⟨by simpa using hd, v2, hres, hR⟩)
        · cases hr
      · cases hr
    · cases hr
  · cases hr
theorem results_keep {fn : Func} {t : Tmp} (h : fn.results = #[.tmp t]) {v : Value} {w' : World} : ∀ a w1, (results fn a).run P w1 = .ok v w' → w1 = w' := by
  intro a w1 h1
  rw [results_tmp h] at h1
  simp only [Result.ok.injEq] at h1
  exact h1.2
end
end Go.Proofs.YtekodpcedjpnjaaGreat
namespace Go.Proofs.YtekodpcedjpnjaaGreat
section
variable {md : Region.Mode} {ops : Array Oper}
def fastFrom (md : Region.Mode) (ops : Array Oper) : Nat → List Oper → Bool
  | _, [] => true
  | k, o :: l => (o.after.toList.all fun e => !Region.binds md e || Nat.blt e.on k) && ((l.all fun oj => oj.after.toList.any (fun e => Region.binds md e && Nat.beq e.on k) || o.apart ops oj) && fastFrom md ops (k + 1) l)
def fastB (md : Region.Mode) (ops : Array Oper) : Bool := Region.noSelect ops && fastFrom md ops 0 ops.toList
theorem fast_lex (l : List Oper) : ∀ (k : Nat) (listed : Array Bool), (∀ j, l[j]? = ops[k + j]?) → listed.size = ops.size → (∀ j, j < ops.size → listed[j]? = some (decide (j < k))) → k + l.length = ops.size →
    fastFrom md ops k l = true → Region.lexFrom md ops l.length k listed = true := by
  induction l with
  | nil =>
    intro k listed hl hs hj hk _
    simp only [List.length_nil, Nat.add_zero] at hk
    simp only [List.length_nil, Region.lexFrom, List.isEmpty_iff]
    unfold Region.ready
    rw [List.filter_eq_nil_iff]
    intro i hi
    have hi' := List.mem_range.1 hi
    have := hj i hi'
    have e : listed.getD i true = true := by rw [Array.getD_eq_getD_getElem?, this]; simp; omega
    simp [e]
  | cons o l ih =>
    intro k listed hl hs hj hk hB
    simp only [List.length_cons] at hk
    have h0 : ops[k]? = some o := by simpa using (hl 0).symm
    have hkn : k < ops.size := by omega
    simp only [fastFrom, Bool.and_eq_true] at hB
    obtain ⟨hA, hF, hR⟩ := hB
    have ek : listed.getD k true = false := by rw [Array.getD_eq_getD_getElem?, hj k hkn]; simp
    simp only [List.length_cons, Region.lexFrom, Bool.and_eq_true]
    refine ⟨⟨?_, ?_⟩, ?_⟩
    · rw [List.contains_iff_mem]
      unfold Region.ready
      rw [List.mem_filter]
      refine ⟨List.mem_range.2 hkn, ?_⟩
      rw [ek, h0]
      simp only [Bool.not_false, Bool.true_and, Option.map_some, Option.getD_some]
      rw [← Array.all_toList]
      rw [List.all_eq_true] at hA ⊢
      intro e he
      have := hA e he
      simp only [Bool.or_eq_true] at this ⊢
      rcases this with h | h
      · exact .inl h
      · have h' : e.on < k := by simpa [Nat.blt_eq] using h
        refine .inr ?_
        rw [Array.getD_eq_getD_getElem?, hj e.on (by omega)]
        simpa using h'
    · unfold Region.free
      simp only [h0]
      rw [List.all_eq_true]
      intro j hjr
      have hjn := List.mem_range.1 hjr
      by_cases h1 : j = k
      · simp [h1]
      · by_cases h2 : j < k
        · have : listed.getD j true = true := by rw [Array.getD_eq_getD_getElem?, hj j hjn]; simpa using h2
          simp [this]
        · have hoj : ops[j]? = some ops[j] := Array.getElem?_eq_getElem hjn
          have hm : ops[j] ∈ l := by
            have := hl (j - k)
            rw [show k + (j - k) = j by omega, hoj] at this
            obtain ⟨m, hm⟩ : ∃ m, j - k = m + 1 := ⟨j - k - 1, by omega⟩
            rw [hm, List.getElem?_cons_succ] at this
            exact List.mem_of_getElem? this
          have := (List.all_eq_true.1 hF) _ hm
          simp only [hoj, Bool.or_eq_true] at this ⊢
          refine .inr ?_
          rcases this with h | h
          · refine .inl ?_
            rw [← Array.any_toList]
            rw [List.any_eq_true] at h ⊢
            obtain ⟨e, he, hb⟩ := h
            refine ⟨e, he, ?_⟩
            simp only [Bool.and_eq_true] at hb ⊢
            exact ⟨hb.1, by simpa using Nat.eq_of_beq_eq_true hb.2⟩
          · exact .inr h
    · refine ih (k + 1) _ (fun j => by have := hl (j + 1); simpa [Nat.add_assoc, Nat.add_comm 1 j] using this) (by simpa using hs) (fun j hjn => ?_) (by omega) hR
      rw [Array.getElem?_setIfInBounds]
      by_cases h : k = j
      · subst h
        simp [hs, hjn]
      · rw [if_neg h, hj j hjn]
        congr 1
        rw [decide_eq_decide]
        omega
theorem lexB_fast (h : fastB md ops = true) : Region.lexB md ops = true := by
  simp only [fastB, Bool.and_eq_true] at h
  simp only [Region.lexB, Bool.and_eq_true]
  refine ⟨h.1, ?_⟩
  have := fast_lex ops.toList 0 (Array.replicate ops.size false) (by simp) (by simp) (fun j hj => by simp [hj]) (by simp) h.2
  simpa using this
end
end Go.Proofs.YtekodpcedjpnjaaGreat
namespace Go.Proofs.YtekodpcedjpnjaaGreat
open Go.RowKit
structure BW (B : Nat) (w : World) where
  W : World
  h : Below B w W
instance instBW (B : Nat) (w : World) : Nonempty (BW B w) := ⟨⟨w, Below.refl _ _⟩⟩
theorem wp_region_bw {P : Program} {id : Nat} {Q : Exit → Act → World → Prop} {a : Act} {w : World} {l : List Oper} (B : Nat) (hm : P.follows .mixedOrders = true) (hB : Region.lexB .any l.toArray = true)
    (h : wpQuiet P l.toArray (fun w' => ∃ p : BW B w, w' = p.W) (fun a' => ∀ w', (∃ p : BW B w, w' = p.W) → Q .normal a' w') l a) : (Code.region id l.toArray true).wp P Q a w :=
  wp_region_quiet (C := fun w' => ∃ p : BW B w, w' = p.W) hm hB ⟨⟨{ w with drawn := w.drawn + 1 }, ⟨rfl, rfl, rfl, Nat.le_refl _, fun _ _ => rfl⟩⟩, rfl⟩ (by simpa using h)
theorem Calls.bw_of {P : Program} {f : FuncId} {args : Array Value} {B : Nat} {w : World} {p : BW B w} {v : Value} (hB : B ≤ w.heap.size)
    (h : Calls P f args p.W fun e w' => e = .returned v ∧ Below p.W.heap.size p.W w') : Calls P f args p.W fun e w'' => e = .returned v ∧ ∃ q : BW B w, w'' = q.W :=
  h.mono fun _ _ ⟨he, hb⟩ => ⟨he, ⟨_, bto p.h hb (Nat.le_trans hB p.h.size)⟩, rfl⟩
theorem BW.cell {B : Nat} {w : World} (p : BW B w) {a : Addr} {v : Value} (hb : a.block < B) (h : w.cell? a = some v) : p.W.cell? a = some v := (p.h.cell hb).trans h
end Go.Proofs.YtekodpcedjpnjaaGreat
namespace Go.Proofs.YtekodpcedjpnjaaGreat
open Go.RowKit
end Go.Proofs.YtekodpcedjpnjaaGreat
namespace Go.Proofs.YtekodpcedjpnjaaGreat
open Go.RowKit
def SeqG {α : Type} (F : Fence) (n : Nat) (P : Program) (gf : Nat) (lb : Array Value) (encs : α → Array Value) (Kp : World → World → Prop) (X : Nat → List α → α → World → Prop) (S Sp : List α → Prop) (N : Nat) (w : World) : Prop :=
  ∀ (l : Nat) (J Jx : Nat → List α → World → Prop) (W : World), Below w.heap.size w W → (∀ g, AbidesFrom W.heap.size (J g)) → (∀ g, AbidesFrom W.heap.size (Jx g)) →
    (∀ g pre x W1, W.heap.size ≤ g → J g pre W1 → X g pre x W1 → pre.length < N → YieldAt F (n - 1) P l (encs x) W1 fun e W' =>
      (e = .returned (.bool true) ∧ J g (pre ++ [x]) W' ∧ (Kp W1 W' ∧ W'.heap[g]? = W1.heap[g]?)) ∨ (e = .returned (.bool false) ∧ Jx g (pre ++ [x]) W')) →
    (∀ g, W.heap.size ≤ g → J g [] W) →
    CallsIn F n P gf (#[.func (.yield l) #[] #[]] ++ lb) W fun e W' => (∃ v, e = .returned v) ∧ ∃ g, ((∃ xs, S xs ∧ J g xs W') ∨ (∃ pre, Sp pre ∧ Jx g pre W'))
section
variable {F : Fence} {n : Nat} {P : Program}
theorem wpIn_rangeFunc_GH {α : Type} {g : Operand} {ps : Array Tmp} {assign body : Code} {Q : Exit → Act → World → Prop} {a : Act} {w : World}
    (hro : F.round = none) (h1 : 1 ≤ n) {gf : Nat} {lb : Array Value} (hg : a.eval g = .func (.func gf) #[] lb) (hFg : F.fn gf) (eg : ∀ args w, (callFunc gf args).run P w = .ok (.enter gf args) w)
    {encs : α → Array Value} {Kp : World → World → Prop} {X : Nat → List α → α → World → Prop} {S Sp : List α → Prop} {N : Nat} {w0 : World} (hseq : SeqG F (n - 1) P gf lb encs Kp X S Sp N w0)
    (hKt : ∀ {A B C : World}, Kp A B → Kp B C → Kp A C) (hKb : ∀ (W : World) (l : Nat) (o o' : Obj), w.heap.size ≤ l → W.heap[l]? = some o → o.isCells = false → o.isWalk = false → Kp W (W.putObj l o')) (hb0 : Below w0.heap.size w0 w) (hps : ∀ x, (encs x).size = ps.size)
    (I : Nat → List α → World → Prop) (Ix : Nat → Code → List α → World → Prop) (hI : ∀ g, OwnFrom w.heap.size (I g)) (hIx : ∀ g c, OwnFrom w.heap.size (Ix g c)) (hX : ∀ g x, OwnFrom w.heap.size (fun pre W => X g pre x W)) (h0 : ∀ g, w.heap.size + 2 ≤ g → I g [] w) (a₁ : α → Act)
    (hassign : ∀ (l : Nat) (x : α) (W : World) (K : Act → World → Prop), K (a₁ x) W →
      assign.wpIn (F.inRound l) (n - 1 - 1) P (Exit.then K (fun _ _ _ => False)) { tmps := (ps.zip (encs x)).foldl (fun t (p, v) => t.setIfInBounds p v) a.tmps, defers := [] } W)
    (hbody : ∀ (l g : Nat) (pre : List α) (x : α) (W : World), w.heap.size ≤ l → l < W.heap.size → w.heap.size + 2 ≤ g → I g pre W → X g pre x W → pre.length < N → body.wpIn (F.inRound l) (n - 1 - 1) P (ownPostG w.heap.size (fun A B => Kp A B ∧ B.heap[g]? = A.heap[g]?) (I g) (Ix g) (pre ++ [x]) W) (a₁ x) W)
    (hdone : ∀ (D g : Nat) (xs : List α) (W : World), w.heap.size ≤ D → S xs → I g xs W → W.heap[D]? = some (.deferred (some [])) → Q .normal { a with defers := { target := .collected D, args := #[] } :: a.defers } W)
    (hstop : ∀ (D g : Nat) (c : Code) (pre : List α) (W : World), w.heap.size ≤ D → Sp pre → Ix g c pre W → W.heap[D]? = some (.deferred (some [])) → c.wpIn F n P Q { a with defers := { target := .collected D, args := #[] } :: a.defers } W) :
    (Code.rangeFunc g ps assign body).wpIn F n P Q a w := by
  refine wpIn_rangeFunc ?_
  intro fn hfn
  rw [hro]
  -- the loop's record, and the block for the rounds' deferred calls
  obtain ⟨R, hR⟩ : ∃ R : LoopState → Option Code → Loop, R = fun st pe => { state := st, pending := pe, fn, tmps := a.tmps, params := ps, assign, body, defers := w.heap.size } := ⟨_, rfl⟩
  obtain ⟨V, hV⟩ : ∃ V, (w.alloc (.deferred (some []))).alloc (.loop (R .ready none)) = V := ⟨_, rfl⟩
  have rec0 : V.heap[w.heap.size + 1]? = some (.loop (R .ready none)) := by
    have := World.alloc_heap_new (w.alloc (.deferred (some []))) (.loop (R .ready none))
    rw [World.size_alloc] at this
    rw [← hV]; exact this
  have def0 : V.heap[w.heap.size]? = some (.deferred (some [])) := by
    rw [← hV, Below.heap_alloc _ _ _ (by simp)]; exact World.alloc_heap_new w _
  have size0 : V.heap.size = w.heap.size + 1 + 1 := by rw [← hV]; simp
  have inv0 : ∀ g, V.heap.size ≤ g → I g [] V := fun g hg => by rw [← hV]; exact (hI g).alloc _ ((hI g).alloc _ (h0 g (by omega)))
  have below0 : Below w0.heap.size w0 V := by
    rw [← hV]; exact hb0.trans ((((Below.refl _ w).alloc (Nat.le_refl _) _).alloc (by simp) _).mono hb0.size)
  refine ⟨w.heap.size + 1, [{ target := .collected w.heap.size, args := #[] }], V, { target := .fn (.func gf) lb, args := #[.func (.yield (w.heap.size + 1)) #[] #[]] }, V, gf,
    #[.func (.yield (w.heap.size + 1)) #[] #[]] ++ lb, V, ?_, ?_, ?_, ?_, fun _ => h1, ?_⟩
  · rw [← hV, hR]; exact run_enterLoop_outer _ _ _ _ _
  · simp only [resolve, hg]
    simp [go_sem]
  · intro f' hf'; simp [Target.leads] at hf'; subst hf'; exact hFg
  · simp [invoke, go_sem, eg]
  · have far : ∀ {A : World} {row : Option Nat}, (∀ r, row = some r → V.heap.size ≤ r ∧ ∃ o : Obj, A.heap[r]? = some o ∧ o.isWalk = true) → ∀ r, row = some r → w.heap.size ≤ r ∧ ∃ o : Obj, A.heap[r]? = some o ∧ o.isCells = false := by
      intro A row hr r e
      obtain ⟨hB, o, ho, hw⟩ := hr r e
      exact ⟨by omega, o, ho, Obj.not_cells_of_walk hw⟩
    have stay : ∀ {A B : World} {row : Option Nat} {k : Nat} {o : Obj}, A.grownBy B row → (∀ r, row = some r → V.heap.size ≤ r ∧ ∃ o : Obj, A.heap[r]? = some o ∧ o.isWalk = true) → A.heap[k]? = some o → o.isWalk = false → B.heap[k]? = some o :=
      fun hg' hr hk ho => (grownBy_keeps hg' (fun r e => (hr r e).2) hk ho).trans hk
    refine (hseq (w.heap.size + 1)
      (fun g pre W => I g pre W ∧ W.heap[w.heap.size + 1]? = some (.loop (R .ready none)) ∧ W.heap[w.heap.size]? = some (.deferred (some [])))
      (fun g pre W => ∃ c, Ix g c pre W ∧ W.heap[w.heap.size + 1]? = some (.loop (R .done (some c))) ∧ W.heap[w.heap.size]? = some (.deferred (some [])))
      V below0
      (fun g s A B row hs hg' hr => ⟨hI g s A B row hs.1 hg' (far hr), stay hg' hr hs.2.1 rfl, stay hg' hr hs.2.2 rfl⟩)
      (fun g s A B row ⟨c, hc, hl, hk⟩ hg' hr => ⟨c, hIx g c s A B row hc hg' (far hr), stay hg' hr hl rfl, stay hg' hr hk rfl⟩)
      ?_ (fun g hg => ⟨inv0 g hg, rec0, def0⟩)).mono ?_
    · rintro gh pre x W hgh ⟨hi, hl, hk⟩ hx hlen
      have hgh2 : w.heap.size + 2 ≤ gh := by omega
      have hlt : w.heap.size + 1 < W.heap.size := (Array.getElem?_eq_some_iff.1 hl).1
      have hy := run_yield (P := P) (args := encs x) hl (by rw [hR]; exact hps x)
      rw [hR] at hy
      refine ⟨fn, _, assign, body, hy, roundIn_of_wpIn hfn (hassign _ x W _ ⟨_, run_beginRound hl (by rw [hR]), ?_⟩)⟩
      obtain ⟨W2, hW2⟩ : ∃ W2, W.putObj (w.heap.size + 1) (.loop { R .ready none with state := .busy }) = W2 := ⟨_, rfl⟩
      have hl2 : W2.heap[w.heap.size + 1]? = some (.loop { R .ready none with state := .busy }) := by rw [← hW2]; exact World.putObj_heap_same hlt
      have hk2 : W2.heap[w.heap.size]? = some (.deferred (some [])) := by rw [← hW2]; exact (World.putObj_heap_other (by omega)).trans hk
      have kp2 : Kp W W2 := by rw [← hW2]; exact hKb _ _ _ _ (by omega) hl rfl rfl
      have hg2 : W2.heap[gh]? = W.heap[gh]? := by rw [← hW2]; exact World.putObj_heap_other (by omega)
      have hi2 : I gh pre W2 := by rw [← hW2]; exact (hI gh).putObj _ hi (by omega) hl rfl
      have hx2 : X gh pre x W2 := by rw [← hW2]; exact (hX gh x).putObj _ hx (by omega) hl rfl
      rw [hW2]
      refine wpIn_mono (hbody _ gh pre x _ (by omega) (Array.getElem?_eq_some_iff.1 hl2).1 hgh2 hi2 hx2 hlen) ?_
      -- the round's end: what it turns in the record
      have fin : ∀ (jump : Option Code) (W3 : World), KeepsFrom w.heap.size W2 W3 →
          ∃ st, st = (if jump.isNone then LoopState.ready else LoopState.done) ∧
          (Instr.endRound (w.heap.size + 1) jump).run P W3 = .ok (.bool jump.isNone) (W3.putObj (w.heap.size + 1) (.loop (R st jump))) ∧
          W3.heap[w.heap.size + 1]? = some (.loop { R .ready none with state := .busy }) ∧
          (W3.putObj (w.heap.size + 1) (.loop (R st jump))).heap[w.heap.size + 1]? = some (.loop (R st jump)) ∧
          (W3.putObj (w.heap.size + 1) (.loop (R st jump))).heap[w.heap.size]? = some (.deferred (some [])) := by
        intro jump W3 hk3
        have hl3 := hk3.same _ _ (by omega) hl2 rfl
        have hrun := run_endRound (P := P) jump hl3
        rw [hR] at hrun hl3 ⊢
        exact ⟨_, rfl, hrun, hl3, World.putObj_heap_same (Array.getElem?_eq_some_iff.1 hl3).1, (World.putObj_heap_other (by omega)).trans (hk3.same _ _ (Nat.le_refl _) hk2 rfl)⟩
      intro e a3 W3 hp
      cases e with
      | normal =>
        obtain ⟨hk3, ⟨kp3, hg3⟩, hi3⟩ := hp
        obtain ⟨_, rfl, hr, hl3, hl4, hk4⟩ := fin none W3 hk3
        exact ⟨_, _, hr, .inl ⟨rfl, ⟨(hI gh).putObj _ hi3 (by omega) hl3 rfl, hl4, hk4⟩, hKt (hKt kp2 kp3) (hKb _ _ _ _ (by omega) hl3 rfl rfl), (World.putObj_heap_other (by omega)).trans (hg3.trans hg2)⟩⟩
      | ret =>
        obtain ⟨hk3, hi3⟩ := hp
        obtain ⟨_, rfl, hr, hl3, hl4, hk4⟩ := fin (some .ret) W3 hk3
        exact ⟨_, _, hr, .inr ⟨rfl, .ret, (hIx gh _).putObj _ hi3 (by omega) hl3 rfl, hl4, hk4⟩⟩
      | exit id =>
        obtain ⟨hk3, hi3⟩ := hp
        obtain ⟨_, rfl, hr, hl3, hl4, hk4⟩ := fin (some (.exit id)) W3 hk3
        exact ⟨_, _, hr, .inr ⟨rfl, .exit id, (hIx gh _).putObj _ hi3 (by omega) hl3 rfl, hl4, hk4⟩⟩
      | goto t =>
        obtain ⟨hk3, hi3⟩ := hp
        obtain ⟨_, rfl, hr, hl3, hl4, hk4⟩ := fin (some (.goto t)) W3 hk3
        exact ⟨_, _, hr, .inr ⟨rfl, .goto t, (hIx gh _).putObj _ hi3 (by omega) hl3 rfl, hl4, hk4⟩⟩
      | panic ch => exact hp.elim
      | outgrown => exact hp.elim
    · rintro e W2 ⟨⟨v, rfl⟩, gh, (⟨xs, hS, hi, hl, hk⟩ | ⟨pre, hSp, c, hi, hl, hk⟩)⟩
      · have hrun := run_endLoop (P := P) hl (by rw [hR]; simp)
        rw [hR] at hrun
        exact ⟨none, _, hrun, hdone _ gh xs _ (Nat.le_refl _) hS ((hI gh).putObj _ hi (by omega) hl rfl) ((World.putObj_heap_other (by omega)).trans hk)⟩
      · have hrun := run_endLoop (P := P) hl (by rw [hR]; simp)
        rw [hR] at hrun
        exact ⟨some c, _, hrun, hstop _ gh c pre _ (Nat.le_refl _) hSp ((hIx gh c).putObj _ hi (by omega) hl rfl) ((World.putObj_heap_other (by omega)).trans hk)⟩
end
end Go.Proofs.YtekodpcedjpnjaaGreat
