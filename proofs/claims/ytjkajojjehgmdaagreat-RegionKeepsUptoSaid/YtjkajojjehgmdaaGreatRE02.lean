/- Small words that all proofs of this seat use: rows of cells in memory, what abides under growth, and two laws for a region that draws its order inside a fence (a still head, then a tail in one forced order). No condition. The plain law of control sequences: numbers in decimal, moves, columns. No program in sight. No condition. Strings and their lists of bytes: equality, emptiness. No condition. The order of a region in which the operations stand is a lexical one: a check that the kernel makes fast also where there are many operations. No condition. Regions that draw their order, at the class of all worlds that are as they were below a block. Regions that draw their order, from a world that is as another was below a block. No condition. A loop over an iterator that reads, behind each round, a block that it has made itself: the block goes by a ghost number, and the body keeps it. No condition. A style in a box. Cells of a grid: their values in memory (seven cells each), and what one block of them turns to under a store and a copy. No condition. The contracts of the numbers in decimal, of the program and of its reference. The contracts of sequences and moves, of the program and of its reference. -/
import Derived.WalkKit
import Derived.Lib.Hide
import Derived.WalkLawsBesides
import Derived.StillTailTactics
import Derived.RangeFuncNested
import Derived.RangeFuncBound
import Derived.RangeFuncCalls
import Derived.RangeFuncLeaves
import Derived.Shelf.Abstract
import Derived.Shelf.RegionOpen
import Derived.OwnWalkIn
import Derived.TacticsInMore
import Derived.LoopNIn
import Derived.LoopIn
import Derived.BigQuiet
import Derived.Deep.QuietTactic
import Derived.OrdersIn
import Derived.Still
import Derived.Shelf.RegionOpenPlain
import Derived.RangeFuncFrom
import Derived.Test.YtjkajojjehgmdaaGreatProg
import Derived.KernelRfl
import Derived.Deep.DeepCutAuto
import Derived.Deep.RegionWith
import Derived.Maps.AppendAt
import Derived.Deep.MidRow
import Derived.Laws.MakeOwn
import Derived.Laws.CopyOwn
set_option linter.unusedVariables false
set_option linter.unusedSimpArgs false
namespace Go.Proofs.YtjkajojjehgmdaaGreat
open Go.RowKit
def nth {α : Type} (d : α) (l : List α) (j : Nat) : α := l.getD j d
theorem nth_eq {α : Type} (d : α) (l : List α) (j : Nat) (h : j < l.length) : nth d l j = l[j] := by simp [nth, h]
def RowAt (B : Nat) (w : World) (a : Option Addr) (vs : List Value) : Prop :=
 ∀ j, j < vs.length → ∃ b off, a = some ⟨b, off, none⟩ ∧ b < B ∧ w.cell? ⟨b, off + j, none⟩ = some (nth undef vs j)
theorem RowAt.below {B : Nat} {w w' : World} {a : Option Addr} {vs : List Value} (h : RowAt B w a vs) (hb : Below B w w') : RowAt B w' a vs := fun j hj => by
 obtain ⟨b, off, e, hlt, hc⟩ := h j hj
 exact ⟨b, off, e, hlt, (hb.cell (p := ⟨b, off + j, none⟩) hlt).trans hc⟩
theorem RowAt.more {B B' : Nat} {w : World} {a : Option Addr} {vs : List Value} (h : RowAt B w a vs) (hB : B ≤ B') : RowAt B' w a vs := fun j hj => by
 obtain ⟨b, off, e, hlt, hc⟩ := h j hj
 exact ⟨b, off, e, by omega, hc⟩
theorem RowAt.nil (B : Nat) (w : World) (a : Option Addr) : RowAt B w a [] := fun j hj => by simp at hj
theorem nth_map {α : Type} (f : α → Value) (d : α) (l : List α) (j : Nat) (h : j < l.length) : nth undef (l.map f) j = f (nth d l j) := by simp [nth, h]
theorem RowAt.new (w : World) (vs : List Value) (e : TypeId) : RowAt (w.alloc (.cells vs.toArray e)).heap.size (w.alloc (.cells vs.toArray e)) (some ⟨w.heap.size, 0, none⟩) vs := fun j hj => by
 refine ⟨w.heap.size, 0, rfl, by simp, ?_⟩
 have h0 : (w.alloc (.cells vs.toArray e)).heap[w.heap.size]? = some (.cells vs.toArray e) := World.alloc_heap_new w _
 unfold World.cell?
 dsimp only
 rw [h0]
 simp [nth, hj]
theorem bcell {W w1 : World} {B : Nat} (hb : Below B W w1) : (∀ b o, b < B → w1.cell? ⟨b, o, none⟩ = W.cell? ⟨b, o, none⟩) ∧ (∀ b o, b < B → w1.frozen? ⟨b, o, none⟩ = W.frozen? ⟨b, o, none⟩) :=
 ⟨fun b o h => hb.cell (p := ⟨b, o, none⟩) h, fun b o h => hb.frozen (p := ⟨b, o, none⟩) h⟩
theorem bto {B : Nat} {w w' w'' : World} (h : Below B w w') (h' : Below w'.heap.size w' w'') (hB : B ≤ w'.heap.size) : Below B w w'' := h.trans (h'.mono hB)
theorem bnext {w w' w'' : World} (h : Below w.heap.size w w') (h' : Below w'.heap.size w' w'') : Below w.heap.size w w'' := h.trans (h'.mono h.size)
theorem cell_new_l (W : World) (v : Value) (t : TypeId) : (W.alloc (.cells #[v] t)).cell? ⟨W.heap.size, 0, none⟩ = some v ∧ (W.alloc (.cells #[v] t)).frozen? ⟨W.heap.size, 0, none⟩ = false := by
 have h : (W.alloc (.cells #[v] t)).heap[W.heap.size]? = some (.cells #[v] t) := World.alloc_heap_new W _
 unfold World.cell? World.frozen?
 dsimp only
 rw [h]
 exact ⟨rfl, by simp⟩
theorem cell_alloc_l {W : World} {a : Addr} {v : Value} (o : Obj) (h : W.cell? a = some v) : (W.alloc o).cell? a = some v := cell_kept h (World.grownBy_alloc W o none) (fun r e => by cases e)
theorem frozen_alloc_l {W : World} {a : Addr} {v : Value} (o : Obj) (h : W.cell? a = some v) (hf : W.frozen? a = false) : (W.alloc o).frozen? a = false := (frozen_kept h (World.grownBy_alloc W o none) (fun r e => by cases e)).trans hf
theorem ret_bool {a b : Bool} (h : a = b) : Ending.returned (.bool a) = .returned (.bool b) := by rw [h]
theorem ret_int {k : IntKind} {a b : Int} (h : a = b) : Ending.returned (.int k a) = .returned (.int k b) := by rw [h]
theorem ret_str {a b : ByteArray} (h : a = b) : Ending.returned (.string a) = .returned (.string b) := by rw [h]
section
variable {P : Program} {ops : Array Oper} {md : Region.Mode} {w : World} {l₀ : Option Nat} {n : Nat}
def wideAt (l₀ : Option Nat) : Fence := { Fence.wide with round := l₀ }
theorem callsIn_wideAt {n : Nat} {l₀ : Option Nat} {f : FuncId} {args : Array Value} {w : World} {R : Ending → World → Prop} (h : Calls P f args w R) : CallsIn (wideAt l₀) n P f args w R := by
 cases l₀ with
 | none => exact callsIn_wide.2 h
 | some l => exact CallsIn.inRound l (callsIn_wide.2 h)
def noDefer (ops : Array Oper) : Bool := ops.toList.all fun o => match o.op with | .defer _ => false | _ => true
theorem noDefer_spec (h : noDefer ops = true) {i : Nat} {o : Oper} (ho : ops[i]? = some o) : ∀ c, o.op ≠ .defer c := by
 intro c hc
 have hm : o ∈ ops.toList := by
  rw [Array.mem_toList_iff]; exact Array.mem_of_getElem? ho
 have := List.all_eq_true.1 h o hm
 rw [hc] at this
 cases this
theorem uponIn_of_upon {o : Oper} {a : Act} {next : Act → World → Prop} {Q : Exit → Act → World → Prop} {r : Result Next} (h : o.upon P a next Q r) :
    o.uponIn (wideAt l₀) n P a next Q r := by
 cases r with
 | ok x w' =>
  cases x <;> simp only [Oper.upon, Oper.uponIn] at h ⊢ <;> first
   | exact h
   | exact ⟨fun hd => (by cases hd), (callsIn_wideAt h).mono fun e w2 he => (by cases e <;> exact he)⟩
   | (refine ⟨fun hd => (by cases hd), fun c cs _ => ?_⟩
      obtain ⟨v, w2, hR, hs⟩ := h c cs
      refine ⟨v, w2, hR, ?_⟩
      have hs2 := (StepsIn.of_steps hs).mono (I' := Machine.fenced P Fence.wide) (fun m _ => fenced_wide P m)
      cases l₀ <;> exact hs2)
   | exact h.elim
 | halt x w' => cases x <;> simp only [Oper.upon, Oper.uponIn] at h ⊢ <;> first | exact h | exact h.elim
theorem wpOpIn_of_wpOp {Q : Exit → Act → World → Prop} (hq : ∀ a w, ¬ Q .outgrown a w) (hd : noDefer ops = true) {i : Nat} {K : Act → World → Prop} {a : Act} {w : World}
    (h : wpOp P ops Q i K a w) : wpOpIn (wideAt l₀) n P ops Q i K a w := by
 unfold wpOp at h
 unfold wpOpIn
 split
 ·rename_i ho; simp only [ho] at h; exact h
 ·rename_i o ho
  simp only [ho] at h
  split
  ·rename_i hw
   simp only [hw, if_true] at h
   rcases h with h | ⟨_, a₀, w₀, hl⟩
   ·refine ⟨fun _ _ => trivial, ?_⟩
    rw [Oper.semAt_eq _ _ _ (noDefer_spec hd ho)]
    exact uponIn_of_upon h
   ·exact (hq _ _ hl).elim
  ·rename_i hw
   rw [if_neg hw] at h
   exact ⟨fun _ _ => trivial, h⟩
theorem wpAnyIn_of_wpAny {Q : Exit → Act → World → Prop} (hq : ∀ a w, ¬ Q .outgrown a w) (hd : noDefer ops = true) : ∀ (fuel : Nat) (listed : Array Bool) (a : Act) (w : World),
    wpAny P md ops Q fuel listed a w → wpAnyIn (wideAt l₀) n P md ops Q fuel listed a w
 | 0, _, _, _, h => h
 | fuel + 1, _, _, _, h => ⟨h.1, fun i hi => wpOpIn_mono (fun a' w' => wpAnyIn_of_wpAny hq hd fuel _ a' w') (wpOpIn_of_wpOp hq hd (h.2 i hi))⟩
theorem wpOpIn_of_stOp {i : Nat} {a : Act} {K : Act → Prop} {K' : Act → World → Prop} {Q' : Exit → Act → World → Prop} (hd : noDefer ops = true) (h : ∀ a, K a → K' a w) (hh : stOp P ops w i K a) :
    wpOpIn (wideAt l₀) n P ops Q' i K' a w := by
 unfold stOp at hh
 unfold wpOpIn
 split
 ·rename_i ho; simp only [ho] at hh; exact h _ hh
 ·rename_i o ho
  simp only [ho] at hh
  split
  ·rename_i hw
   simp only [hw, if_true] at hh
   refine ⟨fun _ _ => trivial, ?_⟩
   rw [Oper.semAt_eq _ _ _ (noDefer_spec hd ho)]
   exact uponIn_of_upon (Oper.wp_of_still h hh)
  ·rename_i hw; rw [if_neg hw] at hh; exact ⟨fun _ _ => trivial, h _ hh⟩
theorem wpAnyIn_of_head {n₁ g : Nat} {L : Array Bool → Act → Prop} {Q' : Exit → Act → World → Prop} (hd : noDefer ops = true) (hL : ∀ listed a, L listed a → wpAnyIn (wideAt l₀) n P md ops Q' g listed a w) :
    ∀ (f : Nat) (listed : Array Bool) (a : Act), wpAnyL P md ops w n₁ L f listed a → wpAnyIn (wideAt l₀) n P md ops Q' (f + g) listed a w
 | 0, listed, a, h => by rw [Nat.zero_add]; exact hL _ _ h
 | f + 1, listed, a, h => by
  rw [show f + 1 + g = (f + g) + 1 by omega]
  exact ⟨fun h0 => absurd h0 h.1, fun i hi => wpOpIn_of_stOp hd (fun a' h' => wpAnyIn_of_head hd hL f _ a' h') (h.2 i hi).2⟩
theorem wpAnyIn_of_seq {Q' : Exit → Act → World → Prop} : ∀ (l : List Oper) (k : Nat) (listed : Array Bool) (a : Act) (w : World), (∀ j, l[j]? = ops[k + j]?) →
    Region.seqB md ops l.length k listed = true → wpListIn (wideAt l₀) n P ops Q' l a w → wpAnyIn (wideAt l₀) n P md ops Q' l.length listed a w
 | [], _, _, _, _, _, hB, h => ⟨by simpa [Region.seqB] using hB, h⟩
 | o :: l, k, listed, a, w, hl, hB, h => by
  have h0 : ops[k]? = some o := by simpa using (hl 0).symm
  simp only [List.length_cons, Region.seqB, Bool.and_eq_true, decide_eq_true_eq] at hB
  refine ⟨fun h1 => (by rw [hB.1] at h1; cases h1), fun i hi => ?_⟩
  rw [hB.1] at hi
  have hik : i = k := by simpa using hi
  subst hik
  have hw : wpOpIn (wideAt l₀) n P ops Q' i (wpListIn (wideAt l₀) n P ops Q' l) a w := by unfold wpOpIn; simp only [h0]; exact h
  exact wpOpIn_mono (fun a' w' h' => wpAnyIn_of_seq l (i + 1) _ a' w' (fun j => by have := hl (j + 1); simpa [Nat.add_assoc, Nat.add_comm 1 j] using this) hB.2 h') hw
theorem wpIn_region_still_tail {id : Nat} {Q : Exit → Act → World → Prop} {a : Act} {w : World} {l : List Oper} (n₁ : Nat) (hm : P.follows .mixedOrders = true) (hB : Region.lexTailB .any l.toArray n₁ = true)
    (hd : noDefer l.toArray = true)
    (h : wpStill P l.toArray { w with drawn := w.drawn + 1 } (fun a' => wpListIn (wideAt l₀) n P l.toArray Q (l.drop n₁) a' { w with drawn := w.drawn + 1 }) (l.take n₁) a) : (Code.region id l.toArray true).wpIn (wideAt l₀) n P Q a w := by
 simp only [Region.lexTailB, Bool.and_eq_true, decide_eq_true_eq] at hB
 obtain ⟨⟨⟨⟨hsel, hn⟩, hs⟩, hc⟩, hlex⟩ := hB
 have hn' : n₁ < l.length := by simpa using hn
 have htl : (l.take n₁).length = n₁ := by simp; omega
 have hdl : (l.drop n₁).length = l.toArray.size - n₁ := by simp
 have inv0 : HeadInv .any l.toArray n₁ (Array.replicate l.toArray.size false) :=
  ⟨by simp, fun j oj _ hl => (by rw [getD_replicate_false] at hl; cases hl), fun t _ ht => getD_in (by simpa using ht) (getD_replicate_false _ _)⟩
 have H := wpAnyL_lex (md := .any) (g := l.toArray.size - n₁) hsel hs hc hn (l.take n₁) 0 _ a (fun j hj => by
  have hj' : j < n₁ := by rw [htl] at hj; exact hj
  simp [hj']) (by simpa using htl) inv0 (by rw [htl]; exact hlex) h
 refine wpIn_region_any hm ?_
 have := wpAnyIn_of_head (Q' := Q) (n := n) (l₀ := l₀) (g := l.toArray.size - n₁) hd (fun listed a' hL => by
  have := wpAnyIn_of_seq (md := .any) (Q' := Q) (n := n) (l₀ := l₀) (l.drop n₁) n₁ listed a' { w with drawn := w.drawn + 1 } (fun j => by simp [List.getElem?_drop]) (by rw [hdl]; exact hL.1) hL.2
  rwa [hdl] at this) _ _ _ H
 rw [htl, show n₁ + (l.toArray.size - n₁) = l.toArray.size by omega] at this
 exact this
end
section
variable {P : Program}
def runOps (P : Program) (ops : Array Oper) : List Oper → Act → World → Option (Act × World)
 | [], a, w => some (a, w)
 | o :: rest, a, w =>
  if Region.wanted o (yielded ops a.tmps) then
   match (execOp a.eval o).run P w with
   | .ok (.value v) w' => runOps P ops rest (a.put o.dst v) w'
   | _ => none
  else runOps P ops rest (a.put o.dst undef) w
theorem runOps_sound {ops : Array Oper} {Q : Exit → Act → World → Prop} : ∀ (l : List Oper) (a : Act) (w : World) (a' : Act) (w' : World), runOps P ops l a w = some (a', w') → Q .normal a' w' → wpList P ops Q l a w
 | [], a, w, a', w', h, hq => by simp only [runOps, Option.some.injEq, Prod.mk.injEq] at h; obtain ⟨rfl, rfl⟩ := h; exact hq
 | o :: l, a, w, a', w', h, hq => by
  unfold runOps at h
  unfold wpList
  split at h
  ·rename_i hw
   rw [if_pos hw]
   split at h
   ·rename_i v w1 hr
    refine .inl ?_
    unfold Oper.wp
    rw [hr]
    exact runOps_sound l _ _ _ _ h hq
   ·cases h
  ·rename_i hw
   rw [if_neg hw]
   exact runOps_sound l _ _ _ _ h hq
def runCode (P : Program) : Code → Act → World → Option (Exit × Act × World)
 | .skip, a, w => some (.normal, a, w)
 | .seq x y, a, w =>
  match runCode P x a w with
  | some (.normal, a1, w1) => runCode P y a1 w1
  | r => r
 | .cond c x y, a, w =>
  match a.eval c with
  | .bool true => runCode P x a w
  | .bool false => runCode P y a w
  | _ => none
 | .block id c, a, w =>
  match runCode P c a w with
  | some (.exit id', a1, w1) => if id' = id then some (.normal, a1, w1) else some (.exit id', a1, w1)
  | r => r
 | .ret, a, w => some (.ret, a, w)
 | .exit id, a, w => some (.exit id, a, w)
 | .region _ ops false, a, w => (runOps P ops ops.toList a w).map fun x => (.normal, x.1, x.2)
 | _, _, _ => none
theorem runCode_sound (c : Code) : ∀ {Q : Exit → Act → World → Prop} (a : Act) (w : World) (e : Exit) (a' : Act) (w' : World), runCode P c a w = some (e, a', w') → Q e a' w' → c.wp P Q a w := by
 induction c with
 | skip => intro Q a w e a' w' h hq; simp only [runCode, Option.some.injEq, Prod.mk.injEq] at h; obtain ⟨rfl, rfl, rfl⟩ := h; exact wp_skip hq
 | ret => intro Q a w e a' w' h hq; simp only [runCode, Option.some.injEq, Prod.mk.injEq] at h; obtain ⟨rfl, rfl, rfl⟩ := h; exact wp_ret hq
 | exit id => intro Q a w e a' w' h hq; simp only [runCode, Option.some.injEq, Prod.mk.injEq] at h; obtain ⟨rfl, rfl, rfl⟩ := h; exact wp_exit hq
 | seq x y ihx ihy =>
  intro Q a w e a' w' h hq
  unfold runCode at h
  refine wp_seq ?_
  split at h
  ·rename_i a1 w1 hx
   exact ihx _ _ _ _ _ hx (ihy _ _ _ _ _ h hq)
  ·rename_i hx
   refine ihx _ _ _ _ _ h ?_
   cases e with
   | normal => exact (hx _ _ h).elim
   | _ => exact hq
 | cond c x y ihx ihy =>
  intro Q a w e a' w' h hq
  unfold runCode at h
  split at h
  ·rename_i hc; exact wp_cond_true hc (ihx _ _ _ _ _ h hq)
  ·rename_i hc; exact wp_cond_false hc (ihy _ _ _ _ _ h hq)
  ·cases h
 | block id c ih =>
  intro Q a w e a' w' h hq
  unfold runCode at h
  refine wp_block ?_
  split at h
  ·rename_i id' a1 w1 hc
   refine ih _ _ _ _ _ hc ?_
   split at h
   ·rename_i he
    simp only [Option.some.injEq, Prod.mk.injEq] at h; obtain ⟨rfl, rfl, rfl⟩ := h
    simp only [Exit.inBlock, he, if_true]; exact hq
   ·rename_i he
    simp only [Option.some.injEq, Prod.mk.injEq] at h; obtain ⟨rfl, rfl, rfl⟩ := h
    simp only [Exit.inBlock, he, if_false]; exact hq
  ·rename_i hx
   refine ih _ _ _ _ _ h ?_
   cases e with
   | exit id' => exact (hx _ _ _ h).elim
   | _ => exact hq
 | region id ops draw =>
  intro Q a w e a' w' h hq
  cases draw with
  | true => simp [runCode] at h
  | false =>
   simp only [runCode, Option.map_eq_some_iff] at h
   obtain ⟨⟨a1, w1⟩, h1, h2⟩ := h
   simp only [Prod.mk.injEq] at h2
   obtain ⟨rfl, rfl, rfl⟩ := h2
   exact wp_region_list (runOps_sound _ _ _ _ _ h1 hq)
 | _ => intro Q a w e a' w' h hq; simp [runCode] at h
def runFn (P : Program) (fn : Func) (args : Array Value) (w : World) : Option (Value × World) :=
 match fn.body with
 | some c =>
  match runCode P c { tmps := args ++ Array.replicate (fn.ntmps - args.size) undef, defers := [] } w with
  | some (.ret, a, w') => if a.defers.isEmpty then (match (results fn a.tmps).run P w' with | .ok v w2 => some (v, w2) | _ => none) else none
  | _ => none
 | none => none
theorem calls_of_run {f : FuncId} {fn : Func} {args : Array Value} {w : World} {R : Ending → World → Prop} (hf : P.funcs[f]? = some fn) (v : Value) (w' : World) (hr : runFn P fn args w = some (v, w'))
    (hw : ∀ a w1, (results fn a).run P w1 = .ok v w' → w1 = w') (hR : R (.returned v) w') : Calls P f args w R := by
 unfold runFn at hr
 split at hr
 ·rename_i c hb
  split at hr
  ·rename_i a w1 hc
   split at hr
   ·rename_i hd
    split at hr
    ·rename_i v2 w2 hres
     simp only [Option.some.injEq, Prod.mk.injEq] at hr
     obtain ⟨rfl, rfl⟩ := hr
     have e := hw _ _ hres
     subst e
     exact calls_of_wp hf hb (runCode_sound c _ _ _ _ _ hc ⟨by simpa using hd, v2, hres, hR⟩)
    ·cases hr
   ·cases hr
  ·cases hr
 ·cases hr
theorem results_keep {fn : Func} {t : Tmp} (h : fn.results = #[.tmp t]) {v : Value} {w' : World} : ∀ a w1, (results fn a).run P w1 = .ok v w' → w1 = w' := by
 intro a w1 h1
 rw [results_tmp h] at h1
 simp only [Result.ok.injEq] at h1
 exact h1.2
end
end Go.Proofs.YtjkajojjehgmdaaGreat
namespace Go.Proofs.YtjkajojjehgmdaaGreat
def S (l : List UInt8) : ByteArray := ⟨l.toArray⟩
theorem S_append (a b : List UInt8) : S a ++ S b = S (a ++ b) := ByteArray.mk_append_mk a b
theorem S_size (l : List UInt8) : (S l).size = l.length := by simp [S, ByteArray.size]
def digB (n : Nat) : UInt8 := UInt8.ofNat (48 + n)
theorem digB_nat (n : Nat) (h : n < 10) : (digB n).toNat = 48 + n := by simp [digB]; omega
def decL (n : Nat) : List UInt8 := if n < 10 then [digB n] else decL (n / 10) ++ [digB (n % 10)]
theorem decL_small {n : Nat} (h : n < 10) : decL n = [digB n] := by rw [decL, if_pos h]
theorem decL_big {n : Nat} (h : ¬ n < 10) : decL n = decL (n / 10) ++ [digB (n % 10)] := by rw [decL, if_neg h]
theorem decL_len (k : Nat) : ∀ n, n < 10 ^ (k + 1) → (decL n).length ≤ k + 1 := by
 induction k with
 | zero => intro n h; rw [decL_small (by simpa using h)]; simp
 | succ k ih =>
  intro n h
  by_cases h1 : n < 10
  ·rw [decL_small h1]; simp
  ·rw [decL_big h1]
   have := ih (n / 10) (by rw [Nat.pow_succ] at h; omega)
   simp; omega
theorem decL_le (n : Nat) (h : n ≤ 9999) : (decL n).length ≤ 4 := decL_len 3 n (by omega)
def byL (n : Int) (e : UInt8) : List UInt8 := if n < 1 then [] else [27, 91] ++ decL (min n 9999).toNat ++ [e]
theorem byL_len (n : Int) (e : UInt8) : (byL n e).length ≤ 7 := by
 unfold byL; split
 ·simp
 ·have := decL_le (min n 9999).toNat (by omega)
  simp; omega
def colL (n : Int) : List UInt8 := if n < 0 then [] else [27, 91] ++ decL (min n 9998 + 1).toNat ++ [71]
theorem colL_len (n : Int) : (colL n).length ≤ 7 := by
 unfold colL; split
 ·simp
 ·have := decL_le (min n 9998 + 1).toNat (by omega)
  simp; omega
theorem colL_by (n : Int) (h : 0 ≤ n) : byL (min n 9998 + 1) 71 = colL n := by
 unfold byL colL
 rw [if_neg (by omega), if_neg (by omega)]
 congr 4; omega
def heldI (n : Int) : Int := max 0 (min n 9998)
def moveL (row col toRow toCol : Int) : List UInt8 :=
 let s := byL (row - toRow) 65 ++ byL (toRow - row) 66
 if col = toCol then s else if toCol = 0 then s ++ [13] else
 let step := byL (toCol - col) 67 ++ byL (col - toCol) 68
 if (colL toCol).length < step.length then s ++ colL toCol else s ++ step
def sepTo (l : List Int) : Nat → List UInt8
 | 0 => []
 | k + 1 => sepTo l k ++ (if k = 0 then [] else [59]) ++ decL (min (nth 0 l k) 9999).toNat
theorem sepTo_len (l : List Int) (k : Nat) : (sepTo l k).length ≤ 5 * k := by
 induction k with
 | zero => simp [sepTo]
 | succ k ih =>
  have h := decL_le (min (nth 0 l k) 9999).toNat (by omega)
  simp only [sepTo, List.length_append]
  split
  ·simp; omega
  ·simp; omega
def seqL (l : List Int) (e : List UInt8) : List UInt8 := [27, 91] ++ sepTo l l.length ++ e
theorem seqL_one (n : Int) (e : UInt8) (h : 1 ≤ n) : seqL [n] [e] = byL n e := by
 unfold seqL byL
 rw [if_neg (by omega)]
 simp [sepTo, nth]
theorem S_toList (a : List UInt8) : (S a).toList = a := by rw [ByteArray.toList_eq]; simp [S]
theorem S_eq (a b : List UInt8) : ((S a).toList == (S b).toList) = decide (a = b) := by
 rw [S_toList, S_toList, Bool.eq_iff_iff, beq_iff_eq, decide_eq_true_eq]
theorem S_back (s : ByteArray) : ∃ l, s = S l := ⟨s.data.toList, by simp [S]⟩
section
variable {md : Region.Mode} {ops : Array Oper}
def fastFrom (md : Region.Mode) (ops : Array Oper) : Nat → List Oper → Bool
 | _, [] => true
 | k, o :: l => (o.after.toList.all fun e => !Region.binds md e || Nat.blt e.on k) && ((l.all fun oj => oj.after.toList.any (fun e => Region.binds md e && Nat.beq e.on k) || o.apart ops oj) && fastFrom md ops (k + 1) l)
def fastB (md : Region.Mode) (ops : Array Oper) : Bool := Region.noSelect ops && fastFrom md ops 0 ops.toList
theorem fast_lex (l : List Oper) : ∀ (k : Nat) (listed : Array Bool), (∀ j, l[j]? = ops[k + j]?) → listed.size = ops.size → (∀ j, j < ops.size → listed[j]? = some (decide (j < k))) → k + l.length = ops.size →
    fastFrom md ops k l = true → Region.lexFrom md ops l.length k listed = true := by
 induction l with
 | nil =>
  intro k listed hl hs hj hk _
  simp only [List.length_nil, Nat.add_zero] at hk
  simp only [List.length_nil, Region.lexFrom, List.isEmpty_iff]
  unfold Region.ready
  rw [List.filter_eq_nil_iff]
  intro i hi
  have hi' := List.mem_range.1 hi
  have := hj i hi'
  have e : listed.getD i true = true := by rw [Array.getD_eq_getD_getElem?, this]; simp; omega
  simp [e]
 | cons o l ih =>
  intro k listed hl hs hj hk hB
  simp only [List.length_cons] at hk
  have h0 : ops[k]? = some o := by simpa using (hl 0).symm
  have hkn : k < ops.size := by omega
  simp only [fastFrom, Bool.and_eq_true] at hB
  obtain ⟨hA, hF, hR⟩ := hB
  have ek : listed.getD k true = false := by rw [Array.getD_eq_getD_getElem?, hj k hkn]; simp
  simp only [List.length_cons, Region.lexFrom, Bool.and_eq_true]
  refine ⟨⟨?_, ?_⟩, ?_⟩
  ·rw [List.contains_iff_mem]
   unfold Region.ready
   rw [List.mem_filter]
   refine ⟨List.mem_range.2 hkn, ?_⟩
   rw [ek, h0]
   simp only [Bool.not_false, Bool.true_and, Option.map_some, Option.getD_some]
   rw [← Array.all_toList]
   rw [List.all_eq_true] at hA ⊢
   intro e he
   have := hA e he
   simp only [Bool.or_eq_true] at this ⊢
   rcases this with h | h
   ·exact .inl h
   ·have h' : e.on < k := by simpa [Nat.blt_eq] using h
    refine .inr ?_
    rw [Array.getD_eq_getD_getElem?, hj e.on (by omega)]
    simpa using h'
  ·unfold Region.free
   simp only [h0]
   rw [List.all_eq_true]
   intro j hjr
   have hjn := List.mem_range.1 hjr
   by_cases h1 : j = k
   ·simp [h1]
   ·by_cases h2 : j < k
    ·have : listed.getD j true = true := by rw [Array.getD_eq_getD_getElem?, hj j hjn]; simpa using h2
     simp [this]
    ·have hoj : ops[j]? = some ops[j] := Array.getElem?_eq_getElem hjn
     have hm : ops[j] ∈ l := by
      have := hl (j - k)
      rw [show k + (j - k) = j by omega, hoj] at this
      obtain ⟨m, hm⟩ : ∃ m, j - k = m + 1 := ⟨j - k - 1, by omega⟩
      rw [hm, List.getElem?_cons_succ] at this
      exact List.mem_of_getElem? this
     have := (List.all_eq_true.1 hF) _ hm
     simp only [hoj, Bool.or_eq_true] at this ⊢
     refine .inr ?_
     rcases this with h | h
     ·refine .inl ?_
      rw [← Array.any_toList]
      rw [List.any_eq_true] at h ⊢
      obtain ⟨e, he, hb⟩ := h
      refine ⟨e, he, ?_⟩
      simp only [Bool.and_eq_true] at hb ⊢
      exact ⟨hb.1, by simpa using Nat.eq_of_beq_eq_true hb.2⟩
     ·exact .inr h
  ·refine ih (k + 1) _ (fun j => by have := hl (j + 1); simpa [Nat.add_assoc, Nat.add_comm 1 j] using this) (by simpa using hs) (fun j hjn => ?_) (by omega) hR
   rw [Array.getElem?_setIfInBounds]
   by_cases h : k = j
   ·subst h
    simp [hs, hjn]
   ·rw [if_neg h, hj j hjn]
    congr 1
    rw [decide_eq_decide]
    omega
theorem lexB_fast (h : fastB md ops = true) : Region.lexB md ops = true := by
 simp only [fastB, Bool.and_eq_true] at h
 simp only [Region.lexB, Bool.and_eq_true]
 refine ⟨h.1, ?_⟩
 have := fast_lex ops.toList 0 (Array.replicate ops.size false) (by simp) (by simp) (fun j hj => by simp [hj]) (by simp) h.2
 simpa using this
end
end Go.Proofs.YtjkajojjehgmdaaGreat
namespace Go.Proofs.YtjkajojjehgmdaaGreat
open Go.RowKit
structure BW (B : Nat) (w : World) where
 W : World
 h : Below B w W
instance instBW (B : Nat) (w : World) : Nonempty (BW B w) := ⟨⟨w, Below.refl _ _⟩⟩
theorem wp_region_bw {P : Program} {id : Nat} {Q : Exit → Act → World → Prop} {a : Act} {w : World} {l : List Oper} (B : Nat) (hm : P.follows .mixedOrders = true) (hB : Region.lexB .any l.toArray = true)
    (h : wpQuiet P l.toArray (fun w' => ∃ p : BW B w, w' = p.W) (fun a' => ∀ w', (∃ p : BW B w, w' = p.W) → Q .normal a' w') l a) : (Code.region id l.toArray true).wp P Q a w :=
 wp_region_quiet (C := fun w' => ∃ p : BW B w, w' = p.W) hm hB ⟨⟨{ w with drawn := w.drawn + 1 }, ⟨rfl, rfl, rfl, Nat.le_refl _, fun _ _ => rfl⟩⟩, rfl⟩ (by simpa using h)
theorem Calls.bw_of {P : Program} {f : FuncId} {args : Array Value} {B : Nat} {w : World} {p : BW B w} {v : Value} (hB : B ≤ w.heap.size)
    (h : Calls P f args p.W fun e w' => e = .returned v ∧ Below p.W.heap.size p.W w') : Calls P f args p.W fun e w'' => e = .returned v ∧ ∃ q : BW B w, w'' = q.W :=
 h.mono fun _ _ ⟨he, hb⟩ => ⟨he, ⟨_, bto p.h hb (Nat.le_trans hB p.h.size)⟩, rfl⟩
theorem BW.cell {B : Nat} {w : World} (p : BW B w) {a : Addr} {v : Value} (hb : a.block < B) (h : w.cell? a = some v) : p.W.cell? a = some v := (p.h.cell hb).trans h
def SeqG {α : Type} (F : Fence) (n : Nat) (P : Program) (gf : Nat) (lb : Array Value) (encs : α → Array Value) (Kp : World → World → Prop) (X : Nat → List α → α → World → Prop) (S Sp : List α → Prop) (N : Nat) (w : World) : Prop :=
 ∀ (l : Nat) (J Jx : Nat → List α → World → Prop) (W : World), Below w.heap.size w W → (∀ g, AbidesFrom W.heap.size (J g)) → (∀ g, AbidesFrom W.heap.size (Jx g)) →
  (∀ g pre x W1, W.heap.size ≤ g → J g pre W1 → X g pre x W1 → pre.length < N → YieldAt F (n - 1) P l (encs x) W1 fun e W' =>
   (e = .returned (.bool true) ∧ J g (pre ++ [x]) W' ∧ (Kp W1 W' ∧ W'.heap[g]? = W1.heap[g]?)) ∨ (e = .returned (.bool false) ∧ Jx g (pre ++ [x]) W')) →
  (∀ g, W.heap.size ≤ g → J g [] W) →
  CallsIn F n P gf (#[.func (.yield l) #[] #[]] ++ lb) W fun e W' => (∃ v, e = .returned v) ∧ ∃ g, ((∃ xs, S xs ∧ J g xs W') ∨ (∃ pre, Sp pre ∧ Jx g pre W'))
section
variable {F : Fence} {n : Nat} {P : Program}
theorem wpIn_rangeFunc_GH {α : Type} {g : Operand} {ps : Array Tmp} {assign body : Code} {Q : Exit → Act → World → Prop} {a : Act} {w : World}
    (hro : F.round = none) (h1 : 1 ≤ n) {gf : Nat} {lb : Array Value} (hg : a.eval g = .func (.func gf) #[] lb) (hFg : F.fn gf) (eg : ∀ args w, (callFunc gf args).run P w = .ok (.enter gf args) w)
    {encs : α → Array Value} {Kp : World → World → Prop} {X : Nat → List α → α → World → Prop} {S Sp : List α → Prop} {N : Nat} {w0 : World} (hseq : SeqG F (n - 1) P gf lb encs Kp X S Sp N w0)
    (hKt : ∀ {A B C : World}, Kp A B → Kp B C → Kp A C) (hKb : ∀ (W : World) (l : Nat) (o o' : Obj), w.heap.size ≤ l → W.heap[l]? = some o → o.isCells = false → o.isWalk = false → Kp W (W.putObj l o')) (hb0 : Below w0.heap.size w0 w) (hps : ∀ x, (encs x).size = ps.size)
    (I : Nat → List α → World → Prop) (Ix : Nat → Code → List α → World → Prop) (hI : ∀ g, OwnFrom w.heap.size (I g)) (hIx : ∀ g c, OwnFrom w.heap.size (Ix g c)) (hX : ∀ g x, OwnFrom w.heap.size (fun pre W => X g pre x W)) (h0 : ∀ g, w.heap.size + 2 ≤ g → I g [] w) (a₁ : α → Act)
    (hassign : ∀ (l : Nat) (x : α) (W : World) (K : Act → World → Prop), K (a₁ x) W →
     assign.wpIn (F.inRound l) (n - 1 - 1) P (Exit.then K (fun _ _ _ => False)) { tmps := (ps.zip (encs x)).foldl (fun t (p, v) => t.setIfInBounds p v) a.tmps, defers := [] } W)
    (hbody : ∀ (l g : Nat) (pre : List α) (x : α) (W : World), w.heap.size ≤ l → l < W.heap.size → w.heap.size + 2 ≤ g → I g pre W → X g pre x W → pre.length < N → body.wpIn (F.inRound l) (n - 1 - 1) P (ownPostG w.heap.size (fun A B => Kp A B ∧ B.heap[g]? = A.heap[g]?) (I g) (Ix g) (pre ++ [x]) W) (a₁ x) W)
    (hdone : ∀ (D g : Nat) (xs : List α) (W : World), w.heap.size ≤ D → S xs → I g xs W → W.heap[D]? = some (.deferred (some [])) → Q .normal { a with defers := { target := .collected D, args := #[] } :: a.defers } W)
    (hstop : ∀ (D g : Nat) (c : Code) (pre : List α) (W : World), w.heap.size ≤ D → Sp pre → Ix g c pre W → W.heap[D]? = some (.deferred (some [])) → c.wpIn F n P Q { a with defers := { target := .collected D, args := #[] } :: a.defers } W) :
    (Code.rangeFunc g ps assign body).wpIn F n P Q a w := by
 refine wpIn_rangeFunc ?_
 intro fn hfn
 rw [hro]
 -- the loop's record, and the block for the rounds' deferred calls
 obtain ⟨R, hR⟩ : ∃ R : LoopState → Option Code → Loop, R = fun st pe => { state := st, pending := pe, fn, tmps := a.tmps, params := ps, assign, body, defers := w.heap.size } := ⟨_, rfl⟩
 obtain ⟨V, hV⟩ : ∃ V, (w.alloc (.deferred (some []))).alloc (.loop (R .ready none)) = V := ⟨_, rfl⟩
 have rec0 : V.heap[w.heap.size + 1]? = some (.loop (R .ready none)) := by
  have := World.alloc_heap_new (w.alloc (.deferred (some []))) (.loop (R .ready none))
  rw [World.size_alloc] at this
  rw [← hV]; exact this
 have def0 : V.heap[w.heap.size]? = some (.deferred (some [])) := by
  rw [← hV, Below.heap_alloc _ _ _ (by simp)]; exact World.alloc_heap_new w _
 have size0 : V.heap.size = w.heap.size + 1 + 1 := by rw [← hV]; simp
 have inv0 : ∀ g, V.heap.size ≤ g → I g [] V := fun g hg => by rw [← hV]; exact (hI g).alloc _ ((hI g).alloc _ (h0 g (by omega)))
 have below0 : Below w0.heap.size w0 V := by
  rw [← hV]; exact hb0.trans ((((Below.refl _ w).alloc (Nat.le_refl _) _).alloc (by simp) _).mono hb0.size)
 refine ⟨w.heap.size + 1, [{ target := .collected w.heap.size, args := #[] }], V, { target := .fn (.func gf) lb, args := #[.func (.yield (w.heap.size + 1)) #[] #[]] }, V, gf,
  #[.func (.yield (w.heap.size + 1)) #[] #[]] ++ lb, V, ?_, ?_, ?_, ?_, fun _ => h1, ?_⟩
 ·rw [← hV, hR]; exact run_enterLoop_outer _ _ _ _ _
 ·simp only [resolve, hg]
  simp [go_sem]
 ·intro f' hf'; simp [Target.leads] at hf'; subst hf'; exact hFg
 ·simp [invoke, go_sem, eg]
 ·have far : ∀ {A : World} {row : Option Nat}, (∀ r, row = some r → V.heap.size ≤ r ∧ ∃ o : Obj, A.heap[r]? = some o ∧ o.isWalk = true) → ∀ r, row = some r → w.heap.size ≤ r ∧ ∃ o : Obj, A.heap[r]? = some o ∧ o.isCells = false := by
   intro A row hr r e
   obtain ⟨hB, o, ho, hw⟩ := hr r e
   exact ⟨by omega, o, ho, Obj.not_cells_of_walk hw⟩
  have stay : ∀ {A B : World} {row : Option Nat} {k : Nat} {o : Obj}, A.grownBy B row → (∀ r, row = some r → V.heap.size ≤ r ∧ ∃ o : Obj, A.heap[r]? = some o ∧ o.isWalk = true) → A.heap[k]? = some o → o.isWalk = false → B.heap[k]? = some o :=
   fun hg' hr hk ho => (grownBy_keeps hg' (fun r e => (hr r e).2) hk ho).trans hk
  refine (hseq (w.heap.size + 1)
   (fun g pre W => I g pre W ∧ W.heap[w.heap.size + 1]? = some (.loop (R .ready none)) ∧ W.heap[w.heap.size]? = some (.deferred (some [])))
   (fun g pre W => ∃ c, Ix g c pre W ∧ W.heap[w.heap.size + 1]? = some (.loop (R .done (some c))) ∧ W.heap[w.heap.size]? = some (.deferred (some [])))
   V below0
   (fun g s A B row hs hg' hr => ⟨hI g s A B row hs.1 hg' (far hr), stay hg' hr hs.2.1 rfl, stay hg' hr hs.2.2 rfl⟩)
   (fun g s A B row ⟨c, hc, hl, hk⟩ hg' hr => ⟨c, hIx g c s A B row hc hg' (far hr), stay hg' hr hl rfl, stay hg' hr hk rfl⟩)
   ?_ (fun g hg => ⟨inv0 g hg, rec0, def0⟩)).mono ?_
  ·rintro gh pre x W hgh ⟨hi, hl, hk⟩ hx hlen
   have hgh2 : w.heap.size + 2 ≤ gh := by omega
   have hlt : w.heap.size + 1 < W.heap.size := (Array.getElem?_eq_some_iff.1 hl).1
   have hy := run_yield (P := P) (args := encs x) hl (by rw [hR]; exact hps x)
   rw [hR] at hy
   refine ⟨fn, _, assign, body, hy, roundIn_of_wpIn hfn (hassign _ x W _ ⟨_, run_beginRound hl (by rw [hR]), ?_⟩)⟩
   obtain ⟨W2, hW2⟩ : ∃ W2, W.putObj (w.heap.size + 1) (.loop { R .ready none with state := .busy }) = W2 := ⟨_, rfl⟩
   have hl2 : W2.heap[w.heap.size + 1]? = some (.loop { R .ready none with state := .busy }) := by rw [← hW2]; exact World.putObj_heap_same hlt
   have hk2 : W2.heap[w.heap.size]? = some (.deferred (some [])) := by rw [← hW2]; exact (World.putObj_heap_other (by omega)).trans hk
   have kp2 : Kp W W2 := by rw [← hW2]; exact hKb _ _ _ _ (by omega) hl rfl rfl
   have hg2 : W2.heap[gh]? = W.heap[gh]? := by rw [← hW2]; exact World.putObj_heap_other (by omega)
   have hi2 : I gh pre W2 := by rw [← hW2]; exact (hI gh).putObj _ hi (by omega) hl rfl
   have hx2 : X gh pre x W2 := by rw [← hW2]; exact (hX gh x).putObj _ hx (by omega) hl rfl
   rw [hW2]
   refine wpIn_mono (hbody _ gh pre x _ (by omega) (Array.getElem?_eq_some_iff.1 hl2).1 hgh2 hi2 hx2 hlen) ?_
   -- the round's end: what it turns in the record
   have fin : ∀ (jump : Option Code) (W3 : World), KeepsFrom w.heap.size W2 W3 →
       ∃ st, st = (if jump.isNone then LoopState.ready else LoopState.done) ∧
       (Instr.endRound (w.heap.size + 1) jump).run P W3 = .ok (.bool jump.isNone) (W3.putObj (w.heap.size + 1) (.loop (R st jump))) ∧
       W3.heap[w.heap.size + 1]? = some (.loop { R .ready none with state := .busy }) ∧
       (W3.putObj (w.heap.size + 1) (.loop (R st jump))).heap[w.heap.size + 1]? = some (.loop (R st jump)) ∧
       (W3.putObj (w.heap.size + 1) (.loop (R st jump))).heap[w.heap.size]? = some (.deferred (some [])) := by
    intro jump W3 hk3
    have hl3 := hk3.same _ _ (by omega) hl2 rfl
    have hrun := run_endRound (P := P) jump hl3
    rw [hR] at hrun hl3 ⊢
    exact ⟨_, rfl, hrun, hl3, World.putObj_heap_same (Array.getElem?_eq_some_iff.1 hl3).1, (World.putObj_heap_other (by omega)).trans (hk3.same _ _ (Nat.le_refl _) hk2 rfl)⟩
   intro e a3 W3 hp
   cases e with
   | normal =>
    obtain ⟨hk3, ⟨kp3, hg3⟩, hi3⟩ := hp
    obtain ⟨_, rfl, hr, hl3, hl4, hk4⟩ := fin none W3 hk3
    exact ⟨_, _, hr, .inl ⟨rfl, ⟨(hI gh).putObj _ hi3 (by omega) hl3 rfl, hl4, hk4⟩, hKt (hKt kp2 kp3) (hKb _ _ _ _ (by omega) hl3 rfl rfl), (World.putObj_heap_other (by omega)).trans (hg3.trans hg2)⟩⟩
   | ret =>
    obtain ⟨hk3, hi3⟩ := hp
    obtain ⟨_, rfl, hr, hl3, hl4, hk4⟩ := fin (some .ret) W3 hk3
    exact ⟨_, _, hr, .inr ⟨rfl, .ret, (hIx gh _).putObj _ hi3 (by omega) hl3 rfl, hl4, hk4⟩⟩
   | exit id =>
    obtain ⟨hk3, hi3⟩ := hp
    obtain ⟨_, rfl, hr, hl3, hl4, hk4⟩ := fin (some (.exit id)) W3 hk3
    exact ⟨_, _, hr, .inr ⟨rfl, .exit id, (hIx gh _).putObj _ hi3 (by omega) hl3 rfl, hl4, hk4⟩⟩
   | goto t =>
    obtain ⟨hk3, hi3⟩ := hp
    obtain ⟨_, rfl, hr, hl3, hl4, hk4⟩ := fin (some (.goto t)) W3 hk3
    exact ⟨_, _, hr, .inr ⟨rfl, .goto t, (hIx gh _).putObj _ hi3 (by omega) hl3 rfl, hl4, hk4⟩⟩
   | panic ch => exact hp.elim
   | outgrown => exact hp.elim
  ·rintro e W2 ⟨⟨v, rfl⟩, gh, (⟨xs, hS, hi, hl, hk⟩ | ⟨pre, hSp, c, hi, hl, hk⟩)⟩
   ·have hrun := run_endLoop (P := P) hl (by rw [hR]; simp)
    rw [hR] at hrun
    exact ⟨none, _, hrun, hdone _ gh xs _ (Nat.le_refl _) hS ((hI gh).putObj _ hi (by omega) hl rfl) ((World.putObj_heap_other (by omega)).trans hk)⟩
   ·have hrun := run_endLoop (P := P) hl (by rw [hR]; simp)
    rw [hR] at hrun
    exact ⟨some c, _, hrun, hstop _ gh c pre _ (Nat.le_refl _) hSp ((hIx gh c).putObj _ hi (by omega) hl rfl) ((World.putObj_heap_other (by omega)).trans hk)⟩
end
end Go.Proofs.YtjkajojjehgmdaaGreat
namespace Go.Proofs.YtjkajojjehgmdaaGreat
open Go.RowKit Go.Maps
def StyBox (W : World) (r : Nat) (b u i : Bool) (f g : Int) : Prop := W.heap[r]? = some (.cells #[.bool b, .bool u, .bool i, .int .i64 f, .int .i64 g] 32 (0, 0))
theorem styBox_new (W : World) (b u i : Bool) (f g : Int) : StyBox (W.alloc (.cells #[.bool b, .bool u, .bool i, .int .i64 f, .int .i64 g] 32)) W.heap.size b u i f g := World.alloc_heap_new W _
theorem styBox_old {W W' : World} {r : Nat} {b u i : Bool} {f g : Int} {B : Nat} (h : StyBox W r b u i f g) (hb : Below B W W') (hr : r < B) : StyBox W' r b u i f g := (hb.block r hr).trans h
theorem StyBox.cells {W : World} {r : Nat} {b u i : Bool} {f g : Int} (h : StyBox W r b u i f g) : W.cell? ⟨r, 0, none⟩ = some (.bool b) ∧ W.cell? ⟨r, 1, none⟩ = some (.bool u) ∧ W.cell? ⟨r, 2, none⟩ = some (.bool i) ∧ W.cell? ⟨r, 3, none⟩ = some (.int .i64 f) ∧ W.cell? ⟨r, 4, none⟩ = some (.int .i64 g) ∧ ∀ j, W.frozen? ⟨r, j, none⟩ = false := by
 unfold StyBox at h
 unfold World.cell? World.frozen?
 dsimp only
 rw [h]
 simp
theorem set_at {W : World} {F : Nat} {c : Array Value} {t : TypeId} {fz : Nat × Nat} (h : W.heap[F]? = some (.cells c t fz)) (o : Nat) (v : Value) : (W.setCell ⟨F, o, none⟩ v).heap[F]? = some (.cells (c.setIfInBounds o v) t fz) := by
 simp [World.setCell, Array.getElem?_modify, h]
theorem set_other (W : World) (F o k : Nat) (v : Value) (h : k ≠ F) : (W.setCell ⟨F, o, none⟩ v).heap[k]? = W.heap[k]? := by
 simp [World.setCell, Array.getElem?_modify]; omega
theorem set_size (W : World) (F o : Nat) (v : Value) : (W.setCell ⟨F, o, none⟩ v).heap.size = W.heap.size := by simp [World.setCell]
structure Sy where
 b : Bool
 u : Bool
 i : Bool
 f : Int
 g : Int
def Sy.v (y : Sy) : Value := .agg #[.bool y.b, .bool y.u, .bool y.i, .int .i64 y.f, .int .i64 y.g]
def SyBox (W : World) (r : Nat) (y : Sy) : Prop := StyBox W r y.b y.u y.i y.f y.g
end Go.Proofs.YtjkajojjehgmdaaGreat
namespace Go.Proofs.YtjkajojjehgmdaaGreat
open Go.RowKit
structure GC where
 s : ByteArray
 w : Int
 y : Sy
def GC.vals (c : GC) : List Value := [.string c.s, .int .i64 c.w, .bool c.y.b, .bool c.y.u, .bool c.y.i, .int .i64 c.y.f, .int .i64 c.y.g]
def GC.v (c : GC) : Value := .agg #[.string c.s, .int .i64 c.w, .bool c.y.b, .bool c.y.u, .bool c.y.i, .int .i64 c.y.f, .int .i64 c.y.g]
def Sy.zero : Sy := ⟨false, false, false, 0, 0⟩
def GC.zero : GC := ⟨⟨#[]⟩, 0, Sy.zero⟩
def GC.blank : GC := ⟨⟨#[32]⟩, 1, Sy.zero⟩
theorem GC.vals_length (c : GC) : c.vals.length = 7 := rfl
theorem GC.one (c : GC) : ∀ v ∈ c.vals, v.oneCell' = true := by
 intro v hv
 simp only [GC.vals, List.mem_cons, List.not_mem_nil, or_false] at hv
 rcases hv with h | h | h | h | h | h | h <;> subst h <;> rfl
def flatV (L : List GC) : List Value := L.flatMap GC.vals
theorem flatV_length (L : List GC) : (flatV L).length = 7 * L.length := by
 induction L with
 | nil => rfl
 | cons c L ih => simp only [flatV, List.flatMap_cons, List.length_append, List.length_cons] at ih ⊢; rw [ih, GC.vals_length]; omega
theorem flatV_append (A B : List GC) : flatV (A ++ B) = flatV A ++ flatV B := by simp [flatV]
theorem flatV_one (L : List GC) : ∀ v ∈ flatV L, v.oneCell' = true := by
 intro v hv
 obtain ⟨c, _, h⟩ := List.mem_flatMap.1 hv
 exact c.one v h
theorem flatV_drop (L : List GC) (k : Nat) : (flatV L).drop (7 * k) = flatV (L.drop k) := by
 induction k generalizing L with
 | zero => rfl
 | succ k ih =>
  cases L with
  | nil => simp [flatV]
  | cons c L =>
   rw [List.drop_succ_cons, ← ih, show 7 * (k + 1) = 7 + 7 * k by omega, ← List.drop_drop]
   rfl
theorem flatV_take (L : List GC) (k : Nat) : (flatV L).take (7 * k) = flatV (L.take k) := by
 induction k generalizing L with
 | zero => rfl
 | succ k ih =>
  cases L with
  | nil => simp [flatV]
  | cons c L =>
   rw [List.take_succ_cons, show 7 * (k + 1) = 7 + 7 * k by omega]
   show List.take (7 + 7 * k) (c.vals ++ flatV L) = c.vals ++ flatV (L.take k)
   rw [List.take_append, GC.vals_length, List.take_of_length_le (by rw [GC.vals_length]; omega), show 7 + 7 * k - 7 = 7 * k by omega, ih]
theorem flatV_get {L : List GC} {i : Nat} {c : GC} (h : L[i]? = some c) {j : Nat} (hj : j < 7) : (flatV L)[7 * i + j]? = c.vals[j]? := by
 have h1 : ((flatV L).drop (7 * i))[j]? = (flatV L)[7 * i + j]? := by rw [List.getElem?_drop]
 rw [← h1, flatV_drop]
 have hlt : i < L.length := (List.getElem?_eq_some_iff.1 h).1
 rw [List.drop_eq_getElem_cons hlt]
 have : L[i] = c := (List.getElem?_eq_some_iff.1 h).2
 rw [this]
 show (c.vals ++ flatV (L.drop (i + 1)))[j]? = _
 rw [List.getElem?_append_left (by rw [GC.vals_length]; omega)]
theorem flatV_splice (L M : List GC) (o : Nat) (h : o + M.length ≤ L.length) : splice (flatV L) (7 * o) (flatV M) = flatV (splice L o M) := by
 unfold splice
 rw [flatV_length, flatV_take, show 7 * o + 7 * M.length = 7 * (o + M.length) by omega, flatV_drop, flatV_append, flatV_append]
theorem splice_one (L : List GC) (o : Nat) (c : GC) (h : o < L.length) : splice L o [c] = L.set o c := by
 unfold splice
 rw [List.set_eq_take_append_cons_drop, if_pos h]
 rfl
theorem flatV_set (L : List GC) (o : Nat) (c : GC) (h : o < L.length) : splice (flatV L) (7 * o) c.vals = flatV (L.set o c) := by
 have := flatV_splice L [c] o (by simp; omega)
 rw [splice_one L o c h] at this
 rw [← this]
 simp [flatV]
structure Only (S : List Nat) (w w' : World) : Prop where
 os : w'.os = w.os
 tape : w'.tape = w.tape
 output : w'.output = w.output
 size : w.heap.size ≤ w'.heap.size
 block : ∀ k, k < w.heap.size → k ∉ S → w'.heap[k]? = w.heap[k]?
theorem Only.refl (S : List Nat) (w : World) : Only S w w := ⟨rfl, rfl, rfl, Nat.le_refl _, fun _ _ _ => rfl⟩
theorem Only.trans {S : List Nat} {a b c : World} (h : Only S a b) (k : Only S b c) : Only S a c :=
 ⟨k.os.trans h.os, k.tape.trans h.tape, k.output.trans h.output, Nat.le_trans h.size k.size, fun i hi hs => (k.block i (Nat.lt_of_lt_of_le hi h.size) hs).trans (h.block i hi hs)⟩
theorem Only.of_below {S : List Nat} {w w' : World} (h : Below w.heap.size w w') : Only S w w' := ⟨h.os, h.tape, h.output, h.size, fun k hk _ => h.block k hk⟩
theorem Only.below {S : List Nat} {w w' : World} (h : Only S w w') {B : Nat} (hS : ∀ s ∈ S, B ≤ s) (hB : B ≤ w.heap.size) : Below B w w' :=
 ⟨h.os, h.tape, h.output, h.size, fun k hk => h.block k (by omega) (fun hs => by have := hS k hs; omega)⟩
theorem Only.nil {w w' : World} (h : Only [] w w') : Below w.heap.size w w' := h.below (by simp) (Nat.le_refl _)
theorem Only.mono {S S' : List Nat} {w w' : World} (h : Only S w w') (hS : ∀ s ∈ S, s ∈ S' ∨ w.heap.size ≤ s) : Only S' w w' :=
 ⟨h.os, h.tape, h.output, h.size, fun k hk hs => h.block k hk (fun hs' => (hS k hs').elim hs (fun hle => by omega))⟩
theorem Only.alloc {S : List Nat} {a w : World} (h : Only S a w) (o : Obj) : Only S a (w.alloc o) :=
 h.trans (Only.of_below ((Below.refl _ _).alloc (Nat.le_refl _) o))
theorem Only.setCell {S : List Nat} {a w : World} (h : Only S a w) {p : Addr} (hp : p.block ∈ S ∨ a.heap.size ≤ p.block) (u : Value) : Only S a (w.setCell p u) :=
 ⟨h.os, h.tape, h.output, by have := h.size; simp [World.setCell]; omega, fun k hk hs => (Below.heap_setCell _ _ _ _ (fun e => by
  rcases hp with hp | hp
  ·exact hs (e ▸ hp)
  ·omega)).trans (h.block k hk hs)⟩
theorem Only.setRow {S : List Nat} {a w : World} (h : Only S a w) {g : Nat} (hg : g ∈ S ∨ a.heap.size ≤ g) (cs : Array Value) : Only S a (w.setRow g cs) :=
 ⟨h.os, h.tape, h.output, by have := h.size; simp [World.setRow]; omega, fun k hk hs => (setRow_other w g k cs (fun e => by
  rcases hg with hg | hg
  ·exact hs (e ▸ hg)
  ·omega)).trans (h.block k hk hs)⟩
theorem Only.heap {S : List Nat} {w w' : World} (h : Only S w w') {k : Nat} {o : Obj} (hk : w.heap[k]? = some o) (hs : k ∉ S) : w'.heap[k]? = some o :=
 (h.block k (Array.getElem?_eq_some_iff.1 hk).1 hs).trans hk
def GBlk (W : World) (q : Nat) (L : List GC) : Prop := W.heap[q]? = some (.cells (flatV L).toArray 88 (0, 0))
theorem GBlk.lt {W : World} {q : Nat} {L : List GC} (h : GBlk W q L) : q < W.heap.size := (Array.getElem?_eq_some_iff.1 h).1
theorem GBlk.only {W W' : World} {q : Nat} {L : List GC} {S : List Nat} (h : GBlk W q L) (ho : Only S W W') (hs : q ∉ S) : GBlk W' q L := ho.heap h hs
theorem GBlk.alloc {W : World} {q : Nat} {L : List GC} (h : GBlk W q L) (o : Obj) : GBlk (W.alloc o) q L := h.only ((Only.refl [] W).alloc o) (by simp)
theorem GBlk.range {W : World} {q : Nat} {L : List GC} (h : GBlk W q L) (o n : Nat) : W.rangeAt q (7 * o) (flatV ((L.drop o).take n)) := by
 intro j v hv
 rw [cell_of_row W q (7 * o + j) _ _ _ h]
 rw [← flatV_take, ← flatV_drop, List.getElem?_take] at hv
 split at hv
 ·rw [List.getElem?_drop] at hv
  simpa using hv
 ·cases hv
theorem GBlk.range1 {W : World} {q : Nat} {L : List GC} (h : GBlk W q L) {i : Nat} {c : GC} (hi : L[i]? = some c) : W.rangeAt q (7 * i) c.vals := by
 intro j v hv
 rw [cell_of_row W q (7 * i + j) _ _ _ h]
 have hj : j < 7 := by have := (List.getElem?_eq_some_iff.1 hv).1; rwa [GC.vals_length] at this
 have := flatV_get hi hj
 simp only [List.getElem?_toArray]
 rw [this, hv]
theorem GBlk.load {W : World} {q : Nat} {L : List GC} (h : GBlk W q L) {i : Nat} {c : GC} (hi : L[i]? = some c) (o : Nat) (ho : o = 7 * i) :
    (Instr.loadAt 88 (.pointer (some ⟨q, o, none⟩))).run Tryz.prog W = .ok c.v W := by
 subst ho
 exact run_loadAt_mid W q _ _ _ _ (h.range1 hi) Tryz.underlying88 rfl (by kernel_rfl)
theorem GBlk.store {W : World} {q : Nat} {L : List GC} (h : GBlk W q L) {i : Nat} (hi : i < L.length) (c : GC) (o : Nat) (ho : o = 7 * i) :
    (Instr.storeAt 88 (.pointer (some ⟨q, o, none⟩)) c.v).run Tryz.prog W = .ok () (W.setRow q (flatV (L.set i c)).toArray) := by
 subst ho
 have hst := run_storeCells_at Tryz.prog q (7 * i) _ c.vals 0 _ W h (by rw [GC.vals_length]; simp [flatV_length]; omega) c.one
 have hsp := flatV_set L i c hi
 unfold splice at hsp
 have hs : (Tryz.prog.info? 88).map (·.size) = some 7 := by kernel_rfl
 cases hq : Tryz.prog.info? 88 with
 | none => rw [hq] at hs; cases hs
 | some t =>
  have ht : t.size = 7 := by rw [hq] at hs; simpa using hs
  simp only [Nat.add_zero] at hst
  rw [List.append_assoc, hsp] at hst
  simp only [GC.v]
  simp only [GC.vals] at hst
  simp [Instr.storeAt, Instr.sureAddr, storeVar, sizeOf, typeInfo, hq, Value.cells, ht, hst]
theorem GBlk.set {W : World} {q : Nat} {L : List GC} (h : GBlk W q L) (M : List GC) : GBlk (W.setRow q (flatV M).toArray) q M := setRow_heap W q _ _ _ _ h
theorem GBlk.set_other {W : World} {q r : Nat} {L : List GC} (h : GBlk W q L) (hr : q ≠ r) (cs : Array Value) : GBlk (W.setRow r cs) q L := (setRow_other W r q cs hr).trans h
theorem wpList_gstore {ops : Array Oper} {rest : List Oper} {op : Oper} {a : Act} {w : World} {Q : Exit → Act → World → Prop} (hgd : op.guard = none) (x y : Operand) (ho : op.op = .store 88 x y)
    (q off : Nat) (hx : a.eval x = .pointer (some ⟨q, off, none⟩)) (c : GC) (hy : a.eval y = c.v) (L : List GC) (hb : GBlk w q L) (i : Nat) (hoff : off = 7 * i) (hi : i < L.length)
    (h : ∀ w', GBlk w' q (L.set i c) → Only [q] w w' → wpList Tryz.prog ops Q rest (a.put op.dst undef) w') : wpList Tryz.prog ops Q (op :: rest) a w :=
 wpList_plain hgd fun K hK => by
  have hs := hb.store hi c off hoff
  unfold Oper.wp execOp
  simp only [ho, hx, hy, Sem.run_bind, Sem.run_pure, Result.andThen_ok, hs]
  exact hK _ _ (h _ (hb.set _) ((Only.refl [q] w).setRow (.inl (by simp)) _))
theorem wpList_gload {ops : Array Oper} {rest : List Oper} {op : Oper} {a : Act} {w : World} {Q : Exit → Act → World → Prop} (hgd : op.guard = none) (x : Operand) (ho : op.op = .load 88 x)
    (q off : Nat) (hx : a.eval x = .pointer (some ⟨q, off, none⟩)) (c : GC) (hc : w.rangeAt q off c.vals)
    (h : wpList Tryz.prog ops Q rest (a.put op.dst c.v) w) : wpList Tryz.prog ops Q (op :: rest) a w :=
 wpList_load_mid hgd _ x ho q off hx c.vals _ hc Tryz.underlying88 rfl (by kernel_rfl) h
theorem run_gcopy (w : World) (ty : TypeId) (g off dLen dCap : Nat) (s so sLen sCap : Nat) (cur M : List GC) (o : Nat) (hg : GBlk w g cur) (hoff : off = 7 * o) (hn : M.length = Nat.min sLen dLen)
    (hsrc : w.rangeAt s so (flatV M)) (hfit : o + M.length ≤ cur.length) :
    (Builtin.copy_ #[46, 46] ty #[.slice (some ⟨g, off, none⟩) dLen dCap, .slice (some ⟨s, so, none⟩) sLen sCap]).run Tryz.prog w = .ok (goInt M.length) (w.setRow g (flatV (splice cur o M)).toArray) := by
 subst hoff
 have hl := run_loadCells_list (P := Tryz.prog) w ⟨s, so, none⟩ (flatV M) (fun j v hv => by rw [Addr.add_mid]; exact hsrc j v hv)
 have hst := run_storeCells_at Tryz.prog g (7 * o) _ (flatV M) 0 _ w hg (by simp [flatV_length]; omega) (flatV_one M)
 have hsp := flatV_splice cur M o hfit
 unfold splice at hsp ⊢
 simp only [Nat.add_zero] at hst
 rw [List.append_assoc, hsp] at hst
 have hu : Tryz.prog.underlying 46 = some (.slice 88) := Tryz.underlying46
 have hs : (Tryz.prog.info? 88).map (·.size) = some 7 := by kernel_rfl
 have hl7 : (flatV M).length = M.length * 7 := by rw [flatV_length]; omega
 cases hq : Tryz.prog.info? 88 with
 | none => rw [hq] at hs; cases hs
 | some i =>
  have hi : i.size = 7 := by rw [hq] at hs; simpa using hs
  rw [hl7] at hl
  simp [Builtin.copy_, run_underlying hu, Builtin.lenOf, Builtin.firstCells, sizeOf, typeInfo, hq, hi, ← hn, hl, hst]
theorem run_gcopy_none (w : World) (ty : TypeId) (dp sp : Option Addr) (dLen dCap sLen sCap : Nat) (hn : Nat.min sLen dLen = 0) :
    (Builtin.copy_ #[46, 46] ty #[.slice dp dLen dCap, .slice sp sLen sCap]).run Tryz.prog w = .ok (goInt 0) w := by
 have hu : Tryz.prog.underlying 46 = some (.slice 88) := Tryz.underlying46
 have hs : (Tryz.prog.info? 88).map (·.size) = some 7 := by kernel_rfl
 cases hq : Tryz.prog.info? 88 with
 | none => rw [hq] at hs; cases hs
 | some i =>
  have hi : i.size = 7 := by rw [hq] at hs; simpa using hs
  have hl : ∀ a : Addr, (loadCells a 0).run Tryz.prog w = .ok #[] w := fun a => run_loadCells_list (P := Tryz.prog) w a [] (fun j v hv => by simp at hv)
  cases dp <;> cases sp <;> simp [Builtin.copy_, run_underlying hu, Builtin.lenOf, Builtin.firstCells, sizeOf, typeInfo, hq, hi, hn, hl, storeCells]
theorem wpList_gcopy {ops : Array Oper} {rest : List Oper} {op : Oper} {a : Act} {w : World} {Q : Exit → Act → World → Prop} (hgd : op.guard = none) (d s : Operand)
    (ho : op.op = .call { callee := .builtin .copy, args := #[d, s], argTypes := #[46, 46] })
    (dp sp : Option Addr) (dLen dCap sLen sCap : Nat) (hd : a.eval d = .slice dp dLen dCap) (hs : a.eval s = .slice sp sLen sCap)
    (g : Nat) (cur M : List GC) (o : Nat) (hg : GBlk w g cur) (hn : M.length = Nat.min sLen dLen)
    (hpos : 0 < M.length → (∃ off, dp = some ⟨g, off, none⟩ ∧ off = 7 * o) ∧ ∃ b so, sp = some ⟨b, so, none⟩ ∧ w.rangeAt b so (flatV M)) (hfit : o + M.length ≤ cur.length)
    (h : ∀ w', GBlk w' g (splice cur o M) → Only [g] w w' → wpList Tryz.prog ops Q rest (a.put op.dst (goInt M.length)) w') : wpList Tryz.prog ops Q (op :: rest) a w := by
 refine wpList_plain hgd fun K hK => ?_
 by_cases h0 : M.length = 0
 ·obtain rfl : M = [] := List.eq_nil_of_length_eq_zero h0
  have hrun := run_gcopy_none w op.type dp sp dLen dCap sLen sCap (by simpa using hn.symm)
  unfold Oper.wp
  simp [execOp, ho, resolve, invoke, builtin, hd, hs, hrun, Result.andThen]
  have := h w (by simpa [splice] using hg) (Only.refl _ _)
  exact hK _ _ (by simpa using this)
 ·obtain ⟨⟨off, rfl, hoff⟩, b, so, rfl, hsrc⟩ := hpos (by omega)
  have hrun := run_gcopy w op.type g off dLen dCap b so sLen sCap cur M o hg hoff hn hsrc hfit
  unfold Oper.wp
  simp [execOp, ho, resolve, invoke, builtin, hd, hs, hrun, Result.andThen]
  exact hK _ _ (h _ (hg.set _) ((Only.refl [g] w).setRow (.inl (by simp)) _))
theorem replicate_flat (n : Nat) : madeCells GC.zero.v.cells (n * 7) = (flatV (List.replicate n GC.zero)).toArray := by
 apply Array.ext'
 simp only [List.toList_toArray]
 have hz : GC.zero.v.cells = GC.zero.vals.toArray := rfl
 apply List.ext_getElem?
 intro i
 unfold madeCells
 rw [hz]
 by_cases hi : i < n * 7
 ·have hL : (List.replicate n GC.zero)[i / 7]? = some GC.zero := by rw [List.getElem?_replicate, if_pos (by omega)]
  have := flatV_get hL (j := i % 7) (by omega)
  rw [show 7 * (i / 7) + i % 7 = i by omega] at this
  rw [this]
  have h7 : GC.zero.vals.toArray.size = 7 := rfl
  rw [h7]
  have hlt : i % 7 < 7 := Nat.mod_lt _ (by omega)
  simp only [Array.toList_map, Array.toList_range, List.getElem?_map, List.getElem?_range hi, Option.map_some]
  have : ∀ j, j < 7 → some GC.zero.vals.toArray[j]! = GC.zero.vals[j]? := by
   intro j hj
   obtain h | h | h | h | h | h | h : j = 0 ∨ j = 1 ∨ j = 2 ∨ j = 3 ∨ j = 4 ∨ j = 5 ∨ j = 6 := by omega
   all_goals subst h; rfl
  exact this _ hlt
 ·rw [List.getElem?_eq_none (by simp; omega), List.getElem?_eq_none (by rw [flatV_length]; simp; omega)]
theorem run_gmake (W : World) (n : Nat) (hn : n ≤ 1000000) :
    (Instr.makeSlice 46 (.int .i64 (n : Int)) (.int .i64 (n : Int))).run Tryz.prog W = .ok (.slice (some ⟨W.heap.size, 0, none⟩) n n) (W.alloc (.cells (flatV (List.replicate n GC.zero)).toArray 88)) := by
 have hs : (Tryz.prog.info? 88).map (fun i => (i.zero, i.size, decide (i.bytes ≤ 1000))) = some (some GC.zero.v, 7, true) := by kernel_rfl
 cases hq : Tryz.prog.info? 88 with
 | none => rw [hq] at hs; cases hs
 | some i =>
  rw [hq] at hs
  simp only [Option.map_some, Option.some.injEq, Prod.mk.injEq, decide_eq_true_eq] at hs
  obtain ⟨h1, h2, h3⟩ := hs
  have := run_make (P := Tryz.prog) W 46 88 i GC.zero.v Tryz.underlying46 hq h1 .i64 .i64 n n (by omega) (by omega) (by have : i.bytes * n ≤ 1000 * 1000000 := Nat.mul_le_mul h3 hn; rw [← Int.natCast_mul]; omega) (by omega)
  rw [this]
  simp only [Int.toNat_natCast, h2, replicate_flat]
theorem GBlk.made (W : World) (L : List GC) : GBlk (W.alloc (.cells (flatV L).toArray 88)) W.heap.size L := World.alloc_heap_new W _
structure Laid (B : Nat) (w : World) (q : Nat) (suf : List UInt8) : Prop where
 blk : ∃ cs : Array Value, w.heap[B]? = some (.cells cs 235 (0, 0)) ∧ cs.size = 20 ∧ cs.toList.drop (q + 1) = suf.map fun b => Value.int .u8 b.toNat
theorem Laid.cell {B : Nat} {w : World} {q : Nat} {suf : List UInt8} (h : Laid B w q suf) (hq : q < 20) : (∃ v, w.cell? ⟨B, q, none⟩ = some v) ∧ w.frozen? ⟨B, q, none⟩ = false := by
 obtain ⟨cs, h1, h2, _⟩ := h.blk
 unfold World.cell? World.frozen?
 dsimp only
 rw [h1]
 refine ⟨⟨cs[q]'(by omega), ?_⟩, by simp⟩
 simp [h2, hq]
theorem drop_set (l : List Value) (q : Nat) (v : Value) (hq : q < l.length) : (l.set q v).drop q = v :: l.drop (q + 1) := by
 rw [List.drop_eq_getElem_cons (by simpa using hq)]
 rw [List.getElem_set_self]
 congr 1
 apply List.ext_getElem
 ·simp
 ·intro i h1 h2
  simp only [List.getElem_drop]
  rw [List.getElem_set_ne (by omega)]
theorem Laid.put {B : Nat} {w : World} {q' q : Nat} {suf : List UInt8} (h : Laid B w q' suf) (hq' : q' = q + 1) (hq : q + 1 < 20) (b : UInt8) (v : Int) (hv : v = b.toNat) : Laid B (w.setCell ⟨B, q', none⟩ (.int .u8 v)) q (b :: suf) := by
 subst hq'
 obtain ⟨cs, h1, h2, h3⟩ := h.blk
 refine ⟨cs.setIfInBounds (q + 1) (.int .u8 v), ?_, by simpa using h2, ?_⟩
 ·unfold World.setCell
  dsimp only
  rw [Array.getElem?_modify, h1]
  simp
 ·rw [Array.toList_setIfInBounds, drop_set _ _ _ (by simp; omega), h3, hv]
  rfl
theorem Laid.zero (w : World) : Laid w.heap.size (w.alloc (.cells (Array.replicate 20 (.int .u8 0)) 235)) 19 [] :=
 ⟨_, World.alloc_heap_new w _, by simp, by simp⟩
theorem slice20 (B q : Nat) (hq : q < 20) (W : World) : (Instr.sliceAt 235 (.pointer (some ⟨B, 0, none⟩)) (some (.int .i64 q)) none none).run Tryz.prog W = .ok (.slice (some ⟨B, q, none⟩) (20 - q) (20 - q)) W := by
 have h : q = 0 ∨ q = 1 ∨ q = 2 ∨ q = 3 ∨ q = 4 ∨ q = 5 ∨ q = 6 ∨ q = 7 ∨ q = 8 ∨ q = 9 ∨ q = 10 ∨ q = 11 ∨ q = 12 ∨ q = 13 ∨ q = 14 ∨ q = 15 ∨ q = 16 ∨ q = 17 ∨ q = 18 ∨ q = 19 := by omega
 rcases h with rfl | rfl | rfl | rfl | rfl | rfl | rfl | rfl | rfl | rfl | rfl | rfl | rfl | rfl | rfl | rfl | rfl | rfl | rfl | rfl 
 all_goals (show _ = _; kernel_rfl)
theorem strOfNums_S (l : List UInt8) : strOfNums (l.map fun b => (b.toNat : Int)) = S l := by
 unfold strOfNums S
 rw [List.map_map]
 congr 2
 conv => rhs; rw [← List.map_id l]
 apply List.map_congr_left
 intro b _
 simp
theorem Laid.conv {B : Nat} {w : World} {p q : Nat} {l : List UInt8} (h : Laid B w p l) (hp : p + 1 = q) (hl : 20 - q = l.length) :
    (convert 22 9 (.slice (some ⟨B, q, none⟩) (20 - q) (20 - q))).run Tryz.prog w = .ok (.string (S l)) w := by
 subst hp
 obtain ⟨cs, h1, h2, h3⟩ := h.blk
 have := run_convert_bytes_arg (P := Tryz.prog) w 22 5 Tryz.underlying22 Tryz.underlying5 B (p + 1) (20 - (p + 1)) (20 - (p + 1)) (l.map fun b => (b.toNat : Int)) (by simp [hl])
  (fun i hi => ?_) 9 Tryz.underlying9
 ·rw [strOfNums_S] at this; exact this
 ·unfold World.cell?
  dsimp only
  rw [h1]
  have h4 : (cs.toList.drop (p + 1))[i]? = (l.map fun b => Value.int .u8 b.toNat)[i]? := by rw [h3]
  rw [List.getElem?_drop, List.getElem?_map] at h4
  simp only [Option.isSome_none, Bool.false_eq_true, if_false]
  rw [← Array.getElem?_toList, h4]
  simp [show i < l.length by omega]
set_option maxRecDepth 100000 in
set_option maxHeartbeats 1000000 in
theorem decimal_any (n : Nat) (hn : n ≤ 9999) (w : World) : Calls Tryz.prog 154 #[.int .i64 n] w fun e w' => e = .returned (.string (S (decL n))) ∧ Below w.heap.size w w' := by
 go_enter Tryz.func154, Tryz.ntmps154
 go_wp2
 go_loopw [0, 4] (fun v i wr => ∃ (m q : Nat) (suf : List UInt8), v = .int .i64 m ∧ i = .int .i64 ((q : Int) + 1) ∧ (q = 19 ∧ m ≤ 9999 ∨ q = 18 ∧ m ≤ 999 ∨ q = 17 ∧ m ≤ 99 ∨ q = 16 ∧ m ≤ 9) ∧ decL n = decL m ++ suf ∧ q + suf.length = 19 ∧ Laid w.heap.size wr q suf ∧ Below w.heap.size w wr)
  (fun v _ _ => (intOf v).toNat)
 case atStart => exact ⟨n, 19, [], rfl, rfl, .inl ⟨rfl, hn⟩, by simp, by simp, Laid.zero w, (Below.refl _ _).alloc (Nat.le_refl _) _⟩
 case round =>
  obtain ⟨m, q, suf, rfl, rfl, hqm, hd, hlen, hl, hb⟩ := hrel
  have hq : q < 20 := by omega
  have hm : m ≤ 9999 := by omega
  obtain ⟨⟨v, hc⟩, hf⟩ := hl.cell hq
  have Hd := Lib.hid hd
  have Hqm := Lib.hid hqm
  clear hd hqm
  obtain ⟨p, hp⟩ : ∃ p, q = p + 1 := ⟨q - 1, by have := Hqm.out; omega⟩
  have Hp := Lib.hid hp
  clear hp
  have hput := hl.put Hp.out (by have := Hp.out; omega) (digB (m % 10)) (48 + (m : Int) % 10) (by rw [digB_nat _ (by omega)]; omega)
  have hsl := slice20 w.heap.size q hq (wr.setCell ⟨w.heap.size, q, none⟩ (.int .u8 (48 + (m : Int) % 10)))
  have Hlen := Lib.hid hlen
  clear hlen
  have hcv := hput.conv Hp.out.symm (by have := Hp.out; have := Hlen.out; simp; omega)
  have hbs := hb.setCell (p := ⟨w.heap.size, q, none⟩) (Nat.le_refl _) (.int .u8 (48 + (m : Int) % 10))
  by_cases hz : m / 10 = 0
  ·have hz2 : ((m : Int) / 10 == 0) = true := by simp; omega
   have Hz := Lib.hid hz
   clear hz
   go_wp2
   go_ret
   exact ⟨ret_str (by rw [Hd.out, decL_small (by have := Hz.out; omega), Nat.mod_eq_of_lt (by have := Hz.out; omega)]; rfl), hbs⟩
  ·have hz2 : ((m : Int) / 10 == 0) = false := by simp; omega
   have Hz := Lib.hid hz
   clear hz
   go_wp2
   go_roundw
   case rel => exact ⟨m / 10, p, _, by go_num, congrArg (Value.int .i64) (by have := Hp.out; omega), by have := Hp.out; have := Hqm.out; have := Hz.out; omega, by rw [Hd.out, decL_big (by have := Hz.out; omega)]; simp, by have := Hp.out; have := Hlen.out; simp; omega, hput, hbs⟩
   case measure => have := Hz.out; simp [intOf]; omega
theorem dec_any (a : Int) (w : World) (h0 : 0 ≤ a) (h1 : a ≤ 9999) : Calls Tryz.prog 154 #[.int .i64 a] w fun e w' => e = .returned (.string (S (decL a.toNat))) ∧ Below w.heap.size w w' := by
 obtain ⟨n, rfl⟩ := Int.eq_ofNat_of_zero_le h0
 exact decimal_any n (by omega) w
def i64s (L : List Int) : List Value := L.map (Value.int .i64)
theorem i64s_length (L : List Int) : (i64s L).length = L.length := by simp [i64s]
theorem i64s_nth (L : List Int) (j : Nat) (h : j < L.length) : nth undef (i64s L) j = .int .i64 (nth 0 L j) := nth_map _ _ _ _ h
theorem ints_at {B : Nat} {w : World} {a : Option Addr} {l : List Int} (h : RowAt B w a (i64s l)) (k : Nat) (hk : k < l.length) : ∃ b off, a = some ⟨b, off, none⟩ ∧ b < B ∧ w.cell? ⟨b, off + k, none⟩ = some (.int .i64 (nth 0 l k)) := by
 obtain ⟨b, off, e, hb, hc⟩ := h k (by rw [i64s_length]; exact hk)
 exact ⟨b, off, e, hb, by rw [hc, i64s_nth _ _ hk]⟩
def nines : List UInt8 := decL (9999 : Int).toNat
theorem dec_nines (w : World) : Calls Tryz.prog 154 #[.int .i64 9999] w fun e w' => e = .returned (.string (S nines)) ∧ Below w.heap.size w w' := dec_any 9999 w (by omega) (by omega)
set_option maxRecDepth 100000 in
set_option maxHeartbeats 1000000 in
theorem sequence_any (E : List UInt8) (l : List Int) (a : Option Addr) (n c : Nat) (w : World) (hE : E.length ≤ 100) (hn : n = l.length) (hl : l.length ≤ 20) (hr : RowAt w.heap.size w a (i64s l)) (h0 : ∀ k, k < l.length → 0 ≤ nth 0 l k) :
    Calls Tryz.prog 114 #[.string (S E), .slice a n c] w fun e w' => e = .returned (.string (S (seqL l E))) ∧ Below w.heap.size w w' := by
 subst hn
 have H0 := Lib.hid h0
 clear h0
 have hEs : (S E).size ≤ 100 := by rw [S_size]; exact hE
 go_enter Tryz.func114, Tryz.ntmps114
 go_wp2
 go_loopw [10, 5] (fun i s wr => ∃ k : Nat, k ≤ l.length ∧ i = .int .i64 k ∧ s = .string (S ([27, 91] ++ sepTo l k)) ∧ Below w.heap.size w wr) (fun i _ _ => l.length - (intOf i).toNat)
 case atStart => exact ⟨0, by omega, rfl, rfl, Below.refl _ _⟩
 case round =>
  obtain ⟨k, hk, rfl, rfl, hb⟩ := hrel
  have hsz := sepTo_len l k
  have hsz2 : (S ([27, 91] ++ sepTo l k)).size ≤ 200 := by rw [S_size]; simp; omega
  obtain ⟨P, hP⟩ : ∃ P, P = [27, 91] ++ sepTo l k := ⟨_, rfl⟩
  rw [← hP] at hsz2 ⊢
  have HP := Lib.hid hP
  clear hP hsz
  by_cases hlt : k < l.length
  ·obtain ⟨b, off, rfl, _, hc⟩ := ints_at (hr.below hb) k hlt
   have h00 := H0.out k hlt
   have hs : sepTo l (k + 1) = sepTo l k ++ (if k = 0 then [] else [59]) ++ decL (min (nth 0 l k) 9999).toNat := rfl
   obtain ⟨m, hm⟩ : ∃ m, m = nth 0 l k := ⟨_, rfl⟩
   rw [← hm] at hc h00 hs
   have Hs := Lib.hid hs
   clear hs hm
   have hfin : ∀ (d : List UInt8), d = decL (min m 9999).toNat → S (P ++ (if k = 0 then [] else [59]) ++ d) = S ([27, 91] ++ sepTo l (k + 1)) := fun d hd => by rw [Hs.out, HP.out, hd]; simp
   have Hfin := Lib.hid hfin
   clear hfin
   by_cases hbig : m ≤ 9999
   ·have hd1 := decL_le m.toNat (by omega)
    have hd2 : (S (decL m.toNat)).size ≤ 4 := by rw [S_size]; exact hd1
    have he : min m 9999 = m := by omega
    rw [he] at Hfin
    have He := Lib.hid he
    clear he hd1
    by_cases hk0 : k = 0
    ·subst hk0
     rw [Nat.add_zero] at hc
     go_wp2_with (go_at_call 154; refine (dec_any _ _ (by omega) (by omega)).mono ?_; rintro e w1 ⟨rfl, hb1⟩)
     go_roundw
     case rel => exact ⟨0 + 1, by omega, by go_num, congrArg Value.string (by rw [S_append]; have := Hfin.out _ rfl; simpa using this), bnext hb hb1⟩
     case measure => simp [intOf]; omega
    ·have hk1 : 0 < (k : Int) := by omega
     have Hk0 := Lib.hid hk0
     clear hk0
     go_wp2_with (go_at_call 154; refine (dec_any _ _ (by omega) (by omega)).mono ?_; rintro e w1 ⟨rfl, hb1⟩)
     go_roundw
     case rel => exact ⟨k + 1, by omega, by go_num, congrArg Value.string (by have := Hfin.out _ rfl; rw [if_neg Hk0.out] at this; rw [← this]; exact (congrArg (· ++ S (decL m.toNat)) (S_append P [59])).trans (S_append _ _)), bnext hb hb1⟩
     case measure => simp [intOf]; omega
   ·have hd2 : (S nines).size ≤ 4 := by rw [S_size]; exact decL_le _ (by omega)
    have he : min m 9999 = 9999 := by omega
    rw [he] at Hfin
    have hn : nines = decL (9999 : Int).toNat := rfl
    rw [← hn] at Hfin
    clear he hn
    have hbig2 : 9999 < m := by omega
    clear hbig
    by_cases hk0 : k = 0
    ·subst hk0
     rw [Nat.add_zero] at hc
     go_wp2_with (go_at_call 154; refine (dec_nines _).mono ?_; rintro e w1 ⟨rfl, hb1⟩)
     go_roundw
     case rel => exact ⟨0 + 1, by omega, by go_num, congrArg Value.string (by rw [S_append]; have := Hfin.out _ rfl; simpa using this), bnext hb hb1⟩
     case measure => simp [intOf]; omega
    ·have hk1 : 0 < (k : Int) := by omega
     have Hk0 := Lib.hid hk0
     clear hk0
     go_wp2_with (go_at_call 154; refine (dec_nines _).mono ?_; rintro e w1 ⟨rfl, hb1⟩)
     go_roundw
     case rel => exact ⟨k + 1, by omega, by go_num, congrArg Value.string (by have := Hfin.out _ rfl; rw [if_neg Hk0.out] at this; rw [← this]; exact (congrArg (· ++ S nines) (S_append P [59])).trans (S_append _ _)), bnext hb hb1⟩
     case measure => simp [intOf]; omega
  ·obtain rfl : k = l.length := by omega
   go_wp2
   go_ret
   exact ⟨ret_str (by rw [S_append, HP.out]; rfl), hb⟩
end Go.Proofs.YtjkajojjehgmdaaGreat
