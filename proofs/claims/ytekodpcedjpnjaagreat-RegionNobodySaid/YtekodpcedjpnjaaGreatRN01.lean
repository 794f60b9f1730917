/- Small words that all proofs of this seat use: rows of cells in memory, what abides under growth, and two laws for a region that draws its order inside a fence (a still head, then a tail in one forced order). No condition. What an iterator needs of the worlds between two rounds: its blocks abide. No condition. Worlds that are as they were below a block, but for one block; and whose blocks that are no cells abide. No condition. -/
import Derived.WalkKit
import Derived.Lib.Hide
import Derived.WalkLawsBesides
import Derived.StillTailTactics
import Derived.RangeFuncNested
import Derived.RangeFuncBound
import Derived.RangeFuncCalls
import Derived.RangeFuncLeaves
import Derived.Shelf.Abstract
import Derived.Shelf.RegionOpen
import Derived.OwnWalkIn
import Derived.TacticsInMore
import Derived.LoopNIn
import Derived.LoopIn
import Derived.BigQuiet
import Derived.Deep.QuietTactic
import Derived.OrdersIn
import Derived.RangeFuncFrom
import Derived.RangeFuncWrites
set_option linter.unusedVariables false
set_option linter.unusedSimpArgs false
namespace Go.Proofs.YtekodpcedjpnjaaGreat
open Go.RowKit
def nth {α : Type} (d : α) (l : List α) (j : Nat) : α := l.getD j d
theorem nth_eq {α : Type} (d : α) (l : List α) (j : Nat) (h : j < l.length) : nth d l j = l[j] := by simp [nth, h]
def RowAt (B : Nat) (w : World) (a : Option Addr) (vs : List Value) : Prop :=
  ∀ j, j < vs.length → ∃ b off, a = some ⟨b, off, none⟩ ∧ b < B ∧ w.cell? ⟨b, off + j, none⟩ = some (nth undef vs j)
theorem RowAt.below {B : Nat} {w w' : World} {a : Option Addr} {vs : List Value} (h : RowAt B w a vs) (hb : Below B w w') : RowAt B w' a vs := fun j hj => by
  obtain ⟨b, off, e, hlt, hc⟩ := h j hj
  exact ⟨b, off, e, hlt, (hb.cell (p := ⟨b, off + j, none⟩) hlt).trans hc⟩
theorem RowAt.more {B B' : Nat} {w : World} {a : Option Addr} {vs : List Value} (h : RowAt B w a vs) (hB : B ≤ B') : RowAt B' w a vs := fun j hj => by
  obtain ⟨b, off, e, hlt, hc⟩ := h j hj
  exact ⟨b, off, e, by omega, hc⟩
theorem RowAt.nil (B : Nat) (w : World) (a : Option Addr) : RowAt B w a [] := fun j hj => by simp at hj
theorem nth_map {α : Type} (f : α → Value) (d : α) (l : List α) (j : Nat) (h : j < l.length) : nth undef (l.map f) j = f (nth d l j) := by simp [nth, h]
theorem RowAt.new (w : World) (vs : List Value) (e : TypeId) : RowAt (w.alloc (.cells vs.toArray e)).heap.size (w.alloc (.cells vs.toArray e)) (some ⟨w.heap.size, 0, none⟩) vs := fun j hj => by
  refine ⟨w.heap.size, 0, rfl, by simp, ?_⟩
  have h0 : (w.alloc (.cells vs.toArray e)).heap[w.heap.size]? = some (.cells vs.toArray e) := World.alloc_heap_new w _
  unfold World.cell?
  dsimp only
  rw [h0]
  simp [nth, hj]
theorem bto {B : Nat} {w w' w'' : World} (h : Below B w w') (h' : Below w'.heap.size w' w'') (hB : B ≤ w'.heap.size) : Below B w w'' := h.trans (h'.mono hB)
theorem bnext {w w' w'' : World} (h : Below w.heap.size w w') (h' : Below w'.heap.size w' w'') : Below w.heap.size w w'' := h.trans (h'.mono h.size)
theorem cell_new_l (W : World) (v : Value) (t : TypeId) : (W.alloc (.cells #[v] t)).cell? ⟨W.heap.size, 0, none⟩ = some v ∧ (W.alloc (.cells #[v] t)).frozen? ⟨W.heap.size, 0, none⟩ = false := by
  have h : (W.alloc (.cells #[v] t)).heap[W.heap.size]? = some (.cells #[v] t) := World.alloc_heap_new W _
  unfold World.cell? World.frozen?
  dsimp only
  rw [h]
  exact ⟨rfl, by simp⟩
theorem cell_alloc_l {W : World} {a : Addr} {v : Value} (o : Obj) (h : W.cell? a = some v) : (W.alloc o).cell? a = some v := cell_kept h (World.grownBy_alloc W o none) (fun r e => by cases e)
theorem ret_bool {a b : Bool} (h : a = b) : Ending.returned (.bool a) = .returned (.bool b) := by rw [h]
theorem ret_int {k : IntKind} {a b : Int} (h : a = b) : Ending.returned (.int k a) = .returned (.int k b) := by rw [h]
theorem ret_str {a b : ByteArray} (h : a = b) : Ending.returned (.string a) = .returned (.string b) := by rw [h]
section
variable {P : Program} {ops : Array Oper} {md : Region.Mode} {w : World} {l₀ : Option Nat} {n : Nat}
def wideAt (l₀ : Option Nat) : Fence := { Fence.wide with round := l₀ }
theorem callsIn_wideAt {n : Nat} {l₀ : Option Nat} {f : FuncId} {args : Array Value} {w : World} {R : Ending → World → Prop} (h : Calls P f args w R) : CallsIn (wideAt l₀) n P f args w R := by
  cases l₀ with
  | none => exact callsIn_wide.2 h
  | some l => exact CallsIn.inRound l (callsIn_wide.2 h)
def noDefer (ops : Array Oper) : Bool := ops.toList.all fun o => match o.op with | .defer _ => false | _ => true
theorem noDefer_spec (h : noDefer ops = true) {i : Nat} {o : Oper} (ho : ops[i]? = some o) : ∀ c, o.op ≠ .defer c := by
  intro c hc
  have hm : o ∈ ops.toList := by
    rw [Array.mem_toList_iff]; exact Array.mem_of_getElem? ho
  have := List.all_eq_true.1 h o hm
  rw [hc] at this
  cases this
theorem uponIn_of_upon {o : Oper} {a : Act} {next : Act → World → Prop} {Q : Exit → Act → World → Prop} {r : Result Next} (h : o.upon P a next Q r) :
    o.uponIn (wideAt l₀) n P a next Q r := by
  cases r with
  | ok x w' =>
    cases x <;> simp only [Oper.upon, Oper.uponIn] at h ⊢ <;> first
      | exact h
      | exact ⟨fun hd => (by cases hd), (callsIn_wideAt h).mono fun e w2 he => (by cases e <;> exact he)⟩
      | (refine ⟨fun hd => (by cases hd), fun c cs _ => ?_⟩
         obtain ⟨v, w2, hR, hs⟩ := h c cs
         refine ⟨v, w2, hR, ?_⟩
         have hs2 := (StepsIn.of_steps hs).mono (I' := Machine.fenced P Fence.wide) (fun m _ => fenced_wide P m)
         cases l₀ <;> exact hs2)
      | exact h.elim
  | halt x w' => cases x <;> simp only [Oper.upon, Oper.uponIn] at h ⊢ <;> first | exact h | exact h.elim
theorem wpOpIn_of_wpOp {Q : Exit → Act → World → Prop} (hq : ∀ a w, ¬ Q .outgrown a w) (hd : noDefer ops = true) {i : Nat} {K : Act → World → Prop} {a : Act} {w : World}
    (h : wpOp P ops Q i K a w) : wpOpIn (wideAt l₀) n P ops Q i K a w := by
  unfold wpOp at h
  unfold wpOpIn
  split
  · rename_i ho; simp only [ho] at h; exact h
  · rename_i o ho
    simp only [ho] at h
    split
    · rename_i hw
      simp only [hw, if_true] at h
      rcases h with h | ⟨_, a₀, w₀, hl⟩
      · refine ⟨fun _ _ => trivial, ?_⟩
        rw [Oper.semAt_eq _ _ _ (noDefer_spec hd ho)]
        exact uponIn_of_upon h
      · exact (hq _ _ hl).elim
    · rename_i hw
      rw [if_neg hw] at h
      exact ⟨fun _ _ => trivial, h⟩
theorem wpAnyIn_of_wpAny {Q : Exit → Act → World → Prop} (hq : ∀ a w, ¬ Q .outgrown a w) (hd : noDefer ops = true) : ∀ (fuel : Nat) (listed : Array Bool) (a : Act) (w : World),
    wpAny P md ops Q fuel listed a w → wpAnyIn (wideAt l₀) n P md ops Q fuel listed a w
  | 0, _, _, _, h => h
  | fuel + 1, _, _, _, h => ⟨h.1, fun i hi => wpOpIn_mono (fun a' w' => wpAnyIn_of_wpAny hq hd fuel _ a' w') (wpOpIn_of_wpOp hq hd (h.2 i hi))⟩
end
section
variable {P : Program}
def runOps (P : Program) (ops : Array Oper) : List Oper → Act → World → Option (Act × World)
  | [], a, w => some (a, w)
  | o :: rest, a, w =>
    if Region.wanted o (yielded ops a.tmps) then
      match (execOp a.eval o).run P w with
      | .ok (.value v) w' => runOps P ops rest (a.put o.dst v) w'
      | _ => none
    else runOps P ops rest (a.put o.dst undef) w
theorem runOps_sound {ops : Array Oper} {Q : Exit → Act → World → Prop} : ∀ (l : List Oper) (a : Act) (w : World) (a' : Act) (w' : World), runOps P ops l a w = some (a', w') → Q .normal a' w' → wpList P ops Q l a w
  | [], a, w, a', w', h, hq => by simp only [runOps, Option.some.injEq, Prod.mk.injEq] at h; obtain ⟨rfl, rfl⟩ := h; exact hq
  | o :: l, a, w, a', w', h, hq => by
    unfold runOps at h
    unfold wpList
    split at h
    · rename_i hw
      rw [if_pos hw]
      split at h
      · rename_i v w1 hr
        refine .inl ?_
        unfold Oper.wp
        rw [hr]
        exact runOps_sound l _ _ _ _ h hq
      · cases h
    · rename_i hw
      rw [if_neg hw]
      exact runOps_sound l _ _ _ _ h hq
def runCode (P : Program) : Code → Act → World → Option (Exit × Act × World)
  | .skip, a, w => some (.normal, a, w)
  | .seq x y, a, w =>
    match runCode P x a w with
    | some (.normal, a1, w1) => runCode P y a1 w1
    | r => r
  | .cond c x y, a, w =>
    match a.eval c with
    | .bool true => runCode P x a w
    | .bool false => runCode P y a w
    | _ => none
  | .block id c, a, w =>
    match runCode P c a w with
    | some (.exit id', a1, w1) => if id' = id then some (.normal, a1, w1) else some (.exit id', a1, w1)
    | r => r
  | .ret, a, w => some (.ret, a, w)
  | .exit id, a, w => some (.exit id, a, w)
  | .region _ ops false, a, w => (runOps P ops ops.toList a w).map fun x => (.normal, x.1, x.2)
  | _, _, _ => none
theorem runCode_sound (c : Code) : ∀ {Q : Exit → Act → World → Prop} (a : Act) (w : World) (e : Exit) (a' : Act) (w' : World), runCode P c a w = some (e, a', w') → Q e a' w' → c.wp P Q a w := by
  induction c with
  | skip => intro Q a w e a' w' h hq; simp only [runCode, Option.some.injEq, Prod.mk.injEq] at h; obtain ⟨rfl, rfl, rfl⟩ := h; exact wp_skip hq
  | ret => intro Q a w e a' w' h hq; simp only [runCode, Option.some.injEq, Prod.mk.injEq] at h; obtain ⟨rfl, rfl, rfl⟩ := h; exact wp_ret hq
  | exit id => intro Q a w e a' w' h hq; simp only [runCode, Option.some.injEq, Prod.mk.injEq] at h; obtain ⟨rfl, rfl, rfl⟩ := h; exact wp_exit hq
  | seq x y ihx ihy =>
    intro Q a w e a' w' h hq
    unfold runCode at h
    refine wp_seq ?_
    split at h
    · rename_i a1 w1 hx
      exact ihx _ _ _ _ _ hx (ihy _ _ _ _ _ h hq)
    · rename_i hx
      refine ihx _ _ _ _ _ h ?_
      cases e with
      | normal => exact (hx _ _ h).elim
      | _ => exact hq
  | cond c x y ihx ihy =>
    intro Q a w e a' w' h hq
    unfold runCode at h
    split at h
    · rename_i hc; exact wp_cond_true hc (ihx _ _ _ _ _ h hq)
    · rename_i hc; exact wp_cond_false hc (ihy _ _ _ _ _ h hq)
    · cases h
  | block id c ih =>
    intro Q a w e a' w' h hq
    unfold runCode at h
    refine wp_block ?_
    split at h
    · rename_i id' a1 w1 hc
      refine ih _ _ _ _ _ hc ?_
      split at h
      · rename_i he
        simp only [Option.some.injEq, Prod.mk.injEq] at h; obtain ⟨rfl, rfl, rfl⟩ := h
        simp only [Exit.inBlock, he, if_true]; exact hq
      · rename_i he
        simp only [Option.some.injEq, Prod.mk.injEq] at h; obtain ⟨rfl, rfl, rfl⟩ := h
        simp only [Exit.inBlock, he, if_false]; exact hq
    · rename_i hx
      refine ih _ _ _ _ _ h ?_
      cases e with
      | exit id' => exact (hx _ _ _ h).elim
      | _ => exact hq
  | region id ops draw =>
    intro Q a w e a' w' h hq
    cases draw with
    | true => simp [runCode] at h
    | false =>
      simp only [runCode, Option.map_eq_some_iff] at h
      obtain ⟨⟨a1, w1⟩, h1, h2⟩ := h
      simp only [Prod.mk.injEq] at h2
      obtain ⟨rfl, rfl, rfl⟩ := h2
      exact wp_region_list (runOps_sound _ _ _ _ _ h1 hq)
  | _ => intro Q a w e a' w' h hq; simp [runCode] at h
def runFn (P : Program) (fn : Func) (args : Array Value) (w : World) : Option (Value × World) :=
  match fn.body with
  | some c =>
    match runCode P c { tmps := args ++ Array.replicate (fn.ntmps - args.size) undef, defers := [] } w with
    | some (.ret, a, w') => if a.defers.isEmpty then (match (results fn a.tmps).run P w' with | .ok v w2 => some (v, w2) | _ => none) else none
    | _ => none
  | none => none
theorem calls_of_run {f : FuncId} {fn : Func} {args : Array Value} {w : World} {R : Ending → World → Prop} (hf : P.funcs[f]? = some fn) (v : Value) (w' : World) (hr : runFn P fn args w = some (v, w'))
    (hw : ∀ a w1, (results fn a).run P w1 = .ok v w' → w1 = w') (hR : R (.returned v) w') : Calls P f args w R := by
  unfold runFn at hr
  split at hr
  · rename_i c hb
    split at hr
    · rename_i a w1 hc
      split at hr
      · rename_i hd
        split at hr
        · rename_i v2 w2 hres
          simp only [Option.some.injEq, Prod.mk.injEq] at hr
          obtain ⟨rfl, rfl⟩ := hr
          have e := hw _ _ hres
          subst e
          exact calls_of_wp hf hb (runCode_sound c _ _ _ _ _ hc ⟨by simpa using hd, v2, hres, hR⟩)
        · cases hr
      · cases hr
    · cases hr
  · cases hr
theorem results_keep {fn : Func} {t : Tmp} (h : fn.results = #[.tmp t]) {v : Value} {w' : World} : ∀ a w1, (results fn a).run P w1 = .ok v w' → w1 = w' := by
  intro a w1 h1
  rw [results_tmp h] at h1
  simp only [Result.ok.injEq] at h1
  exact h1.2
end
end Go.Proofs.YtekodpcedjpnjaaGreat
namespace Go.Proofs.YtekodpcedjpnjaaGreat
open Go.RowKit Go.Shelf Go.Maps
theorem grown_of_below {W W' : World} (h : Below W.heap.size W W') : W.grownBy W' none := ⟨h.os, h.tape, h.output, h.size, fun k hk _ => h.block k hk⟩
theorem cell_block {W W' : World} {b o : Nat} (h : W'.heap[b]? = W.heap[b]?) : W'.cell? ⟨b, o, none⟩ = W.cell? ⟨b, o, none⟩ := by unfold World.cell?; dsimp only; rw [h]
end Go.Proofs.YtekodpcedjpnjaaGreat
namespace Go.Proofs.YtekodpcedjpnjaaGreat
open Go.RowKit Go.Shelf Go.Maps
structure But (n₀ B : Nat) (w w' : World) : Prop where
  os : w'.os = w.os
  tape : w'.tape = w.tape
  output : w'.output = w.output
  size : w.heap.size ≤ w'.heap.size
  block : ∀ k, k < n₀ → k ≠ B → w'.heap[k]? = w.heap[k]?
  others : KeepsOthers w w'
theorem But.refl (n₀ B : Nat) (w : World) : But n₀ B w w := ⟨rfl, rfl, rfl, Nat.le_refl _, fun _ _ _ => rfl, KeepsOthers.refl _⟩
theorem But.trans {n₀ B : Nat} {a b c : World} (h : But n₀ B a b) (k : But n₀ B b c) : But n₀ B a c :=
  ⟨k.os.trans h.os, k.tape.trans h.tape, k.output.trans h.output, Nat.le_trans h.size k.size, fun j h1 h2 => (k.block j h1 h2).trans (h.block j h1 h2), h.others.trans k.others⟩
theorem others_of_below {w w' : World} (h : Below w.heap.size w w') : KeepsOthers w w' := KeepsOthers.of_grownBy (grown_of_below h) (fun j o e _ => by cases e)
theorem But.of_below {n₀ B : Nat} {w w' : World} (hn : n₀ ≤ w.heap.size) (h : Below w.heap.size w w') : But n₀ B w w' :=
  ⟨h.os, h.tape, h.output, h.size, fun k hk _ => h.block k (by omega), others_of_below h⟩
theorem But.alloc {n₀ B : Nat} {a w : World} (h : But n₀ B a w) (hn : n₀ ≤ w.heap.size) (o : Obj) : But n₀ B a (w.alloc o) :=
  h.trans (But.of_below hn ((Below.refl _ _).alloc (Nat.le_refl _) o))
theorem But.drew {n₀ B : Nat} {a w : World} (h : But n₀ B a w) : But n₀ B a w.drew := ⟨h.os, h.tape, h.output, h.size, h.block, h.others.trans (KeepsOthers.drew w)⟩
theorem But.setCell {n₀ B : Nat} {a w : World} (h : But n₀ B a w) (off : Nat) (v : Value) : But n₀ B a (w.setCell ⟨B, off, none⟩ v) :=
  h.trans ⟨rfl, rfl, rfl, by simp [World.setCell], fun k _ hk => Below.heap_setCell _ _ _ _ (by exact hk), KeepsOthers.setCell _ _ _⟩
theorem But.grown {n₀ B : Nat} {a w w' : World} {row : Option Nat} (h : But n₀ B a w) (hn : n₀ ≤ w.heap.size) (hg : w.grownBy w' row) (hr : ∀ k, row = some k → n₀ ≤ k ∧ ∃ o, w.heap[k]? = some o ∧ o.isCells = true) : But n₀ B a w' :=
  h.trans ⟨hg.os, hg.tape, hg.output, hg.size, fun k hk _ => hg.block k (by omega) (fun e => by have := (hr k e.symm).1; omega), KeepsOthers.of_grownBy hg (fun j o e ho => by
    obtain ⟨o', h1, h2⟩ := (hr j e).2
    rw [ho] at h1; cases h1; exact h2)⟩
theorem But.below {n₀ B m : Nat} {w w' : World} (h : But n₀ B w w') (h1 : m ≤ n₀) (h2 : m ≤ B) : Below m w w' := ⟨h.os, h.tape, h.output, h.size, fun k hk => h.block k (by omega) (by omega)⟩
theorem But.from {n₀ B m : Nat} {w w' : World} (h : But n₀ B w w') : KeepsFrom m w w' := h.others.from _
theorem own_cells {W : World} {base : Nat} {e : TypeId} {size : Nat} {v : Value} {n : Nat} {xs : List Value} (h : W.ownsRow base e size v n xs) : ∀ k, v.ownBlock = some k → base ≤ k ∧ ∃ cur, W.heap[k]? = some (.cells cur e (0, 0)) := fun k hk => by
  rcases h.2 with ⟨rfl, _⟩ | ⟨g, cap, cur, rfl, hg, hc, _⟩
  · simp [Value.ownBlock] at hk
  · obtain rfl : g = k := by simpa [Value.ownBlock] using hk
    exact ⟨hg, cur, hc⟩
theorem own_but {W W' : World} {n₀ : Nat} {e : TypeId} {size : Nat} {v : Value} {n : Nat} {xs : List Value} {row : Option Nat} (h : W.ownsRow n₀ e size v n xs) (hg : W.grownBy W' row) (hr : ∀ k, row = some k → k < n₀ ∨ ∃ cur t fr, t ≠ e ∧ W.heap[k]? = some (.cells cur t fr)) : W'.ownsRow n₀ e size v n xs := by
  refine h.kept hg ?_
  cases hv : v.ownBlock with
  | none => exact .inl rfl
  | some k =>
    refine .inr (fun e' => ?_)
    obtain ⟨h1, cur, h2⟩ := own_cells h k hv
    rcases hr k e'.symm with h3 | ⟨cur', t, fr, h3, h4⟩
    · omega
    · rw [h2] at h4
      injection h4 with h5
      injection h5 with _ h6
      exact h3 h6.symm
theorem own_shape {W : World} {n₀ : Nat} {e : TypeId} {v : Value} {n : Nat} {xs : List Value} (h : W.ownsRow n₀ e 1 v n xs) : v = .slice none 0 0 ∧ n = 0 ∨ ∃ g c, v = .slice (some ⟨g, 0, none⟩) n c ∧ n ≤ c ∧ n₀ ≤ g ∧ g < W.heap.size := by
  rcases h.2 with ⟨rfl, h0⟩ | ⟨g, cap, cur, rfl, hg, hc, h2, h3, h4, _⟩
  · exact .inl ⟨rfl, h0⟩
  · exact .inr ⟨g, cap, rfl, h2, hg, (Array.getElem?_eq_some_iff.1 hc).1⟩
theorem own_ne {W : World} {n₀ : Nat} {e : TypeId} {v : Value} {n : Nat} {xs : List Value} (h : W.ownsRow n₀ e 1 v n xs) (hn : n ≠ 0) : ∃ g c, v = .slice (some ⟨g, 0, none⟩) n c := by
  rcases own_shape h with ⟨_, h0⟩ | ⟨g, c, e, _⟩
  · exact absurd h0 hn
  · exact ⟨g, c, e⟩
theorem own_slice {W : World} {n₀ : Nat} {e : TypeId} {v : Value} {n : Nat} {xs : List Value} (h : W.ownsRow n₀ e 1 v n xs) : ∃ a c, v = .slice a n c := by
  rcases own_shape h with ⟨rfl, rfl⟩ | ⟨g, c, rfl, _⟩
  · exact ⟨_, _, rfl⟩
  · exact ⟨_, _, rfl⟩
theorem own_row_at {W : World} {n₀ : Nat} {e : TypeId} {a : Option Addr} {n c : Nat} {vs : List Value} (h : W.ownsRow n₀ e 1 (.slice a n c) n vs) : RowAt W.heap.size W a vs ∧ n ≤ c ∧ c ≤ maxLen := by
  rcases h with ⟨hl, ⟨h1, h0⟩ | ⟨g, cap, cur, h1, hg, hc, h2, h3, h4, h5⟩⟩
  · simp only [Value.slice.injEq] at h1
    obtain ⟨rfl, rfl, rfl⟩ := h1
    have : vs = [] := List.length_eq_zero_iff.1 (by omega)
    subst this
    exact ⟨RowAt.nil _ _ _, Nat.le_refl _, by unfold maxLen; omega⟩
  · simp only [Value.slice.injEq] at h1
    obtain ⟨rfl, _, rfl⟩ := h1
    refine ⟨fun j hj => ⟨g, 0, rfl, (Array.getElem?_eq_some_iff.1 hc).1, ?_⟩, h2, h3⟩
    unfold World.cell?
    dsimp only
    rw [hc, Nat.zero_add]
    have h6 : (cur.toList.take (n * 1))[j]? = vs[j]? := by rw [h5]
    rw [List.getElem?_take_of_lt (by omega), Array.getElem?_toList] at h6
    simp only [Option.isSome_none, Bool.false_eq_true, if_false]
    rw [h6]
    simp [nth, hj]
end Go.Proofs.YtekodpcedjpnjaaGreat
