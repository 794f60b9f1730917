/- What an iterator needs of the worlds between two rounds: its blocks abide. No condition. Worlds that are as they were below a block, but for one block; and whose blocks that are no cells abide. No condition. A region that draws its order: first operations that read, then acts in one forced order, the last of which may write what was read. No condition. A region that draws its order: operations that read are taken where they stand ready and free; the others one after the other in a forced order, the last of which may write what was read. No condition. A drawn region inside a fence: reads, then acts; boxes and rows that abide. No condition. A region that draws its order: reads are taken where they stand ready and free; of the acts, each that may come next. R i: what operation i must keep, so that the reads that may still come are true. No condition. A region that draws its order: as the mixed law (RegT), but that the last act may wait through other operations for what was read. No condition. A loop over an iterator whose elements are told something of the world that they come in (a slice that the iterator has just made). No condition. Rows of cells: those that the call owns, and those that are read. No condition. The grid's iterator Rows, beside which three blocks must abide: the grid's two and the closure's box. No condition. -/
import Derived.RangeFuncFrom
import Derived.RangeFuncWrites
import Derived.OrdersHeld
import Derived.Deep.RegionHeldLaw
import Derived.RangeFuncBox
import Derived.Maps.OwnIn
import Derived.RangeFuncNested
import Derived.Test.YtjkajojjehgmdaaGreatRE02
import Derived.Test.YtjkajojjehgmdaaGreatRE03
set_option linter.unusedVariables false
set_option linter.unusedSimpArgs false
namespace Go.Proofs.YtjkajojjehgmdaaGreat
open Go.RowKit Go.Shelf Go.Maps
theorem grown_of_below {W W' : World} (h : Below W.heap.size W W') : W.grownBy W' none := ⟨h.os, h.tape, h.output, h.size, fun k hk _ => h.block k hk⟩
structure KB (A B : Nat) (W W' : World) : Prop where
 a : W'.heap[A]? = W.heap[A]?
 b : W'.heap[B]? = W.heap[B]?
 size : W.heap.size ≤ W'.heap.size
theorem KB.refl (A B : Nat) (W : World) : KB A B W W := ⟨rfl, rfl, Nat.le_refl _⟩
theorem KB.trans {A B : Nat} {u v w : World} (h : KB A B u v) (k : KB A B v w) : KB A B u w := ⟨k.a.trans h.a, k.b.trans h.b, Nat.le_trans h.size k.size⟩
theorem KB.of_below {A B n : Nat} {W W' : World} (h : Below n W W') (ha : A < n) (hb : B < n) : KB A B W W' := ⟨h.block A ha, h.block B hb, h.size⟩
theorem KB.put {A B : Nat} {w : World} (ha : A < w.heap.size) (hb : B < w.heap.size) (W : World) (l : Nat) (o o' : Obj) (hl : w.heap.size ≤ l) (h : W.heap[l]? = some o) (h1 : o.isCells = false) (h2 : o.isWalk = false) : KB A B W (W.putObj l o') :=
 KB.of_below (belowK_b (Nat.le_refl _) W l o o' hl h h1 h2) ha hb
theorem KB.setCell {A B : Nat} (W : World) (b : Nat) (v : Value) (off : Nat) (ha : A ≠ b) (hb : B ≠ b) : KB A B W (W.setCell ⟨b, off, none⟩ v) :=
 ⟨Below.heap_setCell _ _ _ _ (by exact ha), Below.heap_setCell _ _ _ _ (by exact hb), by simp [World.setCell]⟩
theorem cell_block {W W' : World} {b o : Nat} (h : W'.heap[b]? = W.heap[b]?) : W'.cell? ⟨b, o, none⟩ = W.cell? ⟨b, o, none⟩ := by unfold World.cell?; dsimp only; rw [h]
theorem frozen_block {W W' : World} {b o : Nat} (h : W'.heap[b]? = W.heap[b]?) : W'.frozen? ⟨b, o, none⟩ = W.frozen? ⟨b, o, none⟩ := by unfold World.frozen?; dsimp only; rw [h]
structure But (n₀ B : Nat) (w w' : World) : Prop where
 os : w'.os = w.os
 tape : w'.tape = w.tape
 output : w'.output = w.output
 size : w.heap.size ≤ w'.heap.size
 block : ∀ k, k < n₀ → k ≠ B → w'.heap[k]? = w.heap[k]?
 others : KeepsOthers w w'
theorem But.refl (n₀ B : Nat) (w : World) : But n₀ B w w := ⟨rfl, rfl, rfl, Nat.le_refl _, fun _ _ _ => rfl, KeepsOthers.refl _⟩
theorem But.trans {n₀ B : Nat} {a b c : World} (h : But n₀ B a b) (k : But n₀ B b c) : But n₀ B a c :=
 ⟨k.os.trans h.os, k.tape.trans h.tape, k.output.trans h.output, Nat.le_trans h.size k.size, fun j h1 h2 => (k.block j h1 h2).trans (h.block j h1 h2), h.others.trans k.others⟩
theorem others_of_below {w w' : World} (h : Below w.heap.size w w') : KeepsOthers w w' := KeepsOthers.of_grownBy (grown_of_below h) (fun j o e _ => by cases e)
theorem But.of_below {n₀ B : Nat} {w w' : World} (hn : n₀ ≤ w.heap.size) (h : Below w.heap.size w w') : But n₀ B w w' :=
 ⟨h.os, h.tape, h.output, h.size, fun k hk _ => h.block k (by omega), others_of_below h⟩
theorem But.alloc {n₀ B : Nat} {a w : World} (h : But n₀ B a w) (hn : n₀ ≤ w.heap.size) (o : Obj) : But n₀ B a (w.alloc o) :=
 h.trans (But.of_below hn ((Below.refl _ _).alloc (Nat.le_refl _) o))
theorem But.drew {n₀ B : Nat} {a w : World} (h : But n₀ B a w) : But n₀ B a w.drew := ⟨h.os, h.tape, h.output, h.size, h.block, h.others.trans (KeepsOthers.drew w)⟩
theorem But.setCell {n₀ B : Nat} {a w : World} (h : But n₀ B a w) (off : Nat) (v : Value) : But n₀ B a (w.setCell ⟨B, off, none⟩ v) :=
 h.trans ⟨rfl, rfl, rfl, by simp [World.setCell], fun k _ hk => Below.heap_setCell _ _ _ _ (by exact hk), KeepsOthers.setCell _ _ _⟩
theorem But.grown {n₀ B : Nat} {a w w' : World} {row : Option Nat} (h : But n₀ B a w) (hn : n₀ ≤ w.heap.size) (hg : w.grownBy w' row) (hr : ∀ k, row = some k → n₀ ≤ k ∧ ∃ o, w.heap[k]? = some o ∧ o.isCells = true) : But n₀ B a w' :=
 h.trans ⟨hg.os, hg.tape, hg.output, hg.size, fun k hk _ => hg.block k (by omega) (fun e => by have := (hr k e.symm).1; omega), KeepsOthers.of_grownBy hg (fun j o e ho => by
  obtain ⟨o', h1, h2⟩ := (hr j e).2
  rw [ho] at h1; cases h1; exact h2)⟩
theorem But.below {n₀ B m : Nat} {w w' : World} (h : But n₀ B w w') (h1 : m ≤ n₀) (h2 : m ≤ B) : Below m w w' := ⟨h.os, h.tape, h.output, h.size, fun k hk => h.block k (by omega) (by omega)⟩
theorem But.kb {n₀ B x y : Nat} {w w' : World} (h : But n₀ B w w') (hx : x < n₀) (hx' : x ≠ B) (hy : y < n₀) (hy' : y ≠ B) : KB x y w w' := ⟨h.block x hx hx', h.block y hy hy', h.size⟩
theorem But.from {n₀ B m : Nat} {w w' : World} (h : But n₀ B w w') : KeepsFrom m w w' := h.others.from _
theorem own_cells {W : World} {base : Nat} {e : TypeId} {size : Nat} {v : Value} {n : Nat} {xs : List Value} (h : W.ownsRow base e size v n xs) : ∀ k, v.ownBlock = some k → base ≤ k ∧ ∃ cur, W.heap[k]? = some (.cells cur e (0, 0)) := fun k hk => by
 rcases h.2 with ⟨rfl, _⟩ | ⟨g, cap, cur, rfl, hg, hc, _⟩
 ·simp [Value.ownBlock] at hk
 ·obtain rfl : g = k := by simpa [Value.ownBlock] using hk
  exact ⟨hg, cur, hc⟩
theorem own_but {W W' : World} {n₀ : Nat} {e : TypeId} {size : Nat} {v : Value} {n : Nat} {xs : List Value} {row : Option Nat} (h : W.ownsRow n₀ e size v n xs) (hg : W.grownBy W' row) (hr : ∀ k, row = some k → k < n₀ ∨ ∃ cur t fr, t ≠ e ∧ W.heap[k]? = some (.cells cur t fr)) : W'.ownsRow n₀ e size v n xs := by
 refine h.kept hg ?_
 cases hv : v.ownBlock with
 | none => exact .inl rfl
 | some k =>
  refine .inr (fun e' => ?_)
  obtain ⟨h1, cur, h2⟩ := own_cells h k hv
  rcases hr k e'.symm with h3 | ⟨cur', t, fr, h3, h4⟩
  ·omega
  ·rw [h2] at h4
   injection h4 with h5
   injection h5 with _ h6
   exact h3 h6.symm
theorem own_shape {W : World} {n₀ : Nat} {e : TypeId} {v : Value} {n : Nat} {xs : List Value} (h : W.ownsRow n₀ e 1 v n xs) : v = .slice none 0 0 ∧ n = 0 ∨ ∃ g c, v = .slice (some ⟨g, 0, none⟩) n c ∧ n ≤ c ∧ n₀ ≤ g ∧ g < W.heap.size := by
 rcases h.2 with ⟨rfl, h0⟩ | ⟨g, cap, cur, rfl, hg, hc, h2, h3, h4, _⟩
 ·exact .inl ⟨rfl, h0⟩
 ·exact .inr ⟨g, cap, rfl, h2, hg, (Array.getElem?_eq_some_iff.1 hc).1⟩
theorem own_ne {W : World} {n₀ : Nat} {e : TypeId} {v : Value} {n : Nat} {xs : List Value} (h : W.ownsRow n₀ e 1 v n xs) (hn : n ≠ 0) : ∃ g c, v = .slice (some ⟨g, 0, none⟩) n c := by
 rcases own_shape h with ⟨_, h0⟩ | ⟨g, c, e, _⟩
 ·exact absurd h0 hn
 ·exact ⟨g, c, e⟩
theorem own_slice {W : World} {n₀ : Nat} {e : TypeId} {v : Value} {n : Nat} {xs : List Value} (h : W.ownsRow n₀ e 1 v n xs) : ∃ a c, v = .slice a n c := by
 rcases own_shape h with ⟨rfl, rfl⟩ | ⟨g, c, rfl, _⟩
 ·exact ⟨_, _, rfl⟩
 ·exact ⟨_, _, rfl⟩
theorem own_row_at {W : World} {n₀ : Nat} {e : TypeId} {a : Option Addr} {n c : Nat} {vs : List Value} (h : W.ownsRow n₀ e 1 (.slice a n c) n vs) : RowAt W.heap.size W a vs ∧ n ≤ c ∧ c ≤ maxLen := by
 rcases h with ⟨hl, ⟨h1, h0⟩ | ⟨g, cap, cur, h1, hg, hc, h2, h3, h4, h5⟩⟩
 ·simp only [Value.slice.injEq] at h1
  obtain ⟨rfl, rfl, rfl⟩ := h1
  have : vs = [] := List.length_eq_zero_iff.1 (by omega)
  subst this
  exact ⟨RowAt.nil _ _ _, Nat.le_refl _, by unfold maxLen; omega⟩
 ·simp only [Value.slice.injEq] at h1
  obtain ⟨rfl, _, rfl⟩ := h1
  refine ⟨fun j hj => ⟨g, 0, rfl, (Array.getElem?_eq_some_iff.1 hc).1, ?_⟩, h2, h3⟩
  unfold World.cell?
  dsimp only
  rw [hc, Nat.zero_add]
  have h6 : (cur.toList.take (n * 1))[j]? = vs[j]? := by rw [h5]
  rw [List.getElem?_take_of_lt (by omega), Array.getElem?_toList] at h6
  simp only [Option.isSome_none, Bool.false_eq_true, if_false]
  rw [h6]
  simp [nth, hj]
end Go.Proofs.YtjkajojjehgmdaaGreat
namespace Go.Proofs.YtjkajojjehgmdaaGreat
section
variable {P : Program} {ops : Array Oper} {Q : Exit → Act → World → Prop} {md : Region.Mode} {S : World → Prop} {z : Nat}
def wpAnyZ (P : Program) (md : Region.Mode) (ops : Array Oper) (Q : Exit → Act → World → Prop) (S : World → Prop) (z : Nat) : Nat → Array Bool → Act → World → Prop
 | 0, listed, a, w => Region.ready md ops listed = [] ∧ Q .normal a w
 | fuel + 1, listed, a, w =>
  (Region.ready md ops listed = [] → Q .normal a w) ∧
  ∀ i ∈ Region.ready md ops listed, wpOp P ops Q i (fun a' w' => (i ≠ z → S w') ∧ wpAnyZ P md ops Q S z fuel (listed.setIfInBounds i true) a' w') a w
theorem wpAny_of_Z : ∀ (fuel : Nat) (listed : Array Bool) (a : Act) (w : World), wpAnyZ P md ops Q S z fuel listed a w → wpAny P md ops Q fuel listed a w
 | 0, _, _, _, h => h
 | fuel + 1, _, _, _, h => ⟨h.1, fun i hi => wpOp_mono (fun a' w' h' => wpAny_of_Z fuel _ a' w' h'.2) (h.2 i hi)⟩
theorem wpAnyZ_first {i : Nat} {oi : Oper} {v : Value} (hi : ops[i]? = some oi) (hsel : ∀ (j : Nat) (o : Oper) cs b, ops[j]? = some o → o.op ≠ .select cs b)
    (hQ : ∀ c a w, Q (.panic c) (a.put oi.dst v) w → Q (.panic c) a w) (hz : ∀ oz, ops[z]? = some oz → ∃ e ∈ oz.after, Region.binds md e = true ∧ e.on = i) :
    ∀ (fuel : Nat) (listed : Array Bool) (a : Act) (w : World),
     (∀ j oj, ops[j]? = some oj → j ≠ i → listed.getD j true = false → (∀ e ∈ oj.after, Region.binds md e = true → e.on ≠ i) → oi.apart ops oj = true) →
     i ∈ Region.ready md ops listed → YieldsIf P ops S oi v a → S w →
     wpAnyZ P md ops Q S z fuel (listed.setIfInBounds i true) (a.put oi.dst v) w → wpAnyZ P md ops Q S z (fuel + 1) listed a w := by
 intro fuel
 induction fuel with
 | zero =>
  intro listed a w _ hr hy hS H
  refine ⟨fun h => (by rw [h] at hr; cases hr), fun j hj => ?_⟩
  by_cases hji : j = i
  ·subst hji; exact hy.wpOp hi hS ⟨fun _ => hS, H⟩
  ·have := ready_mono hj hji
   rw [H.1] at this
   cases this
 | succ fuel ih =>
  intro listed a w hfree hr hy hS H
  refine ⟨fun h => (by rw [h] at hr; cases hr), fun j hj => ?_⟩
  by_cases hji : j = i
  ·subst hji; exact hy.wpOp hi hS ⟨fun _ => hS, H⟩
  ·have h1 := H.2 j (ready_mono hj hji)
   obtain ⟨hjun, oj, hoj, hall⟩ := mem_ready.1 hj
   have hnot : ∀ e ∈ oj.after, Region.binds md e = true → e.on ≠ i := fun e he hb heq => by
    have h1 := hall e he hb
    have h0 := (mem_ready.1 hr).1
    rw [heq] at h1
    rcases Nat.lt_or_ge i listed.size with h' | h'
    ·simp [h'] at h0 h1; rw [h0] at h1; cases h1
    ·simp [Array.getElem?_eq_none h'] at h1
   have hjz : j ≠ z := fun e => by
    subst e
    obtain ⟨e, he, hb, heq⟩ := hz oj hoj
    exact hnot e he hb heq
   have h2 := wpOp_putIf hoj (hfree j oj hoj hji hjun hnot) (fun cs b => hsel i oi cs b hi) (fun cs b => hsel j oj cs b hoj) hQ hy h1
   have hfree' : ∀ k ok, ops[k]? = some ok → k ≠ i → (listed.setIfInBounds j true).getD k true = false →
       (∀ e ∈ ok.after, Region.binds md e = true → e.on ≠ i) → oi.apart ops ok = true := fun k ok hk hki hun hno => by
    refine hfree k ok hk hki ?_ hno
    by_cases hjk : j = k
    ·subst hjk; exact hjun
    ·rw [getD_set_ne true hjk] at hun; exact hun
   refine wpOp_mono (fun a' w' h3 => ⟨fun _ => h3.2.1 hjz, ih (listed.setIfInBounds j true) a' w' hfree' (ready_mono hr (Ne.symm hji)) h3.1 (h3.2.1 hjz) ?_⟩) h2
   rw [Array.setIfInBounds_comm _ _ hji]
   exact h3.2.2
def wpRead (P : Program) (ops : Array Oper) (S : World → Prop) (K : Act → Prop) : List Oper → Act → Prop
 | [], a => K a
 | o :: rest, a => ∃ v, YieldsIf P ops S o v a ∧ wpRead P ops S K rest (a.put o.dst v)
theorem wpRead_nil {K : Act → Prop} {a : Act} (h : K a) : wpRead P ops S K [] a := h
theorem wpRead_step {K : Act → Prop} {o : Oper} {rest : List Oper} {a : Act} {v : Value} (hw : Region.wanted o (yielded ops a.tmps) = true) (hy : ∀ w, S w → (execOp a.eval o).run P w = .ok (.value v) w)
    (h : wpRead P ops S K rest (a.put o.dst v)) : wpRead P ops S K (o :: rest) a := ⟨v, .inl ⟨hw, hy⟩, h⟩
def wpActs (P : Program) (ops : Array Oper) (Q : Exit → Act → World → Prop) (S : World → Prop) : List Oper → Act → World → Prop
 | [], a, w => Q .normal a w
 | [o], a, w => wpList P ops Q [o] a w
 | o :: o' :: rest, a, w => wpList P ops (Exit.then (fun a' w' => S w' ∧ wpActs P ops Q S (o' :: rest) a' w') Q) [o] a w
theorem upon_then {o : Oper} {a : Act} {K next : Act → World → Prop} {r : Result Next} (h : o.upon P a next (Exit.then K Q) r) : o.upon P a next Q r := by
 cases r with
 | ok x w' =>
  cases x with
  | enter f args => exact Calls.mono h (fun e w'' he => by cases e <;> exact he)
  | _ => exact h
 | halt x w' => cases x <;> exact h
theorem wpOp_of_list {i : Nat} {o : Oper} {a : Act} {w : World} {K : Act → World → Prop} (ho : ops[i]? = some o) (h : wpList P ops (Exit.then K Q) [o] a w) : wpOp P ops Q i K a w := by
 unfold wpList at h
 unfold wpOp
 simp only [ho]
 split
 ·rename_i hw
  rw [if_pos hw] at h
  rcases h with h | ⟨h1, h2⟩
  ·exact .inl (upon_then h)
  ·exact .inr ⟨h1, h2⟩
 ·rename_i hw
  rw [if_neg hw] at h
  exact h
theorem wpList_then_self {o : Oper} {a : Act} {w : World} (h : wpList P ops Q [o] a w) : wpList P ops (Exit.then (fun a w => Q .normal a w) Q) [o] a w := by
 have e : Exit.then (fun a w => Q .normal a w) Q = Q := by
  funext e a w
  cases e <;> rfl
 rw [e]; exact h
theorem wpAnyZ_acts : ∀ (l : List Oper) (k : Nat) (listed : Array Bool) (a : Act) (w : World), (∀ j, l[j]? = ops[k + j]?) → k + l.length = z + 1 →
    Region.seqB md ops l.length k listed = true → wpActs P ops Q S l a w → wpAnyZ P md ops Q S z l.length listed a w
 | [], _, _, _, _, _, _, hB, h => ⟨by simpa [Region.seqB] using hB, h⟩
 | [o], k, listed, a, w, hl, hk, hB, h => by
  have h0 : ops[k]? = some o := by simpa using (hl 0).symm
  simp only [List.length_cons, List.length_nil, Region.seqB, Bool.and_eq_true, decide_eq_true_eq] at hB
  refine ⟨fun h1 => (by rw [hB.1] at h1; cases h1), fun i hi => ?_⟩
  rw [hB.1] at hi
  obtain rfl : i = k := by simpa using hi
  have hz : i = z := by simpa using hk
  refine wpOp_mono (fun a' w' h' => ⟨fun hne => absurd hz hne, ⟨by simpa [Region.seqB] using hB.2, h'⟩⟩) (wpOp_of_list h0 (wpList_then_self h))
 | o :: o' :: l, k, listed, a, w, hl, hk, hB, h => by
  have h0 : ops[k]? = some o := by simpa using (hl 0).symm
  have hB' : Region.seqB md ops ((o' :: l).length + 1) k listed = true := hB
  simp only [Region.seqB, Bool.and_eq_true, decide_eq_true_eq] at hB'
  refine ⟨fun h1 => (by rw [hB'.1] at h1; cases h1), fun i hi => ?_⟩
  rw [hB'.1] at hi
  obtain rfl : i = k := by simpa using hi
  refine wpOp_mono (fun a' w' h' => ⟨fun _ => h'.1, wpAnyZ_acts (o' :: l) (i + 1) _ a' w' (fun j => by have := hl (j + 1); simpa [Nat.add_assoc, Nat.add_comm 1 j] using this) (by simp at hk ⊢; omega) hB'.2 h'.2⟩) (wpOp_of_list h0 h)
def waitsB (md : Region.Mode) (ops : Array Oper) (z i : Nat) : Bool := match ops[z]? with | some oz => oz.after.toList.any fun e => Region.binds md e && Nat.beq e.on i | none => false
def readsB (md : Region.Mode) (ops : Array Oper) (z : Nat) : Nat → Nat → Array Bool → Bool
 | 0, k, listed => Region.seqB md ops (ops.size - k) k listed
 | m + 1, k, listed => (Region.ready md ops listed).contains k && (Region.free md ops listed k && (waitsB md ops z k && readsB md ops z m (k + 1) (listed.setIfInBounds k true)))
theorem waitsB_spec {i : Nat} (h : waitsB md ops z i = true) : ∀ oz, ops[z]? = some oz → ∃ e ∈ oz.after, Region.binds md e = true ∧ e.on = i := fun oz hoz => by
 unfold waitsB at h
 rw [hoz] at h
 dsimp only at h
 rw [List.any_eq_true] at h
 obtain ⟨e, he, hb⟩ := h
 rw [Bool.and_eq_true] at hb
 exact ⟨e, by simpa using he, hb.1, Nat.eq_of_beq_eq_true hb.2⟩
theorem wpAnyZ_reads (hs : Region.noSelect ops = true) (hQ : ∀ c a d v w, Q (.panic c) (Act.put a d v) w → Q (.panic c) a w) : ∀ (l : List Oper) (k g : Nat) (listed : Array Bool) (a : Act) (w : World), (∀ j, j < l.length → l[j]? = ops[k + j]?) →
    readsB md ops z l.length k listed = true → S w → k + l.length + g = ops.size → wpRead P ops S (fun a' => ∀ listed', Region.seqB md ops g (k + l.length) listed' = true → wpAnyZ P md ops Q S z g listed' a' w) l a → wpAnyZ P md ops Q S z (l.length + g) listed a w
 | [], k, g, listed, a, w, _, hB, _, hg, h => by
  simp only [readsB, List.length_nil, Nat.add_zero] at hB hg h ⊢
  rw [show ops.size - k = g by omega] at hB
  rw [Nat.zero_add]
  exact h listed hB
 | o :: l, k, g, listed, a, w, hl, hB, hS, hg, ⟨v, hy, h⟩ => by
  have h0 : ops[k]? = some o := by simpa using (hl 0 (by simp)).symm
  simp only [List.length_cons, readsB, Bool.and_eq_true] at hB
  obtain ⟨h1, h2, h3, h4⟩ := hB
  rw [show (o :: l).length + g = (l.length + g) + 1 by simp; omega]
  refine wpAnyZ_first h0 (Region.noSelect_spec hs) (fun c a w => hQ c a _ _ w) (waitsB_spec h3) _ _ _ _ (Region.free_spec h0 h2) (by simpa using h1) hy hS ?_
  refine wpAnyZ_reads hs hQ l (k + 1) g _ _ w (fun j hj => by have := hl (j + 1) (by simp; omega); simpa [Nat.add_assoc, Nat.add_comm 1 j] using this) h4 hS (by simp at hg; omega) ?_
  have e : k + 1 + l.length = k + (o :: l).length := by simp; omega
  rw [e]; exact h
theorem wp_region_reads {id : Nat} {a : Act} {w : World} {l : List Oper} (n₁ : Nat) (S : World → Prop) (hm : P.follows .mixedOrders = true) (hs : Region.noSelect l.toArray = true) (hn : Nat.blt n₁ l.length = true) (hB : readsB .any l.toArray (l.length - 1) n₁ 0 (Array.replicate l.length false) = true)
    (hQ : ∀ c a d v w, Q (.panic c) (Act.put a d v) w → Q (.panic c) a w) (hS : S w.drew)
    (h : wpRead P l.toArray S (fun a' => wpActs P l.toArray Q S (l.drop n₁) a' w.drew) (l.take n₁) a) : (Code.region id l.toArray true).wp P Q a w := by
 have hn : n₁ < l.length := by simpa [Nat.blt_eq] using hn
 refine wp_region_any hm (wpAny_of_Z (S := S) (z := l.length - 1) _ _ _ _ ?_)
 have htl : (l.take n₁).length = n₁ := by simp; omega
 have hdl : (l.drop n₁).length = l.length - n₁ := by simp
 have mono : ∀ (K K' : Act → Prop), (∀ a, K a → K' a) → ∀ (q : List Oper) (a : Act), wpRead P l.toArray S K q a → wpRead P l.toArray S K' q a := by
  intro K K' hK q
  induction q with
  | nil => intro a h; exact hK a h
  | cons o q ih => intro a ⟨v, hy, h⟩; exact ⟨v, hy, ih _ h⟩
 have := wpAnyZ_reads (md := .any) (z := l.length - 1) (P := P) (Q := Q) (S := S) hs hQ (l.take n₁) 0 (l.length - n₁) (Array.replicate l.length false) a w.drew (fun j hj => by
     rw [htl] at hj
     simp [hj]) (by rw [htl]; exact hB) hS (by rw [htl]; simp; omega) (mono _ _ (fun a' ha' listed' hq => by
      rw [htl, Nat.zero_add] at hq
      have := wpAnyZ_acts (md := .any) (z := l.length - 1) (l.drop n₁) n₁ listed' a' w.drew (fun j => by simp [List.getElem?_drop]) (by rw [hdl]; omega) (by rw [hdl]; exact hq) ha'
      rwa [hdl] at this) _ _ h)
 rw [htl, show n₁ + (l.length - n₁) = l.length by omega] at this
 simpa using this
theorem wpActs_step {o o' : Oper} {rest : List Oper} {a : Act} {w : World} (h : ∀ K : Act → World → Prop, (∀ a w, S w → wpActs P ops Q S (o' :: rest) a w → K a w) → wpList P ops (Exit.then K Q) [o] a w) : wpActs P ops Q S (o :: o' :: rest) a w :=
 h _ (fun _ _ h1 h2 => ⟨h1, h2⟩)
theorem wpActs_last {o : Oper} {a : Act} {w : World} (h : wpList P ops Q [o] a w) : wpActs P ops Q S [o] a w := h
end
end Go.Proofs.YtjkajojjehgmdaaGreat
namespace Go.Proofs.YtjkajojjehgmdaaGreat
section
variable {P : Program} {ops : Array Oper} {Q : Exit → Act → World → Prop} {md : Region.Mode} {S : World → Prop} {z : Nat}
def mixB (md : Region.Mode) (ops : Array Oper) (z : Nat) : List (Bool × Nat) → Array Bool → Bool
 | [], listed => (Region.ready md ops listed).isEmpty
 | (true, k) :: r, listed => (Region.ready md ops listed).contains k && (Region.free md ops listed k && (waitsB md ops z k && mixB md ops z r (listed.setIfInBounds k true)))
 | (false, k) :: r, listed => decide (Region.ready md ops listed = [k]) && ((!r.isEmpty || Nat.beq k z) && mixB md ops z r (listed.setIfInBounds k true))
def wpMix (P : Program) (ops : Array Oper) (Q : Exit → Act → World → Prop) (S : World → Prop) : List (Bool × Oper) → Act → World → Prop
 | [], a, w => Q .normal a w
 | (true, o) :: rest, a, w => ∃ v, YieldsIf P ops S o v a ∧ wpMix P ops Q S rest (a.put o.dst v) w
 | (false, o) :: rest, a, w => wpList P ops (Exit.then (fun a' w' => (rest ≠ [] → S w') ∧ wpMix P ops Q S rest a' w') Q) [o] a w
theorem wpAnyZ_mix (hs : Region.noSelect ops = true) (hQ : ∀ c a d v w, Q (.panic c) (Act.put a d v) w → Q (.panic c) a w) : ∀ (is : List (Bool × Nat)) (l : List (Bool × Oper)) (listed : Array Bool) (a : Act) (w : World),
    is.map (fun p => (p.1, ops[p.2]?)) = l.map (fun p => (p.1, some p.2)) → mixB md ops z is listed = true → (l ≠ [] → S w) → wpMix P ops Q S l a w → wpAnyZ P md ops Q S z l.length listed a w
 | [], l, listed, a, w, hl, hB, hS, h => by
  have e : l = [] := by
   rw [List.map_nil] at hl
   exact List.map_eq_nil_iff.1 hl.symm
  subst e
  exact ⟨by simpa [mixB] using hB, h⟩
 | (b, k) :: is, l, listed, a, w, hl, hB, hS, h => by
  obtain ⟨⟨b', o⟩, l, rfl⟩ : ∃ o l', l = o :: l' := by
   match l, hl with
   | [], hl => simp at hl
   | o :: l', _ => exact ⟨o, l', rfl⟩
  rw [List.map_cons, List.map_cons] at hl
  obtain ⟨hp, hl'⟩ := List.cons.inj hl
  have hb : b = b' := congrArg Prod.fst hp
  have h0 : ops[k]? = some o := congrArg Prod.snd hp
  clear hp
  subst hb
  have hSw := hS (by simp)
  have hle : is.length = l.length := by have := congrArg List.length hl'; simpa using this
  cases b with
  | true =>
   obtain ⟨v, hy, h⟩ := h
   simp only [mixB, Bool.and_eq_true] at hB
   obtain ⟨h1, h2, h3, h4⟩ := hB
   exact wpAnyZ_first h0 (Region.noSelect_spec hs) (fun c a w => hQ c a _ _ w) (waitsB_spec h3) _ _ _ _ (Region.free_spec h0 h2) (by simpa using h1) hy hSw
    (wpAnyZ_mix hs hQ is l _ _ w hl' h4 (fun _ => hSw) h)
  | false =>
   simp only [mixB, Bool.and_eq_true, decide_eq_true_eq] at hB
   obtain ⟨h1, h2, h3⟩ := hB
   refine ⟨fun h4 => (by rw [h1] at h4; cases h4), fun i hi => ?_⟩
   rw [h1] at hi
   obtain rfl : i = k := by simpa using hi
   refine wpOp_mono (fun a' w' h' => ⟨fun hne => h'.1 (fun e => hne ?_), wpAnyZ_mix hs hQ is l _ a' w' hl' h3 h'.1 h'.2⟩) (wpOp_of_list h0 h)
   have e2 : is = [] := by
    rw [e] at hle
    exact List.length_eq_zero_iff.1 hle
   rw [e2] at h2
   simpa using h2
def mixL (l : List Oper) : List (Bool × Nat) → List (Bool × Oper)
 | [] => []
 | (b, i) :: r => match l[i]? with
  | some o => (b, o) :: mixL l r
  | none => mixL l r
theorem wp_region_mix {id : Nat} {a : Act} {w : World} {l : List Oper} (is : List (Bool × Nat)) (S : World → Prop) (hm : P.follows .mixedOrders = true) (hs : Region.noSelect l.toArray = true)
    (hr : is.map (fun p => (p.1, l.toArray[p.2]?)) = (mixL l is).map (fun p => (p.1, some p.2))) (hn : Nat.beq (mixL l is).length l.length = true)
    (hB : mixB .any l.toArray (l.length - 1) is (Array.replicate l.length false) = true)
    (hQ : ∀ c a d v w, Q (.panic c) (Act.put a d v) w → Q (.panic c) a w) (hS : S w.drew)
    (h : wpMix P l.toArray Q S (mixL l is) a w.drew) : (Code.region id l.toArray true).wp P Q a w := by
 have hn := Nat.eq_of_beq_eq_true hn
 refine wp_region_any hm (wpAny_of_Z (S := S) (z := l.length - 1) _ _ _ _ ?_)
 have := wpAnyZ_mix (md := .any) (z := l.length - 1) (P := P) (Q := Q) (S := S) hs hQ is (mixL l is) (Array.replicate l.length false) a w.drew hr hB (fun _ => hS) h
 rw [hn] at this
 simpa using this
theorem wpMix_read {o : Oper} {rest : List (Bool × Oper)} {a : Act} {w : World} {v : Value} (hw : Region.wanted o (yielded ops a.tmps) = true) (hy : ∀ w, S w → (execOp a.eval o).run P w = .ok (.value v) w)
    (h : wpMix P ops Q S rest (a.put o.dst v) w) : wpMix P ops Q S ((true, o) :: rest) a w := ⟨v, .inl ⟨hw, hy⟩, h⟩
theorem wpMix_act {o : Oper} {rest : List (Bool × Oper)} {a : Act} {w : World} (h : ∀ K : Act → World → Prop, (∀ a w, (rest ≠ [] → S w) → wpMix P ops Q S rest a w → K a w) → wpList P ops (Exit.then K Q) [o] a w) :
    wpMix P ops Q S ((false, o) :: rest) a w := h _ (fun _ _ h1 h2 => ⟨h1, h2⟩)
theorem wpMix_nil {a : Act} {w : World} (h : Q .normal a w) : wpMix P ops Q S [] a w := h
def mixB2 (md : Region.Mode) (ops : Array Oper) : List (Bool × Nat) → Array Bool → Bool
 | [], listed => (Region.ready md ops listed).isEmpty
 | (true, k) :: r, listed => (Region.ready md ops listed).contains k && (Region.free md ops listed k && mixB2 md ops r (listed.setIfInBounds k true))
 | (false, k) :: r, listed => decide (Region.ready md ops listed = [k]) && mixB2 md ops r (listed.setIfInBounds k true)
def wpMix2 (P : Program) (ops : Array Oper) (Q : Exit → Act → World → Prop) (S : World → Prop) : List (Bool × Oper) → Act → World → Prop
 | [], a, w => Q .normal a w
 | (true, o) :: rest, a, w => ∃ v, YieldsIf P ops S o v a ∧ wpMix2 P ops Q S rest (a.put o.dst v) w
 | (false, o) :: rest, a, w => wpList P ops (Exit.then (fun a' w' => S w' ∧ wpMix2 P ops Q S rest a' w') Q) [o] a w
theorem wpAnyZ_mix2 (hs : Region.noSelect ops = true) (hQ : ∀ c a d v w, Q (.panic c) (Act.put a d v) w → Q (.panic c) a w) (hz : ops[z]? = none) : ∀ (is : List (Bool × Nat)) (l : List (Bool × Oper)) (listed : Array Bool) (a : Act) (w : World),
    is.map (fun p => (p.1, ops[p.2]?)) = l.map (fun p => (p.1, some p.2)) → mixB2 md ops is listed = true → S w → wpMix2 P ops Q S l a w → wpAnyZ P md ops Q S z l.length listed a w
 | [], l, listed, a, w, hl, hB, hS, h => by
  have e : l = [] := by
   rw [List.map_nil] at hl
   exact List.map_eq_nil_iff.1 hl.symm
  subst e
  exact ⟨by simpa [mixB2] using hB, h⟩
 | (b, k) :: is, l, listed, a, w, hl, hB, hS, h => by
  obtain ⟨⟨b', o⟩, l, rfl⟩ : ∃ o l', l = o :: l' := by
   match l, hl with
   | [], hl => simp at hl
   | o :: l', _ => exact ⟨o, l', rfl⟩
  rw [List.map_cons, List.map_cons] at hl
  obtain ⟨hp, hl'⟩ := List.cons.inj hl
  have hb : b = b' := congrArg Prod.fst hp
  have h0 : ops[k]? = some o := congrArg Prod.snd hp
  clear hp
  subst hb
  cases b with
  | true =>
   obtain ⟨v, hy, h⟩ := h
   simp only [mixB2, Bool.and_eq_true] at hB
   obtain ⟨h1, h2, h4⟩ := hB
   exact wpAnyZ_first h0 (Region.noSelect_spec hs) (fun c a w => hQ c a _ _ w) (fun oz hoz => by rw [hz] at hoz; cases hoz) _ _ _ _ (Region.free_spec h0 h2) (by simpa using h1) hy hS
    (wpAnyZ_mix2 hs hQ hz is l _ _ w hl' h4 hS h)
  | false =>
   simp only [mixB2, Bool.and_eq_true, decide_eq_true_eq] at hB
   obtain ⟨h1, h3⟩ := hB
   refine ⟨fun h4 => (by rw [h1] at h4; cases h4), fun i hi => ?_⟩
   rw [h1] at hi
   obtain rfl : i = k := by simpa using hi
   exact wpOp_mono (fun a' w' h' => ⟨fun _ => h'.1, wpAnyZ_mix2 hs hQ hz is l _ a' w' hl' h3 h'.1 h'.2⟩) (wpOp_of_list h0 h)
theorem wp_region_mix2 {id : Nat} {a : Act} {w : World} {l : List Oper} (is : List (Bool × Nat)) (S : World → Prop) (hm : P.follows .mixedOrders = true) (hs : Region.noSelect l.toArray = true)
    (hr : is.map (fun p => (p.1, l.toArray[p.2]?)) = (mixL l is).map (fun p => (p.1, some p.2))) (hn : Nat.beq (mixL l is).length l.length = true)
    (hB : mixB2 .any l.toArray is (Array.replicate l.length false) = true)
    (hQ : ∀ c a d v w, Q (.panic c) (Act.put a d v) w → Q (.panic c) a w) (hS : S w.drew)
    (h : wpMix2 P l.toArray Q S (mixL l is) a w.drew) : (Code.region id l.toArray true).wp P Q a w := by
 have hn := Nat.eq_of_beq_eq_true hn
 refine wp_region_any hm (wpAny_of_Z (S := S) (z := l.length) _ _ _ _ ?_)
 have := wpAnyZ_mix2 (md := .any) (z := l.length) (P := P) (Q := Q) (S := S) hs hQ (by simp) is (mixL l is) (Array.replicate l.length false) a w.drew hr hB hS h
 rw [hn] at this
 simpa using this
theorem wpMix2_read {o : Oper} {rest : List (Bool × Oper)} {a : Act} {w : World} {v : Value} (hw : Region.wanted o (yielded ops a.tmps) = true) (hy : ∀ w, S w → (execOp a.eval o).run P w = .ok (.value v) w)
    (h : wpMix2 P ops Q S rest (a.put o.dst v) w) : wpMix2 P ops Q S ((true, o) :: rest) a w := ⟨v, .inl ⟨hw, hy⟩, h⟩
theorem wpMix2_skip {o : Oper} {rest : List (Bool × Oper)} {a : Act} {w : World} (hw : Region.wanted o (yielded ops a.tmps) = false)
    (h : wpMix2 P ops Q S rest (a.put o.dst undef) w) : wpMix2 P ops Q S ((true, o) :: rest) a w := ⟨undef, .inr ⟨hw, rfl⟩, h⟩
theorem wpMix2_act {o : Oper} {rest : List (Bool × Oper)} {a : Act} {w : World} (h : ∀ K : Act → World → Prop, (∀ a w, S w → wpMix2 P ops Q S rest a w → K a w) → wpList P ops (Exit.then K Q) [o] a w) :
    wpMix2 P ops Q S ((false, o) :: rest) a w := h _ (fun _ _ h1 h2 => ⟨h1, h2⟩)
theorem wpMix2_nil {a : Act} {w : World} (h : Q .normal a w) : wpMix2 P ops Q S [] a w := h
end
end Go.Proofs.YtjkajojjehgmdaaGreat
namespace Go.Proofs.YtjkajojjehgmdaaGreat
open Go.RowKit Go.Shelf Go.Maps
theorem own_far {W W' : World} {n₀ : Nat} {e : TypeId} {size : Nat} {v : Value} {n : Nat} {xs : List Value} {row : Option Nat} (h : W.ownsRow n₀ e size v n xs) (hg : W.grownBy W' row) (hr : ∀ r, row = some r → ∃ o : Obj, W.heap[r]? = some o ∧ o.isCells = false) : W'.ownsRow n₀ e size v n xs := by
 refine h.kept hg ?_
 cases hv : v.ownBlock with
 | none => exact .inl rfl
 | some k =>
  refine .inr (fun e' => ?_)
  obtain ⟨h1, cur, h2⟩ := own_cells h k hv
  obtain ⟨o, h3, h4⟩ := hr k e'.symm
  rw [h2] at h3; cases h3; cases h4
end Go.Proofs.YtjkajojjehgmdaaGreat
namespace Go.Proofs.YtjkajojjehgmdaaGreat
section
variable {P : Program} {ops : Array Oper} {Q : Exit → Act → World → Prop} {md : Region.Mode} {R : Nat → World → World → Prop}
def wpAnyY (P : Program) (md : Region.Mode) (ops : Array Oper) (Q : Exit → Act → World → Prop) (R : Nat → World → World → Prop) : Nat → Array Bool → Act → World → Prop
 | 0, listed, a, w => Region.ready md ops listed = [] ∧ Q .normal a w
 | fuel + 1, listed, a, w =>
  (Region.ready md ops listed = [] → Q .normal a w) ∧
  ∀ i ∈ Region.ready md ops listed, wpOp P ops Q i (fun a' w' => R i w w' ∧ wpAnyY P md ops Q R fuel (listed.setIfInBounds i true) a' w') a w
theorem wpAny_of_Y : ∀ (fuel : Nat) (listed : Array Bool) (a : Act) (w : World), wpAnyY P md ops Q R fuel listed a w → wpAny P md ops Q fuel listed a w
 | 0, _, _, _, h => h
 | fuel + 1, _, _, _, h => ⟨h.1, fun i hi => wpOp_mono (fun a' w' h' => wpAny_of_Y fuel _ a' w' h'.2) (h.2 i hi)⟩
theorem wpAnyY_first {S : World → Prop} {i : Nat} {oi : Oper} {v : Value} (hi : ops[i]? = some oi) (hsel : ∀ (j : Nat) (o : Oper) cs b, ops[j]? = some o → o.op ≠ .select cs b)
    (hQ : ∀ c a w, Q (.panic c) (a.put oi.dst v) w → Q (.panic c) a w) (hz : ∀ j oj w w', ops[j]? = some oj → (∀ e ∈ oj.after, Region.binds md e = true → e.on ≠ i) → R j w w' → S w → S w') :
    ∀ (fuel : Nat) (listed : Array Bool) (a : Act) (w : World),
     (∀ j oj, ops[j]? = some oj → j ≠ i → listed.getD j true = false → (∀ e ∈ oj.after, Region.binds md e = true → e.on ≠ i) → oi.apart ops oj = true) →
     i ∈ Region.ready md ops listed → YieldsIf P ops S oi v a → S w → (∀ w, R i w w) →
     wpAnyY P md ops Q R fuel (listed.setIfInBounds i true) (a.put oi.dst v) w → wpAnyY P md ops Q R (fuel + 1) listed a w := by
 intro fuel
 induction fuel with
 | zero =>
  intro listed a w _ hr hy hS hRi H
  refine ⟨fun h => (by rw [h] at hr; cases hr), fun j hj => ?_⟩
  by_cases hji : j = i
  ·subst hji; exact hy.wpOp hi hS ⟨hRi _, H⟩
  ·have := ready_mono hj hji
   rw [H.1] at this
   cases this
 | succ fuel ih =>
  intro listed a w hfree hr hy hS hRi H
  refine ⟨fun h => (by rw [h] at hr; cases hr), fun j hj => ?_⟩
  by_cases hji : j = i
  ·subst hji; exact hy.wpOp hi hS ⟨hRi _, H⟩
  ·have h1 := H.2 j (ready_mono hj hji)
   obtain ⟨hjun, oj, hoj, hall⟩ := mem_ready.1 hj
   have hnot : ∀ e ∈ oj.after, Region.binds md e = true → e.on ≠ i := fun e he hb heq => by
    have h1 := hall e he hb
    have h0 := (mem_ready.1 hr).1
    rw [heq] at h1
    rcases Nat.lt_or_ge i listed.size with h' | h'
    ·simp [h'] at h0 h1; rw [h0] at h1; cases h1
    ·simp [Array.getElem?_eq_none h'] at h1
   have hjz := hz j oj
   have h2 := wpOp_putIf hoj (hfree j oj hoj hji hjun hnot) (fun cs b => hsel i oi cs b hi) (fun cs b => hsel j oj cs b hoj) hQ hy h1
   have hfree' : ∀ k ok, ops[k]? = some ok → k ≠ i → (listed.setIfInBounds j true).getD k true = false →
       (∀ e ∈ ok.after, Region.binds md e = true → e.on ≠ i) → oi.apart ops ok = true := fun k ok hk hki hun hno => by
    refine hfree k ok hk hki ?_ hno
    by_cases hjk : j = k
    ·subst hjk; exact hjun
    ·rw [getD_set_ne true hjk] at hun; exact hun
   refine wpOp_mono (fun a' w' h3 => ⟨h3.2.1, ih (listed.setIfInBounds j true) a' w' hfree' (ready_mono hr (Ne.symm hji)) h3.1 (hjz w w' hoj hnot h3.2.1 hS) hRi ?_⟩) h2
   rw [Array.setIfInBounds_comm _ _ hji]
   exact h3.2.2
theorem wpAnyY_read (i : Nat) (S : World → Prop) (zs : List Nat) {oi : Oper} {v : Value} {fuel : Nat} {listed : Array Bool} {a : Act} {w : World} (hs : Region.noSelect ops = true) (hQ : ∀ c a d v w, Q (.panic c) (Act.put a d v) w → Q (.panic c) a w)
    (hB : ((Region.ready md ops listed).contains i && (Region.free md ops listed i && zs.all fun z => waitsB md ops z i)) = true) (hi : ops[i]? = some oi) (hR : ∀ j w w', j ∉ zs → R j w w' → S w → S w') (hRi : ∀ w, R i w w) (hS : S w)
    (hw : Region.wanted oi (yielded ops a.tmps) = true) (hy : ∀ w, S w → (execOp a.eval oi).run P w = .ok (.value v) w)
    (h : wpAnyY P md ops Q R fuel (listed.setIfInBounds i true) (a.put oi.dst v) w) : wpAnyY P md ops Q R (fuel + 1) listed a w := by
 simp only [Bool.and_eq_true, List.all_eq_true] at hB
 obtain ⟨h1, h2, h3⟩ := hB
 refine wpAnyY_first hi (Region.noSelect_spec hs) (fun c a w => hQ c a _ _ w) (fun j oj w w' hoj hnot hr hs => hR j w w' (fun hjz => ?_) hr hs) _ _ _ _ (Region.free_spec hi h2) (by simpa using h1) (.inl ⟨hw, hy⟩) hS hRi h
 obtain ⟨e, he, hb, heq⟩ := waitsB_spec (h3 j hjz) oj hoj
 exact hnot e he hb heq
theorem wpAnyY_one {i : Nat} {oi : Oper} {fuel : Nat} {listed : Array Bool} {a : Act} {w : World} (hr : Region.ready md ops listed = [i]) (hi : ops[i]? = some oi)
    (h : ∀ K : Act → World → Prop, (∀ a w', R i w w' → wpAnyY P md ops Q R fuel (listed.setIfInBounds i true) a w' → K a w') → wpList P ops (Exit.then K Q) [oi] a w) : wpAnyY P md ops Q R (fuel + 1) listed a w := by
 refine ⟨fun h1 => (by rw [hr] at h1; cases h1), fun j hj => ?_⟩
 rw [hr] at hj
 obtain rfl : j = i := by simpa using hj
 exact wpOp_of_list hi (h _ fun _ _ h1 h2 => ⟨h1, h2⟩)
theorem wpAnyY_two {i j : Nat} {oi oj : Oper} {fuel : Nat} {listed : Array Bool} {a : Act} {w : World} (hr : Region.ready md ops listed = [i, j]) (hi : ops[i]? = some oi) (hj : ops[j]? = some oj)
    (h1 : ∀ K : Act → World → Prop, (∀ a w', R i w w' → wpAnyY P md ops Q R fuel (listed.setIfInBounds i true) a w' → K a w') → wpList P ops (Exit.then K Q) [oi] a w)
    (h2 : ∀ K : Act → World → Prop, (∀ a w', R j w w' → wpAnyY P md ops Q R fuel (listed.setIfInBounds j true) a w' → K a w') → wpList P ops (Exit.then K Q) [oj] a w) : wpAnyY P md ops Q R (fuel + 1) listed a w := by
 refine ⟨fun h => (by rw [hr] at h; cases h), fun k hk => ?_⟩
 rw [hr] at hk
 simp only [List.mem_cons, List.not_mem_nil, or_false] at hk
 rcases hk with rfl | rfl
 ·exact wpOp_of_list hi (h1 _ fun _ _ h3 h4 => ⟨h3, h4⟩)
 ·exact wpOp_of_list hj (h2 _ fun _ _ h3 h4 => ⟨h3, h4⟩)
theorem wpAnyY_end {fuel : Nat} {listed : Array Bool} {a : Act} {w : World} (hr : Region.ready md ops listed = []) (h : Q .normal a w) : wpAnyY P md ops Q R fuel listed a w := by
 cases fuel with
 | zero => exact ⟨hr, h⟩
 | succ n => exact ⟨fun _ => h, fun i hi => (by rw [hr] at hi; cases hi)⟩
theorem wpIn_region_tree {id : Nat} {a : Act} {w : World} {l : List Oper} {l₀ : Option Nat} {n : Nat} (R : Nat → World → World → Prop) (hm : P.follows .mixedOrders = true)
    (hd : noDefer l.toArray = true) (ho : ∀ a w, ¬ Q .outgrown a w) (h : wpAnyY P .any l.toArray Q R l.toArray.size (Array.replicate l.toArray.size false) a w.drew) : (Code.region id l.toArray true).wpIn (wideAt l₀) n P Q a w :=
 wpIn_region_any hm (wpAnyIn_of_wpAny ho hd _ _ _ _ (wpAny_of_Y _ _ _ _ h))
theorem wp_region_tree {id : Nat} {a : Act} {w : World} {l : List Oper} (R : Nat → World → World → Prop) (hm : P.follows .mixedOrders = true)
    (h : wpAnyY P .any l.toArray Q R l.toArray.size (Array.replicate l.toArray.size false) a w.drew) : (Code.region id l.toArray true).wp P Q a w :=
 wp_region_any hm (wpAny_of_Y _ _ _ _ h)
end
end Go.Proofs.YtjkajojjehgmdaaGreat
namespace Go.Proofs.YtjkajojjehgmdaaGreat
section
variable {P : Program} {ops : Array Oper} {Q : Exit → Act → World → Prop} {md : Region.Mode} {S : World → Prop} {z : Nat}
def ClosedL (md : Region.Mode) (ops : Array Oper) (listed : Array Bool) : Prop := ∀ (k : Nat) (ok : Oper), ops[k]? = some ok → listed.getD k false = true → ∀ e ∈ ok.after, Region.binds md e = true → listed.getD e.on false = true
theorem ClosedL.start (n : Nat) : ClosedL md ops (Array.replicate n false) := fun k ok _ h => by
 exfalso
 rcases Nat.lt_or_ge k n with h' | h'
 ·simp [h'] at h
 ·rw [Array.getD_eq_getD_getElem?, Array.getElem?_eq_none (by simpa using h')] at h
  cases h
theorem getD_set_f (listed : Array Bool) (i j : Nat) : (listed.setIfInBounds i true).getD j false = true ↔ listed.getD j false = true ∨ (i = j ∧ j < listed.size) := by
 simp only [Array.getD_eq_getD_getElem?, Array.getElem?_setIfInBounds]
 by_cases h : i = j
 ·subst h
  by_cases h2 : i < listed.size <;> simp [h2]
 ·simp [h]
theorem ClosedL.set {listed : Array Bool} (hc : ClosedL md ops listed) {i : Nat} (hi : i ∈ Region.ready md ops listed) : ClosedL md ops (listed.setIfInBounds i true) := fun k ok hk hl e he hb => by
 refine (getD_set_f _ _ _).2 (.inl ?_)
 rcases (getD_set_f _ _ _).1 hl with h1 | ⟨rfl, _⟩
 ·exact hc k ok hk h1 e he hb
 ·obtain ⟨_, oi, hoi, hall⟩ := mem_ready.1 hi
  rw [hk] at hoi
  cases hoi
  exact hall e he hb
def waitsTB (md : Region.Mode) (ops : Array Oper) : Nat → Nat → Nat → Bool
 | 0, _, _ => false
 | f + 1, z, i => match ops[z]? with
  | some oz => oz.after.toList.any fun e => Region.binds md e && (Nat.beq e.on i || waitsTB md ops f e.on i)
  | none => false
theorem waitsTB_listed {listed : Array Bool} (hc : ClosedL md ops listed) {i : Nat} : ∀ (f z : Nat), (∀ oz, ops[z]? = some oz → ∀ e ∈ oz.after, Region.binds md e = true → listed.getD e.on false = true) → waitsTB md ops f z i = true → listed.getD i false = true
 | 0, _, _, h => by cases h
 | f + 1, z, hz, h => by
  unfold waitsTB at h
  cases ho : ops[z]? with
  | none => rw [ho] at h; cases h
  | some oz =>
   rw [ho] at h
   dsimp only at h
   rw [List.any_eq_true] at h
   obtain ⟨e, he, hb⟩ := h
   rw [Bool.and_eq_true, Bool.or_eq_true] at hb
   have hl := hz oz ho e (by simpa using he) hb.1
   rcases hb.2 with h1 | h1
   ·rw [← Nat.eq_of_beq_eq_true h1]; exact hl
   ·exact waitsTB_listed hc f e.on (fun o2 ho2 e2 he2 hb2 => hc e.on o2 ho2 hl e2 he2 hb2) h1
theorem wpAnyZ_firstT {i f : Nat} {oi : Oper} {v : Value} (hi : ops[i]? = some oi) (hsel : ∀ (j : Nat) (o : Oper) cs b, ops[j]? = some o → o.op ≠ .select cs b)
    (hQ : ∀ c a w, Q (.panic c) (a.put oi.dst v) w → Q (.panic c) a w) (ht : waitsTB md ops f z i = true) :
    ∀ (fuel : Nat) (listed : Array Bool) (a : Act) (w : World), ClosedL md ops listed →
     (∀ j oj, ops[j]? = some oj → j ≠ i → listed.getD j true = false → (∀ e ∈ oj.after, Region.binds md e = true → e.on ≠ i) → oi.apart ops oj = true) →
     i ∈ Region.ready md ops listed → YieldsIf P ops S oi v a → S w →
     wpAnyZ P md ops Q S z fuel (listed.setIfInBounds i true) (a.put oi.dst v) w → wpAnyZ P md ops Q S z (fuel + 1) listed a w := by
 intro fuel
 induction fuel with
 | zero =>
  intro listed a w _ _ hr hy hS H
  refine ⟨fun h => (by rw [h] at hr; cases hr), fun j hj => ?_⟩
  by_cases hji : j = i
  ·subst hji; exact hy.wpOp hi hS ⟨fun _ => hS, H⟩
  ·have := ready_mono hj hji
   rw [H.1] at this
   cases this
 | succ fuel ih =>
  intro listed a w hcl hfree hr hy hS H
  refine ⟨fun h => (by rw [h] at hr; cases hr), fun j hj => ?_⟩
  by_cases hji : j = i
  ·subst hji; exact hy.wpOp hi hS ⟨fun _ => hS, H⟩
  ·have h1 := H.2 j (ready_mono hj hji)
   obtain ⟨hjun, oj, hoj, hall⟩ := mem_ready.1 hj
   have no : listed.getD i false = true → False := fun h1 => by
    have h0 := (mem_ready.1 hr).1
    rcases Nat.lt_or_ge i listed.size with h' | h'
    ·simp [h'] at h0 h1; rw [h0] at h1; cases h1
    ·simp [Array.getElem?_eq_none h'] at h1
   have hnot : ∀ e ∈ oj.after, Region.binds md e = true → e.on ≠ i := fun e he hb heq => by
    have h1 := hall e he hb
    rw [heq] at h1
    exact no h1
   have hjz : j ≠ z := fun e => by
    subst e
    exact no (waitsTB_listed hcl f j (fun oz hoz e he hb => by rw [hoj] at hoz; cases hoz; exact hall e he hb) ht)
   have h2 := wpOp_putIf hoj (hfree j oj hoj hji hjun hnot) (fun cs b => hsel i oi cs b hi) (fun cs b => hsel j oj cs b hoj) hQ hy h1
   have hfree' : ∀ k ok, ops[k]? = some ok → k ≠ i → (listed.setIfInBounds j true).getD k true = false →
       (∀ e ∈ ok.after, Region.binds md e = true → e.on ≠ i) → oi.apart ops ok = true := fun k ok hk hki hun hno => by
    refine hfree k ok hk hki ?_ hno
    by_cases hjk : j = k
    ·subst hjk; exact hjun
    ·rw [getD_set_ne true hjk] at hun; exact hun
   refine wpOp_mono (fun a' w' h3 => ⟨fun _ => h3.2.1 hjz, ih (listed.setIfInBounds j true) a' w' (hcl.set hj) hfree' (ready_mono hr (Ne.symm hji)) h3.1 (h3.2.1 hjz) ?_⟩) h2
   rw [Array.setIfInBounds_comm _ _ hji]
   exact h3.2.2
def mixBT (md : Region.Mode) (ops : Array Oper) (f z : Nat) : List (Bool × Nat) → Array Bool → Bool
 | [], listed => (Region.ready md ops listed).isEmpty
 | (true, k) :: r, listed => (Region.ready md ops listed).contains k && (Region.free md ops listed k && (waitsTB md ops f z k && mixBT md ops f z r (listed.setIfInBounds k true)))
 | (false, k) :: r, listed => decide (Region.ready md ops listed = [k]) && ((!r.isEmpty || Nat.beq k z) && mixBT md ops f z r (listed.setIfInBounds k true))
theorem wpAnyZ_mixT {f : Nat} (hs : Region.noSelect ops = true) (hQ : ∀ c a d v w, Q (.panic c) (Act.put a d v) w → Q (.panic c) a w) : ∀ (is : List (Bool × Nat)) (l : List (Bool × Oper)) (listed : Array Bool) (a : Act) (w : World), ClosedL md ops listed →
    is.map (fun p => (p.1, ops[p.2]?)) = l.map (fun p => (p.1, some p.2)) → mixBT md ops f z is listed = true → (l ≠ [] → S w) → wpMix P ops Q S l a w → wpAnyZ P md ops Q S z l.length listed a w
 | [], l, listed, a, w, _, hl, hB, hS, h => by
  have e : l = [] := by
   rw [List.map_nil] at hl
   exact List.map_eq_nil_iff.1 hl.symm
  subst e
  exact ⟨by simpa [mixBT] using hB, h⟩
 | (b, k) :: is, l, listed, a, w, hc, hl, hB, hS, h => by
  obtain ⟨⟨b', o⟩, l, rfl⟩ : ∃ o l', l = o :: l' := by
   match l, hl with
   | [], hl => simp at hl
   | o :: l', _ => exact ⟨o, l', rfl⟩
  rw [List.map_cons, List.map_cons] at hl
  obtain ⟨hp, hl'⟩ := List.cons.inj hl
  have hb : b = b' := congrArg Prod.fst hp
  have h0 : ops[k]? = some o := congrArg Prod.snd hp
  clear hp
  subst hb
  have hSw := hS (by simp)
  have hle : is.length = l.length := by have := congrArg List.length hl'; simpa using this
  cases b with
  | true =>
   obtain ⟨v, hy, h⟩ := h
   simp only [mixBT, Bool.and_eq_true] at hB
   obtain ⟨h1, h2, h3, h4⟩ := hB
   have h1 : k ∈ Region.ready md ops listed := by simpa using h1
   exact wpAnyZ_firstT h0 (Region.noSelect_spec hs) (fun c a w => hQ c a _ _ w) h3 _ _ _ _ hc (Region.free_spec h0 h2) h1 hy hSw
    (wpAnyZ_mixT hs hQ is l _ _ w (hc.set h1) hl' h4 (fun _ => hSw) h)
  | false =>
   simp only [mixBT, Bool.and_eq_true, decide_eq_true_eq] at hB
   obtain ⟨h1, h2, h3⟩ := hB
   refine ⟨fun h4 => (by rw [h1] at h4; cases h4), fun i hi => ?_⟩
   have hi' := hi
   rw [h1] at hi
   obtain rfl : i = k := by simpa using hi
   refine wpOp_mono (fun a' w' h' => ⟨fun hne => h'.1 (fun e => hne ?_), wpAnyZ_mixT hs hQ is l _ a' w' (hc.set hi') hl' h3 h'.1 h'.2⟩) (wpOp_of_list h0 h)
   have e2 : is = [] := by
    rw [e] at hle
    exact List.length_eq_zero_iff.1 hle
   rw [e2] at h2
   simpa using h2
theorem wp_region_mixT {id : Nat} {a : Act} {w : World} {l : List Oper} (f : Nat) (is : List (Bool × Nat)) (S : World → Prop) (hm : P.follows .mixedOrders = true) (hs : Region.noSelect l.toArray = true)
    (hr : is.map (fun p => (p.1, l.toArray[p.2]?)) = (mixL l is).map (fun p => (p.1, some p.2))) (hn : Nat.beq (mixL l is).length l.length = true)
    (hB : mixBT .any l.toArray f (l.length - 1) is (Array.replicate l.length false) = true)
    (hQ : ∀ c a d v w, Q (.panic c) (Act.put a d v) w → Q (.panic c) a w) (hS : S w.drew)
    (h : wpMix P l.toArray Q S (mixL l is) a w.drew) : (Code.region id l.toArray true).wp P Q a w := by
 have hn := Nat.eq_of_beq_eq_true hn
 refine wp_region_any hm (wpAny_of_Z (S := S) (z := l.length - 1) _ _ _ _ ?_)
 have := wpAnyZ_mixT (md := .any) (z := l.length - 1) (P := P) (Q := Q) (S := S) hs hQ is (mixL l is) (Array.replicate l.length false) a w.drew (ClosedL.start _) hr hB (fun _ => hS) h
 rw [hn] at this
 simpa using this
end
end Go.Proofs.YtjkajojjehgmdaaGreat
namespace Go.Proofs.YtjkajojjehgmdaaGreat
open Go.RowKit
def SeqX {α : Type} (F : Fence) (n : Nat) (P : Program) (g : Nat) (lb : Array Value) (encs : α → Array Value) (Kp : World → World → Prop) (X : List α → α → World → Prop) (S Sp : List α → Prop) (N : Nat) (w : World) : Prop :=
 ∀ (l : Nat) (J Jx : List α → World → Prop) (W : World), Below w.heap.size w W → AbidesFrom W.heap.size J → AbidesFrom W.heap.size Jx →
  (∀ pre x W1, J pre W1 → X pre x W1 → pre.length < N → YieldAt F (n - 1) P l (encs x) W1 fun e W' =>
   (e = .returned (.bool true) ∧ J (pre ++ [x]) W' ∧ Kp W1 W') ∨ (e = .returned (.bool false) ∧ Jx (pre ++ [x]) W')) →
  J [] W →
  CallsIn F n P g (#[.func (.yield l) #[] #[]] ++ lb) W fun e W' => (∃ v, e = .returned v) ∧ ((∃ xs, S xs ∧ J xs W') ∨ (∃ pre, Sp pre ∧ Jx pre W'))
section
variable {F : Fence} {n : Nat} {P : Program}
theorem wpIn_rangeFunc_X {α : Type} {g : Operand} {ps : Array Tmp} {assign body : Code} {Q : Exit → Act → World → Prop} {a : Act} {w : World}
    (hro : F.round = none) (h1 : 1 ≤ n) {gf : Nat} {lb : Array Value} (hg : a.eval g = .func (.func gf) #[] lb) (hFg : F.fn gf) (eg : ∀ args w, (callFunc gf args).run P w = .ok (.enter gf args) w)
    {encs : α → Array Value} {Kp : World → World → Prop} {X : List α → α → World → Prop} {S Sp : List α → Prop} {N : Nat} {w0 : World} (hseq : SeqX F (n - 1) P gf lb encs Kp X S Sp N w0)
    (hKt : ∀ {A B C : World}, Kp A B → Kp B C → Kp A C) (hKb : ∀ (W : World) (l : Nat) (o o' : Obj), w.heap.size ≤ l → W.heap[l]? = some o → o.isCells = false → o.isWalk = false → Kp W (W.putObj l o')) (hb0 : Below w0.heap.size w0 w) (hps : ∀ x, (encs x).size = ps.size)
    (I : List α → World → Prop) (Ix : Code → List α → World → Prop) (hI : OwnFrom w.heap.size I) (hIx : ∀ c, OwnFrom w.heap.size (Ix c)) (hX : ∀ x, OwnFrom w.heap.size (fun pre W => X pre x W)) (h0 : I [] w) (a₁ : α → Act)
    (hassign : ∀ (l : Nat) (x : α) (W : World) (K : Act → World → Prop), K (a₁ x) W →
     assign.wpIn (F.inRound l) (n - 1 - 1) P (Exit.then K (fun _ _ _ => False)) { tmps := (ps.zip (encs x)).foldl (fun t (p, v) => t.setIfInBounds p v) a.tmps, defers := [] } W)
    (hbody : ∀ (l : Nat) (pre : List α) (x : α) (W : World), w.heap.size ≤ l → l < W.heap.size → I pre W → X pre x W → pre.length < N → body.wpIn (F.inRound l) (n - 1 - 1) P (ownPostG w.heap.size Kp I Ix (pre ++ [x]) W) (a₁ x) W)
    (hdone : ∀ (D : Nat) (xs : List α) (W : World), w.heap.size ≤ D → S xs → I xs W → W.heap[D]? = some (.deferred (some [])) → Q .normal { a with defers := { target := .collected D, args := #[] } :: a.defers } W)
    (hstop : ∀ (D : Nat) (c : Code) (pre : List α) (W : World), w.heap.size ≤ D → Sp pre → Ix c pre W → W.heap[D]? = some (.deferred (some [])) → c.wpIn F n P Q { a with defers := { target := .collected D, args := #[] } :: a.defers } W) :
    (Code.rangeFunc g ps assign body).wpIn F n P Q a w := by
 refine wpIn_rangeFunc ?_
 intro fn hfn
 rw [hro]
 -- the loop's record, and the block for the rounds' deferred calls
 obtain ⟨R, hR⟩ : ∃ R : LoopState → Option Code → Loop, R = fun st pe => { state := st, pending := pe, fn, tmps := a.tmps, params := ps, assign, body, defers := w.heap.size } := ⟨_, rfl⟩
 obtain ⟨V, hV⟩ : ∃ V, (w.alloc (.deferred (some []))).alloc (.loop (R .ready none)) = V := ⟨_, rfl⟩
 have rec0 : V.heap[w.heap.size + 1]? = some (.loop (R .ready none)) := by
  have := World.alloc_heap_new (w.alloc (.deferred (some []))) (.loop (R .ready none))
  rw [World.size_alloc] at this
  rw [← hV]; exact this
 have def0 : V.heap[w.heap.size]? = some (.deferred (some [])) := by
  rw [← hV, Below.heap_alloc _ _ _ (by simp)]; exact World.alloc_heap_new w _
 have size0 : V.heap.size = w.heap.size + 1 + 1 := by rw [← hV]; simp
 have inv0 : I [] V := by rw [← hV]; exact hI.alloc _ (hI.alloc _ h0)
 have below0 : Below w0.heap.size w0 V := by
  rw [← hV]; exact hb0.trans ((((Below.refl _ w).alloc (Nat.le_refl _) _).alloc (by simp) _).mono hb0.size)
 refine ⟨w.heap.size + 1, [{ target := .collected w.heap.size, args := #[] }], V, { target := .fn (.func gf) lb, args := #[.func (.yield (w.heap.size + 1)) #[] #[]] }, V, gf,
  #[.func (.yield (w.heap.size + 1)) #[] #[]] ++ lb, V, ?_, ?_, ?_, ?_, fun _ => h1, ?_⟩
 ·rw [← hV, hR]; exact run_enterLoop_outer _ _ _ _ _
 ·simp only [resolve, hg]
  simp [go_sem]
 ·intro f' hf'; simp [Target.leads] at hf'; subst hf'; exact hFg
 ·simp [invoke, go_sem, eg]
 ·have far : ∀ {A : World} {row : Option Nat}, (∀ r, row = some r → V.heap.size ≤ r ∧ ∃ o : Obj, A.heap[r]? = some o ∧ o.isWalk = true) → ∀ r, row = some r → w.heap.size ≤ r ∧ ∃ o : Obj, A.heap[r]? = some o ∧ o.isCells = false := by
   intro A row hr r e
   obtain ⟨hB, o, ho, hw⟩ := hr r e
   exact ⟨by omega, o, ho, Obj.not_cells_of_walk hw⟩
  have stay : ∀ {A B : World} {row : Option Nat} {k : Nat} {o : Obj}, A.grownBy B row → (∀ r, row = some r → V.heap.size ≤ r ∧ ∃ o : Obj, A.heap[r]? = some o ∧ o.isWalk = true) → A.heap[k]? = some o → o.isWalk = false → B.heap[k]? = some o :=
   fun hg' hr hk ho => (grownBy_keeps hg' (fun r e => (hr r e).2) hk ho).trans hk
  refine (hseq (w.heap.size + 1)
   (fun pre W => I pre W ∧ W.heap[w.heap.size + 1]? = some (.loop (R .ready none)) ∧ W.heap[w.heap.size]? = some (.deferred (some [])))
   (fun pre W => ∃ c, Ix c pre W ∧ W.heap[w.heap.size + 1]? = some (.loop (R .done (some c))) ∧ W.heap[w.heap.size]? = some (.deferred (some [])))
   V below0
   (fun s A B row hs hg' hr => ⟨hI s A B row hs.1 hg' (far hr), stay hg' hr hs.2.1 rfl, stay hg' hr hs.2.2 rfl⟩)
   (fun s A B row ⟨c, hc, hl, hk⟩ hg' hr => ⟨c, hIx c s A B row hc hg' (far hr), stay hg' hr hl rfl, stay hg' hr hk rfl⟩)
   ?_ ⟨inv0, rec0, def0⟩).mono ?_
  ·rintro pre x W ⟨hi, hl, hk⟩ hx hlen
   have hlt : w.heap.size + 1 < W.heap.size := (Array.getElem?_eq_some_iff.1 hl).1
   have hy := run_yield (P := P) (args := encs x) hl (by rw [hR]; exact hps x)
   rw [hR] at hy
   refine ⟨fn, _, assign, body, hy, roundIn_of_wpIn hfn (hassign _ x W _ ⟨_, run_beginRound hl (by rw [hR]), ?_⟩)⟩
   obtain ⟨W2, hW2⟩ : ∃ W2, W.putObj (w.heap.size + 1) (.loop { R .ready none with state := .busy }) = W2 := ⟨_, rfl⟩
   have hl2 : W2.heap[w.heap.size + 1]? = some (.loop { R .ready none with state := .busy }) := by rw [← hW2]; exact World.putObj_heap_same hlt
   have hk2 : W2.heap[w.heap.size]? = some (.deferred (some [])) := by rw [← hW2]; exact (World.putObj_heap_other (by omega)).trans hk
   have kp2 : Kp W W2 := by rw [← hW2]; exact hKb _ _ _ _ (by omega) hl rfl rfl
   have hi2 : I pre W2 := by rw [← hW2]; exact hI.putObj _ hi (by omega) hl rfl
   have hx2 : X pre x W2 := by rw [← hW2]; exact (hX x).putObj _ hx (by omega) hl rfl
   rw [hW2]
   refine wpIn_mono (hbody _ pre x _ (by omega) (Array.getElem?_eq_some_iff.1 hl2).1 hi2 hx2 hlen) ?_
   -- the round's end: what it turns in the record
   have fin : ∀ (jump : Option Code) (W3 : World), KeepsFrom w.heap.size W2 W3 →
       ∃ st, st = (if jump.isNone then LoopState.ready else LoopState.done) ∧
       (Instr.endRound (w.heap.size + 1) jump).run P W3 = .ok (.bool jump.isNone) (W3.putObj (w.heap.size + 1) (.loop (R st jump))) ∧
       W3.heap[w.heap.size + 1]? = some (.loop { R .ready none with state := .busy }) ∧
       (W3.putObj (w.heap.size + 1) (.loop (R st jump))).heap[w.heap.size + 1]? = some (.loop (R st jump)) ∧
       (W3.putObj (w.heap.size + 1) (.loop (R st jump))).heap[w.heap.size]? = some (.deferred (some [])) := by
    intro jump W3 hk3
    have hl3 := hk3.same _ _ (by omega) hl2 rfl
    have hrun := run_endRound (P := P) jump hl3
    rw [hR] at hrun hl3 ⊢
    exact ⟨_, rfl, hrun, hl3, World.putObj_heap_same (Array.getElem?_eq_some_iff.1 hl3).1, (World.putObj_heap_other (by omega)).trans (hk3.same _ _ (Nat.le_refl _) hk2 rfl)⟩
   intro e a3 W3 hp
   cases e with
   | normal =>
    obtain ⟨hk3, kp3, hi3⟩ := hp
    obtain ⟨_, rfl, hr, hl3, hl4, hk4⟩ := fin none W3 hk3
    exact ⟨_, _, hr, .inl ⟨rfl, ⟨hI.putObj _ hi3 (by omega) hl3 rfl, hl4, hk4⟩, hKt (hKt kp2 kp3) (hKb _ _ _ _ (by omega) hl3 rfl rfl)⟩⟩
   | ret =>
    obtain ⟨hk3, hi3⟩ := hp
    obtain ⟨_, rfl, hr, hl3, hl4, hk4⟩ := fin (some .ret) W3 hk3
    exact ⟨_, _, hr, .inr ⟨rfl, .ret, (hIx _).putObj _ hi3 (by omega) hl3 rfl, hl4, hk4⟩⟩
   | exit id =>
    obtain ⟨hk3, hi3⟩ := hp
    obtain ⟨_, rfl, hr, hl3, hl4, hk4⟩ := fin (some (.exit id)) W3 hk3
    exact ⟨_, _, hr, .inr ⟨rfl, .exit id, (hIx _).putObj _ hi3 (by omega) hl3 rfl, hl4, hk4⟩⟩
   | goto t =>
    obtain ⟨hk3, hi3⟩ := hp
    obtain ⟨_, rfl, hr, hl3, hl4, hk4⟩ := fin (some (.goto t)) W3 hk3
    exact ⟨_, _, hr, .inr ⟨rfl, .goto t, (hIx _).putObj _ hi3 (by omega) hl3 rfl, hl4, hk4⟩⟩
   | panic ch => exact hp.elim
   | outgrown => exact hp.elim
  ·rintro e W2 ⟨⟨v, rfl⟩, (⟨xs, hS, hi, hl, hk⟩ | ⟨pre, hSp, c, hi, hl, hk⟩)⟩
   ·have hrun := run_endLoop (P := P) hl (by rw [hR]; simp)
    rw [hR] at hrun
    exact ⟨none, _, hrun, hdone _ xs _ (Nat.le_refl _) hS (hI.putObj _ hi (by omega) hl rfl) ((World.putObj_heap_other (by omega)).trans hk)⟩
   ·have hrun := run_endLoop (P := P) hl (by rw [hR]; simp)
    rw [hR] at hrun
    exact ⟨some c, _, hrun, hstop _ c pre _ (Nat.le_refl _) hSp ((hIx c).putObj _ hi (by omega) hl rfl) ((World.putObj_heap_other (by omega)).trans hk)⟩
end
theorem own_heap {B : Nat} {W W' : World} {row : Option Nat} {k : Nat} {o : Obj} (hk : W.heap[k]? = some o) (ho : o.isCells = true) (hg : W.grownBy W' row) (hr : ∀ r, row = some r → B ≤ r ∧ ∃ o : Obj, W.heap[r]? = some o ∧ o.isCells = false) : W'.heap[k]? = some o :=
 (grownBy_keeps_cells hg (fun r e => (hr r e).2) hk ho).trans hk
theorem grown_of_below04 {W W' : World} (h : Below W.heap.size W W') : W.grownBy W' none := ⟨h.os, h.tape, h.output, h.size, fun k hk _ => h.block k hk⟩
end Go.Proofs.YtjkajojjehgmdaaGreat
namespace Go.Proofs.YtjkajojjehgmdaaGreat
open Go.RowKit Go.Shelf Go.Maps
theorem infoCell : (Tryz.prog.info? 88).map (fun i => (i.zero, i.size, i.bytes)) = some (some GC.zero.v, 7, 48) := by kernel_rfl
theorem infoCells : (Tryz.prog.info? 46).map (fun i => (i.zero, i.size, i.bytes)) = some (some (.slice none 0 0), 1, 24) := by kernel_rfl
theorem rne : (46 : TypeId) ≠ 88 := by decide
def FBox (W : World) (F : Nat) (v : Value) (r c : Nat) (s : Bool) : Prop := W.heap[F]? = some (.cells #[v, .int .i64 r, .int .i64 c, .bool s] 42 (0, 0))
theorem FBox.lt {W : World} {F : Nat} {v : Value} {r c : Nat} {s : Bool} (h : FBox W F v r c s) : F < W.heap.size := (Array.getElem?_eq_some_iff.1 h).1
theorem FBox.cells {W : World} {F : Nat} {v : Value} {r c : Nat} {s : Bool} (h : FBox W F v r c s) :
    W.cell? ⟨F, 0, none⟩ = some v ∧ W.cell? ⟨F, 1, none⟩ = some (.int .i64 r) ∧ W.cell? ⟨F, 2, none⟩ = some (.int .i64 c) ∧ W.cell? ⟨F, 3, none⟩ = some (.bool s) ∧ ∀ j, W.frozen? ⟨F, j, none⟩ = false := by
 unfold FBox at h
 unfold World.cell? World.frozen?
 dsimp only
 rw [h]
 simp
theorem FBox.below {W W' : World} {F : Nat} {v : Value} {r c : Nat} {s : Bool} (h : FBox W F v r c s) (hb : Below W.heap.size W W') : FBox W' F v r c s := (hb.block F h.lt).trans h
theorem FBox.set {W : World} {F : Nat} {v : Value} {r c : Nat} {s : Bool} (h : FBox W F v r c s) (u : Value) : FBox (W.setCell ⟨F, 0, none⟩ u) F u r c s := by
 have := set_at h 0 u
 exact this
theorem FBox.fill {W : World} {F : Nat} {v : Value} {r c : Nat} {s : Bool} (h : FBox W F v r c s) (v' : Value) (r' c' : Nat) (s' : Bool) (X : World)
    (hX : ((((W.setCell ⟨F, 0, none⟩ v').setCell ⟨F, 1, none⟩ (.int .i64 r')).setCell ⟨F, 2, none⟩ (.int .i64 c')).setCell ⟨F, 3, none⟩ (.bool s')) = X) : FBox X F v' r' c' s' ∧ Only [F] W X := by
 subst hX
 refine ⟨?_, ((((Only.refl [F] W).setCell (.inl (by simp)) _).setCell (.inl (by simp)) _).setCell (.inl (by simp)) _).setCell (.inl (by simp)) _⟩
 unfold FBox at h ⊢
 rw [set_at (set_at (set_at (set_at h _ _) _ _) _ _) _ _]
 rfl
theorem GBlk.news {W : World} {q : Nat} {L : List GC} (h : GBlk W q L) : ∀ j u, (flatV L)[j]? = some u → W.cell? ((⟨q, 0, none⟩ : Addr).add j) = some u := fun j u hj => by
 rw [Go.WideShapes.add_plain, cell_of_row W q (0 + j) _ _ _ h]
 simpa using hj
theorem boxed_newsF {W : World} {b : Nat} {t : TypeId} {x : Value} (h : Boxed W b t x) : ∀ j u, [x][j]? = some u → W.cell? ((⟨b, 0, none⟩ : Addr).add j) = some u := fun j u hj => by
 cases j with
 | zero =>
  simp only [List.getElem?_cons_zero, Option.some.injEq] at hj
  subst hj
  exact h.cell
 | succ j => simp at hj
theorem own_sliceF {W : World} {n₀ : Nat} {e : TypeId} {s : Nat} {v : Value} {n : Nat} {xs : List Value} (h : W.ownsRow n₀ e s v n xs) : ∃ a c, v = .slice a n c := by
 rcases h.2 with ⟨h1, h2⟩ | ⟨g, cap, cur, h1, _⟩
 ·exact ⟨none, 0, by rw [h1, h2]⟩
 ·exact ⟨_, cap, h1⟩
structure RowsV (n₀ : Nat) (W : World) (v : Value) (vs : List Value) (R : List (List GC)) : Prop where
 o : W.ownsRow n₀ 46 1 v R.length vs
 i : ∀ (i : Nat) (M : List GC), R[i]? = some M → ∃ u, vs[i]? = some u ∧ W.ownsRow n₀ 88 7 u M.length (flatV M)
theorem own_belowF {W W' : World} {n₀ : Nat} {e : TypeId} {size : Nat} {v : Value} {n : Nat} {xs : List Value} (h : W.ownsRow n₀ e size v n xs) (hb : Below W.heap.size W W') : W'.ownsRow n₀ e size v n xs :=
 own_far h (grown_of_below hb) (fun r e => by cases e)
theorem RowsV.below {n₀ : Nat} {W W' : World} {v : Value} {vs : List Value} {R : List (List GC)} (h : RowsV n₀ W v vs R) (hb : Below W.heap.size W W') : RowsV n₀ W' v vs R :=
 ⟨own_belowF h.o hb, fun i M hi => by obtain ⟨u, h1, h2⟩ := h.i i M hi; exact ⟨u, h1, own_belowF h2 hb⟩⟩
theorem RowsV.far {n₀ : Nat} {W W' : World} {v : Value} {vs : List Value} {R : List (List GC)} {row : Option Nat} (h : RowsV n₀ W v vs R) (hg : W.grownBy W' row) (hr : ∀ r, row = some r → ∃ o : Obj, W.heap[r]? = some o ∧ o.isCells = false) : RowsV n₀ W' v vs R :=
 ⟨own_far h.o hg hr, fun i M hi => by obtain ⟨u, h1, h2⟩ := h.i i M hi; exact ⟨u, h1, own_far h2 hg hr⟩⟩
theorem RowsV.set {n₀ : Nat} {W : World} {v : Value} {vs : List Value} {R : List (List GC)} (h : RowsV n₀ W v vs R) {k : Nat} (hk : k < n₀) (u : Value) : RowsV n₀ (W.setCell ⟨k, 0, none⟩ u) v vs R :=
 ⟨ownsRow_setCell_below h.o hk u, fun i M hi => by obtain ⟨u', h1, h2⟩ := h.i i M hi; exact ⟨u', h1, ownsRow_setCell_below h2 hk u⟩⟩
theorem RowsV.setAt {n₀ : Nat} {W : World} {v : Value} {vs : List Value} {R : List (List GC)} (h : RowsV n₀ W v vs R) {k : Nat} (hk : k < n₀) (o : Nat) (u : Value) : RowsV n₀ (W.setCell ⟨k, o, none⟩ u) v vs R :=
 ⟨ownsRow_setCell_below h.o hk u, fun i M hi => by obtain ⟨u', h1, h2⟩ := h.i i M hi; exact ⟨u', h1, ownsRow_setCell_below h2 hk u⟩⟩
theorem RowsV.app {n₀ : Nat} {W W' : World} {v v' u : Value} {vs : List Value} {R : List (List GC)} {M : List GC} (h : RowsV n₀ W v vs R) (hu : W.ownsRow n₀ 88 7 u M.length (flatV M)) (hgr : W.grownBy W' v.ownBlock)
    (ho : W'.ownsRow n₀ 46 1 v' (R.length + 1) (vs ++ [u])) : RowsV n₀ W' v' (vs ++ [u]) (R ++ [M]) := by
 have hl : vs.length = R.length := by have := h.o.1; omega
 have hc : ∀ k, v.ownBlock = some k → k < n₀ ∨ ∃ cur t fr, t ≠ (88 : TypeId) ∧ W.heap[k]? = some (.cells cur t fr) := fun k e => by
  obtain ⟨_, cur, h2⟩ := own_cells h.o k e; exact .inr ⟨cur, _, _, rne, h2⟩
 refine ⟨by rw [List.length_append]; exact ho, fun i M' hi => ?_⟩
 by_cases he : i < R.length
 ·rw [List.getElem?_append_left he] at hi
  obtain ⟨u', h1, h2⟩ := h.i i M' hi
  exact ⟨u', by rw [List.getElem?_append_left (by omega)]; exact h1, own_but h2 hgr hc⟩
 ·have hi2 := (List.getElem?_eq_some_iff.1 hi).1
  rw [List.length_append] at hi2
  simp only [List.length_cons, List.length_nil] at hi2
  obtain rfl : i = R.length := by omega
  rw [List.getElem?_append_right (Nat.le_refl _), Nat.sub_self] at hi
  simp only [List.getElem?_cons_zero, Option.some.injEq] at hi
  subst hi
  exact ⟨u, by rw [List.getElem?_append_right (by omega)]; simp [hl], own_but hu hgr hc⟩
structure RowsAt (W : World) (a : Option Addr) (n : Nat) (R : List (List GC)) : Prop where
 len : R.length = n
 at_ : ∀ (i : Nat) (M : List GC), R[i]? = some M → ∃ b off a2 c2, a = some ⟨b, off, none⟩ ∧ b < W.heap.size ∧ W.cell? ⟨b, off + i, none⟩ = some (.slice a2 M.length c2) ∧ (M.length ≤ c2 ∧ c2 ≤ maxLen) ∧ CellsAt W a2 M.length M
theorem RowsAt.below {W W' : World} {a : Option Addr} {n : Nat} {R : List (List GC)} (h : RowsAt W a n R) (hb : Below W.heap.size W W') : RowsAt W' a n R :=
 ⟨h.len, fun i M hi => by
  obtain ⟨b, off, a2, c2, h1, h2, h3, h4, h5⟩ := h.at_ i M hi
  exact ⟨b, off, a2, c2, h1, Nat.lt_of_lt_of_le h2 hb.size, (hb.cell (p := ⟨b, _, none⟩) h2).trans h3, h4, h5.below hb⟩⟩
theorem CellsAt.of_own {W : World} {n₀ : Nat} {a : Option Addr} {n c : Nat} {M : List GC} (hn : M.length = n) (h : W.ownsRow n₀ 88 7 (.slice a n c) n (flatV M)) : CellsAt W a n M ∧ n ≤ c ∧ c ≤ maxLen := by
 rcases h.2 with ⟨h1, h2⟩ | ⟨g, cap, cur, h1, h2, h3, h4, h5, h6, h7⟩
 ·simp only [Value.slice.injEq] at h1
  obtain ⟨rfl, rfl, rfl⟩ := h1
  exact ⟨⟨hn, fun i c hi => by have := (List.getElem?_eq_some_iff.1 hi).1; omega⟩, Nat.le_refl _, by unfold maxLen; omega⟩
 ·simp only [Value.slice.injEq] at h1
  obtain ⟨rfl, _, rfl⟩ := h1
  refine ⟨⟨hn, fun i c hi => ⟨g, 0, rfl, (Array.getElem?_eq_some_iff.1 h3).1, fun j v hv => ?_⟩⟩, h4, h5⟩
  have hj : j < 7 := by have := (List.getElem?_eq_some_iff.1 hv).1; rwa [GC.vals_length] at this
  have h8 := h.cells (g := g) rfl (7 * i + j) v (by rw [flatV_get hi hj, hv])
  rw [Go.WideShapes.add_plain] at h8
  rw [show 0 + i * 7 + j = 0 + (7 * i + j) by omega]
  exact h8
theorem RowsAt.of_own {W : World} {n₀ : Nat} {a : Option Addr} {n c : Nat} {vs : List Value} {R : List (List GC)} (hn : R.length = n) (h : RowsV n₀ W (.slice a n c) vs R) : RowsAt W a n R ∧ n ≤ c ∧ c ≤ maxLen := by
 have ho := h.o
 rw [hn] at ho
 obtain ⟨hr, h1, h2⟩ := own_row_at ho
 refine ⟨⟨hn, fun i M hi => ?_⟩, h1, h2⟩
 obtain ⟨u, h3, h4⟩ := h.i i M hi
 have hiv := (List.getElem?_eq_some_iff.1 h3).1
 obtain ⟨b, off, h5, h6, h7⟩ := hr i hiv
 have hu : nth undef vs i = u := by rw [nth_eq _ _ _ hiv]; exact (List.getElem?_eq_some_iff.1 h3).2
 rw [hu] at h7
 obtain ⟨a2, c2, rfl⟩ : ∃ a2 c2, u = .slice a2 M.length c2 := by
  rcases h4.2 with ⟨h1, h2⟩ | ⟨g, cap, cur, h1, _⟩
  ·exact ⟨none, 0, by rw [h1, h2]⟩
  ·exact ⟨_, cap, h1⟩
 obtain ⟨h8, h9, h10⟩ := CellsAt.of_own rfl h4
 exact ⟨b, off, a2, c2, h5, h6, h7, ⟨h9, h10⟩, h8⟩
end Go.Proofs.YtjkajojjehgmdaaGreat
namespace Go.Proofs.YtjkajojjehgmdaaGreat
open Go.RowKit Go.Maps
attribute [local go_sem] Oper.semAt_some
structure KP (A B C : Nat) (W W' : World) : Prop where
 a : W'.heap[A]? = W.heap[A]?
 b : W'.heap[B]? = W.heap[B]?
 c : W'.heap[C]? = W.heap[C]?
 size : W.heap.size ≤ W'.heap.size
theorem KP.refl (A B C : Nat) (W : World) : KP A B C W W := ⟨rfl, rfl, rfl, Nat.le_refl _⟩
theorem KP.trans {A B C : Nat} {u v w : World} (h : KP A B C u v) (k : KP A B C v w) : KP A B C u w := ⟨k.a.trans h.a, k.b.trans h.b, k.c.trans h.c, Nat.le_trans h.size k.size⟩
theorem KP.of_below {A B C n : Nat} {W W' : World} (h : Below n W W') (ha : A < n) (hb : B < n) (hc : C < n) : KP A B C W W' := ⟨h.block A ha, h.block B hb, h.block C hc, h.size⟩
theorem KP.put {A B C : Nat} {w : World} (ha : A < w.heap.size) (hb : B < w.heap.size) (hc : C < w.heap.size) (W : World) (l : Nat) (o o' : Obj) (hl : w.heap.size ≤ l) (h : W.heap[l]? = some o) (h1 : o.isCells = false) (h2 : o.isWalk = false) : KP A B C W (W.putObj l o') :=
 KP.of_below (belowK_b (Nat.le_refl _) W l o o' hl h h1 h2) ha hb hc
theorem cell_same {W W' : World} {b o : Nat} (h : W'.heap[b]? = W.heap[b]?) : W'.cell? ⟨b, o, none⟩ = W.cell? ⟨b, o, none⟩ := by unfold World.cell?; dsimp only; rw [h]
theorem rowsK_any (p : Nat) (W : World) : Calls Tryz.prog 109 #[.pointer (some ⟨p, 0, none⟩)] W fun e w' =>
    e = .returned (.func (.func 150) #[] #[.pointer (some ⟨W.heap.size, 0, none⟩)]) ∧ W.alloc (.cells #[.pointer (some ⟨p, 0, none⟩)] 163) = w' := by
 go_enter Tryz.func109, Tryz.ntmps109
 go_wp2
 go_ret
 exact ⟨rfl, rfl⟩
def RowK (n₀ : Nat) (L : List GC) (w : Nat) (pre : List (Nat × Nat)) (x : Nat × Nat) (W : World) : Prop := x.1 = pre.length ∧ n₀ ≤ x.2 ∧ GBlk W x.2 (lineL L w x.1)
set_option maxRecDepth 100000 in
set_option maxHeartbeats 2000000 in
theorem rowsK_seq {w0 : World} {p q w h : Nat} {L : List GC} (g : GridAt w0 p q w h L) (Bx : Nat) (hbx : Bx < w0.heap.size)
    (hcx : w0.cell? ⟨Bx, 0, none⟩ = some (.pointer (some ⟨p, 0, none⟩))) (m : Nat) (hm : 1 ≤ m) :
    SeqX Fence.wide m Tryz.prog 150 #[.pointer (some ⟨Bx, 0, none⟩)] (fun x : Nat × Nat => #[.int .i64 x.1, .slice (some ⟨x.2, 0, none⟩) w w]) (KP p q Bx) (RowK w0.heap.size L w) (fun ys => ys.length = h) (fun pre => pre.length ≤ h) h w0 := by
 intro l J Jx W hW0 hJ hJx hY h0
 have hp : p < w0.heap.size := (Array.getElem?_eq_some_iff.1 g.head).1
 have hq : q < w0.heap.size := g.blk.lt
 have hW := KP.of_below hW0 hp hq hbx
 have hh := g.h2
 clear hW0
 refine callsIn_of_wp Tryz.func150 rfl trivial ?_ rfl
 simp only [Tryz.ntmps150, List.size_toArray, List.length_cons, List.length_nil, Nat.reduceAdd, Nat.reduceSub, Array.replicate_succ, Array.replicate_zero, List.push_toArray, List.append_toArray, List.nil_append, List.cons_append]
 have hx0 := (cell_same hW.c).trans hcx
 have gW : GridAt W p q w h L := ⟨hW.a.trans g.head, hW.b.trans g.blk, g.ne, g.len, g.w1, g.w2, g.h1, g.h2⟩
 have CM := Lib.hid (made_any gW)
 gi_wp2_with (refine ⟨trivial, ?_⟩; gi_at_call 151; refine (callsIn_wide.2 (CM.out)).mono ?_; rintro e w' ⟨rfl, rfl⟩)
 gi_loopw [3] (fun i wr => ∃ ys : List (Nat × Nat), ys.length ≤ h ∧ i = .int .i64 (ys.length : Nat) ∧ J ys wr ∧ KP p q Bx W wr) (fun i _ => h - (intOf i).toNat)
 case atStart => exact ⟨[], Nat.zero_le _, rfl, h0, KP.refl _ _ _ _⟩
 case round =>
  obtain ⟨ys, hk, rfl, hJs, hnx⟩ := hrel
  have hbw := hW.trans hnx
  have hx := (cell_same hbw.c).trans hcx
  have gr : GridAt wr p q w h L := ⟨hbw.a.trans g.head, hbw.b.trans g.blk, g.ne, g.len, g.w1, g.w2, g.h1, g.h2⟩
  obtain ⟨c0, c1, c2⟩ := gr.cells
  obtain ⟨k, hkk⟩ : ∃ k, k = ys.length := ⟨_, rfl⟩
  rw [← hkk] at hk ⊢
  have HK := Lib.hid hkk
  clear hkk hx0
  have hsz := hbw.size
  by_cases hlt : k < h
  ·have CR := row_ok gr (k : Int) (by omega) (by omega)
   simp only [Int.toNat_natCast] at CR
   have CR := Lib.hid CR
   gi_wp2_with (refine ⟨trivial, ?_⟩; gi_at_call 152; refine (callsIn_wide.2 (CR.out)).mono ?_; rintro e w2 ⟨rfl, b2, l2⟩; obtain ⟨fn, tmps, assign, body, hy, hR⟩ := hY ys (k, wr.heap.size) w2 (hJ _ _ _ none hJs (grown_of_below04 l2) (fun r e => by cases e)) ⟨HK.out, by show w0.heap.size ≤ wr.heap.size; omega, b2⟩ (by rw [← HK.out]; exact hlt); dsimp only at hy)
   refine hR.mono ?_
   rintro e W3 (⟨rfl, hJ3, hk3⟩ | ⟨rfl, hJx3⟩)
   ·gi_wp2
    go_roundw
    case rel => exact ⟨ys ++ [(k, wr.heap.size)], by simp; have := HK.out; omega, by simp; have := HK.out; omega, hJ3, (hnx.trans (KP.of_below l2 (by omega) (by omega) (by omega))).trans hk3⟩
    case measure => simp [intOf]; omega
   ·gi_wp2
    refine bodyPost_ret (results_none rfl _ _ _) rfl ?_
    exact ⟨⟨_, rfl⟩, .inr ⟨_, by simp; have := HK.out; omega, hJx3⟩⟩
  ·gi_wp2
   go_end0
   exact ⟨⟨_, rfl⟩, .inl ⟨ys, by have := HK.out; omega, hJs⟩⟩
end Go.Proofs.YtjkajojjehgmdaaGreat
