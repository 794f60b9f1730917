/- What an iterator needs of the worlds between two rounds: its blocks abide. No condition. Worlds that are as they were below a block, but for one block; and whose blocks that are no cells abide. No condition. -/
import Derived.Test.YtekodpcedjpnjaaBase
import Derived.RangeFuncFrom
import Derived.RangeFuncWrites
namespace Go.Proofs.Ytekodpcedjpnjaa
set_option linter.unusedVariables false
set_option linter.unusedSimpArgs false
open Go.RowKit Go.Shelf Go.Maps
theorem grown_of_below {W W' : World} (h : Below W.heap.size W W') : W.grownBy W' none := ⟨h.os, h.tape, h.output, h.size, fun k hk _ => h.block k hk⟩
/-- Two blocks abide. -/
structure KB (A B : Nat) (W W' : World) : Prop where
  a : W'.heap[A]? = W.heap[A]?
  b : W'.heap[B]? = W.heap[B]?
  size : W.heap.size ≤ W'.heap.size
theorem KB.refl (A B : Nat) (W : World) : KB A B W W := ⟨rfl, rfl, Nat.le_refl _⟩
theorem KB.trans {A B : Nat} {u v w : World} (h : KB A B u v) (k : KB A B v w) : KB A B u w := ⟨k.a.trans h.a, k.b.trans h.b, Nat.le_trans h.size k.size⟩
theorem KB.of_below {A B n : Nat} {W W' : World} (h : Below n W W') (ha : A < n) (hb : B < n) : KB A B W W' := ⟨h.block A ha, h.block B hb, h.size⟩
theorem KB.put {A B : Nat} {w : World} (ha : A < w.heap.size) (hb : B < w.heap.size) (W : World) (l : Nat) (o o' : Obj) (hl : w.heap.size ≤ l) (h : W.heap[l]? = some o) (h1 : o.isCells = false) (h2 : o.isWalk = false) : KB A B W (W.putObj l o') :=
  KB.of_below (belowK_b (Nat.le_refl _) W l o o' hl h h1 h2) ha hb
theorem KB.setCell {A B : Nat} (W : World) (b : Nat) (v : Value) (off : Nat) (ha : A ≠ b) (hb : B ≠ b) : KB A B W (W.setCell ⟨b, off, none⟩ v) :=
  ⟨Below.heap_setCell _ _ _ _ (by exact ha), Below.heap_setCell _ _ _ _ (by exact hb), by simp [World.setCell]⟩
theorem cell_block {W W' : World} {b o : Nat} (h : W'.heap[b]? = W.heap[b]?) : W'.cell? ⟨b, o, none⟩ = W.cell? ⟨b, o, none⟩ := by unfold World.cell?; dsimp only; rw [h]
theorem frozen_block {W W' : World} {b o : Nat} (h : W'.heap[b]? = W.heap[b]?) : W'.frozen? ⟨b, o, none⟩ = W.frozen? ⟨b, o, none⟩ := by unfold World.frozen?; dsimp only; rw [h]
end Go.Proofs.Ytekodpcedjpnjaa
namespace Go.Proofs.Ytekodpcedjpnjaa
set_option linter.unusedVariables false
set_option linter.unusedSimpArgs false
open Go.RowKit Go.Shelf Go.Maps
structure But (n₀ B : Nat) (w w' : World) : Prop where
  os : w'.os = w.os
  tape : w'.tape = w.tape
  output : w'.output = w.output
  size : w.heap.size ≤ w'.heap.size
  block : ∀ k, k < n₀ → k ≠ B → w'.heap[k]? = w.heap[k]?
  others : KeepsOthers w w'
theorem But.refl (n₀ B : Nat) (w : World) : But n₀ B w w := ⟨rfl, rfl, rfl, Nat.le_refl _, fun _ _ _ => rfl, KeepsOthers.refl _⟩
theorem But.trans {n₀ B : Nat} {a b c : World} (h : But n₀ B a b) (k : But n₀ B b c) : But n₀ B a c :=
  ⟨k.os.trans h.os, k.tape.trans h.tape, k.output.trans h.output, Nat.le_trans h.size k.size, fun j h1 h2 => (k.block j h1 h2).trans (h.block j h1 h2), h.others.trans k.others⟩
theorem others_of_below {w w' : World} (h : Below w.heap.size w w') : KeepsOthers w w' := KeepsOthers.of_grownBy (grown_of_below h) (fun j o e _ => by cases e)
theorem But.of_below {n₀ B : Nat} {w w' : World} (hn : n₀ ≤ w.heap.size) (h : Below w.heap.size w w') : But n₀ B w w' :=
  ⟨h.os, h.tape, h.output, h.size, fun k hk _ => h.block k (by omega), others_of_below h⟩
theorem But.alloc {n₀ B : Nat} {a w : World} (h : But n₀ B a w) (hn : n₀ ≤ w.heap.size) (o : Obj) : But n₀ B a (w.alloc o) :=
  h.trans (But.of_below hn ((Below.refl _ _).alloc (Nat.le_refl _) o))
theorem But.drew {n₀ B : Nat} {a w : World} (h : But n₀ B a w) : But n₀ B a w.drew := ⟨h.os, h.tape, h.output, h.size, h.block, h.others.trans (KeepsOthers.drew w)⟩
theorem But.setCell {n₀ B : Nat} {a w : World} (h : But n₀ B a w) (off : Nat) (v : Value) : But n₀ B a (w.setCell ⟨B, off, none⟩ v) :=
  h.trans ⟨rfl, rfl, rfl, by simp [World.setCell], fun k _ hk => Below.heap_setCell _ _ _ _ (by exact hk), KeepsOthers.setCell _ _ _⟩
theorem But.grown {n₀ B : Nat} {a w w' : World} {row : Option Nat} (h : But n₀ B a w) (hn : n₀ ≤ w.heap.size) (hg : w.grownBy w' row) (hr : ∀ k, row = some k → n₀ ≤ k ∧ ∃ o, w.heap[k]? = some o ∧ o.isCells = true) : But n₀ B a w' :=
  h.trans ⟨hg.os, hg.tape, hg.output, hg.size, fun k hk _ => hg.block k (by omega) (fun e => by have := (hr k e.symm).1; omega), KeepsOthers.of_grownBy hg (fun j o e ho => by
    obtain ⟨o', h1, h2⟩ := (hr j e).2
    rw [ho] at h1; cases h1; exact h2)⟩
theorem But.below {n₀ B m : Nat} {w w' : World} (h : But n₀ B w w') (h1 : m ≤ n₀) (h2 : m ≤ B) : Below m w w' := ⟨h.os, h.tape, h.output, h.size, fun k hk => h.block k (by omega) (by omega)⟩
theorem But.kb {n₀ B x y : Nat} {w w' : World} (h : But n₀ B w w') (hx : x < n₀) (hx' : x ≠ B) (hy : y < n₀) (hy' : y ≠ B) : KB x y w w' := ⟨h.block x hx hx', h.block y hy hy', h.size⟩
theorem But.from {n₀ B m : Nat} {w w' : World} (h : But n₀ B w w') : KeepsFrom m w w' := h.others.from _
/-- The row of a slice that is owned: its block is cells of the type. -/
theorem own_cells {W : World} {base : Nat} {e : TypeId} {size : Nat} {v : Value} {n : Nat} {xs : List Value} (h : W.ownsRow base e size v n xs) : ∀ k, v.ownBlock = some k → base ≤ k ∧ ∃ cur, W.heap[k]? = some (.cells cur e (0, 0)) := fun k hk => by
  rcases h.2 with ⟨rfl, _⟩ | ⟨g, cap, cur, rfl, hg, hc, _⟩
  · simp [Value.ownBlock] at hk
  · obtain rfl : g = k := by simpa [Value.ownBlock] using hk
    exact ⟨hg, cur, hc⟩
theorem own_but {W W' : World} {n₀ : Nat} {e : TypeId} {size : Nat} {v : Value} {n : Nat} {xs : List Value} {row : Option Nat} (h : W.ownsRow n₀ e size v n xs) (hg : W.grownBy W' row) (hr : ∀ k, row = some k → k < n₀ ∨ ∃ cur t fr, t ≠ e ∧ W.heap[k]? = some (.cells cur t fr)) : W'.ownsRow n₀ e size v n xs := by
  refine h.kept hg ?_
  cases hv : v.ownBlock with
  | none => exact .inl rfl
  | some k =>
    refine .inr (fun e' => ?_)
    obtain ⟨h1, cur, h2⟩ := own_cells h k hv
    rcases hr k e'.symm with h3 | ⟨cur', t, fr, h3, h4⟩
    · omega
    · rw [h2] at h4
      injection h4 with h5
      injection h5 with _ h6
      exact h3 h6.symm
theorem own_shape {W : World} {n₀ : Nat} {e : TypeId} {v : Value} {n : Nat} {xs : List Value} (h : W.ownsRow n₀ e 1 v n xs) : v = .slice none 0 0 ∧ n = 0 ∨ ∃ g c, v = .slice (some ⟨g, 0, none⟩) n c ∧ n ≤ c ∧ n₀ ≤ g ∧ g < W.heap.size := by
  rcases h.2 with ⟨rfl, h0⟩ | ⟨g, cap, cur, rfl, hg, hc, h2, h3, h4, _⟩
  · exact .inl ⟨rfl, h0⟩
  · exact .inr ⟨g, cap, rfl, h2, hg, (Array.getElem?_eq_some_iff.1 hc).1⟩
theorem own_ne {W : World} {n₀ : Nat} {e : TypeId} {v : Value} {n : Nat} {xs : List Value} (h : W.ownsRow n₀ e 1 v n xs) (hn : n ≠ 0) : ∃ g c, v = .slice (some ⟨g, 0, none⟩) n c := by
  rcases own_shape h with ⟨_, h0⟩ | ⟨g, c, e, _⟩
  · exact absurd h0 hn
  · exact ⟨g, c, e⟩
theorem own_slice {W : World} {n₀ : Nat} {e : TypeId} {v : Value} {n : Nat} {xs : List Value} (h : W.ownsRow n₀ e 1 v n xs) : ∃ a c, v = .slice a n c := by
  rcases own_shape h with ⟨rfl, rfl⟩ | ⟨g, c, rfl, _⟩
  · exact ⟨_, _, rfl⟩
  · exact ⟨_, _, rfl⟩
theorem own_row_at {W : World} {n₀ : Nat} {e : TypeId} {a : Option Addr} {n c : Nat} {vs : List Value} (h : W.ownsRow n₀ e 1 (.slice a n c) n vs) : RowAt W.heap.size W a vs ∧ n ≤ c ∧ c ≤ maxLen := by
  rcases h with ⟨hl, ⟨h1, h0⟩ | ⟨g, cap, cur, h1, hg, hc, h2, h3, h4, h5⟩⟩
  · simp only [Value.slice.injEq] at h1
    obtain ⟨rfl, rfl, rfl⟩ := h1
    have : vs = [] := List.length_eq_zero_iff.1 (by omega)
    subst this
    exact ⟨RowAt.nil _ _ _, Nat.le_refl _, by unfold maxLen; omega⟩
  · simp only [Value.slice.injEq] at h1
    obtain ⟨rfl, _, rfl⟩ := h1
    refine ⟨fun j hj => ⟨g, 0, rfl, (Array.getElem?_eq_some_iff.1 hc).1, ?_⟩, h2, h3⟩
    unfold World.cell?
    dsimp only
    rw [hc, Nat.zero_add]
    have h6 : (cur.toList.take (n * 1))[j]? = vs[j]? := by rw [h5]
    rw [List.getElem?_take_of_lt (by omega), Array.getElem?_toList] at h6
    simp only [Option.isSome_none, Bool.false_eq_true, if_false]
    rw [h6]
    simp [nth, hj]
end Go.Proofs.Ytekodpcedjpnjaa
