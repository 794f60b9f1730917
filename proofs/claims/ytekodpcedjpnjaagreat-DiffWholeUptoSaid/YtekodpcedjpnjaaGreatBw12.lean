/- The frame's small functions: colours, made, New, Size. No condition. A text in a frame that is built. No condition. -/
import Derived.Test.YtekodpcedjpnjaaGreatBw01
import Derived.Test.YtekodpcedjpnjaaGreatBw07
import Derived.Test.YtekodpcedjpnjaaGreatBw09
import Derived.Test.YtekodpcedjpnjaaGreatBw10
import Derived.Test.YtekodpcedjpnjaaGreatBw11
namespace Go.Proofs.YtekodpcedjpnjaaGreat
set_option linter.unusedVariables false
set_option linter.unusedSimpArgs false
open Go.RowKit Go.Maps
/-- Colours that may be. -/
def mayF (y : Sy) : Bool := decide (0 ≤ y.f ∧ y.f ≤ 8 ∧ 0 ≤ y.g ∧ y.g ≤ 8)
set_option maxRecDepth 100000 in
theorem colours_any (y : Sy) (w : World) : Calls Tryz.prog 87 #[.agg #[.bool y.b, .bool y.u, .bool y.i, .int .i64 y.f, .int .i64 y.g]] w fun e w' => e = .returned (.bool (mayF y)) ∧ Below w.heap.size w w' := by
  obtain ⟨b, u, i, f, g⟩ := y
  go_enter Tryz.func87, Tryz.ntmps87
  go_wp2
  all_goals
    go_ret
    refine ⟨ret_bool ?_, (Below.refl _ _).alloc (Nat.le_refl _) _⟩
    rw [Bool.eq_iff_iff]; simp [mayF]; omega
/-- A builder of a frame: its grid, the cursor's place, whether it is seen. -/
structure BAt (W : World) (b p q w h : Nat) (L : List GC) (r c : Nat) (s : Bool) : Prop where
  blk : W.heap[b]? = some (.cells #[.pointer (some ⟨p, 0, none⟩), .int .i64 r, .int .i64 c, .bool s] 144 (0, 0))
  g : GridAt W p q w h L
  bp : b ≠ p
  bq : b ≠ q
theorem BAt.only {W W' : World} {b p q w h : Nat} {L : List GC} {r c : Nat} {s : Bool} {S : List Nat} (a : BAt W b p q w h L r c s) (ho : Only S W W') (h1 : b ∉ S) (h2 : p ∉ S) (h3 : q ∉ S) : BAt W' b p q w h L r c s :=
  ⟨ho.heap a.blk h1, a.g.only ho h2 h3, a.bp, a.bq⟩
theorem BAt.below {W W' : World} {b p q w h : Nat} {L : List GC} {r c : Nat} {s : Bool} (a : BAt W b p q w h L r c s) (hb : Below W.heap.size W W') : BAt W' b p q w h L r c s :=
  a.only (Only.of_below (S := []) hb) (by simp) (by simp) (by simp)
theorem BAt.cells {W : World} {b p q w h : Nat} {L : List GC} {r c : Nat} {s : Bool} (a : BAt W b p q w h L r c s) :
    W.cell? ⟨b, 0, none⟩ = some (.pointer (some ⟨p, 0, none⟩)) ∧ W.cell? ⟨b, 1, none⟩ = some (.int .i64 r) ∧ W.cell? ⟨b, 2, none⟩ = some (.int .i64 c) ∧ W.cell? ⟨b, 3, none⟩ = some (.bool s) := by
  refine ⟨?_, ?_, ?_, ?_⟩ <;> rw [cell_of_row W b _ _ _ _ a.blk] <;> rfl
theorem BAt.lt {W : World} {b p q w h : Nat} {L : List GC} {r c : Nat} {s : Bool} (a : BAt W b p q w h L r c s) : b < W.heap.size ∧ p < W.heap.size ∧ q < W.heap.size :=
  ⟨(Array.getElem?_eq_some_iff.1 a.blk).1, (Array.getElem?_eq_some_iff.1 a.g.head).1, a.g.blk.lt⟩
/-- No builder: nil, or one of zeros. -/
def NoB (W : World) (v : Value) : Prop := v = .pointer none ∨ ∃ z, v = .pointer (some ⟨z, 0, none⟩) ∧ W.heap[z]? = some (.cells #[.pointer none, .int .i64 0, .int .i64 0, .bool false] 144 (0, 0))
theorem NoB.below {W W' : World} {v : Value} (h : NoB W v) (hb : Below W.heap.size W W') : NoB W' v := by
  rcases h with h | ⟨z, rfl, h⟩
  · exact .inl h
  · exact .inr ⟨z, rfl, (hb.block z (Array.getElem?_eq_some_iff.1 h).1).trans h⟩
set_option maxRecDepth 100000 in
theorem bmade_any {W : World} {b p q w h : Nat} {L : List GC} {r c : Nat} {s : Bool} (a : BAt W b p q w h L r c s) : Calls Tryz.prog 85 #[.pointer (some ⟨b, 0, none⟩)] W fun e w' => e = .returned (.bool true) ∧ W = w' := by
  obtain ⟨c0, _, _, _⟩ := a.cells
  clear a
  go_enter Tryz.func85, Tryz.ntmps85
  go_wp2
  go_ret
  exact ⟨rfl, rfl⟩
set_option maxRecDepth 100000 in
set_option maxHeartbeats 2000000 in
theorem fnew_ok (a b : Nat) (h : 1 ≤ a ∧ a ≤ 500 ∧ 1 ≤ b ∧ b ≤ 60) (W : World) :
    Calls Tryz.prog 15 #[.int .i64 a, .int .i64 b] W fun e w' => ∃ z p q, e = .returned (.tuple #[.pointer (some ⟨z, 0, none⟩), .int .i64 0]) ∧ BAt w' z p q a b (List.replicate (a * b) GC.blank) 0 0 false ∧ (W.heap.size ≤ z ∧ W.heap.size ≤ p ∧ W.heap.size ≤ q) ∧ Below W.heap.size W w' := by
  have CN := new_ok (a : Int) (b : Int) (by omega) W
  simp only [Int.toNat_natCast] at CN
  have CN := Lib.hid CN
  obtain ⟨h1, h2, h3, h4⟩ := h
  go_enter Tryz.func15, Tryz.ntmps15
  go_wp2_with (go_at_call 82; refine (CN.out).mono ?_; rintro e w1 ⟨p, rfl, hp, g1, hb1⟩)
  go_ret2
  have o1 : Only [] w1 (w1.alloc (.cells #[.pointer (some ⟨p, 0, none⟩), .int .i64 0, .int .i64 0, .bool false] 144)) := (Only.refl _ _).alloc _
  have hpl : p < w1.heap.size := (Array.getElem?_eq_some_iff.1 g1.head).1
  have hql := g1.blk.lt
  exact ⟨w1.heap.size, p, W.heap.size, rfl, ⟨World.alloc_heap_new w1 _, g1.only o1 (by simp) (by simp), by omega, by omega⟩, ⟨hb1.size, hp, Nat.le_refl _⟩, hb1.alloc hb1.size _⟩
end Go.Proofs.YtekodpcedjpnjaaGreat
namespace Go.Proofs.YtekodpcedjpnjaaGreat
set_option linter.unusedVariables false
set_option linter.unusedSimpArgs false
open Go.RowKit Go.Shelf Go.Maps
attribute [local go_sem] Oper.semAt_some
theorem widthL_cluF {c : List UInt8} (h : Clu c) : widthL c = colsL c := by unfold widthL; rw [h.cut]
/-- The first k clusters, put behind each other. -/
def putsG (w h : Nat) (r c : Int) (y : Sy) (C : List (List UInt8)) : Nat → List GC → List GC
  | 0, L => L
  | k + 1, L => putG w h (putsG w h r c y C k L) r (c + sumC (C.take k)) (S (nth [] C k)) (colsL (nth [] C k)) y
theorem boxed_nx {W W' : World} {b : Nat} {t : TypeId} {v : Value} (h : Boxed W b t v) (hb : Below W.heap.size W W') : Boxed W' b t v := (hb.block b h.lt).trans h
theorem Only.others {W W' : World} {q : Nat} {o : Obj} (h : Only [q] W W') (hq : W.heap[q]? = some o) (hc : o.isCells = true) : KeepsOthers W W' :=
  ⟨h.size, fun k o' hk hn => (h.block k (Array.getElem?_eq_some_iff.1 hk).1 (fun e => by
    rw [List.mem_singleton] at e
    subst e
    rw [hk] at hq; cases hq
    rw [hc] at hn; cases hn)).trans hk⟩
theorem Only.grown {S : List Nat} {w X Y : World} {row : Option Nat} (h : Only S w X) (hg : X.grownBy Y row) (hr : ∀ r, row = some r → w.heap.size ≤ r) : Only S w Y :=
  ⟨hg.os.trans h.os, hg.tape.trans h.tape, hg.output.trans h.output, Nat.le_trans h.size hg.size, fun k hk hs => (hg.block k (Nat.lt_of_lt_of_le hk h.size) (fun e => by have := hr k e.symm; omega)).trans (h.block k hk hs)⟩
theorem BAt.own {X Y : World} {b p q w h : Nat} {L : List GC} {r c : Nat} {s : Bool} {B : Nat} {row : Option Nat} (a : BAt X b p q w h L r c s) (hg : X.grownBy Y row) (hr : ∀ r, row = some r → B ≤ r ∧ ∃ o : Obj, X.heap[r]? = some o ∧ o.isCells = false) : BAt Y b p q w h L r c s :=
  ⟨own_heap a.blk rfl hg hr, { a.g with head := own_heap a.g.head rfl hg hr, blk := own_heap a.g.blk rfl hg hr }, a.bp, a.bq⟩
/-- The call's boxes, the builder, and what else abides. -/
structure TxB (w : World) (b p q gw gh : Nat) (L : List GC) (rr : Nat) (cc : Int) (y : Sy) (r c : Nat) (s : Bool) (W : World) : Prop where
  k5 : Boxed W w.heap.size 23 (.pointer (some ⟨b, 0, none⟩))
  k6 : Boxed W (w.heap.size + 1) 3 (.int .i64 rr)
  k7 : Boxed W (w.heap.size + 1 + 1) 3 (.int .i64 cc)
  k9 : SyBox W (w.heap.size + 1 + 1 + 1) y
  a : BAt W b p q gw gh L r c s
  o : Only [q] w W
theorem TxB.own {w X Y : World} {b p q gw gh : Nat} {L : List GC} {rr : Nat} {cc : Int} {y : Sy} {r c : Nat} {s : Bool} {B : Nat} {row : Option Nat} (h : TxB w b p q gw gh L rr cc y r c s X) (hB : w.heap.size ≤ B) (hg : X.grownBy Y row)
    (hr : ∀ r, row = some r → B ≤ r ∧ ∃ o : Obj, X.heap[r]? = some o ∧ o.isCells = false) : TxB w b p q gw gh L rr cc y r c s Y :=
  ⟨own_heap h.k5 rfl hg hr, own_heap h.k6 rfl hg hr, own_heap h.k7 rfl hg hr, own_heap h.k9 rfl hg hr, h.a.own hg hr, h.o.grown hg (fun r e => Nat.le_trans hB (hr r e).1)⟩
theorem TxB.below {w X Y : World} {b p q gw gh : Nat} {L : List GC} {rr : Nat} {cc : Int} {y : Sy} {r c : Nat} {s : Bool} (h : TxB w b p q gw gh L rr cc y r c s X) (hb : Below X.heap.size X Y) : TxB w b p q gw gh L rr cc y r c s Y :=
  h.own (Nat.le_refl _) (grown_of_below hb) (fun r e => by cases e)
theorem TxB.alloc {w X : World} {b p q gw gh : Nat} {L : List GC} {rr : Nat} {cc : Int} {y : Sy} {r c : Nat} {s : Bool} (h : TxB w b p q gw gh L rr cc y r c s X) (o : Obj) : TxB w b p q gw gh L rr cc y r c s (X.alloc o) :=
  h.below ((Below.refl _ _).alloc (Nat.le_refl _) o)
/-- A cell of a new block is written. -/
theorem TxB.set {w X : World} {b p q gw gh : Nat} {L : List GC} {rr : Nat} {cc : Int} {y : Sy} {r c : Nat} {s : Bool} (h : TxB w b p q gw gh L rr cc y r c s X) {k : Nat} (hk : w.heap.size + 1 + 1 + 1 < k) (hb : b < w.heap.size) (hp : p < w.heap.size) (hq : q < w.heap.size) (u : Value) : TxB w b p q gw gh L rr cc y r c s (X.setCell ⟨k, 0, none⟩ u) :=
  have o1 : Only [k] X (X.setCell ⟨k, 0, none⟩ u) := (Only.refl [k] X).setCell (.inl (by simp)) u
  ⟨boxed_put h.k5 (by omega) u, boxed_put h.k6 (by omega) u, boxed_put h.k7 (by omega) u, h.k9.only o1 (by simp; omega), h.a.only o1 (by simp; omega) (by simp; omega) (by simp; omega), h.o.setCell (.inr (by show w.heap.size ≤ k; omega)) u⟩
/-- The column moves on. -/
theorem TxB.col {w X : World} {b p q gw gh : Nat} {L : List GC} {rr : Nat} {cc : Int} {y : Sy} {r c : Nat} {s : Bool} (h : TxB w b p q gw gh L rr cc y r c s X) (hb : b < w.heap.size) (hp : p < w.heap.size) (hq : q < w.heap.size) (d : Int) : TxB w b p q gw gh L rr d y r c s (X.setCell ⟨w.heap.size + 1 + 1, 0, none⟩ (.int .i64 d)) :=
  have o1 : Only [w.heap.size + 1 + 1] X (X.setCell ⟨w.heap.size + 1 + 1, 0, none⟩ (.int .i64 d)) := (Only.refl _ X).setCell (.inl (by simp)) _
  ⟨boxed_put h.k5 (by omega) _, boxed_put h.k6 (by omega) _, h.k7.set _, h.k9.only o1 (by simp), h.a.only o1 (by simp; omega) (by simp; omega) (by simp; omega), h.o.setCell (.inr (by show w.heap.size ≤ w.heap.size + 1 + 1; omega)) _⟩
/-- The grid is written. -/
theorem TxB.put {w X Y : World} {b p q gw gh : Nat} {L L' : List GC} {rr : Nat} {cc : Int} {y : Sy} {r c : Nat} {s : Bool} (h : TxB w b p q gw gh L rr cc y r c s X) (hq : q < w.heap.size) (g : GridAt Y p q gw gh L') (o : Only [q] X Y) : TxB w b p q gw gh L' rr cc y r c s Y :=
  ⟨o.heap h.k5 (by simp; omega), o.heap h.k6 (by simp; omega), o.heap h.k7 (by simp; omega), h.k9.only o (by simp; omega), ⟨o.heap h.a.blk (by simp; exact h.a.bq), g, h.a.bp, h.a.bq⟩, h.o.trans o⟩
/-- What abides in the loop. -/
def TxI (w : World) (Bw b p q gw gh : Nat) (L : List GC) (rr cc : Nat) (y : Sy) (C : List (List UInt8)) (r c : Nat) (s : Bool) (pre : List Nat) (W : World) : Prop :=
  TxB w b p q gw gh (putsG gw gh rr cc y C pre.length L) rr (cc + sumC (C.take pre.length)) y r c s W ∧ Boxed W Bw 3 (.int .i64 gw) ∧ (∀ i, i < pre.length → colsL (nth [] C i) ≤ (gw : Int) - cc - sumC (C.take i)) ∧ sumC (C.take pre.length) ≤ max 0 ((gw : Int) - cc)
theorem TxI.own {w : World} {Bw b p q gw gh : Nat} {L : List GC} {rr cc : Nat} {y : Sy} {C : List (List UInt8)} {r c : Nat} {s : Bool} {B : Nat} (hB : w.heap.size ≤ B) : OwnFrom B (TxI w Bw b p q gw gh L rr cc y C r c s) := fun _ _ _ _ h hg hr =>
  ⟨h.1.own hB hg hr, own_heap h.2.1 rfl hg hr, h.2.2⟩
end Go.Proofs.YtekodpcedjpnjaaGreat
