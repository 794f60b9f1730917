/- The frame's small functions: colours, made, New, Size. No condition. A text in a frame that is built. No condition. -/
import Derived.Test.YtjkajojjehgmdaaGreatRE02
import Derived.Test.YtjkajojjehgmdaaGreatRE03
import Derived.Test.YtjkajojjehgmdaaGreatRE04
import Derived.Test.YtjkajojjehgmdaaGreatRE13
set_option linter.unusedVariables false
set_option linter.unusedSimpArgs false
namespace Go.Proofs.YtjkajojjehgmdaaGreat
open Go.RowKit Go.Maps
def mayF (y : Sy) : Bool := decide (0 ≤ y.f ∧ y.f ≤ 8 ∧ 0 ≤ y.g ∧ y.g ≤ 8)
set_option maxRecDepth 100000 in
theorem colours_any (y : Sy) (w : World) : Calls Tryz.prog 93 #[.agg #[.bool y.b, .bool y.u, .bool y.i, .int .i64 y.f, .int .i64 y.g]] w fun e w' => e = .returned (.bool (mayF y)) ∧ Below w.heap.size w w' := by
 obtain ⟨b, u, i, f, g⟩ := y
 go_enter Tryz.func93, Tryz.ntmps93
 go_wp2
 all_goals
  go_ret
  refine ⟨ret_bool ?_, (Below.refl _ _).alloc (Nat.le_refl _) _⟩
  rw [Bool.eq_iff_iff]; simp [mayF]; omega
structure BAt (W : World) (b p q w h : Nat) (L : List GC) (r c : Nat) (s : Bool) : Prop where
 blk : W.heap[b]? = some (.cells #[.pointer (some ⟨p, 0, none⟩), .int .i64 r, .int .i64 c, .bool s] 169 (0, 0))
 g : GridAt W p q w h L
 bp : b ≠ p
 bq : b ≠ q
theorem BAt.only {W W' : World} {b p q w h : Nat} {L : List GC} {r c : Nat} {s : Bool} {S : List Nat} (a : BAt W b p q w h L r c s) (ho : Only S W W') (h1 : b ∉ S) (h2 : p ∉ S) (h3 : q ∉ S) : BAt W' b p q w h L r c s :=
 ⟨ho.heap a.blk h1, a.g.only ho h2 h3, a.bp, a.bq⟩
theorem BAt.below {W W' : World} {b p q w h : Nat} {L : List GC} {r c : Nat} {s : Bool} (a : BAt W b p q w h L r c s) (hb : Below W.heap.size W W') : BAt W' b p q w h L r c s :=
 a.only (Only.of_below (S := []) hb) (by simp) (by simp) (by simp)
theorem BAt.cells {W : World} {b p q w h : Nat} {L : List GC} {r c : Nat} {s : Bool} (a : BAt W b p q w h L r c s) :
    W.cell? ⟨b, 0, none⟩ = some (.pointer (some ⟨p, 0, none⟩)) ∧ W.cell? ⟨b, 1, none⟩ = some (.int .i64 r) ∧ W.cell? ⟨b, 2, none⟩ = some (.int .i64 c) ∧ W.cell? ⟨b, 3, none⟩ = some (.bool s) := by
 refine ⟨?_, ?_, ?_, ?_⟩ <;> rw [cell_of_row W b _ _ _ _ a.blk] <;> rfl
theorem BAt.lt {W : World} {b p q w h : Nat} {L : List GC} {r c : Nat} {s : Bool} (a : BAt W b p q w h L r c s) : b < W.heap.size ∧ p < W.heap.size ∧ q < W.heap.size :=
 ⟨(Array.getElem?_eq_some_iff.1 a.blk).1, (Array.getElem?_eq_some_iff.1 a.g.head).1, a.g.blk.lt⟩
set_option maxRecDepth 100000 in
theorem bmade_any {W : World} {b p q w h : Nat} {L : List GC} {r c : Nat} {s : Bool} (a : BAt W b p q w h L r c s) : Calls Tryz.prog 108 #[.pointer (some ⟨b, 0, none⟩)] W fun e w' => e = .returned (.bool true) ∧ W = w' := by
 obtain ⟨c0, _, _, _⟩ := a.cells
 clear a
 go_enter Tryz.func108, Tryz.ntmps108
 go_wp2
 go_ret
 exact ⟨rfl, rfl⟩
set_option maxRecDepth 100000 in
set_option maxHeartbeats 2000000 in
theorem fnew_ok (a b : Nat) (h : 1 ≤ a ∧ a ≤ 500 ∧ 1 ≤ b ∧ b ≤ 60) (W : World) :
    Calls Tryz.prog 76 #[.int .i64 a, .int .i64 b] W fun e w' => ∃ z p q, e = .returned (.tuple #[.pointer (some ⟨z, 0, none⟩), .int .i64 0]) ∧ BAt w' z p q a b (List.replicate (a * b) GC.blank) 0 0 false ∧ (W.heap.size ≤ z ∧ W.heap.size ≤ p ∧ W.heap.size ≤ q) ∧ Below W.heap.size W w' := by
 have CN := new_ok (a : Int) (b : Int) (by omega) W
 simp only [Int.toNat_natCast] at CN
 have CN := Lib.hid CN
 obtain ⟨h1, h2, h3, h4⟩ := h
 go_enter Tryz.func76, Tryz.ntmps76
 go_wp2_with (go_at_call 107; refine (CN.out).mono ?_; rintro e w1 ⟨p, rfl, hp, g1, hb1⟩)
 go_ret2
 have o1 : Only [] w1 (w1.alloc (.cells #[.pointer (some ⟨p, 0, none⟩), .int .i64 0, .int .i64 0, .bool false] 169)) := (Only.refl _ _).alloc _
 have hpl : p < w1.heap.size := (Array.getElem?_eq_some_iff.1 g1.head).1
 have hql := g1.blk.lt
 exact ⟨w1.heap.size, p, W.heap.size, rfl, ⟨World.alloc_heap_new w1 _, g1.only o1 (by simp) (by simp), by omega, by omega⟩, ⟨hb1.size, hp, Nat.le_refl _⟩, hb1.alloc hb1.size _⟩
end Go.Proofs.YtjkajojjehgmdaaGreat
namespace Go.Proofs.YtjkajojjehgmdaaGreat
open Go.RowKit Go.Shelf Go.Maps
attribute [local go_sem] Oper.semAt_some
theorem widthL_cluF {c : List UInt8} (h : Clu c) : widthL c = colsL c := by unfold widthL; rw [h.cut]
theorem Only.others {W W' : World} {q : Nat} {o : Obj} (h : Only [q] W W') (hq : W.heap[q]? = some o) (hc : o.isCells = true) : KeepsOthers W W' :=
 ⟨h.size, fun k o' hk hn => (h.block k (Array.getElem?_eq_some_iff.1 hk).1 (fun e => by
  rw [List.mem_singleton] at e
  subst e
  rw [hk] at hq; cases hq
  rw [hc] at hn; cases hn)).trans hk⟩
theorem Only.grown {S : List Nat} {w X Y : World} {row : Option Nat} (h : Only S w X) (hg : X.grownBy Y row) (hr : ∀ r, row = some r → w.heap.size ≤ r) : Only S w Y :=
 ⟨hg.os.trans h.os, hg.tape.trans h.tape, hg.output.trans h.output, Nat.le_trans h.size hg.size, fun k hk hs => (hg.block k (Nat.lt_of_lt_of_le hk h.size) (fun e => by have := hr k e.symm; omega)).trans (h.block k hk hs)⟩
theorem BAt.own {X Y : World} {b p q w h : Nat} {L : List GC} {r c : Nat} {s : Bool} {B : Nat} {row : Option Nat} (a : BAt X b p q w h L r c s) (hg : X.grownBy Y row) (hr : ∀ r, row = some r → B ≤ r ∧ ∃ o : Obj, X.heap[r]? = some o ∧ o.isCells = false) : BAt Y b p q w h L r c s :=
 ⟨own_heap a.blk rfl hg hr, { a.g with head := own_heap a.g.head rfl hg hr, blk := own_heap a.g.blk rfl hg hr }, a.bp, a.bq⟩
end Go.Proofs.YtjkajojjehgmdaaGreat
