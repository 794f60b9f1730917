/- The frame's small functions: colours, made, New, Size. No condition. A text in a frame that is built. No condition. -/
import Derived.Test.YtekodpcedjpnjaaGRows
import Derived.Test.YtekodpcedjpnjaaGridE
import Derived.Test.YtekodpcedjpnjaaGrid16
import Derived.Test.YtekodpcedjpnjaaClus6
import Derived.Test.YtekodpcedjpnjaaRegT
import Derived.Test.YtekodpcedjpnjaaBwAt
namespace Go.Proofs.Ytekodpcedjpnjaa
set_option linter.unusedVariables false
set_option linter.unusedSimpArgs false
open Go.RowKit Go.Maps
/-- Colours that may be. -/
def mayF (y : Sy) : Bool := decide (0 ≤ y.f ∧ y.f ≤ 8 ∧ 0 ≤ y.g ∧ y.g ≤ 8)
set_option maxRecDepth 100000 in
theorem colours_any (y : Sy) (w : World) : Calls Try.prog 98 #[.agg #[.bool y.b, .bool y.u, .bool y.i, .int .i64 y.f, .int .i64 y.g]] w fun e w' => e = .returned (.bool (mayF y)) ∧ Below w.heap.size w w' := by
  obtain ⟨b, u, i, f, g⟩ := y
  go_enter Try.func98, Try.ntmps98
  go_wp2
  all_goals
    go_ret
    refine ⟨ret_bool ?_, (Below.refl _ _).alloc (Nat.le_refl _) _⟩
    rw [Bool.eq_iff_iff]; simp [mayF]; omega
/-- A builder of a frame: its grid, the cursor's place, whether it is seen. -/
structure BAt (W : World) (b p q w h : Nat) (L : List GC) (r c : Nat) (s : Bool) : Prop where
  blk : W.heap[b]? = some (.cells #[.pointer (some ⟨p, 0, none⟩), .int .i64 r, .int .i64 c, .bool s] 157 (0, 0))
  g : GridAt W p q w h L
  bp : b ≠ p
  bq : b ≠ q
theorem BAt.only {W W' : World} {b p q w h : Nat} {L : List GC} {r c : Nat} {s : Bool} {S : List Nat} (a : BAt W b p q w h L r c s) (ho : Only S W W') (h1 : b ∉ S) (h2 : p ∉ S) (h3 : q ∉ S) : BAt W' b p q w h L r c s :=
  ⟨ho.heap a.blk h1, a.g.only ho h2 h3, a.bp, a.bq⟩
theorem BAt.below {W W' : World} {b p q w h : Nat} {L : List GC} {r c : Nat} {s : Bool} (a : BAt W b p q w h L r c s) (hb : Below W.heap.size W W') : BAt W' b p q w h L r c s :=
  a.only (Only.of_below (S := []) hb) (by simp) (by simp) (by simp)
theorem BAt.cells {W : World} {b p q w h : Nat} {L : List GC} {r c : Nat} {s : Bool} (a : BAt W b p q w h L r c s) :
    W.cell? ⟨b, 0, none⟩ = some (.pointer (some ⟨p, 0, none⟩)) ∧ W.cell? ⟨b, 1, none⟩ = some (.int .i64 r) ∧ W.cell? ⟨b, 2, none⟩ = some (.int .i64 c) ∧ W.cell? ⟨b, 3, none⟩ = some (.bool s) := by
  refine ⟨?_, ?_, ?_, ?_⟩ <;> rw [cell_of_row W b _ _ _ _ a.blk] <;> rfl
theorem BAt.lt {W : World} {b p q w h : Nat} {L : List GC} {r c : Nat} {s : Bool} (a : BAt W b p q w h L r c s) : b < W.heap.size ∧ p < W.heap.size ∧ q < W.heap.size :=
  ⟨(Array.getElem?_eq_some_iff.1 a.blk).1, (Array.getElem?_eq_some_iff.1 a.g.head).1, a.g.blk.lt⟩
/-- No builder: nil, or one of zeros. -/
def NoB (W : World) (v : Value) : Prop := v = .pointer none ∨ ∃ z, v = .pointer (some ⟨z, 0, none⟩) ∧ W.heap[z]? = some (.cells #[.pointer none, .int .i64 0, .int .i64 0, .bool false] 157 (0, 0))
theorem NoB.below {W W' : World} {v : Value} (h : NoB W v) (hb : Below W.heap.size W W') : NoB W' v := by
  rcases h with h | ⟨z, rfl, h⟩
  · exact .inl h
  · exact .inr ⟨z, rfl, (hb.block z (Array.getElem?_eq_some_iff.1 h).1).trans h⟩
set_option maxRecDepth 100000 in
theorem bmade_any {W : World} {b p q w h : Nat} {L : List GC} {r c : Nat} {s : Bool} (a : BAt W b p q w h L r c s) : Calls Try.prog 103 #[.pointer (some ⟨b, 0, none⟩)] W fun e w' => e = .returned (.bool true) ∧ W = w' := by
  obtain ⟨c0, _, _, _⟩ := a.cells
  clear a
  go_enter Try.func103, Try.ntmps103
  go_wp2
  go_ret
  exact ⟨rfl, rfl⟩
set_option maxRecDepth 100000 in
theorem bmade_no {W : World} {v : Value} (h : NoB W v) : Calls Try.prog 103 #[v] W fun e w' => e = .returned (.bool false) ∧ W = w' := by
  rcases h with rfl | ⟨z, rfl, h⟩
  · go_enter Try.func103, Try.ntmps103
    go_wp2
    go_ret
    exact ⟨rfl, rfl⟩
  · have c0 : W.cell? ⟨z, 0, none⟩ = some (.pointer none) := by rw [cell_of_row W z _ _ _ _ h]; rfl
    clear h
    go_enter Try.func103, Try.ntmps103
    go_wp2
    go_ret
    exact ⟨rfl, rfl⟩
set_option maxRecDepth 100000 in
set_option maxHeartbeats 2000000 in
theorem fnew_ok (a b : Nat) (h : 1 ≤ a ∧ a ≤ 500 ∧ 1 ≤ b ∧ b ≤ 60) (W : World) :
    Calls Try.prog 75 #[.int .i64 a, .int .i64 b] W fun e w' => ∃ z p q, e = .returned (.tuple #[.pointer (some ⟨z, 0, none⟩), .int .i64 0]) ∧ BAt w' z p q a b (List.replicate (a * b) GC.blank) 0 0 false ∧ (W.heap.size ≤ z ∧ W.heap.size ≤ p ∧ W.heap.size ≤ q) ∧ Below W.heap.size W w' := by
  have CN := new_ok (a : Int) (b : Int) (by omega) W
  simp only [Int.toNat_natCast] at CN
  have CN := Lib.hid CN
  obtain ⟨h1, h2, h3, h4⟩ := h
  go_enter Try.func75, Try.ntmps75
  go_wp2_with (go_at_call 7; refine (CN.out).mono ?_; rintro e w1 ⟨p, rfl, hp, g1, hb1⟩)
  go_ret2
  have o1 : Only [] w1 (w1.alloc (.cells #[.pointer (some ⟨p, 0, none⟩), .int .i64 0, .int .i64 0, .bool false] 157)) := (Only.refl _ _).alloc _
  have hpl : p < w1.heap.size := (Array.getElem?_eq_some_iff.1 g1.head).1
  have hql := g1.blk.lt
  exact ⟨w1.heap.size, p, W.heap.size, rfl, ⟨World.alloc_heap_new w1 _, g1.only o1 (by simp) (by simp), by omega, by omega⟩, ⟨hb1.size, hp, Nat.le_refl _⟩, hb1.alloc hb1.size _⟩
set_option maxRecDepth 100000 in
set_option maxHeartbeats 2000000 in
theorem fnew_bad (a b : Int) (h : ¬ (1 ≤ a ∧ a ≤ 500 ∧ 1 ≤ b ∧ b ≤ 60)) (W : World) :
    Calls Try.prog 75 #[.int .i64 a, .int .i64 b] W fun e w' => e = .returned (.tuple #[.pointer none, .int .i64 90]) ∧ W = w' := by
  go_enter Try.func75, Try.ntmps75
  go_wp2
  all_goals first
    | (exfalso; omega)
    | (go_ret2; exact ⟨rfl, rfl⟩)
end Go.Proofs.Ytekodpcedjpnjaa
namespace Go.Proofs.Ytekodpcedjpnjaa
set_option linter.unusedVariables false
set_option linter.unusedSimpArgs false
open Go.RowKit Go.Shelf Go.Maps
attribute [local go_sem] Oper.semAt_some
theorem widthL_cluF {c : List UInt8} (h : Clu c) : widthL c = colsL c := by unfold widthL; rw [h.cut]
theorem flat_len64F (l : List UInt8) : (flatL l).length ≤ 64 * l.length := by
  have := clean_len (blanksL l)
  unfold flatL
  unfold blanksL at this ⊢
  simpa using this
/-- The first k clusters, put behind each other. -/
def putsG (w h : Nat) (r c : Int) (y : Sy) (C : List (List UInt8)) : Nat → List GC → List GC
  | 0, L => L
  | k + 1, L => putG w h (putsG w h r c y C k L) r (c + sumC (C.take k)) (S (nth [] C k)) (colsL (nth [] C k)) y
theorem boxed_nx {W W' : World} {b : Nat} {t : TypeId} {v : Value} (h : Boxed W b t v) (hb : Below W.heap.size W W') : Boxed W' b t v := (hb.block b h.lt).trans h
theorem Only.others {W W' : World} {q : Nat} {o : Obj} (h : Only [q] W W') (hq : W.heap[q]? = some o) (hc : o.isCells = true) : KeepsOthers W W' :=
  ⟨h.size, fun k o' hk hn => (h.block k (Array.getElem?_eq_some_iff.1 hk).1 (fun e => by
    rw [List.mem_singleton] at e
    subst e
    rw [hk] at hq; cases hq
    rw [hc] at hn; cases hn)).trans hk⟩
theorem Only.grown {S : List Nat} {w X Y : World} {row : Option Nat} (h : Only S w X) (hg : X.grownBy Y row) (hr : ∀ r, row = some r → w.heap.size ≤ r) : Only S w Y :=
  ⟨hg.os.trans h.os, hg.tape.trans h.tape, hg.output.trans h.output, Nat.le_trans h.size hg.size, fun k hk hs => (hg.block k (Nat.lt_of_lt_of_le hk h.size) (fun e => by have := hr k e.symm; omega)).trans (h.block k hk hs)⟩
theorem BAt.own {X Y : World} {b p q w h : Nat} {L : List GC} {r c : Nat} {s : Bool} {B : Nat} {row : Option Nat} (a : BAt X b p q w h L r c s) (hg : X.grownBy Y row) (hr : ∀ r, row = some r → B ≤ r ∧ ∃ o : Obj, X.heap[r]? = some o ∧ o.isCells = false) : BAt Y b p q w h L r c s :=
  ⟨own_heap a.blk rfl hg hr, { a.g with head := own_heap a.g.head rfl hg hr, blk := own_heap a.g.blk rfl hg hr }, a.bp, a.bq⟩
/-- The call's boxes, the builder, and what else abides. -/
structure TxB (w : World) (b p q gw gh : Nat) (L : List GC) (rr : Nat) (cc : Int) (y : Sy) (r c : Nat) (s : Bool) (W : World) : Prop where
  k5 : Boxed W w.heap.size 120 (.pointer (some ⟨b, 0, none⟩))
  k6 : Boxed W (w.heap.size + 1) 3 (.int .i64 rr)
  k7 : Boxed W (w.heap.size + 1 + 1) 3 (.int .i64 cc)
  k9 : SyBox W (w.heap.size + 1 + 1 + 1) y
  a : BAt W b p q gw gh L r c s
  o : Only [q] w W
theorem TxB.own {w X Y : World} {b p q gw gh : Nat} {L : List GC} {rr : Nat} {cc : Int} {y : Sy} {r c : Nat} {s : Bool} {B : Nat} {row : Option Nat} (h : TxB w b p q gw gh L rr cc y r c s X) (hB : w.heap.size ≤ B) (hg : X.grownBy Y row)
    (hr : ∀ r, row = some r → B ≤ r ∧ ∃ o : Obj, X.heap[r]? = some o ∧ o.isCells = false) : TxB w b p q gw gh L rr cc y r c s Y :=
  ⟨own_heap h.k5 rfl hg hr, own_heap h.k6 rfl hg hr, own_heap h.k7 rfl hg hr, own_heap h.k9 rfl hg hr, h.a.own hg hr, h.o.grown hg (fun r e => Nat.le_trans hB (hr r e).1)⟩
theorem TxB.below {w X Y : World} {b p q gw gh : Nat} {L : List GC} {rr : Nat} {cc : Int} {y : Sy} {r c : Nat} {s : Bool} (h : TxB w b p q gw gh L rr cc y r c s X) (hb : Below X.heap.size X Y) : TxB w b p q gw gh L rr cc y r c s Y :=
  h.own (Nat.le_refl _) (grown_of_below hb) (fun r e => by cases e)
theorem TxB.alloc {w X : World} {b p q gw gh : Nat} {L : List GC} {rr : Nat} {cc : Int} {y : Sy} {r c : Nat} {s : Bool} (h : TxB w b p q gw gh L rr cc y r c s X) (o : Obj) : TxB w b p q gw gh L rr cc y r c s (X.alloc o) :=
  h.below ((Below.refl _ _).alloc (Nat.le_refl _) o)
/-- A cell of a new block is written. -/
theorem TxB.set {w X : World} {b p q gw gh : Nat} {L : List GC} {rr : Nat} {cc : Int} {y : Sy} {r c : Nat} {s : Bool} (h : TxB w b p q gw gh L rr cc y r c s X) {k : Nat} (hk : w.heap.size + 1 + 1 + 1 < k) (hb : b < w.heap.size) (hp : p < w.heap.size) (hq : q < w.heap.size) (u : Value) : TxB w b p q gw gh L rr cc y r c s (X.setCell ⟨k, 0, none⟩ u) :=
  have o1 : Only [k] X (X.setCell ⟨k, 0, none⟩ u) := (Only.refl [k] X).setCell (.inl (by simp)) u
  ⟨boxed_put h.k5 (by omega) u, boxed_put h.k6 (by omega) u, boxed_put h.k7 (by omega) u, h.k9.only o1 (by simp; omega), h.a.only o1 (by simp; omega) (by simp; omega) (by simp; omega), h.o.setCell (.inr (by show w.heap.size ≤ k; omega)) u⟩
/-- The column moves on. -/
theorem TxB.col {w X : World} {b p q gw gh : Nat} {L : List GC} {rr : Nat} {cc : Int} {y : Sy} {r c : Nat} {s : Bool} (h : TxB w b p q gw gh L rr cc y r c s X) (hb : b < w.heap.size) (hp : p < w.heap.size) (hq : q < w.heap.size) (d : Int) : TxB w b p q gw gh L rr d y r c s (X.setCell ⟨w.heap.size + 1 + 1, 0, none⟩ (.int .i64 d)) :=
  have o1 : Only [w.heap.size + 1 + 1] X (X.setCell ⟨w.heap.size + 1 + 1, 0, none⟩ (.int .i64 d)) := (Only.refl _ X).setCell (.inl (by simp)) _
  ⟨boxed_put h.k5 (by omega) _, boxed_put h.k6 (by omega) _, h.k7.set _, h.k9.only o1 (by simp), h.a.only o1 (by simp; omega) (by simp; omega) (by simp; omega), h.o.setCell (.inr (by show w.heap.size ≤ w.heap.size + 1 + 1; omega)) _⟩
/-- The grid is written. -/
theorem TxB.put {w X Y : World} {b p q gw gh : Nat} {L L' : List GC} {rr : Nat} {cc : Int} {y : Sy} {r c : Nat} {s : Bool} (h : TxB w b p q gw gh L rr cc y r c s X) (hq : q < w.heap.size) (g : GridAt Y p q gw gh L') (o : Only [q] X Y) : TxB w b p q gw gh L' rr cc y r c s Y :=
  ⟨o.heap h.k5 (by simp; omega), o.heap h.k6 (by simp; omega), o.heap h.k7 (by simp; omega), h.k9.only o (by simp; omega), ⟨o.heap h.a.blk (by simp; exact h.a.bq), g, h.a.bp, h.a.bq⟩, h.o.trans o⟩
theorem text_world {w : World} {b p q gw gh : Nat} {L : List GC} {r c : Nat} {s : Bool} (a : BAt w b p q gw gh L r c s) (rr : Nat) (cc : Int) (y : Sy) (X : World)
    (hX : (((w.alloc (.cells #[.pointer (some ⟨b, 0, none⟩)] 120)).alloc (.cells #[.int .i64 rr] 3)).alloc (.cells #[.int .i64 cc] 3)).alloc (.cells #[.bool y.b, .bool y.u, .bool y.i, .int .i64 y.f, .int .i64 y.g] 34) = X) :
    TxB w b p q gw gh L rr cc y r c s X ∧ X.heap.size = w.heap.size + 1 + 1 + 1 + 1 := by
  obtain ⟨X1, h1⟩ : ∃ X1, w.alloc (.cells #[.pointer (some ⟨b, 0, none⟩)] 120) = X1 := ⟨_, rfl⟩
  obtain ⟨X2, h2⟩ : ∃ X2, X1.alloc (.cells #[.int .i64 rr] 3) = X2 := ⟨_, rfl⟩
  obtain ⟨X3, h3⟩ : ∃ X3, X2.alloc (.cells #[.int .i64 cc] 3) = X3 := ⟨_, rfl⟩
  rw [h1, h2, h3] at hX
  have s1 : X1.heap.size = w.heap.size + 1 := by rw [← h1]; simp
  have s2 : X2.heap.size = w.heap.size + 1 + 1 := by rw [← h2]; simp [s1]
  have s3 : X3.heap.size = w.heap.size + 1 + 1 + 1 := by rw [← h3]; simp [s2]
  have b1 := Boxed.new w 120 (.pointer (some ⟨b, 0, none⟩))
  have b2 := Boxed.new X1 3 (.int .i64 rr)
  have b3 := Boxed.new X2 3 (.int .i64 cc)
  have b4 : SyBox X X3.heap.size y := by rw [← hX]; exact World.alloc_heap_new X3 _
  rw [h1] at b1
  rw [h2, s1] at b2
  rw [h3, s2] at b3
  rw [s3] at b4
  have o : Only [q] w X := by rw [← hX, ← h3, ← h2, ← h1]; exact ((((Only.refl _ _).alloc _).alloc _).alloc _).alloc _
  have o0 : Only [] w X := by rw [← hX, ← h3, ← h2, ← h1]; exact ((((Only.refl _ _).alloc _).alloc _).alloc _).alloc _
  refine ⟨⟨hX ▸ (h3 ▸ (h2 ▸ b1.alloc _ : Boxed X2 _ _ _).alloc _ : Boxed X3 _ _ _).alloc _, hX ▸ (h3 ▸ b2.alloc _ : Boxed X3 _ _ _).alloc _, hX ▸ b3.alloc _, b4, a.only o0 (by simp) (by simp) (by simp), o⟩, by rw [← hX]; simp [s3]⟩
/-- What abides in the loop. -/
def TxI (w : World) (Bw b p q gw gh : Nat) (L : List GC) (rr cc : Nat) (y : Sy) (C : List (List UInt8)) (r c : Nat) (s : Bool) (pre : List Nat) (W : World) : Prop :=
  TxB w b p q gw gh (putsG gw gh rr cc y C pre.length L) rr (cc + sumC (C.take pre.length)) y r c s W ∧ Boxed W Bw 3 (.int .i64 gw) ∧ (∀ i, i < pre.length → colsL (nth [] C i) ≤ (gw : Int) - cc - sumC (C.take i)) ∧ sumC (C.take pre.length) ≤ max 0 ((gw : Int) - cc)
theorem TxI.own {w : World} {Bw b p q gw gh : Nat} {L : List GC} {rr cc : Nat} {y : Sy} {C : List (List UInt8)} {r c : Nat} {s : Bool} {B : Nat} (hB : w.heap.size ≤ B) : OwnFrom B (TxI w Bw b p q gw gh L rr cc y C r c s) := fun _ _ _ _ h hg hr =>
  ⟨h.1.own hB hg hr, own_heap h.2.1 rfl hg hr, h.2.2⟩
/-- What the reads ahead of a Put find. -/
def TxS (w : World) (b p rr : Nat) (cc : Int) (y : Sy) (w' : World) : Prop :=
  w'.cell? ⟨w.heap.size, 0, none⟩ = some (.pointer (some ⟨b, 0, none⟩)) ∧ w'.cell? ⟨b, 0, none⟩ = some (.pointer (some ⟨p, 0, none⟩)) ∧ w'.cell? ⟨w.heap.size + 1, 0, none⟩ = some (.int .i64 rr) ∧ w'.cell? ⟨w.heap.size + 1 + 1, 0, none⟩ = some (.int .i64 cc) ∧
  w'.cell? ⟨w.heap.size + 1 + 1 + 1, 0, none⟩ = some (.bool y.b) ∧ w'.cell? ⟨w.heap.size + 1 + 1 + 1, 1, none⟩ = some (.bool y.u) ∧ w'.cell? ⟨w.heap.size + 1 + 1 + 1, 2, none⟩ = some (.bool y.i) ∧ w'.cell? ⟨w.heap.size + 1 + 1 + 1, 3, none⟩ = some (.int .i64 y.f) ∧ w'.cell? ⟨w.heap.size + 1 + 1 + 1, 4, none⟩ = some (.int .i64 y.g)
set_option maxRecDepth 100000 in
set_option maxHeartbeats 16000000 in
theorem text_ok {W : World} {b p q w h : Nat} {L : List GC} {r c : Nat} {s : Bool} (a : BAt W b p q w h L r c s) (rr cc : Nat) (l : List UInt8) (y : Sy) (hr : rr < h) (hc : cc ≤ w) (hy : mayF y = true) (hl : l.length ≤ 10000) :
    Calls Try.prog 76 #[.pointer (some ⟨b, 0, none⟩), .int .i64 rr, .int .i64 cc, .string (S l), .agg #[.bool y.b, .bool y.u, .bool y.i, .int .i64 y.f, .int .i64 y.g]] W fun e w' =>
      e = .returned (.tuple #[.int .i64 (cc + sumC ((cutL (flatL l)).take (fitK (cutL (flatL l)) ((w : Int) - cc)))), .int .i64 0]) ∧ BAt w' b p q w h (putsG w h rr cc y (cutL (flatL l)) (fitK (cutL (flatL l)) ((w : Int) - cc)) L) r c s ∧ Only [q] W w' := by
  have hlt := a.lt
  have hw1 := a.g.w1
  have hw2 := a.g.w2
  have hh2 := a.g.h2
  have CM := Lib.hid (fun W b p q w h L r c s (a : BAt W b p q w h L r c s) => bmade_any a)
  have CZ := Lib.hid (fun W p q w h L (g : GridAt W p q w h L) => gsize_any g)
  have CC := colours_any y
  rw [hy] at CC
  have CC := Lib.hid CC
  have CF := Lib.hid (fun W => flat_any l (by omega) W)
  have CA := Lib.hid (fun W => call_any (flatL l) W)
  have hfl := flat_len64F l
  have hzl := cutL_len (flatL l)
  have hseq := call1_seq (flatL l) (by omega)
  have hclu : ∀ x, x < (cutL (flatL l)).length → Clu (nth [] (cutL (flatL l)) x) := fun x hx => nth_clu hx
  obtain ⟨C, hC⟩ : ∃ C, C = cutL (flatL l) := ⟨_, rfl⟩
  rw [← hC] at hzl hseq hclu ⊢
  have HSEQ := Lib.hid hseq
  have HCLU := Lib.hid hclu
  have TW := Lib.hid (fun X hX => text_world a rr (cc : Int) y X hX)
  have hri : (rr : Int) < (h : Int) := by omega
  have hci : ¬ (w : Int) < (cc : Int) := by omega
  clear hC hseq hclu hy
  refine (callsIn_wide (n := 9)).1 ?_
  have h1 : 1 ≤ 9 := by omega
  refine callsIn_of_wp_marks Try.func76 rfl trivial ?_ rfl
  simp only [Try.ntmps76, List.size_toArray, List.length_cons, List.length_nil, Nat.reduceAdd, Nat.reduceSub, Array.replicate_succ, Array.replicate_zero, List.push_toArray, List.append_toArray, List.nil_append, List.cons_append]
  gi_wp2_with (first
    | (refine ⟨trivial, ?_⟩; gi_at_call 103; refine (callsIn_wide.2 (CM.out _ _ _ _ _ _ _ _ _ _ (TW.out _ rfl).1.a)).mono ?_; rintro e X0 ⟨rfl, hX0⟩; obtain ⟨t0, s0⟩ := TW.out _ hX0; have a0 := t0.a.cells.1; have d5 := t0.k5.cell; have d6 := t0.k6.cell; have d7 := t0.k7.cell; clear hX0)
    | (refine ⟨trivial, ?_⟩; gi_at_call 66; refine (callsIn_wide.2 (CZ.out _ _ _ _ _ _ t0.a.g)).mono ?_; rintro e X1 ⟨rfl, hb1⟩; have t2 := (t0.below hb1).alloc (.cells #[.int .i64 w] 3); have z2 := Boxed.new X1 3 (.int .i64 w); have s1 := hb1.size; have y2 := z2.cell; have g6 := t2.k6.cell; have g7 := t2.k7.cell; obtain ⟨g90, g91, g92, g93, g94, _⟩ := StyBox.cells t2.k9)
    | (refine ⟨trivial, ?_⟩; gi_at_call 98; refine (callsIn_wide.2 (CC.out _)).mono ?_; rintro e X3 ⟨rfl, hb3⟩; have t3 := t2.below hb3; have z3 := boxed_nx z2 hb3)
    | (refine ⟨trivial, ?_⟩; gi_at_call 105; refine (callsIn_wide.2 (CF.out _)).mono ?_; rintro e X4 ⟨rfl, hb4⟩; have t4 := t3.below hb4; have z4 := boxed_nx z3 hb4)
    | (refine ⟨trivial, ?_⟩; gi_at_call 104; refine (callsIn_wide.2 (CA.out _)).mono ?_; rintro e X5 ⟨rfl, hX5⟩))
  have z5s := Boxed.new X4 9 (.string (S (flatL l)))
  rw [hX5] at z5s
  have t5 : TxB W b p q w h L rr cc y r c s X5 := hX5 ▸ t4.alloc _
  have z5 : Boxed X5 X1.heap.size 3 (.int .i64 w) := hX5 ▸ z4.alloc _
  have hs5 : X5.heap.size = X4.heap.size + 1 := by rw [← hX5]; simp
  have hb3s := hb3.size
  have hb4s := hb4.size
  simp only [World.size_alloc] at hb3s
  have hBw : W.heap.size + 1 + 1 + 1 < X1.heap.size := by omega
  have hBs : X1.heap.size < X4.heap.size := by omega
  obtain ⟨Bw, hBwe⟩ : ∃ B, B = X1.heap.size := ⟨_, rfl⟩
  obtain ⟨Bs, hBse⟩ : ∃ B, B = X4.heap.size := ⟨_, rfl⟩
  rw [← hBwe] at z5 hBw hBs ⊢
  rw [← hBse] at hs5 hBs z5s ⊢
  clear hBwe hBse hX5 hb3s hb4s t4 z4 hb4 t3 z3 hb3 t2 z2 s1 y2 g6 g7 g90 g91 g92 g93 g94 hb1 t0 s0 a0 d5 d6 d7
  refine wpIn_rangeFunc_GH rfl h1 (gf := 121) (lb := #[.pointer (some ⟨Bs, 0, none⟩)]) rfl trivial (enters_of Try.func121 (by kernel_rfl) rfl)
    (HSEQ.out Bs X5 (by omega) z5s.cell _ (by omega)) KB.trans (KB.put (by omega) (by omega)) (Below.refl _ _) (fun _ => rfl)
    (fun _ => TxI W Bw b p q w h L rr cc y C r c s)
    (fun _ cd pre Z => ∃ qq, cd = .exit 0 ∧ pre = qq ++ [qq.length] ∧ qq.length < C.length ∧ (w : Int) - cc - sumC (C.take qq.length) < colsL (nth [] C qq.length) ∧ TxI W Bw b p q w h L rr cc y C r c s qq Z)
    (fun g => TxI.own (by omega))
    (fun g cd s' X Y row hs hg hr => by obtain ⟨q', e1, e2, e3, e4, hh⟩ := hs; exact ⟨q', e1, e2, e3, e4, TxI.own (by omega) q' X Y row hh hg hr⟩)
    (fun g x => ghost_own _ g x)
    (fun g hg => ⟨by simpa [putsG, sumC] using t5, z5, fun i hi => by simp at hi, by simp [sumC]; omega⟩)
    ?_ ?_ ?_ ?_ ?_
  rotate_left 1
  · intro Lq x Z K hK
    dsimp only [encC]
    gi_wp2
    exact hK
  · rintro Lq g pre x Z hL1 hL2 hg ⟨hT, hz, hall, hsum⟩ ⟨⟨rfl, hxl⟩, cur, hcur⟩ hpl
    have hclx := HCLU.out _ hxl
    have hcl := hclx.len
    have hcb := hclx.cols
    have hbd := sumC_take_bd C pre.length
    have HST := Lib.hid (sumC_take C pre.length hxl)
    have CW := (fun W => cwidth_any (nth [] C pre.length) (by omega) W)
    rw [widthL_cluF hclx] at CW
    have hZs := hT.o.size
    have hgl := (Array.getElem?_eq_some_iff.1 hcur).1
    have hgq : g ≠ q := fun e => by
      subst e
      have := hT.a.g.blk
      unfold GBlk at this
      rw [hcur] at this
      injection this with h1
      injection h1 with _ h2
      exact absurd h2 (by decide)
    have HXL := Lib.hid hxl
    have HALL := Lib.hid hall
    obtain ⟨n, hn⟩ : ∃ n, n = pre.length := ⟨_, rfl⟩
    have HN := Lib.hid hn
    rw [← hn] at hbd hsum HST CW hT HXL HALL hcl hcb ⊢
    obtain ⟨t, ht⟩ : ∃ t, t = sumC (C.take n) := ⟨_, rfl⟩
    obtain ⟨x, hx⟩ : ∃ x, x = nth [] C n := ⟨_, rfl⟩
    rw [← ht] at hbd hsum hT
    rw [← hx] at CW hcl hcb ⊢
    obtain ⟨v, hv⟩ : ∃ v, v = colsL x := ⟨_, rfl⟩
    rw [← hv] at CW hcb
    have HT := Lib.hid ht
    have HX := Lib.hid hx
    have HV := Lib.hid hv
    have CW := Lib.hid CW
    have k7 := hT.k7.cell
    have kw := hz.cell
    have hwr : IntKind.i64.wrap ((w : Int) - (cc + t)) = (w : Int) - (cc + t) := IntWalk.i64_in _ (by omega)
    clear hn ht hx hv hxl hall hclx hpl hcur
    by_cases hc : (w : Int) - (cc + t) < v
    · gi_wp2_with (refine ⟨trivial, ?_⟩; gi_at_call 100; refine (callsIn_wide.2 (CW.out _)).mono ?_; rintro e Z1 ⟨rfl, hb1⟩; have u1 := hT.below hb1; have v1 := boxed_nx hz hb1; have c7 := u1.k7.cell; have cw := v1.cell)
      refine ⟨(others_of_below hb1).from _, pre, rfl, by rw [← HN.out], by rw [← HN.out]; exact HXL.out, ?_, ?_⟩
      · rw [← HN.out, ← HT.out, ← HX.out, ← HV.out]; omega
      · unfold TxI
        rw [← HN.out, ← HT.out]
        exact ⟨u1, v1, HALL.out, hsum⟩
    · have hc' : v ≤ (w : Int) - (cc + t) := by omega
      gi_wp2_with (first
        | (refine ⟨trivial, ?_⟩; gi_at_call 100; refine (callsIn_wide.2 (CW.out _)).mono ?_; rintro e Z1 ⟨rfl, hb1⟩; have u1 := hT.below hb1; have v1 := boxed_nx hz hb1; have c7 := u1.k7.cell; have cw := v1.cell))
      obtain ⟨a0, _, _, _⟩ := u1.a.cells
      have c5 := u1.k5.cell
      have c6 := u1.k6.cell
      obtain ⟨g0, g1, g2, g3, g4, _⟩ := StyBox.cells u1.k9
      have ud := u1.below ((Below.refl _ _).drew)
      have vd := boxed_nx v1 ((Below.refl _ _).drew)
      have CP := Lib.hid (fun c' : Int => put_any ud.a.g (rr : Int) c' (S x) v y)
      have hSd : TxS W b p rr (cc + t) y (Z1.drew) := ⟨c5, a0, c6, c7, g0, g1, g2, g3, g4⟩
      refine wpIn_region_tree (l₀ := some Lq) (fun _ w1 w2 => TxS W b p rr (cc + t) y w1 → TxS W b p rr (cc + t) y w2) (by kernel_rfl) (by kernel_rfl) (fun _ _ h => h) ?_
      simp only [List.size_toArray, List.length_cons, List.length_nil, Nat.reduceAdd]
      refine' wpAnyY_read 0 (TxS W b p rr (cc + t) y) [] (v := _) (by kernel_rfl) (fun _ _ d _ _ h => by cases d <;> exact h) (by kernel_rfl) rfl (fun _ _ _ _ h hs => h hs) (fun _ h => h) hSd rfl ?_ ?_
      rotate_left 1
      · rintro w' ⟨h1', h2', h3', h4', h5', h6', h7', h8', h9'⟩; go_simp; try with_reducible rfl
      try simp only [Act.put, List.setIfInBounds_toArray, List.set_cons_zero, List.set_cons_succ]
      refine' wpAnyY_read 1 (TxS W b p rr (cc + t) y) [] (v := _) (by kernel_rfl) (fun _ _ d _ _ h => by cases d <;> exact h) (by kernel_rfl) rfl (fun _ _ _ _ h hs => h hs) (fun _ h => h) hSd rfl ?_ ?_
      rotate_left 1
      · rintro w' ⟨h1', h2', h3', h4', h5', h6', h7', h8', h9'⟩; go_simp; try with_reducible rfl
      try simp only [Act.put, List.setIfInBounds_toArray, List.set_cons_zero, List.set_cons_succ]
      refine' wpAnyY_read 2 (TxS W b p rr (cc + t) y) [] (v := _) (by kernel_rfl) (fun _ _ d _ _ h => by cases d <;> exact h) (by kernel_rfl) rfl (fun _ _ _ _ h hs => h hs) (fun _ h => h) hSd rfl ?_ ?_
      rotate_left 1
      · rintro w' ⟨h1', h2', h3', h4', h5', h6', h7', h8', h9'⟩; go_simp; try with_reducible rfl
      try simp only [Act.put, List.setIfInBounds_toArray, List.set_cons_zero, List.set_cons_succ]
      refine' wpAnyY_read 3 (TxS W b p rr (cc + t) y) [] (v := _) (by kernel_rfl) (fun _ _ d _ _ h => by cases d <;> exact h) (by kernel_rfl) rfl (fun _ _ _ _ h hs => h hs) (fun _ h => h) hSd rfl ?_ ?_
      rotate_left 1
      · rintro w' ⟨h1', h2', h3', h4', h5', h6', h7', h8', h9'⟩; go_simp; try with_reducible rfl
      try simp only [Act.put, List.setIfInBounds_toArray, List.set_cons_zero, List.set_cons_succ]
      refine' wpAnyY_read 4 (TxS W b p rr (cc + t) y) [] (v := _) (by kernel_rfl) (fun _ _ d _ _ h => by cases d <;> exact h) (by kernel_rfl) rfl (fun _ _ _ _ h hs => h hs) (fun _ h => h) hSd rfl ?_ ?_
      rotate_left 1
      · rintro w' ⟨h1', h2', h3', h4', h5', h6', h7', h8', h9'⟩; go_simp; try with_reducible rfl
      try simp only [Act.put, List.setIfInBounds_toArray, List.set_cons_zero, List.set_cons_succ]
      refine' wpAnyY_read 5 (TxS W b p rr (cc + t) y) [] (v := _) (by kernel_rfl) (fun _ _ d _ _ h => by cases d <;> exact h) (by kernel_rfl) rfl (fun _ _ _ _ h hs => h hs) (fun _ h => h) hSd rfl ?_ ?_
      rotate_left 1
      · rintro w' ⟨h1', h2', h3', h4', h5', h6', h7', h8', h9'⟩; go_simp; try with_reducible rfl
      try simp only [Act.put, List.setIfInBounds_toArray, List.set_cons_zero, List.set_cons_succ]
      refine' wpAnyY_read 6 (TxS W b p rr (cc + t) y) [] (v := _) (by kernel_rfl) (fun _ _ d _ _ h => by cases d <;> exact h) (by kernel_rfl) rfl (fun _ _ _ _ h hs => h hs) (fun _ h => h) hSd rfl ?_ ?_
      rotate_left 1
      · rintro w' ⟨h1', h2', h3', h4', h5', h6', h7', h8', h9'⟩; go_simp; try with_reducible rfl
      try simp only [Act.put, List.setIfInBounds_toArray, List.set_cons_zero, List.set_cons_succ]
      refine' wpAnyY_read 7 (TxS W b p rr (cc + t) y) [] (v := _) (by kernel_rfl) (fun _ _ d _ _ h => by cases d <;> exact h) (by kernel_rfl) rfl (fun _ _ _ _ h hs => h hs) (fun _ h => h) hSd rfl ?_ ?_
      rotate_left 1
      · rintro w' ⟨h1', h2', h3', h4', h5', h6', h7', h8', h9'⟩; go_simp; try with_reducible rfl
      try simp only [Act.put, List.setIfInBounds_toArray, List.set_cons_zero, List.set_cons_succ]
      refine' wpAnyY_read 8 (TxS W b p rr (cc + t) y) [] (v := _) (by kernel_rfl) (fun _ _ d _ _ h => by cases d <;> exact h) (by kernel_rfl) rfl (fun _ _ _ _ h hs => h hs) (fun _ h => h) hSd rfl ?_ ?_
      rotate_left 1
      · rintro w' ⟨h1', h2', h3', h4', h5', h6', h7', h8', h9'⟩; go_simp; try with_reducible rfl
      try simp only [Act.put, List.setIfInBounds_toArray, List.set_cons_zero, List.set_cons_succ]
      refine' wpAnyY_read 9 (TxS W b p rr (cc + t) y) [] (v := _) (by kernel_rfl) (fun _ _ d _ _ h => by cases d <;> exact h) (by kernel_rfl) rfl (fun _ _ _ _ h hs => h hs) (fun _ h => h) hSd rfl ?_ ?_
      rotate_left 1
      · rintro w' ⟨h1', h2', h3', h4', h5', h6', h7', h8', h9'⟩; go_simp; try with_reducible rfl
      try simp only [Act.put, List.setIfInBounds_toArray, List.set_cons_zero, List.set_cons_succ]
      refine wpAnyY_one (i := 10) (by kernel_rfl) rfl (fun K hK => ?_)
      go_wp2_with (go_at_call 13; refine (CP.out _).mono ?_; rintro e Z2 ⟨rfl, g5, o5⟩)
      have t6 := ud.put (by omega) g5 o5
      obtain ⟨a6, _, _, _⟩ := t6.a.cells
      obtain ⟨e0, e1, e2, e3, e4, _⟩ := StyBox.cells t6.k9
      refine hK _ _ (fun _ => ⟨t6.k5.cell, a6, t6.k6.cell, t6.k7.cell, e0, e1, e2, e3, e4⟩) (wpAnyY_end (by kernel_rfl) ?_)
      clear hK K
      have c8 := t6.k7.cell
      have f8 := t6.k7.frozen
      try simp only [Exit.then]
      gi_wp2
      have t7 := t6.col (by omega) (by omega) (by omega) ((cc : Int) + t + v)
      have oo := (((Only.of_below (S := [q, W.heap.size + 1 + 1]) hb1).trans (Only.of_below ((Below.refl _ _).drew))).trans (o5.mono (S' := [q, W.heap.size + 1 + 1]) (by simp))).setCell (p := ⟨W.heap.size + 1 + 1, 0, none⟩) (.inl (by simp)) (.int .i64 ((cc : Int) + t + v))
      have e1 : putsG w h rr cc y C (n + 1) L = putG w h (putsG w h rr cc y C n L) rr (cc + t) (S x) v y := by rw [HV.out, HX.out, HT.out]; rfl
      have e2 : (cc : Int) + sumC (C.take (n + 1)) = cc + t + v := by rw [HST.out, ← HT.out, ← HX.out, ← HV.out]; omega
      have e3 : sumC (C.take (n + 1)) ≤ max 0 ((w : Int) - cc) := by omega
      refine ⟨((((others_of_below hb1).trans (KeepsOthers.drew _)).trans (Only.others o5 ud.a.g.blk rfl)).trans (KeepsOthers.setCell _ _ _)).from _, ⟨⟨oo.block Bs (by omega) (by simp; omega), oo.block Bs (by omega) (by simp; omega), oo.size⟩, oo.block g hgl (by simp; omega)⟩, ?_⟩
      unfold TxI
      rw [show (pre ++ [n]).length = n + 1 by simp [HN.out], e1, e2]
      refine ⟨t7, boxed_put (o5.heap vd (by simp; omega)) (by omega) _, fun i hi => ?_, e3⟩
      by_cases hin : i = n
      · rw [hin, ← HT.out, ← HX.out, ← HV.out]; omega
      · exact HALL.out i (by omega)
  · rintro D g ys Z hD hys ⟨hT, hz, hall, hsum⟩ hK
    have hyl : ys.length = C.length := by rw [hys, List.length_range]
    have hk : fitK C ((w : Int) - cc) = C.length := fitK_end _ _ (fun i hi => by have := hall i (by omega); omega)
    have HKK := Lib.hid hk
    rw [hyl] at hT hsum
    rw [List.take_length] at hT
    have tD := hT.own (Nat.le_refl _) (grownBy_putObj' Z D (.deferred none)) (fun r e => by cases e; exact ⟨by omega, _, hK, rfl⟩)
    have k7 := hT.k7.cell
    clear hys hyl hk hall
    gi_wp2
    refine ⟨by simp, .inl ⟨_, _, rfl, run_takeDeferred hK, ?_⟩⟩
    refine ⟨_, results_tmp2 rfl _ _ _, ?_⟩
    rw [HKK.out, List.take_length]
    exact ⟨rfl, tD.a, tD.o⟩
  · rintro D g cd pre Z hD hpre ⟨qq, rfl, rfl, hql, hstop, hT, hz, hall, hsum⟩ hK
    have hk : fitK C ((w : Int) - cc) = qq.length := fitK_stop _ _ _ hql (fun i hi => by have := hall i hi; omega) hstop
    have HKK := Lib.hid hk
    have tD := hT.own (Nat.le_refl _) (grownBy_putObj' Z D (.deferred none)) (fun r e => by cases e; exact ⟨by omega, _, hK, rfl⟩)
    have k7 := hT.k7.cell
    clear hpre hk hall hstop hql
    gi_wp2
    refine ⟨by simp, .inl ⟨_, _, rfl, run_takeDeferred hK, ?_⟩⟩
    refine ⟨_, results_tmp2 rfl _ _ _, ?_⟩
    rw [HKK.out]
    exact ⟨rfl, tD.a, tD.o⟩
end Go.Proofs.Ytekodpcedjpnjaa
