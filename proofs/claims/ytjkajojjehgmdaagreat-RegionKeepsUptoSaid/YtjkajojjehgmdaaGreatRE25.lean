/- The program's diff: marks in memory; both. No condition. The program's diff: which columns of two rows change. No condition. The program's diff: changes. No condition. -/
import Derived.Test.YtjkajojjehgmdaaGreatRE19
import Derived.Test.YtjkajojjehgmdaaGreatRE24
set_option linter.unusedVariables false
set_option linter.unusedSimpArgs false
namespace Go.Proofs.YtjkajojjehgmdaaGreat
open Go.RowKit Go.Shelf Go.Maps
def BBlk (W : World) (q : Nat) (L : List Bool) : Prop := W.heap[q]? = some (.cells (L.map Value.bool).toArray 4 (0, 0))
theorem BBlk.lt {W : World} {q : Nat} {L : List Bool} (h : BBlk W q L) : q < W.heap.size := (Array.getElem?_eq_some_iff.1 h).1
theorem BBlk.only {W X : World} {q : Nat} {L : List Bool} {S : List Nat} (h : BBlk W q L) (ho : Only S W X) (hs : q ∉ S) : BBlk X q L := ho.heap h hs
theorem BBlk.below {W X : World} {q : Nat} {L : List Bool} (h : BBlk W q L) (hb : Below W.heap.size W X) : BBlk X q L := (hb.block q h.lt).trans h
theorem BBlk.cell {W : World} {q : Nat} {L : List Bool} (h : BBlk W q L) {i : Nat} (hi : i < L.length) : W.cell? ⟨q, i, none⟩ = some (.bool (nth false L i)) ∧ W.frozen? ⟨q, i, none⟩ = false := by
 unfold BBlk at h
 unfold World.cell? World.frozen?
 dsimp only
 rw [h, nth_eq _ _ _ hi]
 simp [hi]
theorem BBlk.set {W : World} {q : Nat} {L : List Bool} (h : BBlk W q L) (i : Nat) (x : Bool) : BBlk (W.setCell ⟨q, i, none⟩ (.bool x)) q (L.set i x) := by
 unfold BBlk at h ⊢
 unfold World.setCell
 dsimp only
 rw [Array.getElem?_modify, if_pos rfl, h]
 simp [List.map_set]
theorem run_bmake (W : World) (n : Nat) (hn : n ≤ 1000000) :
    (Instr.makeSlice 223 (.int .i64 (n : Int)) (.int .i64 (n : Int))).run Tryz.prog W = .ok (.slice (some ⟨W.heap.size, 0, none⟩) n n) (W.alloc (.cells ((List.replicate n false).map Value.bool).toArray 4)) := by
 have hs : (Tryz.prog.info? 4).map (fun i => (i.zero, i.size, decide (i.bytes ≤ 1000))) = some (some (.bool false), 1, true) := by kernel_rfl
 cases hq : Tryz.prog.info? 4 with
 | none => rw [hq] at hs; cases hs
 | some i =>
  rw [hq] at hs
  simp only [Option.map_some, Option.some.injEq, Prod.mk.injEq, decide_eq_true_eq] at hs
  obtain ⟨h1, h2, h3⟩ := hs
  have := run_make (P := Tryz.prog) W 223 4 i (.bool false) Tryz.underlying223 hq h1 .i64 .i64 n n (by omega) (by omega) (by have : i.bytes * n ≤ 1000 * 1000000 := Nat.mul_le_mul h3 hn; rw [← Int.natCast_mul]; omega) (by omega)
  rw [this]
  simp only [Int.toNat_natCast, h2]
  have e : madeCells (Value.bool false).cells (n * 1) = ((List.replicate n false).map Value.bool).toArray := by
   unfold madeCells
   apply Array.ext'
   apply List.ext_getElem?
   intro i
   by_cases hi : i < n
   ·simp [Value.cells, hi, Nat.mod_one]
   ·simp [hi]
  rw [e]
set_option maxRecDepth 100000 in
theorem both_any {W : World} {a : Option Addr} {n cap : Nat} {M : List GC} (hM : CellsAt W a n M) {q : Nat} {L : List Bool} (hL : BBlk W q L) (hl : L.length = n) (hw : wholeB M = true) (hn : n ≤ 1000) (i : Nat) (hi : i < n) :
    Calls Tryz.prog 186 #[.slice a n cap, .slice (some ⟨q, 0, none⟩) n n, .int .i64 i] W fun e w' => e = .returned (.bool (!nth false L (othC M i))) ∧ BBlk w' q (L.set (othC M i) true) ∧ Only [q] W w' := by
 have l1 := hM.len
 have hCi : M[i]? = some (nth GC.zero M i) := by rw [nth_eq _ _ _ (by omega), List.getElem?_eq_getElem (by omega)]
 obtain ⟨b1, o1, rfl, hb1, r1⟩ := hM.at_ i _ hCi
 obtain ⟨x0, x1, x2, x3, x4, x5, x6⟩ := vals_at r1
 have hj := othC_lt hw i (by omega)
 have hwa := whole_at hw i (by omega)
 obtain ⟨j, hjj⟩ : ∃ j, j = othC M i := ⟨_, rfl⟩
 have hje : j = (if (nth GC.zero M i).w = 2 then i + 1 else if (nth GC.zero M i).w = 0 then i - 1 else i) := hjj
 rw [← hjj] at hj ⊢
 rw [l1] at hj
 obtain ⟨c0, c1⟩ := hL.cell (i := j) (by omega)
 have hs := hL.set j true
 have hset : nth false L j = true → L.set j true = L := fun h => by
  apply List.ext_getElem?
  intro k
  rw [List.getElem?_set]
  split
  ·rename_i e
   subst e
   rw [nth_eq _ _ _ (by omega)] at h
   rw [if_pos (by omega), List.getElem?_eq_getElem (by omega), h]
  ·rfl
 obtain ⟨v, hv⟩ : ∃ v, v = nth false L j := ⟨_, rfl⟩
 rw [← hv] at c0 hset ⊢
 have HS := Lib.hid hs
 have HL := Lib.hid hL
 have HE := Lib.hid hset
 clear hs hL hset hv hCi r1 hw hM hjj x0 x2 x3 x4 x5 x6
 obtain ⟨cw, hcw⟩ : ∃ cw, cw = (nth GC.zero M i).w := ⟨_, rfl⟩
 rw [← hcw] at x1 hje hwa
 clear hcw
 have key : (cw = 1 ∧ j = i) ∨ (cw = 2 ∧ j = i + 1) ∨ (cw = 0 ∧ j + 1 = i) := by
  rcases hwa with h | ⟨h, _⟩ | ⟨h, h2, _⟩
  ·left; subst h; exact ⟨rfl, by rw [hje]; rfl⟩
  ·right; left; subst h; exact ⟨rfl, by rw [hje]; rfl⟩
  ·right; right; subst h; exact ⟨rfl, by rw [hje, if_neg (by decide), if_pos rfl]; omega⟩
 clear hwa hje l1
 rcases key with ⟨rfl, rfl⟩ | ⟨rfl, rfl⟩ | ⟨rfl, rfl⟩
 all_goals cases v with
  | true =>
   go_enter Tryz.func186, Tryz.ntmps186
   go_wp2
   go_ret
   exact ⟨rfl, by rw [HE.out trivial]; exact HL.out, Only.refl _ _⟩
  | false =>
   go_enter Tryz.func186, Tryz.ntmps186
   go_wp2
   go_ret
   exact ⟨rfl, HS.out, (Only.refl [q] W).setCell (.inl (by simp)) _⟩
theorem setB_ne {L : List Bool} {j : Nat} (hj : j < L.length) (h : nth false L j = false) : L.set j true ≠ L := fun e => by
 have := nth_setB L j j true
 rw [e, if_pos ⟨rfl, hj⟩, h] at this
 cases this
theorem setB_self {L : List Bool} {j : Nat} (h : nth false L j = true) : L.set j true = L := by
 apply List.ext_getElem?
 intro k
 rw [List.getElem?_set]
 split
 ·rename_i e
  subst e
  split
  ·rename_i hl
   rw [nth_eq _ _ _ hl] at h
   rw [List.getElem?_eq_getElem hl, h]
  ·rename_i hl
   rw [List.getElem?_eq_none (by omega)]
 ·rfl
theorem pass_again {oa ob : Nat → Nat} {L : List Bool} {i : Nat} (hl : i < L.length) (ha : oa i < L.length) (hb : ob i < L.length) (ht : nth false (passN oa ob L i) i = true) :
    decide (passN oa ob L (i + 1) ≠ L) = (decide (passN oa ob L i ≠ L) || (!nth false (passN oa ob L i) (oa i) || !nth false ((passN oa ob L i).set (oa i) true) (ob i))) := by
 have h1 := leB_pass oa ob L i
 have hln := passN_length oa ob L i
 have hm : passN oa ob L (i + 1) = ((passN oa ob L i).set (oa i) true).set (ob i) true := by rw [passN, markAt, if_pos ht]
 obtain ⟨P, hP⟩ : ∃ P, P = passN oa ob L i := ⟨_, rfl⟩
 rw [← hP] at h1 hln hm ht ⊢
 rw [hm]
 have l1 := leB_set P (oa i)
 have l2 := leB_set (P.set (oa i) true) (ob i)
 by_cases hne : P = L
 ·rw [decide_eq_false (p := P ≠ L) (fun h => h hne), Bool.false_or]
  cases hx : nth false P (oa i) with
  | false =>
   rw [Bool.not_false, Bool.true_or, decide_eq_true_eq]
   intro e
   have e2 : P.set (oa i) true = P := leB_antisymm (by simp) (by
    have := l2
    rw [e, ← hne] at this
    exact this) l1
   exact setB_ne (by rw [hln]; exact ha) hx e2
  | true =>
   rw [setB_self hx, Bool.not_true, Bool.false_or]
   cases hy : nth false P (ob i) with
   | false =>
    rw [Bool.not_false, decide_eq_true_eq, ← hne]
    exact setB_ne (by rw [hln]; exact hb) hy
   | true =>
    rw [setB_self hy, Bool.not_true]
    exact decide_eq_false (fun h => h hne)
 ·rw [decide_eq_true (p := P ≠ L) hne, Bool.true_or, decide_eq_true_eq]
  intro e
  apply hne
  refine leB_antisymm hln ?_ h1
  have := l1.trans l2
  rw [e] at this
  exact this
def lackW (W : World) (q : Nat) : Nat :=
 match W.heap[q]? with
 | some (.cells cs _ _) => (cs.toList.filter fun v => match v with | .bool false => true | _ => false).length
 | _ => 0
def againM : Value → Nat
 | .bool true => 1
 | _ => 0
theorem lack_list : ∀ L : List Bool, ((L.map Value.bool).filter fun v => match v with | .bool false => true | _ => false).length + trues L = L.length
 | [] => rfl
 | true :: t => by have := lack_list t; simp [trues] at this ⊢; omega
 | false :: t => by have := lack_list t; simp [trues] at this ⊢; omega
theorem lackW_blk {W : World} {q : Nat} {L : List Bool} (h : BBlk W q L) : lackW W q + trues L = L.length := by
 unfold lackW
 unfold BBlk at h
 rw [h]
 exact lack_list L
def dfN (A B : List GC) (k : Nat) : List Bool := (diffB A B).take k ++ List.replicate (A.length - k) false
theorem dfN_next {A B : List GC} (h : A.length = B.length) {k : Nat} (hk : k < A.length) : (dfN A B k).set k (!eqC (nth GC.zero A k) (nth GC.zero B k)) = dfN A B (k + 1) := by
 have hl := diffB_length A B h
 unfold dfN
 rw [List.set_append_right _ _ (by rw [List.length_take]; omega), List.length_take, show k - min k (diffB A B).length = 0 by omega, List.take_succ_eq_append_getElem (by omega), show A.length - k = (A.length - (k + 1)) + 1 by omega, List.replicate_succ, List.set_cons_zero, List.append_assoc, ← diffB_nth A B k h hk, nth_eq _ _ _ (by omega)]
 rfl
theorem dfN_end {A B : List GC} (h : A.length = B.length) : dfN A B A.length = diffB A B := by
 unfold dfN
 rw [List.take_of_length_le (by rw [diffB_length A B h]; exact Nat.le_refl _), Nat.sub_self]
 simp
theorem dfN_len {A B : List GC} (h : A.length = B.length) {k : Nat} (hk : k ≤ A.length) : (dfN A B k).length = A.length := by
 have hl := diffB_length A B h
 unfold dfN
 rw [List.length_append, List.length_take, List.length_replicate]
 omega
set_option maxRecDepth 100000 in
set_option maxHeartbeats 8000000 in
theorem changes_any {W : World} {a1 a2 : Option Addr} {n c1 c2 : Nat} {A B : List GC} (hA : CellsAt W a1 n A) (hB : CellsAt W a2 n B) (hn : n ≤ 1000) (wa : wholeB A = true) (wb : wholeB B = true) :
    Calls Tryz.prog 165 #[.slice a1 n c1, .slice a2 n c2] W fun e w' => ∃ q, e = .returned (.slice (some ⟨q, 0, none⟩) n n) ∧ W.heap.size ≤ q ∧ BBlk w' q (chgL A B) ∧ Below W.heap.size W w' := by
 have la := hA.len
 have lb := hB.len
 have lab : A.length = B.length := by rw [la, lb]
 have hmk := run_bmake W n (by omega)
 have HA := Lib.hid hA
 have HB := Lib.hid hB
 have WA := Lib.hid wa
 have WB := Lib.hid wb
 have LA := Lib.hid la
 have LB := Lib.hid lb
 have LAB := Lib.hid lab
 clear hA hB wa wb la lb lab
 have B0 : Hid (BBlk (W.alloc (.cells ((List.replicate n false).map Value.bool).toArray 4)) W.heap.size (dfN A B 0)) := Lib.hid (by
  have e : dfN A B 0 = List.replicate n false := by unfold dfN; rw [LA.out]; rfl
  rw [e]
  exact World.alloc_heap_new W _)
 have b0 : Below W.heap.size W (W.alloc (.cells ((List.replicate n false).map Value.bool).toArray 4)) := (Below.refl _ _).alloc (Nat.le_refl _) _
 have eA : ((List.replicate n false).map Value.bool).toArray = Array.replicate n (Value.bool false) := by simp
 rw [eA] at B0 b0
 clear eA
 go_enter Tryz.func165, Tryz.ntmps165
 go_wp2
 obtain ⟨q, hq⟩ : ∃ q, W.heap.size = q := ⟨_, rfl⟩
 obtain ⟨X0, hX0⟩ : ∃ X, W.alloc (.cells (Array.replicate n (Value.bool false)) 4) = X := ⟨_, rfl⟩
 rw [hX0, hq] at B0
 rw [hX0] at b0
 rw [hX0, hq]
 clear hmk hX0
 go_loopw [17] (fun i wr => ∃ k : Nat, k ≤ n ∧ i = .int .i64 k ∧ Hid (BBlk wr q (dfN A B k)) ∧ Below W.heap.size W wr) (fun i _ => n - (intOf i).toNat)
 case atStart => exact ⟨0, Nat.zero_le _, rfl, B0, b0⟩
 case round =>
  obtain ⟨k, hk, rfl, G, hb⟩ := hrel
  clear B0 b0
  by_cases hlt : k < n
  ·obtain ⟨C, hC⟩ : ∃ C, C = nth GC.zero A k := ⟨_, rfl⟩
   obtain ⟨D, hD⟩ : ∃ D, D = nth GC.zero B k := ⟨_, rfl⟩
   have hCi : A[k]? = some C := by rw [hC, nth_eq _ _ _ (by rw [LA.out]; exact hlt), List.getElem?_eq_getElem (by rw [LA.out]; exact hlt)]
   have hDi : B[k]? = some D := by rw [hD, nth_eq _ _ _ (by rw [LB.out]; exact hlt), List.getElem?_eq_getElem (by rw [LB.out]; exact hlt)]
   have hnext := dfN_next LAB.out (k := k) (by rw [LA.out]; exact hlt)
   rw [← hC, ← hD] at hnext
   have HNX := Lib.hid hnext
   obtain ⟨b1, o1, rfl, hb1, r1⟩ := (HA.out.below hb).at_ k C hCi
   obtain ⟨b2, o2, rfl, hb2, r2⟩ := (HB.out.below hb).at_ k D hDi
   obtain ⟨x0, x1, x2, x3, x4, x5, x6⟩ := vals_at r1
   have hq' := neq_gc C D
   obtain ⟨cs, cw, cy⟩ := C
   dsimp only at x0 x1 x2 x3 x4 x5 x6 hq'
   have hb1x : Below wr.heap.size wr (wr.alloc (.cells #[.string cs, .int .i64 cw, .bool cy.b, .bool cy.u, .bool cy.i, .int .i64 cy.f, .int .i64 cy.g] 88)) := (Below.refl _ _).alloc (Nat.le_refl _) _
   have g1 : GBlk (wr.alloc (.cells #[.string cs, .int .i64 cw, .bool cy.b, .bool cy.u, .bool cy.i, .int .i64 cy.f, .int .i64 cy.g] 88)) wr.heap.size [⟨cs, cw, cy⟩] := GBlk.made wr [⟨cs, cw, cy⟩]
   obtain ⟨X1, hX1⟩ : ∃ X, wr.alloc (.cells #[.string cs, .int .i64 cw, .bool cy.b, .bool cy.u, .bool cy.i, .int .i64 cy.f, .int .i64 cy.g] 88) = X := ⟨_, rfl⟩
   rw [hX1] at g1 hb1x
   have HX1 := Lib.hid hX1
   have r3 : X1.rangeAt b2 (o2 + k * 7) D.vals := fun j v hv => (hb1x.cell (p := ⟨b2, _, none⟩) hb2).trans (r2 j v hv)
   obtain ⟨t0, t1, t2, t3, t4, t5, t6⟩ := vals_at r3
   have gr := g1.range1 (i := 0) (c := ⟨cs, cw, cy⟩) rfl
   rw [Nat.mul_zero] at gr
   obtain ⟨y0, y1, y2, y3, y4, y5, y6⟩ := vals_at gr
   dsimp only [Nat.zero_add] at y0 y1 y2 y3 y4 y5 y6
   have hB1 := bto hb hb1x hb.size
   have G1 := (G.out.below hb1x).below ((Below.refl X1.heap.size X1).drew)
   obtain ⟨v0, v1⟩ := G1.cell (i := k) (by rw [dfN_len LAB.out (by rw [LA.out]; omega), LA.out]; exact hlt)
   have G2 := G1.set k (!eqC ⟨cs, cw, cy⟩ D)
   rw [hnext] at G2
   have G2 := Lib.hid G2
   have hqs : W.heap.size ≤ X1.drew.heap.size := hB1.drew.size
   have hB2 : Below W.heap.size W (X1.drew.setCell ⟨q, k, none⟩ (.bool (!eqC ⟨cs, cw, cy⟩ D))) := hB1.drew.setCell (p := ⟨q, k, none⟩) (by simp; omega) _
   clear hnext hC hD hCi hDi r1 r2 r3 gr g1 hX1 G1 hb1 hb2
   go_wp2_with fail
   rw [HX1.out]
   refine wp_region_still_tail 9 (by kernel_rfl) (by kernel_rfl) ?_
   simp only [List.take_succ_cons, List.take_zero, List.drop_succ_cons, List.drop_zero]
   repeat still_step
   refine wpStill_nil ?_
   change wpList _ _ _ _ _ X1.drew
   go_wp2
   go_roundw
   case rel => exact ⟨k + 1, hlt, by go_num, G2, hB2⟩
   case measure => simp [intOf]; omega
  ·obtain rfl : k = n := by omega
   have G1 : Hid (BBlk wr q (closeN (othC A) (othC B) (diffB A B) 0)) := Lib.hid (by
    have := G.out
    rw [← LA.out, dfN_end LAB.out] at this
    exact this)
   obtain ⟨L0, hL0⟩ : ∃ L, L = diffB A B := ⟨_, rfl⟩
   have HL0 : Hid (L0.length = k) := Lib.hid (by rw [hL0, diffB_length A B LAB.out, LA.out])
   have HCH : Hid (chgL A B = closeN (othC A) (othC B) L0 L0.length) := Lib.hid (by rw [hL0]; unfold chgL; rw [diffB_length A B LAB.out])
   rw [← hL0] at G1
   clear G hL0
   go_wp2
   go_loopw [8] (fun ag wr => ∃ m : Nat, Hid (BBlk wr q (closeN (othC A) (othC B) L0 m)) ∧ Below W.heap.size W wr ∧ ((ag = .bool true ∧ Hid (∀ j, j < m → closeN (othC A) (othC B) L0 (j + 1) ≠ closeN (othC A) (othC B) L0 j)) ∨ (ag = .bool false ∧ Hid (closeN (othC A) (othC B) L0 m = chgL A B)))) (fun ag wr => 2 * lackW wr q + againM ag)
   case atStart => exact ⟨0, G1, hb, .inl ⟨rfl, Lib.hid (fun j hj => absurd hj (Nat.not_lt_zero _))⟩⟩
   case round =>
    obtain ⟨m, G, hbm, hor⟩ := hrel
    clear G1 hb
    rcases hor with ⟨rfl, HI⟩ | ⟨rfl, HE⟩
    ·obtain ⟨P, hP⟩ : ∃ P, P = closeN (othC A) (othC B) L0 m := ⟨_, rfl⟩
     have HPL : Hid (P.length = k) := Lib.hid (by rw [hP, closeN_length, HL0.out])
     have HP := Lib.hid hP
     rw [← hP] at G
     clear hP
     have HM0 : Hid (lackW wr q + trues P = k) := Lib.hid (by have := lackW_blk G.out; rw [HPL.out] at this; exact this)
     go_wp2
     go_loopw [8, 35] (fun ag i wx => ∃ j : Nat, j ≤ k ∧ i = .int .i64 j ∧ ag = .bool (decide (passN (othC A) (othC B) P j ≠ P)) ∧ Hid (BBlk wx q (passN (othC A) (othC B) P j)) ∧ Below W.heap.size W wx) (fun _ i _ => k - (intOf i).toNat)
     case atStart => exact ⟨0, Nat.zero_le _, rfl, by simp [passN], G, hbm⟩
     case round =>
      obtain ⟨j, hj, rfl, rfl, G1, hbj⟩ := hrel
      obtain ⟨Q, hQ⟩ : ∃ Q, Q = passN (othC A) (othC B) P j := ⟨_, rfl⟩
      rw [← hQ] at G1
      have HQL : Hid (Q.length = k) := Lib.hid (by rw [hQ, passN_length, HPL.out])
      have HQ := Lib.hid hQ
      obtain ⟨d, hd⟩ : ∃ d, d = decide (passN (othC A) (othC B) P j ≠ P) := ⟨_, rfl⟩
      rw [← hd]
      rw [← hQ] at hd
      have HD := Lib.hid hd
      clear hQ hd G hbm
      have hs := hbj.size
      by_cases hlt2 : j < k
      ·have oA := othC_lt WA.out j (by rw [LA.out]; exact hlt2)
       have oB := othC_lt WB.out j (by rw [LB.out]; exact hlt2)
       rw [LA.out] at oA
       rw [LB.out] at oB
       obtain ⟨v0, _⟩ := G1.out.cell (i := j) (by rw [HQL.out]; exact hlt2)
       cases hv : nth false Q j with
       | false =>
        have HN : Hid (passN (othC A) (othC B) P (j + 1) = Q) := Lib.hid (by rw [passN, ← HQ.out, markAt, if_neg (by rw [hv]; decide)])
        rw [hv] at v0
        clear hv oA oB
        go_wp2
        go_roundw
        case rel => exact ⟨j + 1, hlt2, by go_num, congrArg Value.bool (by rw [HN.out, HD.out]), Lib.hid (by rw [HN.out]; exact G1.out), hbj⟩
        case measure => simp [intOf]; omega
       | true =>
        have HPA := pass_again (oa := othC A) (ob := othC B) (L := P) (i := j) (by rw [HPL.out]; exact hlt2) (by rw [HPL.out]; exact oA) (by rw [HPL.out]; exact oB) (by rw [← HQ.out]; exact hv)
        have HN : Hid (passN (othC A) (othC B) P (j + 1) = (Q.set (othC A j) true).set (othC B j) true) := Lib.hid (by rw [passN, ← HQ.out, markAt, if_pos hv])
        rw [← HQ.out, ← HD.out] at HPA
        rw [hv] at v0
        have CB1 := both_any (cap := c1) (HA.out.below hbj) G1.out HQL.out WA.out hn j hlt2
        obtain ⟨zx, hzx⟩ : ∃ z, z = !nth false Q (othC A j) := ⟨_, rfl⟩
        obtain ⟨zy, hzy⟩ : ∃ z, z = !nth false (Q.set (othC A j) true) (othC B j) := ⟨_, rfl⟩
        rw [← hzx] at CB1 HPA
        rw [← hzy] at HPA
        have CB2 := Lib.hid (fun (X : World) (hX : Below W.heap.size W X) (g : BBlk X q (Q.set (othC A j) true)) => (by
         have := both_any (cap := c2) (HB.out.below hX) g (by rw [List.length_set]; exact HQL.out) WB.out hn j hlt2
         rw [← hzy] at this
         exact this : Calls Tryz.prog 186 #[.slice a2 k c2, .slice (some ⟨q, 0, none⟩) k k, .int .i64 j] X fun e w' => e = .returned (.bool zy) ∧ BBlk w' q ((Q.set (othC A j) true).set (othC B j) true) ∧ Only [q] X w'))
        have CB1 := Lib.hid CB1
        have HPA := Lib.hid HPA
        clear hv oA oB hzx hzy
        go_wp2_with fail
        refine (CB1.out).mono ?_
        rintro e w1 ⟨rfl, g1, o1⟩
        have hb1 : Below W.heap.size W w1 := hbj.trans (o1.below (by simp; omega) hs)
        go_wp2_with fail
        refine (CB2.out _ hb1 g1).mono ?_
        rintro e w2 ⟨rfl, g2, o2⟩
        have hb2 : Below W.heap.size W w2 := hb1.trans (o2.below (by simp; omega) hb1.size)
        have G2 : Hid (BBlk w2 q (passN (othC A) (othC B) P (j + 1))) := Lib.hid (by rw [HN.out]; exact g2)
        clear g1 g2 o1 o2 hb1 CB1 CB2 HN HD v0 G1
        cases d <;> cases zx <;> cases zy
        all_goals
         go_wp2
         go_roundw
         case rel => exact ⟨j + 1, hlt2, by go_num, congrArg Value.bool (by rw [HPA.out]; rfl), G2, hb2⟩
         case measure => simp [intOf]; omega
      ·obtain rfl : j = k := by omega
       have HCK : Hid (closeN (othC A) (othC B) L0 (m + 1) = Q) := Lib.hid (by rw [closeN, HL0.out, ← HP.out, HQ.out])
       have e1 := lackW_blk G1.out
       rw [HQL.out] at e1
       have h1 : LeB P Q := by rw [HQ.out]; exact leB_pass _ _ _ _
       have h2 := leB_trues P Q (by rw [HPL.out, HQL.out]) h1
       have T : Hid (2 * lackW wr q + againM (.bool d) < 2 * j + 1 - 2 * trues P) := Lib.hid (by
        have h3 := HM0.out
        have h4 := HD.out
        cases d with
        | false => show 2 * lackW wr q + 0 < _; omega
        | true =>
         have h5 : trues P ≠ trues Q := fun e => (of_decide_eq_true h4.symm) (h2.2 e).symm
         show 2 * lackW wr q + 1 < _
         omega)
       clear e1 h1 h2
       go_wp2
       go_roundw
       case rel =>
        refine ⟨m + 1, Lib.hid (by rw [HCK.out]; exact G1.out), hbj, ?_⟩
        have h4 := HD.out
        cases d with
        | true =>
         refine .inl ⟨rfl, Lib.hid (fun i hi => ?_)⟩
         by_cases him : i < m
         ·exact HI.out i him
         ·obtain rfl : i = m := by omega
          rw [HCK.out, ← HP.out]
          exact of_decide_eq_true h4.symm
        | false =>
         refine .inr ⟨rfl, Lib.hid ?_⟩
         have hQP : Q = P := Classical.byContradiction fun h => of_decide_eq_false h4.symm h
         have hs2 : closeN (othC A) (othC B) L0 (m + 1) = closeN (othC A) (othC B) L0 m := by rw [HCK.out, hQP, HP.out]
         rw [hs2, HCH.out]
         exact close_stop HI.out hs2
       case measure =>
        have h3 := HM0.out
        have h4 := T.out
        show 2 * lackW wr q + againM (.bool d) < 2 * lackW _ q + 1
        omega
    ·have G2 := G.out
     rw [HE.out] at G2
     clear G
     go_wp2
     go_ret
     exact ⟨q, rfl, by omega, G2, hbm⟩
end Go.Proofs.YtjkajojjehgmdaaGreat
