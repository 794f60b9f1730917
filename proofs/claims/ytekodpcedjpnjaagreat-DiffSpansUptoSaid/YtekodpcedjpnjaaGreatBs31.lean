/- Frames of any cells: the program's and the reference's Same. No condition but on the rows' number and lengths. The program's diff: marks in memory; both. No condition. The program's diff: which columns of two rows change. No condition. -/
import Derived.Test.YtekodpcedjpnjaaGreatBs15
import Derived.Test.YtekodpcedjpnjaaGreatBs30
set_option linter.unusedVariables false
set_option linter.unusedSimpArgs false
namespace Go.Proofs.YtekodpcedjpnjaaGreat
open Go.RowKit Go.Shelf Go.Maps
def FBI (W : World) (F : Nat) (v : Value) (r c : Int) (s : Bool) : Prop := W.heap[F]? = some (.cells #[v, .int .i64 r, .int .i64 c, .bool s] 52 (0, 0))
theorem FBI.lt {W : World} {F : Nat} {v : Value} {r c : Int} {s : Bool} (h : FBI W F v r c s) : F < W.heap.size := (Array.getElem?_eq_some_iff.1 h).1
theorem FBI.cells {W : World} {F : Nat} {v : Value} {r c : Int} {s : Bool} (h : FBI W F v r c s) :
    W.cell? ⟨F, 0, none⟩ = some v ∧ W.cell? ⟨F, 1, none⟩ = some (.int .i64 r) ∧ W.cell? ⟨F, 2, none⟩ = some (.int .i64 c) ∧ W.cell? ⟨F, 3, none⟩ = some (.bool s) := by
  refine ⟨?_, ?_, ?_, ?_⟩ <;> rw [cell_of_row W F _ _ _ _ h] <;> rfl
theorem FBI.below {W W' : World} {F : Nat} {v : Value} {r c : Int} {s : Bool} (h : FBI W F v r c s) (hb : Below W.heap.size W W') : FBI W' F v r c s := (hb.block F h.lt).trans h
end Go.Proofs.YtekodpcedjpnjaaGreat
namespace Go.Proofs.YtekodpcedjpnjaaGreat
open Go.RowKit Go.Shelf Go.Maps
end Go.Proofs.YtekodpcedjpnjaaGreat
namespace Go.Proofs.YtekodpcedjpnjaaGreat
open Go.RowKit Go.Shelf Go.Maps
def BBlk (W : World) (q : Nat) (L : List Bool) : Prop := W.heap[q]? = some (.cells (L.map Value.bool).toArray 4 (0, 0))
theorem BBlk.lt {W : World} {q : Nat} {L : List Bool} (h : BBlk W q L) : q < W.heap.size := (Array.getElem?_eq_some_iff.1 h).1
theorem BBlk.only {W X : World} {q : Nat} {L : List Bool} {S : List Nat} (h : BBlk W q L) (ho : Only S W X) (hs : q ∉ S) : BBlk X q L := ho.heap h hs
theorem BBlk.below {W X : World} {q : Nat} {L : List Bool} (h : BBlk W q L) (hb : Below W.heap.size W X) : BBlk X q L := (hb.block q h.lt).trans h
theorem BBlk.cell {W : World} {q : Nat} {L : List Bool} (h : BBlk W q L) {i : Nat} (hi : i < L.length) : W.cell? ⟨q, i, none⟩ = some (.bool (nth false L i)) ∧ W.frozen? ⟨q, i, none⟩ = false := by
  unfold BBlk at h
  unfold World.cell? World.frozen?
  dsimp only
  rw [h, nth_eq _ _ _ hi]
  simp [hi]
theorem BBlk.set {W : World} {q : Nat} {L : List Bool} (h : BBlk W q L) (i : Nat) (x : Bool) : BBlk (W.setCell ⟨q, i, none⟩ (.bool x)) q (L.set i x) := by
  unfold BBlk at h ⊢
  unfold World.setCell
  dsimp only
  rw [Array.getElem?_modify, if_pos rfl, h]
  simp [List.map_set]
theorem run_bmake (W : World) (n : Nat) (hn : n ≤ 1000000) :
    (Instr.makeSlice 175 (.int .i64 (n : Int)) (.int .i64 (n : Int))).run Tryz.prog W = .ok (.slice (some ⟨W.heap.size, 0, none⟩) n n) (W.alloc (.cells ((List.replicate n false).map Value.bool).toArray 4)) := by
  have hs : (Tryz.prog.info? 4).map (fun i => (i.zero, i.size, decide (i.bytes ≤ 1000))) = some (some (.bool false), 1, true) := by kernel_rfl
  cases hq : Tryz.prog.info? 4 with
  | none => rw [hq] at hs; cases hs
  | some i =>
    rw [hq] at hs
    simp only [Option.map_some, Option.some.injEq, Prod.mk.injEq, decide_eq_true_eq] at hs
    obtain ⟨h1, h2, h3⟩ := hs
    have := run_make (P := Tryz.prog) W 175 4 i (.bool false) Tryz.underlying175 hq h1 .i64 .i64 n n (by omega) (by omega) (by have : i.bytes * n ≤ 1000 * 1000000 := Nat.mul_le_mul h3 hn; rw [← Int.natCast_mul]; omega) (by omega)
    rw [this]
    simp only [Int.toNat_natCast, h2]
    have e : madeCells (Value.bool false).cells (n * 1) = ((List.replicate n false).map Value.bool).toArray := by
      unfold madeCells
      apply Array.ext'
      apply List.ext_getElem?
      intro i
      by_cases hi : i < n
      · simp [Value.cells, hi, Nat.mod_one]
      · simp [hi]
    rw [e]
set_option maxRecDepth 100000 in
theorem both_any {W : World} {a : Option Addr} {n cap : Nat} {M : List GC} (hM : CellsAt W a n M) {q : Nat} {L : List Bool} (hL : BBlk W q L) (hl : L.length = n) (hw : wholeB M = true) (hn : n ≤ 1000) (i : Nat) (hi : i < n) :
    Calls Tryz.prog 223 #[.slice a n cap, .slice (some ⟨q, 0, none⟩) n n, .int .i64 i] W fun e w' => e = .returned (.bool (!nth false L (othC M i))) ∧ BBlk w' q (L.set (othC M i) true) ∧ Only [q] W w' := by
  have l1 := hM.len
  have hCi : M[i]? = some (nth GC.zero M i) := by rw [nth_eq _ _ _ (by omega), List.getElem?_eq_getElem (by omega)]
  obtain ⟨b1, o1, rfl, hb1, r1⟩ := hM.at_ i _ hCi
  obtain ⟨x0, x1, x2, x3, x4, x5, x6⟩ := vals_at r1
  have hj := othC_lt hw i (by omega)
  have hwa := whole_at hw i (by omega)
  obtain ⟨j, hjj⟩ : ∃ j, j = othC M i := ⟨_, rfl⟩
  have hje : j = (if (nth GC.zero M i).w = 2 then i + 1 else if (nth GC.zero M i).w = 0 then i - 1 else i) := hjj
  rw [← hjj] at hj ⊢
  rw [l1] at hj
  obtain ⟨c0, c1⟩ := hL.cell (i := j) (by omega)
  have hs := hL.set j true
  have hset : nth false L j = true → L.set j true = L := fun h => by
    apply List.ext_getElem?
    intro k
    rw [List.getElem?_set]
    split
    · rename_i e
      subst e
      rw [nth_eq _ _ _ (by omega)] at h
      rw [if_pos (by omega), List.getElem?_eq_getElem (by omega), h]
    · rfl
  obtain ⟨v, hv⟩ : ∃ v, v = nth false L j := ⟨_, rfl⟩
  rw [← hv] at c0 hset ⊢
  have HS := Lib.hid hs
  have HL := Lib.hid hL
  have HE := Lib.hid hset
  clear hs hL hset hv hCi r1 hw hM hjj x0 x2 x3 x4 x5 x6
  obtain ⟨cw, hcw⟩ : ∃ cw, cw = (nth GC.zero M i).w := ⟨_, rfl⟩
  rw [← hcw] at x1 hje hwa
  clear hcw
  have key : (cw = 1 ∧ j = i) ∨ (cw = 2 ∧ j = i + 1) ∨ (cw = 0 ∧ j + 1 = i) := by
    rcases hwa with h | ⟨h, _⟩ | ⟨h, h2, _⟩
    · left; subst h; exact ⟨rfl, by rw [hje]; rfl⟩
    · right; left; subst h; exact ⟨rfl, by rw [hje]; rfl⟩
    · right; right; subst h; exact ⟨rfl, by rw [hje, if_neg (by decide), if_pos rfl]; omega⟩
  clear hwa hje l1
  rcases key with ⟨rfl, rfl⟩ | ⟨rfl, rfl⟩ | ⟨rfl, rfl⟩
  all_goals cases v with
    | true =>
      go_enter Tryz.func223, Tryz.ntmps223
      go_wp2
      go_ret
      exact ⟨rfl, by rw [HE.out trivial]; exact HL.out, Only.refl _ _⟩
    | false =>
      go_enter Tryz.func223, Tryz.ntmps223
      go_wp2
      go_ret
      exact ⟨rfl, HS.out, (Only.refl [q] W).setCell (.inl (by simp)) _⟩
end Go.Proofs.YtekodpcedjpnjaaGreat
namespace Go.Proofs.YtekodpcedjpnjaaGreat
open Go.RowKit Go.Shelf Go.Maps
theorem setB_ne {L : List Bool} {j : Nat} (hj : j < L.length) (h : nth false L j = false) : L.set j true ≠ L := fun e => by
  have := nth_setB L j j true
  rw [e, if_pos ⟨rfl, hj⟩, h] at this
  cases this
theorem setB_self {L : List Bool} {j : Nat} (h : nth false L j = true) : L.set j true = L := by
  apply List.ext_getElem?
  intro k
  rw [List.getElem?_set]
  split
  · rename_i e
    subst e
    split
    · rename_i hl
      rw [nth_eq _ _ _ hl] at h
      rw [List.getElem?_eq_getElem hl, h]
    · rename_i hl
      rw [List.getElem?_eq_none (by omega)]
  · rfl
theorem pass_again {oa ob : Nat → Nat} {L : List Bool} {i : Nat} (hl : i < L.length) (ha : oa i < L.length) (hb : ob i < L.length) (ht : nth false (passN oa ob L i) i = true) :
    decide (passN oa ob L (i + 1) ≠ L) = (decide (passN oa ob L i ≠ L) || (!nth false (passN oa ob L i) (oa i) || !nth false ((passN oa ob L i).set (oa i) true) (ob i))) := by
  have h1 := leB_pass oa ob L i
  have hln := passN_length oa ob L i
  have hm : passN oa ob L (i + 1) = ((passN oa ob L i).set (oa i) true).set (ob i) true := by rw [passN, markAt, if_pos ht]
  obtain ⟨P, hP⟩ : ∃ P, P = passN oa ob L i := ⟨_, rfl⟩
  rw [← hP] at h1 hln hm ht ⊢
  rw [hm]
  have l1 := leB_set P (oa i)
  have l2 := leB_set (P.set (oa i) true) (ob i)
  by_cases hne : P = L
  · rw [decide_eq_false (p := P ≠ L) (fun h => h hne), Bool.false_or]
    cases hx : nth false P (oa i) with
    | false =>
      rw [Bool.not_false, Bool.true_or, decide_eq_true_eq]
      intro e
      have e2 : P.set (oa i) true = P := leB_antisymm (by simp) (by
        have := l2
        rw [e, ← hne] at this
        exact this) l1
      exact setB_ne (by rw [hln]; exact ha) hx e2
    | true =>
      rw [setB_self hx, Bool.not_true, Bool.false_or]
      cases hy : nth false P (ob i) with
      | false =>
        rw [Bool.not_false, decide_eq_true_eq, ← hne]
        exact setB_ne (by rw [hln]; exact hb) hy
      | true =>
        rw [setB_self hy, Bool.not_true]
        exact decide_eq_false (fun h => h hne)
  · rw [decide_eq_true (p := P ≠ L) hne, Bool.true_or, decide_eq_true_eq]
    intro e
    apply hne
    refine leB_antisymm hln ?_ h1
    have := l1.trans l2
    rw [e] at this
    exact this
def lackW (W : World) (q : Nat) : Nat :=
  match W.heap[q]? with
  | some (.cells cs _ _) => (cs.toList.filter fun v => match v with | .bool false => true | _ => false).length
  | _ => 0
def againM : Value → Nat
  | .bool true => 1
  | _ => 0
theorem lack_list : ∀ L : List Bool, ((L.map Value.bool).filter fun v => match v with | .bool false => true | _ => false).length + trues L = L.length
  | [] => rfl
  | true :: t => by have := lack_list t; simp [trues] at this ⊢; omega
  | false :: t => by have := lack_list t; simp [trues] at this ⊢; omega
theorem lackW_blk {W : World} {q : Nat} {L : List Bool} (h : BBlk W q L) : lackW W q + trues L = L.length := by
  unfold lackW
  unfold BBlk at h
  rw [h]
  exact lack_list L
def dfN (A B : List GC) (k : Nat) : List Bool := (diffB A B).take k ++ List.replicate (A.length - k) false
theorem dfN_next {A B : List GC} (h : A.length = B.length) {k : Nat} (hk : k < A.length) : (dfN A B k).set k (!eqC (nth GC.zero A k) (nth GC.zero B k)) = dfN A B (k + 1) := by
  have hl := diffB_length A B h
  unfold dfN
  rw [List.set_append_right _ _ (by rw [List.length_take]; omega), List.length_take, show k - min k (diffB A B).length = 0 by omega, List.take_succ_eq_append_getElem (by omega), show A.length - k = (A.length - (k + 1)) + 1 by omega, List.replicate_succ, List.set_cons_zero, List.append_assoc, ← diffB_nth A B k h hk, nth_eq _ _ _ (by omega)]
  rfl
theorem dfN_end {A B : List GC} (h : A.length = B.length) : dfN A B A.length = diffB A B := by
  unfold dfN
  rw [List.take_of_length_le (by rw [diffB_length A B h]; exact Nat.le_refl _), Nat.sub_self]
  simp
theorem dfN_len {A B : List GC} (h : A.length = B.length) {k : Nat} (hk : k ≤ A.length) : (dfN A B k).length = A.length := by
  have hl := diffB_length A B h
  unfold dfN
  rw [List.length_append, List.length_take, List.length_replicate]
  omega
end Go.Proofs.YtekodpcedjpnjaaGreat
