/- The terminal ahead of a blank band and behind it, which have a letter each: what its bytes lead to. Plain. Spans of all rows. No condition. Spans of two frames, plain: where they begin and end; how many columns they are. No condition. The program's diff: marks in memory; both. No condition. The program's diff: which columns of two rows change. No condition. -/
import Derived.Test.YtekodpcedjpnjaaGreatRC19
import Derived.Test.YtekodpcedjpnjaaGreatRC26
set_option linter.unusedVariables false
set_option linter.unusedSimpArgs false
namespace Go.Proofs.YtekodpcedjpnjaaGreat
open Go.RowKit Go.Maps
def onsL (A B : List (List GC)) : List (List Bool) := List.zipWith chgL A B
theorem onsL_length {A B : List (List GC)} (h : A.length = B.length) : (onsL A B).length = A.length := by
  unfold onsL; rw [List.length_zipWith]; omega
theorem onsL_nth {A B : List (List GC)} (h : A.length = B.length) {r : Nat} (hr : r < A.length) : nth [] (onsL A B) r = chgL (nth [] A r) (nth [] B r) := by
  rw [nth_eq _ _ _ (by rw [onsL_length h]; exact hr), nth_eq _ _ _ hr, nth_eq _ _ _ (by omega)]
  unfold onsL
  rw [List.getElem_zipWith]
def spansK (A B : List (List GC)) (k : Nat) : List (Nat × Nat × Nat) := spansR 0 ((onsL A B).take k)
def spansM (A B : List (List GC)) : List (Nat × Nat × Nat) := spansR 0 (onsL A B)
def rowSp (k : Nat) (on : List Bool) : List (Nat × Nat × Nat) := (spansF 0 none on).map fun s => (k, s.1, s.2)
theorem spansR_snoc (on : List Bool) : ∀ (L : List (List Bool)) (r : Nat), spansR r (L ++ [on]) = spansR r L ++ rowSp (r + L.length) on
  | [], r => by simp [spansR, rowSp]
  | x :: L, r => by
    rw [List.cons_append, spansR, spansR_snoc on L (r + 1), spansR, List.append_assoc, List.length_cons, show r + 1 + L.length = r + (L.length + 1) by omega]
theorem spansK_next {A B : List (List GC)} (h : A.length = B.length) {k : Nat} (hk : k < A.length) : spansK A B (k + 1) = spansK A B k ++ rowSp k (chgL (nth [] A k) (nth [] B k)) := by
  unfold spansK
  have hl := onsL_length h
  rw [List.take_succ_eq_append_getElem (by omega), spansR_snoc, List.length_take, ← onsL_nth h hk, nth_eq _ _ _ (by omega), Nat.zero_add, Nat.min_eq_left (by omega)]
theorem spansK_end {A B : List (List GC)} (h : A.length = B.length) : spansK A B A.length = spansM A B := by
  unfold spansK spansM
  rw [List.take_of_length_le (by rw [onsL_length h]; exact Nat.le_refl _)]
theorem spansF_count : ∀ (L : List Bool) (i : Nat) (o : Option Nat), (spansF i o L).length ≤ L.length + (if o.isSome then 1 else 0)
  | [], i, none => by simp [spansF]
  | [], i, some a => by simp [spansF]
  | true :: t, i, none => by
    have := spansF_count t (i + 1) (some i)
    simp [spansF] at this ⊢; omega
  | true :: t, i, some a => by
    have := spansF_count t (i + 1) (some a)
    simp [spansF] at this ⊢; omega
  | false :: t, i, none => by
    have := spansF_count t (i + 1) none
    simp [spansF] at this ⊢; omega
  | false :: t, i, some a => by
    have := spansF_count t (i + 1) none
    simp [spansF] at this ⊢; omega
theorem rowSp_count (k : Nat) (on : List Bool) : (rowSp k on).length ≤ on.length := by
  have := spansF_count on 0 none
  unfold rowSp
  rw [List.length_map]
  simpa using this
theorem spansK_count {A B : List (List GC)} (h : A.length = B.length) {w : Nat} (hA : ∀ r, r < A.length → (nth [] A r).length = w) (hB : ∀ r, r < B.length → (nth [] B r).length = w) : ∀ k, k ≤ A.length → (spansK A B k).length ≤ w * k
  | 0, _ => Nat.zero_le _
  | k + 1, hk => by
    have h1 := spansK_count h hA hB k (by omega)
    have h2 := rowSp_count k (chgL (nth [] A k) (nth [] B k))
    rw [chgL_length (by rw [hA k (by omega), hB k (by omega)]), hA k (by omega)] at h2
    rw [spansK_next h (by omega), List.length_append, Nat.mul_succ]
    omega
theorem sumS_app (l m : List (Nat × Nat × Nat)) : sumS (l ++ m) = sumS l + sumS m := by
  unfold sumS
  rw [List.map_append, List.sum_append]
end Go.Proofs.YtekodpcedjpnjaaGreat
namespace Go.Proofs.YtekodpcedjpnjaaGreat
open Go.RowKit Go.Maps
structure Bd (M : List GC) (a e : Nat) : Prop where
  lt : a < e
  le : e ≤ M.length
  lo : a = 0 ∨ (nth GC.zero M (a - 1)).w ≠ 2
  hi : e = M.length ∨ (nth GC.zero M (e - 1)).w ≠ 2
structure OnS (on : List Bool) (s : Nat × Nat) : Prop where
  lt : s.1 < s.2
  le : s.2 ≤ on.length
  lo : s.1 = 0 ∨ nth false on (s.1 - 1) = false
  a : nth false on s.1 = true
  hi : s.2 = on.length ∨ nth false on s.2 = false
  e : nth false on (s.2 - 1) = true
theorem spansF_bd (on : List Bool) : ∀ (n i : Nat), on.length - i ≤ n → i ≤ on.length →
    ((i = 0 ∨ nth false on (i - 1) = false) → ∀ s ∈ spansF i none (on.drop i), OnS on s) ∧
    (∀ a, a < i → (a = 0 ∨ nth false on (a - 1) = false) → nth false on a = true → nth false on (i - 1) = true → ∀ s ∈ spansF i (some a) (on.drop i), OnS on s)
  | n, i, hn, hi => by
    by_cases h : i = on.length
    · refine ⟨fun _ s hs => ?_, fun a h1 h2 h3 h4 s hs => ?_⟩
      · rw [spansF_past on i (by omega)] at hs; cases hs
      · rw [List.drop_of_length_le (by omega), spansF] at hs
        rw [List.mem_singleton.1 hs]
        exact ⟨h1, hi, h2, h3, .inl h, h4⟩
    · obtain ⟨n, rfl⟩ : ∃ k, n = k + 1 := ⟨n - 1, by omega⟩
      have ih := spansF_bd on n (i + 1) (by omega) (by omega)
      have hlt : i < on.length := by omega
      refine ⟨fun h0 s hs => ?_, fun a h1 h2 h3 h4 s hs => ?_⟩
      · cases hv : nth false on i with
        | true =>
          rw [spansF_on on i hlt hv] at hs
          exact ih.2 i (by omega) h0 hv (by simpa using hv) s hs
        | false =>
          rw [spansF_off on i hlt hv] at hs
          exact ih.1 (.inr (by simpa using hv)) s hs
      · cases hv : nth false on i with
        | true =>
          rw [spansF_more on i a hlt hv] at hs
          exact ih.2 a (by omega) h2 h3 (by simpa using hv) s hs
        | false =>
          rw [spansF_shut on i a hlt hv] at hs
          rcases List.mem_cons.1 hs with rfl | hs
          · exact ⟨h1, hi, h2, h3, .inr hv, h4⟩
          · exact ih.1 (.inr (by simpa using hv)) s hs
theorem onS_bd {A B : List GC} {on : List Bool} (c : Chg A B on) {s : Nat × Nat} (h : OnS on s) : Bd B s.1 s.2 := by
  have hl := c.lb
  have h1 := h.lt
  have h2 := h.le
  refine ⟨h.lt, by omega, ?_, ?_⟩
  · rcases h.lo with h3 | h3
    · exact .inl h3
    · by_cases h0 : s.1 = 0
      · exact .inl h0
      · right
        have := (c.cut (s.1 - 1) (by omega) (by rw [h3, show s.1 - 1 + 1 = s.1 by omega, h.a]; decide)).2
        exact this
  · rcases h.hi with h3 | h3
    · left; omega
    · by_cases h0 : s.2 = on.length
      · left; omega
      · right
        have := (c.cut (s.2 - 1) (by omega) (by rw [h.e, show s.2 - 1 + 1 = s.2 by omega, h3]; decide)).2
        exact this
theorem spansR_mem : ∀ (L : List (List Bool)) (r : Nat) (s : Nat × Nat × Nat), s ∈ spansR r L → ∃ k, k < L.length ∧ s.1 = r + k ∧ s.2 ∈ spansF 0 none (nth [] L k)
  | [], _, _, h => by cases h
  | on :: L, r, s, h => by
    rw [spansR, List.mem_append] at h
    rcases h with h | h
    · obtain ⟨x, hx, rfl⟩ := List.mem_map.1 h
      exact ⟨0, by simp, rfl, hx⟩
    · obtain ⟨k, h1, h2, h3⟩ := spansR_mem L (r + 1) s h
      exact ⟨k + 1, by simp; omega, by omega, h3⟩
structure TwoF (A B : List (List GC)) (w : Nat) : Prop where
  n : A.length = B.length
  a : ∀ M ∈ A, M.length = w ∧ wholeB M = true
  b : ∀ M ∈ B, M.length = w ∧ wholeB M = true
theorem nth_memT {R : List (List GC)} {k : Nat} (h : k < R.length) : nth [] R k ∈ R := by rw [nth_eq _ _ _ h]; exact List.getElem_mem _
theorem TwoF.chg {A B : List (List GC)} {w : Nat} (t : TwoF A B w) {k : Nat} (hk : k < B.length) : Chg (nth [] A k) (nth [] B k) (chgL (nth [] A k) (nth [] B k)) := by
  obtain ⟨h1, h2⟩ := t.a _ (nth_memT (show k < A.length by rw [t.n]; exact hk))
  obtain ⟨h3, h4⟩ := t.b _ (nth_memT hk)
  exact chgL_chg (by rw [h1, h3]) h2 h4
theorem TwoF.bd {A B : List (List GC)} {w : Nat} (t : TwoF A B w) {s : Nat × Nat × Nat} (h : s ∈ spansM A B) : s.1 < B.length ∧ Bd (nth [] B s.1) s.2.1 s.2.2 := by
  obtain ⟨k, h1, h2, h3⟩ := spansR_mem _ _ _ h
  rw [onsL_length t.n] at h1
  have hk : k < B.length := by rw [← t.n]; exact h1
  have e : s.1 = k := by omega
  rw [e]
  rw [onsL_nth t.n h1] at h3
  exact ⟨hk, onS_bd (t.chg hk) ((spansF_bd _ _ 0 (Nat.le_refl _) (Nat.zero_le _)).1 (.inl rfl) _ h3)⟩
def sumF (l : List (Nat × Nat)) : Nat := (l.map fun s => s.2 - s.1).sum
theorem spansF_sum : ∀ (L : List Bool) (i : Nat) (o : Option Nat), sumF (spansF i o L) ≤ L.length + (match o with | none => 0 | some a => i - a)
  | [], i, none => by simp [spansF, sumF]
  | [], i, some a => by simp [spansF, sumF]
  | true :: t, i, none => by
    have := spansF_sum t (i + 1) (some i)
    simp only [spansF, List.length_cons] at this ⊢; omega
  | true :: t, i, some a => by
    have := spansF_sum t (i + 1) (some a)
    simp only [spansF, List.length_cons] at this ⊢; omega
  | false :: t, i, none => by
    have := spansF_sum t (i + 1) none
    simp only [spansF, List.length_cons] at this ⊢; omega
  | false :: t, i, some a => by
    have := spansF_sum t (i + 1) none
    simp only [spansF, List.length_cons, sumF, List.map_cons, List.sum_cons] at this ⊢; omega
theorem sumS_map (r : Nat) (l : List (Nat × Nat)) : sumS (l.map fun s => (r, s.1, s.2)) = sumF l := by
  unfold sumS sumF
  rw [List.map_map]
  rfl
theorem spansR_sum : ∀ (L : List (List Bool)) (r w : Nat), (∀ on ∈ L, on.length = w) → sumS (spansR r L) ≤ w * L.length
  | [], r, w, _ => by simp [spansR, sumS]
  | on :: L, r, w, h => by
    have h1 := spansR_sum L (r + 1) w (fun x hx => h x (List.mem_cons_of_mem _ hx))
    have h2 := spansF_sum on 0 none
    have h3 := h on (List.mem_cons_self ..)
    simp only [Nat.add_zero] at h2
    rw [spansR, sumS_app, sumS_map, List.length_cons, Nat.mul_succ]
    omega
theorem TwoF.ons {A B : List (List GC)} {w : Nat} (t : TwoF A B w) : ∀ on ∈ onsL A B, on.length = w := fun on h => by
  obtain ⟨k, hk, rfl⟩ := List.getElem_of_mem h
  have hk' := hk
  rw [onsL_length t.n] at hk'
  rw [← nth_eq [] _ _ hk, onsL_nth t.n hk', chgL_length, (t.a _ (nth_memT hk')).1]
  rw [(t.a _ (nth_memT hk')).1, (t.b _ (nth_memT (by rw [← t.n]; exact hk'))).1]
theorem TwoF.sum {A B : List (List GC)} {w : Nat} (t : TwoF A B w) : sumS (spansM A B) ≤ w * A.length := by
  have := spansR_sum (onsL A B) 0 w t.ons
  rw [onsL_length t.n] at this
  exact this
theorem sumS_take (l : List (Nat × Nat × Nat)) (j : Nat) : sumS (l.take j) ≤ sumS l := by
  have := sumS_app (l.take j) (l.drop j)
  rw [List.take_append_drop] at this
  omega
end Go.Proofs.YtekodpcedjpnjaaGreat
namespace Go.Proofs.YtekodpcedjpnjaaGreat
open Go.RowKit Go.Shelf Go.Maps
def BBlk (W : World) (q : Nat) (L : List Bool) : Prop := W.heap[q]? = some (.cells (L.map Value.bool).toArray 4 (0, 0))
theorem BBlk.lt {W : World} {q : Nat} {L : List Bool} (h : BBlk W q L) : q < W.heap.size := (Array.getElem?_eq_some_iff.1 h).1
theorem BBlk.only {W X : World} {q : Nat} {L : List Bool} {S : List Nat} (h : BBlk W q L) (ho : Only S W X) (hs : q ∉ S) : BBlk X q L := ho.heap h hs
theorem BBlk.below {W X : World} {q : Nat} {L : List Bool} (h : BBlk W q L) (hb : Below W.heap.size W X) : BBlk X q L := (hb.block q h.lt).trans h
theorem BBlk.cell {W : World} {q : Nat} {L : List Bool} (h : BBlk W q L) {i : Nat} (hi : i < L.length) : W.cell? ⟨q, i, none⟩ = some (.bool (nth false L i)) ∧ W.frozen? ⟨q, i, none⟩ = false := by
  unfold BBlk at h
  unfold World.cell? World.frozen?
  dsimp only
  rw [h, nth_eq _ _ _ hi]
  simp [hi]
theorem BBlk.set {W : World} {q : Nat} {L : List Bool} (h : BBlk W q L) (i : Nat) (x : Bool) : BBlk (W.setCell ⟨q, i, none⟩ (.bool x)) q (L.set i x) := by
  unfold BBlk at h ⊢
  unfold World.setCell
  dsimp only
  rw [Array.getElem?_modify, if_pos rfl, h]
  simp [List.map_set]
theorem run_bmake (W : World) (n : Nat) (hn : n ≤ 1000000) :
    (Instr.makeSlice 175 (.int .i64 (n : Int)) (.int .i64 (n : Int))).run Tryz.prog W = .ok (.slice (some ⟨W.heap.size, 0, none⟩) n n) (W.alloc (.cells ((List.replicate n false).map Value.bool).toArray 4)) := by
  have hs : (Tryz.prog.info? 4).map (fun i => (i.zero, i.size, decide (i.bytes ≤ 1000))) = some (some (.bool false), 1, true) := by kernel_rfl
  cases hq : Tryz.prog.info? 4 with
  | none => rw [hq] at hs; cases hs
  | some i =>
    rw [hq] at hs
    simp only [Option.map_some, Option.some.injEq, Prod.mk.injEq, decide_eq_true_eq] at hs
    obtain ⟨h1, h2, h3⟩ := hs
    have := run_make (P := Tryz.prog) W 175 4 i (.bool false) Tryz.underlying175 hq h1 .i64 .i64 n n (by omega) (by omega) (by have : i.bytes * n ≤ 1000 * 1000000 := Nat.mul_le_mul h3 hn; rw [← Int.natCast_mul]; omega) (by omega)
    rw [this]
    simp only [Int.toNat_natCast, h2]
    have e : madeCells (Value.bool false).cells (n * 1) = ((List.replicate n false).map Value.bool).toArray := by
      unfold madeCells
      apply Array.ext'
      apply List.ext_getElem?
      intro i
      by_cases hi : i < n
      · simp [Value.cells, hi, Nat.mod_one]
      · simp [hi]
    rw [e]
set_option maxRecDepth 100000 in
theorem both_any {W : World} {a : Option Addr} {n cap : Nat} {M : List GC} (hM : CellsAt W a n M) {q : Nat} {L : List Bool} (hL : BBlk W q L) (hl : L.length = n) (hw : wholeB M = true) (hn : n ≤ 1000) (i : Nat) (hi : i < n) :
    Calls Tryz.prog 223 #[.slice a n cap, .slice (some ⟨q, 0, none⟩) n n, .int .i64 i] W fun e w' => e = .returned (.bool (!nth false L (othC M i))) ∧ BBlk w' q (L.set (othC M i) true) ∧ Only [q] W w' := by
  have l1 := hM.len
  have hCi : M[i]? = some (nth GC.zero M i) := by rw [nth_eq _ _ _ (by omega), List.getElem?_eq_getElem (by omega)]
  obtain ⟨b1, o1, rfl, hb1, r1⟩ := hM.at_ i _ hCi
  obtain ⟨x0, x1, x2, x3, x4, x5, x6⟩ := vals_at r1
  have hj := othC_lt hw i (by omega)
  have hwa := whole_at hw i (by omega)
  obtain ⟨j, hjj⟩ : ∃ j, j = othC M i := ⟨_, rfl⟩
  have hje : j = (if (nth GC.zero M i).w = 2 then i + 1 else if (nth GC.zero M i).w = 0 then i - 1 else i) := hjj
  rw [← hjj] at hj ⊢
  rw [l1] at hj
  obtain ⟨c0, c1⟩ := hL.cell (i := j) (by omega)
  have hs := hL.set j true
  have hset : nth false L j = true → L.set j true = L := fun h => by
    apply List.ext_getElem?
    intro k
    rw [List.getElem?_set]
    split
    · rename_i e
      subst e
      rw [nth_eq _ _ _ (by omega)] at h
      rw [if_pos (by omega), List.getElem?_eq_getElem (by omega), h]
    · rfl
  obtain ⟨v, hv⟩ : ∃ v, v = nth false L j := ⟨_, rfl⟩
  rw [← hv] at c0 hset ⊢
  have HS := Lib.hid hs
  have HL := Lib.hid hL
  have HE := Lib.hid hset
  clear hs hL hset hv hCi r1 hw hM hjj x0 x2 x3 x4 x5 x6
  obtain ⟨cw, hcw⟩ : ∃ cw, cw = (nth GC.zero M i).w := ⟨_, rfl⟩
  rw [← hcw] at x1 hje hwa
  clear hcw
  have key : (cw = 1 ∧ j = i) ∨ (cw = 2 ∧ j = i + 1) ∨ (cw = 0 ∧ j + 1 = i) := by
    rcases hwa with h | ⟨h, _⟩ | ⟨h, h2, _⟩
    · left; subst h; exact ⟨rfl, by rw [hje]; rfl⟩
    · right; left; subst h; exact ⟨rfl, by rw [hje]; rfl⟩
    · right; right; subst h; exact ⟨rfl, by rw [hje, if_neg (by decide), if_pos rfl]; omega⟩
  clear hwa hje l1
  rcases key with ⟨rfl, rfl⟩ | ⟨rfl, rfl⟩ | ⟨rfl, rfl⟩
  all_goals cases v with
    | true =>
      go_enter Tryz.func223, Tryz.ntmps223
      go_wp2
      go_ret
      exact ⟨rfl, by rw [HE.out trivial]; exact HL.out, Only.refl _ _⟩
    | false =>
      go_enter Tryz.func223, Tryz.ntmps223
      go_wp2
      go_ret
      exact ⟨rfl, HS.out, (Only.refl [q] W).setCell (.inl (by simp)) _⟩
end Go.Proofs.YtekodpcedjpnjaaGreat
namespace Go.Proofs.YtekodpcedjpnjaaGreat
open Go.RowKit Go.Shelf Go.Maps
theorem setB_ne {L : List Bool} {j : Nat} (hj : j < L.length) (h : nth false L j = false) : L.set j true ≠ L := fun e => by
  have := nth_setB L j j true
  rw [e, if_pos ⟨rfl, hj⟩, h] at this
  cases this
theorem setB_self {L : List Bool} {j : Nat} (h : nth false L j = true) : L.set j true = L := by
  apply List.ext_getElem?
  intro k
  rw [List.getElem?_set]
  split
  · rename_i e
    subst e
    split
    · rename_i hl
      rw [nth_eq _ _ _ hl] at h
      rw [List.getElem?_eq_getElem hl, h]
    · rename_i hl
      rw [List.getElem?_eq_none (by omega)]
  · rfl
theorem pass_again {oa ob : Nat → Nat} {L : List Bool} {i : Nat} (hl : i < L.length) (ha : oa i < L.length) (hb : ob i < L.length) (ht : nth false (passN oa ob L i) i = true) :
    decide (passN oa ob L (i + 1) ≠ L) = (decide (passN oa ob L i ≠ L) || (!nth false (passN oa ob L i) (oa i) || !nth false ((passN oa ob L i).set (oa i) true) (ob i))) := by
  have h1 := leB_pass oa ob L i
  have hln := passN_length oa ob L i
  have hm : passN oa ob L (i + 1) = ((passN oa ob L i).set (oa i) true).set (ob i) true := by rw [passN, markAt, if_pos ht]
  obtain ⟨P, hP⟩ : ∃ P, P = passN oa ob L i := ⟨_, rfl⟩
  rw [← hP] at h1 hln hm ht ⊢
  rw [hm]
  have l1 := leB_set P (oa i)
  have l2 := leB_set (P.set (oa i) true) (ob i)
  by_cases hne : P = L
  · rw [decide_eq_false (p := P ≠ L) (fun h => h hne), Bool.false_or]
    cases hx : nth false P (oa i) with
    | false =>
      rw [Bool.not_false, Bool.true_or, decide_eq_true_eq]
      intro e
      have e2 : P.set (oa i) true = P := leB_antisymm (by simp) (by
        have := l2
        rw [e, ← hne] at this
        exact this) l1
      exact setB_ne (by rw [hln]; exact ha) hx e2
    | true =>
      rw [setB_self hx, Bool.not_true, Bool.false_or]
      cases hy : nth false P (ob i) with
      | false =>
        rw [Bool.not_false, decide_eq_true_eq, ← hne]
        exact setB_ne (by rw [hln]; exact hb) hy
      | true =>
        rw [setB_self hy, Bool.not_true]
        exact decide_eq_false (fun h => h hne)
  · rw [decide_eq_true (p := P ≠ L) hne, Bool.true_or, decide_eq_true_eq]
    intro e
    apply hne
    refine leB_antisymm hln ?_ h1
    have := l1.trans l2
    rw [e] at this
    exact this
def lackW (W : World) (q : Nat) : Nat :=
  match W.heap[q]? with
  | some (.cells cs _ _) => (cs.toList.filter fun v => match v with | .bool false => true | _ => false).length
  | _ => 0
def againM : Value → Nat
  | .bool true => 1
  | _ => 0
theorem lack_list : ∀ L : List Bool, ((L.map Value.bool).filter fun v => match v with | .bool false => true | _ => false).length + trues L = L.length
  | [] => rfl
  | true :: t => by have := lack_list t; simp [trues] at this ⊢; omega
  | false :: t => by have := lack_list t; simp [trues] at this ⊢; omega
theorem lackW_blk {W : World} {q : Nat} {L : List Bool} (h : BBlk W q L) : lackW W q + trues L = L.length := by
  unfold lackW
  unfold BBlk at h
  rw [h]
  exact lack_list L
def dfN (A B : List GC) (k : Nat) : List Bool := (diffB A B).take k ++ List.replicate (A.length - k) false
theorem dfN_next {A B : List GC} (h : A.length = B.length) {k : Nat} (hk : k < A.length) : (dfN A B k).set k (!eqC (nth GC.zero A k) (nth GC.zero B k)) = dfN A B (k + 1) := by
  have hl := diffB_length A B h
  unfold dfN
  rw [List.set_append_right _ _ (by rw [List.length_take]; omega), List.length_take, show k - min k (diffB A B).length = 0 by omega, List.take_succ_eq_append_getElem (by omega), show A.length - k = (A.length - (k + 1)) + 1 by omega, List.replicate_succ, List.set_cons_zero, List.append_assoc, ← diffB_nth A B k h hk, nth_eq _ _ _ (by omega)]
  rfl
theorem dfN_end {A B : List GC} (h : A.length = B.length) : dfN A B A.length = diffB A B := by
  unfold dfN
  rw [List.take_of_length_le (by rw [diffB_length A B h]; exact Nat.le_refl _), Nat.sub_self]
  simp
theorem dfN_len {A B : List GC} (h : A.length = B.length) {k : Nat} (hk : k ≤ A.length) : (dfN A B k).length = A.length := by
  have hl := diffB_length A B h
  unfold dfN
  rw [List.length_append, List.length_take, List.length_replicate]
  omega
end Go.Proofs.YtekodpcedjpnjaaGreat
