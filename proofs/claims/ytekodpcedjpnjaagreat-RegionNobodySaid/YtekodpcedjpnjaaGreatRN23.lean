/- Rows of cells: what the grid's methods make of them, row by row, and that the cells of a grid in one list are these rows laid behind each other. No condition. Rows of cells: what another size makes of them. No condition. -/
import Derived.Deep.RegionHeldLaw
import Derived.Deep.DeepCutAuto
import Derived.Test.YtekodpcedjpnjaaGreatRN05
set_option linter.unusedVariables false
set_option linter.unusedSimpArgs false
namespace Go.Proofs.YtekodpcedjpnjaaGreat
open Go.RowKit Go.Maps
theorem nth_mid {α : Type} (d : α) (A M B : List α) (c : Nat) (h : c < M.length) : nth d (A ++ M ++ B) (A.length + c) = nth d M c := by
  rw [nth_eq _ _ _ (by simp; omega), nth_eq _ _ _ h]
  rw [List.getElem_append_left (by simp; omega), List.getElem_append_right (by omega)]
  congr 1; omega
theorem set_mid {α : Type} (A M B : List α) (c : Nat) (x : α) (h : c < M.length) : (A ++ M ++ B).set (A.length + c) x = A ++ M.set c x ++ B := by
  rw [List.set_append_left _ _ (by simp; omega), List.set_append_right _ _ (by omega)]
  congr 3; omega
theorem wipe_mid (A M B : List GC) (c : Nat) (h : c < M.length) : wipeL (A ++ M ++ B) A.length M.length c = A ++ wipeL M 0 M.length c ++ B := by
  unfold wipeL
  dsimp only
  rw [nth_mid _ _ _ _ _ h, set_mid _ _ _ _ _ h]
  simp only [Nat.zero_add]
  split
  · rename_i h2
    exact set_mid A (M.set c GC.blank) B (c + 1) GC.blank (by rw [List.length_set]; exact h2.2)
  · split
    · exact set_mid A (M.set c GC.blank) B (c - 1) GC.blank (by rw [List.length_set]; omega)
    · rfl
theorem put_mid (A M B : List GC) (c : Nat) (s : ByteArray) (wd : Int) (y : Sy) (h : c < M.length) (h2 : wd = 2 → c + 1 < M.length) :
    putL (A ++ M ++ B) M.length A.length c s wd y = A ++ putL M M.length 0 c s wd y ++ B := by
  unfold putL
  by_cases hw : wd = 2
  · have hc := h2 hw
    rw [if_pos hw, if_pos hw, wipe_mid _ _ _ _ h]
    have e := wipe_mid A (wipeL M 0 M.length c) B (c + 1) (by rw [wipeL_length]; exact hc)
    rw [wipeL_length] at e
    rw [e, set_mid _ _ _ _ _ (by rw [wipeL_length, wipeL_length]; exact hc), set_mid _ _ _ _ _ (by rw [List.length_set, wipeL_length, wipeL_length]; exact h)]
    simp only [Nat.zero_add]
  · rw [if_neg hw, if_neg hw, wipe_mid _ _ _ _ h, set_mid _ _ _ _ _ (by rw [wipeL_length]; exact h)]
    simp only [Nat.zero_add]
theorem wipes_mid (A B : List GC) : ∀ (n i : Nat) (M : List GC), i + n ≤ M.length → wipes A.length M.length i n (A ++ M ++ B) = A ++ wipes 0 M.length i n M ++ B
  | 0, _, _, _ => rfl
  | n + 1, i, M, h => by
    unfold wipes
    rw [wipe_mid _ _ _ _ (by omega)]
    have := wipes_mid A B n (i + 1) (wipeL M 0 M.length i) (by rw [wipeL_length]; omega)
    rw [wipeL_length] at this
    exact this
theorem joinAt_mid (A M B : List GC) (c : Nat) (h : c < M.length) : joinAt (A ++ M ++ B) A.length c = joinAt M 0 c := by
  unfold joinAt
  rw [nth_mid _ _ _ _ _ h, Nat.zero_add]
theorem joinAt_le (M : List GC) (k c : Nat) : joinAt M k c ≤ c := by unfold joinAt; split <;> omega
theorem join_mid (A M B : List GC) (c : Nat) (s : ByteArray) (h : c < M.length) : joinL (A ++ M ++ B) A.length c s = A ++ joinL M 0 c s ++ B := by
  have hle := joinAt_le M 0 c
  unfold joinL
  rw [joinAt_mid _ _ _ _ h, nth_mid _ _ _ _ _ (by omega), set_mid _ _ _ _ _ (by omega), Nat.zero_add]
structure RowsOk (w h : Nat) (R : List (List GC)) : Prop where
  n : R.length = h
  w : ∀ M ∈ R, M.length = w
theorem RowsOk.at {w h : Nat} {R : List (List GC)} (k : RowsOk w h R) {r : Nat} (hr : r < h) : (nth [] R r).length = w := by
  rw [nth_eq _ _ _ (by rw [k.n]; exact hr)]; exact k.w _ (List.getElem_mem _)
theorem RowsOk.set {w h : Nat} {R : List (List GC)} (k : RowsOk w h R) (r : Nat) (M : List GC) (hM : M.length = w) : RowsOk w h (R.set r M) :=
  ⟨by rw [List.length_set, k.n], fun N hN => by
    rcases List.mem_or_eq_of_mem_set hN with h1 | h1
    · exact k.w N h1
    · rw [h1]; exact hM⟩
theorem flat_len_of {w : Nat} : ∀ (R : List (List GC)), (∀ M ∈ R, M.length = w) → R.flatten.length = w * R.length
  | [], _ => rfl
  | M :: R, h => by
    rw [List.flatten_cons, List.length_append, h M (List.mem_cons_self ..), flat_len_of R (fun N hN => h N (List.mem_cons_of_mem _ hN)), List.length_cons, Nat.mul_succ]
    omega
theorem RowsOk.flat {w h : Nat} {R : List (List GC)} (k : RowsOk w h R) : R.flatten.length = w * h := by rw [flat_len_of R k.w, k.n]
theorem RowsOk.take {w h : Nat} {R : List (List GC)} (k : RowsOk w h R) {r : Nat} (hr : r ≤ h) : (R.take r).flatten.length = w * r := by
  rw [flat_len_of _ (fun M hM => k.w M (List.mem_of_mem_take hM)), List.length_take, k.n, Nat.min_eq_left hr]
theorem flat_split {R : List (List GC)} {r : Nat} (h : r < R.length) : R.flatten = (R.take r).flatten ++ nth [] R r ++ (R.drop (r + 1)).flatten := by
  have : R = R.take r ++ (nth [] R r :: R.drop (r + 1)) := by rw [nth_eq _ _ _ h, List.getElem_cons_drop, List.take_append_drop]
  conv => lhs; rw [this]
  rw [List.flatten_append, List.flatten_cons, List.append_assoc]
theorem flat_set {R : List (List GC)} {r : Nat} (h : r < R.length) (M : List GC) : (R.set r M).flatten = (R.take r).flatten ++ M ++ (R.drop (r + 1)).flatten := by
  rw [List.set_eq_take_append_cons_drop, if_pos h, List.flatten_append, List.flatten_cons, List.append_assoc]
theorem RowsOk.line {w h : Nat} {R : List (List GC)} (k : RowsOk w h R) {r : Nat} (hr : r < h) : lineL R.flatten w r = nth [] R r := by
  have hl := k.take (Nat.le_of_lt hr)
  have hm := k.at hr
  rw [flat_split (by rw [k.n]; exact hr)]
  unfold lineL
  rw [← hl, List.append_assoc, List.drop_left, ← hm, List.take_left]
theorem RowsOk.rows {w h : Nat} {R : List (List GC)} (k : RowsOk w h R) : (List.range h).map (lineL R.flatten w) = R := by
  apply List.ext_getElem
  · simp [k.n]
  · intro i h1 h2
    simp only [List.length_map, List.length_range] at h1
    rw [List.getElem_map, List.getElem_range, k.line h1, nth_eq _ _ _ h2]
theorem RowsOk.blank (w h : Nat) : RowsOk w h (List.replicate h (List.replicate w GC.blank)) :=
  ⟨by simp, fun M hM => by rw [List.eq_of_mem_replicate hM]; simp⟩
def putR (w h : Nat) (R : List (List GC)) (r c : Int) (s : ByteArray) (wd : Int) (y : Sy) : List (List GC) :=
  if putErr w h r c s wd = 0 then R.set r.toNat (putL (nth [] R r.toNat) w 0 c.toNat s wd y) else R
theorem putErr_0 {w h : Nat} {r c : Int} {s : ByteArray} {wd : Int} (h0 : putErr w h r c s wd = 0) :
    s ≠ ⟨#[]⟩ ∧ s.size ≤ 64 ∧ (wd = 1 ∨ wd = 2) ∧ 0 ≤ r ∧ r < h ∧ 0 ≤ c ∧ c < w ∧ (wd = 2 → c + 1 < w) := by
  unfold putErr at h0
  split at h0
  · cases h0
  · split at h0
    · cases h0
    · rename_i h1 h2
      refine ⟨fun e => h1 (.inl e), Nat.le_of_not_lt (fun e => h1 (.inr (.inl e))), ?_, ?_⟩
      · by_cases a : wd = 1; exact .inl a; by_cases b : wd = 2; exact .inr b; exact absurd (.inr (.inr ⟨a, b⟩)) h1
      · have h3 : 0 ≤ r ∧ r < h ∧ 0 ≤ c ∧ c < w := Classical.byContradiction fun e => h2 (.inl e)
        exact ⟨h3.1, h3.2.1, h3.2.2.1, h3.2.2.2, fun e => Classical.byContradiction fun e' => h2 (.inr ⟨e, e'⟩)⟩
theorem RowsOk.put {w h : Nat} {R : List (List GC)} (k : RowsOk w h R) (r c : Int) (s : ByteArray) (wd : Int) (y : Sy) : RowsOk w h (putR w h R r c s wd y) := by
  unfold putR
  split
  · rename_i h0
    obtain ⟨_, _, _, h1, h2, _⟩ := putErr_0 h0
    exact k.set _ _ (by rw [putL_length]; exact k.at (by omega))
  · exact k
theorem RowsOk.put_flat {w h : Nat} {R : List (List GC)} (k : RowsOk w h R) (r c : Int) (s : ByteArray) (wd : Int) (y : Sy) : (putR w h R r c s wd y).flatten = putG w h R.flatten r c s wd y := by
  unfold putR putG
  split
  · rename_i h0
    obtain ⟨_, _, _, h1, h2, h3, h4, h5⟩ := putErr_0 h0
    have hr : r.toNat < h := by omega
    have hm := k.at hr
    rw [flat_set (by rw [k.n]; exact hr), flat_split (R := R) (r := r.toNat) (by rw [k.n]; exact hr)]
    have e := put_mid (R.take r.toNat).flatten (nth [] R r.toNat) (R.drop (r.toNat + 1)).flatten c.toNat s wd y (by omega) (by intro e; have := h5 e; omega)
    rw [hm, k.take (Nat.le_of_lt hr)] at e
    exact e.symm
  · rfl
def joinOkR (w h : Nat) (R : List (List GC)) (r c : Int) (s : ByteArray) : Bool :=
  inG w h r c && decide ((s.size : Int) ≤ 64 - (nth GC.zero (nth [] R r.toNat) (joinAt (nth [] R r.toNat) 0 c.toNat)).s.size)
def joinR (w h : Nat) (R : List (List GC)) (r c : Int) (s : ByteArray) : List (List GC) := if joinOkR w h R r c s then R.set r.toNat (joinL (nth [] R r.toNat) 0 c.toNat s) else R
theorem inG_iff {w h : Nat} {r c : Int} : inG w h r c = true ↔ 0 ≤ r ∧ r < h ∧ 0 ≤ c ∧ c < w := by simp [inG]
theorem RowsOk.join_ok {w h : Nat} {R : List (List GC)} (k : RowsOk w h R) (r c : Int) (s : ByteArray) : joinOk w h R.flatten r c s = joinOkR w h R r c s := by
  unfold joinOk joinOkR
  cases hi : inG w h r c with
  | false => rfl
  | true =>
    obtain ⟨h1, h2, h3, h4⟩ := inG_iff.1 hi
    have hr : r.toNat < h := by omega
    have hm := k.at hr
    have hle := joinAt_le (nth [] R r.toNat) 0 c.toNat
    rw [flat_split (R := R) (r := r.toNat) (by rw [k.n]; exact hr)]
    have e := joinAt_mid (R.take r.toNat).flatten (nth [] R r.toNat) (R.drop (r.toNat + 1)).flatten c.toNat (by omega)
    rw [k.take (Nat.le_of_lt hr)] at e
    rw [e]
    have e2 := nth_mid GC.zero (R.take r.toNat).flatten (nth [] R r.toNat) (R.drop (r.toNat + 1)).flatten (joinAt (nth [] R r.toNat) 0 c.toNat) (by omega)
    rw [k.take (Nat.le_of_lt hr)] at e2
    rw [e2]
theorem RowsOk.join {w h : Nat} {R : List (List GC)} (k : RowsOk w h R) (r c : Int) (s : ByteArray) : RowsOk w h (joinR w h R r c s) := by
  unfold joinR
  split
  · rename_i h0
    unfold joinOkR at h0
    rw [Bool.and_eq_true] at h0
    obtain ⟨h1, h2, _⟩ := inG_iff.1 h0.1
    exact k.set _ _ (by rw [joinL_length]; exact k.at (by omega))
  · exact k
theorem RowsOk.join_flat {w h : Nat} {R : List (List GC)} (k : RowsOk w h R) (r c : Int) (s : ByteArray) : (joinR w h R r c s).flatten = joinG w h R.flatten r c s := by
  unfold joinR joinG
  rw [k.join_ok]
  split
  · rename_i h0
    unfold joinOkR at h0
    rw [Bool.and_eq_true] at h0
    obtain ⟨h1, h2, h3, h4⟩ := inG_iff.1 h0.1
    have hr : r.toNat < h := by omega
    have hm := k.at hr
    rw [flat_set (by rw [k.n]; exact hr), flat_split (R := R) (r := r.toNat) (by rw [k.n]; exact hr)]
    have e := join_mid (R.take r.toNat).flatten (nth [] R r.toNat) (R.drop (r.toNat + 1)).flatten c.toNat s (by omega)
    rw [k.take (Nat.le_of_lt hr)] at e
    exact e.symm
  · rfl
def eraseR (w h : Nat) (R : List (List GC)) (r a b : Int) : List (List GC) := if 0 ≤ r ∧ r < h then R.set r.toNat (eraseL (nth [] R r.toNat) 0 w a b) else R
theorem RowsOk.erase {w h : Nat} {R : List (List GC)} (k : RowsOk w h R) (r a b : Int) : RowsOk w h (eraseR w h R r a b) := by
  unfold eraseR
  split
  · exact k.set _ _ (by rw [eraseL_length]; exact k.at (by omega))
  · exact k
theorem RowsOk.erase_flat {w h : Nat} {R : List (List GC)} (k : RowsOk w h R) (r a b : Int) : (eraseR w h R r a b).flatten = eraseG w h R.flatten r a b := by
  unfold eraseR eraseG
  split
  · rename_i h0
    have hr : r.toNat < h := by omega
    have hm := k.at hr
    rw [flat_set (by rw [k.n]; exact hr), flat_split (R := R) (r := r.toNat) (by rw [k.n]; exact hr)]
    unfold eraseL
    by_cases hz : (min b w).toNat - (max 0 a).toNat = 0
    · rw [hz]; rfl
    · have e := wipes_mid (R.take r.toNat).flatten (R.drop (r.toNat + 1)).flatten ((min b w).toNat - (max 0 a).toNat) (max 0 a).toNat (nth [] R r.toNat) (by omega)
      rw [k.take (Nat.le_of_lt hr), hm] at e
      exact e.symm
  · rfl
def scrollR (w : Nat) (R : List (List GC)) (m : Nat) : List (List GC) := R.drop m ++ List.replicate m (List.replicate w GC.blank)
theorem RowsOk.scroll {w h : Nat} {R : List (List GC)} (k : RowsOk w h R) {m : Nat} (hm : m ≤ h) : RowsOk w h (scrollR w R m) :=
  ⟨by simp [scrollR, k.n]; omega, fun M hM => by
    rcases List.mem_append.1 hM with h1 | h1
    · exact k.w M (List.mem_of_mem_drop h1)
    · rw [List.eq_of_mem_replicate h1]; simp⟩
def ROk (R : List (List GC)) : Prop := ∀ M ∈ R, GOk M
theorem ROk.flat {R : List (List GC)} (h : ROk R) : GOk R.flatten := fun c hc => by
  obtain ⟨M, hM, hcM⟩ := List.mem_flatten.1 hc
  exact h M hM c hcM
theorem ROk.of_flat {R : List (List GC)} (h : GOk R.flatten) : ROk R := fun M hM c hc => h c (List.mem_flatten.2 ⟨M, hM, hc⟩)
theorem ROk.at {R : List (List GC)} (h : ROk R) (r : Nat) : GOk (nth [] R r) := by
  unfold nth
  rcases Nat.lt_or_ge r R.length with h1 | h1
  · rw [List.getD_eq_getElem?_getD, List.getElem?_eq_getElem h1]; exact h _ (List.getElem_mem _)
  · rw [List.getD_eq_getElem?_getD, List.getElem?_eq_none h1]; intro c hc; cases hc
end Go.Proofs.YtekodpcedjpnjaaGreat
namespace Go.Proofs.YtekodpcedjpnjaaGreat
open Go.RowKit Go.Maps
end Go.Proofs.YtekodpcedjpnjaaGreat
