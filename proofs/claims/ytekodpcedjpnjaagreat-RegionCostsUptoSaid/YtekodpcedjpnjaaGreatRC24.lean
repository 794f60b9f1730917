/- Rows of cells: what the grid's methods make of them, row by row, and that the cells of a grid in one list are these rows laid behind each other. No condition. Rows of cells: what another size makes of them. No condition. A terminal as plain data, and what bytes make of it. No condition. A terminal as plain data: what stays true of it whatever comes; how many bytes are taken; that what is taken does not depend on the bytes behind it. No condition. -/
import Derived.Deep.RegionHeldLaw
import Derived.Deep.DeepCutAuto
import Derived.Test.YtekodpcedjpnjaaGreatRC04
import Derived.Test.YtekodpcedjpnjaaGreatRC06
set_option linter.unusedVariables false
set_option linter.unusedSimpArgs false
namespace Go.Proofs.YtekodpcedjpnjaaGreat
open Go.RowKit Go.Maps
theorem nth_mid {α : Type} (d : α) (A M B : List α) (c : Nat) (h : c < M.length) : nth d (A ++ M ++ B) (A.length + c) = nth d M c := by
  rw [nth_eq _ _ _ (by simp; omega), nth_eq _ _ _ h]
  rw [List.getElem_append_left (by simp; omega), List.getElem_append_right (by omega)]
  congr 1; omega
theorem set_mid {α : Type} (A M B : List α) (c : Nat) (x : α) (h : c < M.length) : (A ++ M ++ B).set (A.length + c) x = A ++ M.set c x ++ B := by
  rw [List.set_append_left _ _ (by simp; omega), List.set_append_right _ _ (by omega)]
  congr 3; omega
theorem wipe_mid (A M B : List GC) (c : Nat) (h : c < M.length) : wipeL (A ++ M ++ B) A.length M.length c = A ++ wipeL M 0 M.length c ++ B := by
  unfold wipeL
  dsimp only
  rw [nth_mid _ _ _ _ _ h, set_mid _ _ _ _ _ h]
  simp only [Nat.zero_add]
  split
  · rename_i h2
    exact set_mid A (M.set c GC.blank) B (c + 1) GC.blank (by rw [List.length_set]; exact h2.2)
  · split
    · exact set_mid A (M.set c GC.blank) B (c - 1) GC.blank (by rw [List.length_set]; omega)
    · rfl
theorem put_mid (A M B : List GC) (c : Nat) (s : ByteArray) (wd : Int) (y : Sy) (h : c < M.length) (h2 : wd = 2 → c + 1 < M.length) :
    putL (A ++ M ++ B) M.length A.length c s wd y = A ++ putL M M.length 0 c s wd y ++ B := by
  unfold putL
  by_cases hw : wd = 2
  · have hc := h2 hw
    rw [if_pos hw, if_pos hw, wipe_mid _ _ _ _ h]
    have e := wipe_mid A (wipeL M 0 M.length c) B (c + 1) (by rw [wipeL_length]; exact hc)
    rw [wipeL_length] at e
    rw [e, set_mid _ _ _ _ _ (by rw [wipeL_length, wipeL_length]; exact hc), set_mid _ _ _ _ _ (by rw [List.length_set, wipeL_length, wipeL_length]; exact h)]
    simp only [Nat.zero_add]
  · rw [if_neg hw, if_neg hw, wipe_mid _ _ _ _ h, set_mid _ _ _ _ _ (by rw [wipeL_length]; exact h)]
    simp only [Nat.zero_add]
theorem wipes_mid (A B : List GC) : ∀ (n i : Nat) (M : List GC), i + n ≤ M.length → wipes A.length M.length i n (A ++ M ++ B) = A ++ wipes 0 M.length i n M ++ B
  | 0, _, _, _ => rfl
  | n + 1, i, M, h => by
    unfold wipes
    rw [wipe_mid _ _ _ _ (by omega)]
    have := wipes_mid A B n (i + 1) (wipeL M 0 M.length i) (by rw [wipeL_length]; omega)
    rw [wipeL_length] at this
    exact this
theorem joinAt_mid (A M B : List GC) (c : Nat) (h : c < M.length) : joinAt (A ++ M ++ B) A.length c = joinAt M 0 c := by
  unfold joinAt
  rw [nth_mid _ _ _ _ _ h, Nat.zero_add]
theorem joinAt_le (M : List GC) (k c : Nat) : joinAt M k c ≤ c := by unfold joinAt; split <;> omega
theorem join_mid (A M B : List GC) (c : Nat) (s : ByteArray) (h : c < M.length) : joinL (A ++ M ++ B) A.length c s = A ++ joinL M 0 c s ++ B := by
  have hle := joinAt_le M 0 c
  unfold joinL
  rw [joinAt_mid _ _ _ _ h, nth_mid _ _ _ _ _ (by omega), set_mid _ _ _ _ _ (by omega), Nat.zero_add]
structure RowsOk (w h : Nat) (R : List (List GC)) : Prop where
  n : R.length = h
  w : ∀ M ∈ R, M.length = w
theorem RowsOk.at {w h : Nat} {R : List (List GC)} (k : RowsOk w h R) {r : Nat} (hr : r < h) : (nth [] R r).length = w := by
  rw [nth_eq _ _ _ (by rw [k.n]; exact hr)]; exact k.w _ (List.getElem_mem _)
theorem RowsOk.set {w h : Nat} {R : List (List GC)} (k : RowsOk w h R) (r : Nat) (M : List GC) (hM : M.length = w) : RowsOk w h (R.set r M) :=
  ⟨by rw [List.length_set, k.n], fun N hN => by
    rcases List.mem_or_eq_of_mem_set hN with h1 | h1
    · exact k.w N h1
    · rw [h1]; exact hM⟩
theorem flat_len_of {w : Nat} : ∀ (R : List (List GC)), (∀ M ∈ R, M.length = w) → R.flatten.length = w * R.length
  | [], _ => rfl
  | M :: R, h => by
    rw [List.flatten_cons, List.length_append, h M (List.mem_cons_self ..), flat_len_of R (fun N hN => h N (List.mem_cons_of_mem _ hN)), List.length_cons, Nat.mul_succ]
    omega
theorem RowsOk.flat {w h : Nat} {R : List (List GC)} (k : RowsOk w h R) : R.flatten.length = w * h := by rw [flat_len_of R k.w, k.n]
theorem RowsOk.take {w h : Nat} {R : List (List GC)} (k : RowsOk w h R) {r : Nat} (hr : r ≤ h) : (R.take r).flatten.length = w * r := by
  rw [flat_len_of _ (fun M hM => k.w M (List.mem_of_mem_take hM)), List.length_take, k.n, Nat.min_eq_left hr]
theorem flat_split {R : List (List GC)} {r : Nat} (h : r < R.length) : R.flatten = (R.take r).flatten ++ nth [] R r ++ (R.drop (r + 1)).flatten := by
  have : R = R.take r ++ (nth [] R r :: R.drop (r + 1)) := by rw [nth_eq _ _ _ h, List.getElem_cons_drop, List.take_append_drop]
  conv => lhs; rw [this]
  rw [List.flatten_append, List.flatten_cons, List.append_assoc]
theorem flat_set {R : List (List GC)} {r : Nat} (h : r < R.length) (M : List GC) : (R.set r M).flatten = (R.take r).flatten ++ M ++ (R.drop (r + 1)).flatten := by
  rw [List.set_eq_take_append_cons_drop, if_pos h, List.flatten_append, List.flatten_cons, List.append_assoc]
theorem RowsOk.line {w h : Nat} {R : List (List GC)} (k : RowsOk w h R) {r : Nat} (hr : r < h) : lineL R.flatten w r = nth [] R r := by
  have hl := k.take (Nat.le_of_lt hr)
  have hm := k.at hr
  rw [flat_split (by rw [k.n]; exact hr)]
  unfold lineL
  rw [← hl, List.append_assoc, List.drop_left, ← hm, List.take_left]
theorem RowsOk.rows {w h : Nat} {R : List (List GC)} (k : RowsOk w h R) : (List.range h).map (lineL R.flatten w) = R := by
  apply List.ext_getElem
  · simp [k.n]
  · intro i h1 h2
    simp only [List.length_map, List.length_range] at h1
    rw [List.getElem_map, List.getElem_range, k.line h1, nth_eq _ _ _ h2]
theorem RowsOk.blank (w h : Nat) : RowsOk w h (List.replicate h (List.replicate w GC.blank)) :=
  ⟨by simp, fun M hM => by rw [List.eq_of_mem_replicate hM]; simp⟩
def putR (w h : Nat) (R : List (List GC)) (r c : Int) (s : ByteArray) (wd : Int) (y : Sy) : List (List GC) :=
  if putErr w h r c s wd = 0 then R.set r.toNat (putL (nth [] R r.toNat) w 0 c.toNat s wd y) else R
theorem putErr_0 {w h : Nat} {r c : Int} {s : ByteArray} {wd : Int} (h0 : putErr w h r c s wd = 0) :
    s ≠ ⟨#[]⟩ ∧ s.size ≤ 64 ∧ (wd = 1 ∨ wd = 2) ∧ 0 ≤ r ∧ r < h ∧ 0 ≤ c ∧ c < w ∧ (wd = 2 → c + 1 < w) := by
  unfold putErr at h0
  split at h0
  · cases h0
  · split at h0
    · cases h0
    · rename_i h1 h2
      refine ⟨fun e => h1 (.inl e), Nat.le_of_not_lt (fun e => h1 (.inr (.inl e))), ?_, ?_⟩
      · by_cases a : wd = 1; exact .inl a; by_cases b : wd = 2; exact .inr b; exact absurd (.inr (.inr ⟨a, b⟩)) h1
      · have h3 : 0 ≤ r ∧ r < h ∧ 0 ≤ c ∧ c < w := Classical.byContradiction fun e => h2 (.inl e)
        exact ⟨h3.1, h3.2.1, h3.2.2.1, h3.2.2.2, fun e => Classical.byContradiction fun e' => h2 (.inr ⟨e, e'⟩)⟩
theorem RowsOk.put {w h : Nat} {R : List (List GC)} (k : RowsOk w h R) (r c : Int) (s : ByteArray) (wd : Int) (y : Sy) : RowsOk w h (putR w h R r c s wd y) := by
  unfold putR
  split
  · rename_i h0
    obtain ⟨_, _, _, h1, h2, _⟩ := putErr_0 h0
    exact k.set _ _ (by rw [putL_length]; exact k.at (by omega))
  · exact k
theorem RowsOk.put_flat {w h : Nat} {R : List (List GC)} (k : RowsOk w h R) (r c : Int) (s : ByteArray) (wd : Int) (y : Sy) : (putR w h R r c s wd y).flatten = putG w h R.flatten r c s wd y := by
  unfold putR putG
  split
  · rename_i h0
    obtain ⟨_, _, _, h1, h2, h3, h4, h5⟩ := putErr_0 h0
    have hr : r.toNat < h := by omega
    have hm := k.at hr
    rw [flat_set (by rw [k.n]; exact hr), flat_split (R := R) (r := r.toNat) (by rw [k.n]; exact hr)]
    have e := put_mid (R.take r.toNat).flatten (nth [] R r.toNat) (R.drop (r.toNat + 1)).flatten c.toNat s wd y (by omega) (by intro e; have := h5 e; omega)
    rw [hm, k.take (Nat.le_of_lt hr)] at e
    exact e.symm
  · rfl
def joinOkR (w h : Nat) (R : List (List GC)) (r c : Int) (s : ByteArray) : Bool :=
  inG w h r c && decide ((s.size : Int) ≤ 64 - (nth GC.zero (nth [] R r.toNat) (joinAt (nth [] R r.toNat) 0 c.toNat)).s.size)
def joinR (w h : Nat) (R : List (List GC)) (r c : Int) (s : ByteArray) : List (List GC) := if joinOkR w h R r c s then R.set r.toNat (joinL (nth [] R r.toNat) 0 c.toNat s) else R
theorem inG_iff {w h : Nat} {r c : Int} : inG w h r c = true ↔ 0 ≤ r ∧ r < h ∧ 0 ≤ c ∧ c < w := by simp [inG]
theorem RowsOk.join_ok {w h : Nat} {R : List (List GC)} (k : RowsOk w h R) (r c : Int) (s : ByteArray) : joinOk w h R.flatten r c s = joinOkR w h R r c s := by
  unfold joinOk joinOkR
  cases hi : inG w h r c with
  | false => rfl
  | true =>
    obtain ⟨h1, h2, h3, h4⟩ := inG_iff.1 hi
    have hr : r.toNat < h := by omega
    have hm := k.at hr
    have hle := joinAt_le (nth [] R r.toNat) 0 c.toNat
    rw [flat_split (R := R) (r := r.toNat) (by rw [k.n]; exact hr)]
    have e := joinAt_mid (R.take r.toNat).flatten (nth [] R r.toNat) (R.drop (r.toNat + 1)).flatten c.toNat (by omega)
    rw [k.take (Nat.le_of_lt hr)] at e
    rw [e]
    have e2 := nth_mid GC.zero (R.take r.toNat).flatten (nth [] R r.toNat) (R.drop (r.toNat + 1)).flatten (joinAt (nth [] R r.toNat) 0 c.toNat) (by omega)
    rw [k.take (Nat.le_of_lt hr)] at e2
    rw [e2]
theorem RowsOk.join {w h : Nat} {R : List (List GC)} (k : RowsOk w h R) (r c : Int) (s : ByteArray) : RowsOk w h (joinR w h R r c s) := by
  unfold joinR
  split
  · rename_i h0
    unfold joinOkR at h0
    rw [Bool.and_eq_true] at h0
    obtain ⟨h1, h2, _⟩ := inG_iff.1 h0.1
    exact k.set _ _ (by rw [joinL_length]; exact k.at (by omega))
  · exact k
theorem RowsOk.join_flat {w h : Nat} {R : List (List GC)} (k : RowsOk w h R) (r c : Int) (s : ByteArray) : (joinR w h R r c s).flatten = joinG w h R.flatten r c s := by
  unfold joinR joinG
  rw [k.join_ok]
  split
  · rename_i h0
    unfold joinOkR at h0
    rw [Bool.and_eq_true] at h0
    obtain ⟨h1, h2, h3, h4⟩ := inG_iff.1 h0.1
    have hr : r.toNat < h := by omega
    have hm := k.at hr
    rw [flat_set (by rw [k.n]; exact hr), flat_split (R := R) (r := r.toNat) (by rw [k.n]; exact hr)]
    have e := join_mid (R.take r.toNat).flatten (nth [] R r.toNat) (R.drop (r.toNat + 1)).flatten c.toNat s (by omega)
    rw [k.take (Nat.le_of_lt hr)] at e
    exact e.symm
  · rfl
def eraseR (w h : Nat) (R : List (List GC)) (r a b : Int) : List (List GC) := if 0 ≤ r ∧ r < h then R.set r.toNat (eraseL (nth [] R r.toNat) 0 w a b) else R
theorem RowsOk.erase {w h : Nat} {R : List (List GC)} (k : RowsOk w h R) (r a b : Int) : RowsOk w h (eraseR w h R r a b) := by
  unfold eraseR
  split
  · exact k.set _ _ (by rw [eraseL_length]; exact k.at (by omega))
  · exact k
theorem RowsOk.erase_flat {w h : Nat} {R : List (List GC)} (k : RowsOk w h R) (r a b : Int) : (eraseR w h R r a b).flatten = eraseG w h R.flatten r a b := by
  unfold eraseR eraseG
  split
  · rename_i h0
    have hr : r.toNat < h := by omega
    have hm := k.at hr
    rw [flat_set (by rw [k.n]; exact hr), flat_split (R := R) (r := r.toNat) (by rw [k.n]; exact hr)]
    unfold eraseL
    by_cases hz : (min b w).toNat - (max 0 a).toNat = 0
    · rw [hz]; rfl
    · have e := wipes_mid (R.take r.toNat).flatten (R.drop (r.toNat + 1)).flatten ((min b w).toNat - (max 0 a).toNat) (max 0 a).toNat (nth [] R r.toNat) (by omega)
      rw [k.take (Nat.le_of_lt hr), hm] at e
      exact e.symm
  · rfl
def scrollR (w : Nat) (R : List (List GC)) (m : Nat) : List (List GC) := R.drop m ++ List.replicate m (List.replicate w GC.blank)
theorem RowsOk.scroll {w h : Nat} {R : List (List GC)} (k : RowsOk w h R) {m : Nat} (hm : m ≤ h) : RowsOk w h (scrollR w R m) :=
  ⟨by simp [scrollR, k.n]; omega, fun M hM => by
    rcases List.mem_append.1 hM with h1 | h1
    · exact k.w M (List.mem_of_mem_drop h1)
    · rw [List.eq_of_mem_replicate h1]; simp⟩
def ROk (R : List (List GC)) : Prop := ∀ M ∈ R, GOk M
theorem ROk.flat {R : List (List GC)} (h : ROk R) : GOk R.flatten := fun c hc => by
  obtain ⟨M, hM, hcM⟩ := List.mem_flatten.1 hc
  exact h M hM c hcM
theorem ROk.of_flat {R : List (List GC)} (h : GOk R.flatten) : ROk R := fun M hM c hc => h c (List.mem_flatten.2 ⟨M, hM, hc⟩)
theorem ROk.at {R : List (List GC)} (h : ROk R) (r : Nat) : GOk (nth [] R r) := by
  unfold nth
  rcases Nat.lt_or_ge r R.length with h1 | h1
  · rw [List.getD_eq_getElem?_getD, List.getElem?_eq_getElem h1]; exact h _ (List.getElem_mem _)
  · rw [List.getD_eq_getElem?_getD, List.getElem?_eq_none h1]; intro c hc; cases hc
end Go.Proofs.YtekodpcedjpnjaaGreat
namespace Go.Proofs.YtekodpcedjpnjaaGreat
open Go.RowKit Go.Maps
def fitL (M : List GC) (w : Nat) : List GC :=
  (if (nth GC.zero (M.take w) ((M.take w).length - 1)).w = 2 then (M.take w).set ((M.take w).length - 1) GC.blank else M.take w) ++ List.replicate (w - (M.take w).length) GC.blank
theorem GOk.fit {M : List GC} (h : GOk M) (w : Nat) : GOk (fitL M w) := by
  have ht : GOk (M.take w) := fun c hc => h c (List.mem_of_mem_take hc)
  intro c hc
  rcases List.mem_append.1 hc with h1 | h1
  · split at h1
    · exact ht.set _ _ GC.blank_ok c h1
    · exact ht c h1
  · rw [List.eq_of_mem_replicate h1]; exact GC.blank_ok
end Go.Proofs.YtekodpcedjpnjaaGreat
namespace Go.Proofs.YtekodpcedjpnjaaGreat
open Go.RowKit Go.Maps
structure TS where
  W : Nat
  H : Nat
  R : List (List GC)
  row : Nat
  col : Nat
  y : Sy
  pend : Bool
  seen : Bool
  marked : Bool
  last : Bool
  bells : Nat
  gone : Nat
  lrow : Nat
  lcol : Nat
def TS.new (w h : Nat) : TS := ⟨w, h, List.replicate h (List.replicate w GC.blank), 0, 0, Sy.zero, false, true, false, false, 0, 0, 0, 0⟩
def TS.off (t : TS) : TS := { t with last := false }
def TS.feed (t : TS) : TS := if t.row + 1 < t.H then { t with pend := false, row := t.row + 1 } else { t with pend := false, R := scrollR t.W t.R 1, gone := t.gone + 1 }
def TS.room (t : TS) (w : Int) : TS := if t.pend || decide ((t.W : Int) < t.col + w) then TS.feed { t with col := 0 } else t
def TS.lay (t : TS) (r : Nat) (w : Int) : TS :=
  { t with
    R := putR t.W t.H t.R t.row t.col (S (bytesN r)) w t.y
    last := true
    lrow := t.row
    lcol := t.col
    col := if (t.W : Int) ≤ t.col + w then t.W - 1 else t.col + w.toNat
    pend := decide ((t.W : Int) ≤ t.col + w) || t.pend }
def TS.print (t : TS) (r : Nat) : TS := if (t.W : Int) < colsB r then t.off else (t.room (colsB r)).lay r (colsB r)
def TS.rune (t : TS) (r : Nat) : TS :=
  if 0 < colsB r then t.print r else if joinB r then (if t.last then { t with R := joinR t.W t.H t.R t.lrow t.lcol (S (bytesN r)) } else t) else t.off
def TS.control (t : TS) (c : Nat) : TS :=
  if c = 7 then { t.off with bells := t.bells + 1 }
  else if c = 8 then { t.off with col := t.col - 1, pend := false }
  else if c = 9 then { t.off with col := min (t.W - 1) (t.col / 8 * 8 + 8), pend := false }
  else if c = 10 then t.off.feed
  else if c = 13 then { t.off with col := 0, pend := false }
  else t.off
def numsT : Nat → List UInt8 → List Nat
  | acc, [] => [acc]
  | acc, c :: t => if c = 59 then acc :: numsT 0 t else numsT (min 9999 (10 * acc + (c.toNat - 48))) t
def plainB (b : List UInt8) : Bool := b.all fun c => decide (c = 59) || decide (48 ≤ c.toNat ∧ c.toNat ≤ 57)
def eraseRowsR (w h : Nat) : Nat → Nat → List (List GC) → List (List GC)
  | _, 0, R => R
  | i, n + 1, R => eraseRowsR w h (i + 1) n (eraseR w h R i 0 w)
def TS.erased (t : TS) (n : Nat) (line : Bool) : TS :=
  if n = 0 then { t with R := if line then eraseR t.W t.H t.R t.row t.col t.W else eraseRowsR t.W t.H (t.row + 1) (t.H - (t.row + 1)) (eraseR t.W t.H t.R t.row t.col t.W) }
  else if n = 1 then { t with R := if line then eraseR t.W t.H t.R t.row 0 (t.col + 1) else eraseR t.W t.H (eraseRowsR t.W t.H 0 t.row t.R) t.row 0 (t.col + 1) }
  else if n = 2 then { t with R := if line then eraseR t.W t.H t.R t.row 0 t.W else eraseRowsR t.W t.H 0 t.H t.R }
  else t
def styT (y : Sy) (n : Nat) : Sy :=
  if n = 0 then Sy.zero
  else if n = 1 ∨ n = 22 then { y with b := decide (n = 1) }
  else if n = 4 ∨ n = 24 then { y with u := decide (n = 4) }
  else if n = 7 ∨ n = 27 then { y with i := decide (n = 7) }
  else if 30 ≤ n ∧ n ≤ 37 then { y with f := (n : Int) - 29 }
  else if n = 39 then { y with f := 0 }
  else if 40 ≤ n ∧ n ≤ 47 then { y with g := (n : Int) - 39 }
  else if n = 49 then { y with g := 0 }
  else y
def TS.moved (t : TS) (r c : Int) : TS := { t with row := (max 0 (min r ((t.H : Int) - 1))).toNat, col := (max 0 (min c ((t.W : Int) - 1))).toNat, pend := false }
def TS.plain (t : TS) (l : List Nat) (e : Nat) : TS :=
  let n : Int := max 1 ((nth 0 l 0 : Nat) : Int)
  if e = 65 then t.moved (t.row - n) t.col
  else if e = 66 then t.moved (t.row + n) t.col
  else if e = 67 then t.moved t.row (t.col + n)
  else if e = 68 then t.moved t.row (t.col - n)
  else if e = 71 then t.moved t.row (n - 1)
  else if e = 72 then t.moved (n - 1) (max 1 ((nth 0 l 1 : Nat) : Int) - 1)
  else if e = 74 then t.erased (nth 0 l 0) false
  else if e = 75 then t.erased (nth 0 l 0) true
  else if e = 109 then { t with y := l.foldl styT t.y }
  else t
def TS.mode (t : TS) (on : Bool) (n : Nat) : TS := if n = 25 then { t with seen := on } else if n = 2004 then { t with marked := on } else t
def TS.modes (t : TS) (l : List Nat) (e : Nat) : TS := if e = 104 ∨ e = 108 then l.foldl (fun t n => t.mode (decide (e = 104)) n) t else t
def TS.obey (t : TS) (b : List UInt8) (e : Nat) : TS :=
  match b with
  | [] => t.plain (numsT 0 []) e
  | c :: r => if c = 63 then (if plainB r then t.modes (numsT 0 r) e else t) else (if plainB (c :: r) then t.plain (numsT 0 (c :: r)) e else t)
def parB (c : UInt8) : Bool := decide (48 ≤ c.toNat ∧ c.toNat ≤ 63)
def midB (c : UInt8) : Bool := decide (32 ≤ c.toNat ∧ c.toNat ≤ 47)
def endB (c : UInt8) : Bool := decide (64 ≤ c.toNat ∧ c.toNat ≤ 126)
def spanN (p : UInt8 → Bool) : List UInt8 → Nat
  | [] => 0
  | c :: t => if p c then spanN p t + 1 else 0
def TS.seq (t : TS) (r : List UInt8) : TS × Nat :=
  let p := spanN parB r
  let q := spanN midB (r.drop p)
  let i := 2 + p + q
  if 32 ≤ i then (t.off, 32)
  else if i = r.length + 2 then (t, 0)
  else if endB (nth 0 r (p + q)) then (if q = 0 then t.off.obey (r.take p) (nth 0 r p).toNat else t.off, i + 1)
  else (t.off, i)
def TS.first (t : TS) : List UInt8 → TS × Nat
  | [] => (t, 0)
  | c :: r =>
    if c.toNat = 27 then
      match r with
      | [] => (t, 0)
      | d :: r' => if d.toNat = 91 then t.seq r' else (t.off, if 32 ≤ d.toNat ∧ d.toNat ≤ 126 then 2 else 1)
    else if c.toNat < 32 ∨ c.toNat = 127 then (t.control c.toNat, 1)
    else if moreL (c :: r) then (t, 0)
    else (t.rune (stepL (c :: r)).1, (stepL (c :: r)).2)
def runF : Nat → TS → List UInt8 → TS × List UInt8
  | 0, t, b => (t, b)
  | n + 1, t, b => if (t.first b).2 = 0 then (t, b) else runF n (t.first b).1 (b.drop (t.first b).2)
def runT (t : TS) (b : List UInt8) : TS × List UInt8 := runF b.length t b
end Go.Proofs.YtekodpcedjpnjaaGreat
namespace Go.Proofs.YtekodpcedjpnjaaGreat
open Go.RowKit Go.Maps
structure TO0 (t : TS) : Prop where
  w1 : 1 ≤ t.W
  w2 : t.W ≤ 500
  h1 : 1 ≤ t.H
  h2 : t.H ≤ 500
  ok : RowsOk t.W t.H t.R
  ro : ROk t.R
  row : t.row < t.H
  col : t.col < t.W
structure TOk (t : TS) : Prop extends TO0 t where
  pe : t.pend = true → t.col + 1 = t.W
theorem ROk.blank (w h : Nat) : ROk (List.replicate h (List.replicate w GC.blank)) := fun M hM c hc => by
  rw [List.eq_of_mem_replicate hM] at hc
  rw [List.eq_of_mem_replicate hc]; decide
theorem ROk.put {w h : Nat} {R : List (List GC)} (k : RowsOk w h R) (o : ROk R) (r c : Int) (s : ByteArray) (wd : Int) (y : Sy) : ROk (putR w h R r c s wd y) :=
  ROk.of_flat (by rw [k.put_flat]; exact o.flat.put _ _ _ _ _ _ _)
theorem ROk.join {w h : Nat} {R : List (List GC)} (k : RowsOk w h R) (o : ROk R) (r c : Int) (s : ByteArray) : ROk (joinR w h R r c s) :=
  ROk.of_flat (by rw [k.join_flat]; exact o.flat.join _ _ _ _ _)
theorem ROk.erase {w h : Nat} {R : List (List GC)} (k : RowsOk w h R) (o : ROk R) (r a b : Int) : ROk (eraseR w h R r a b) :=
  ROk.of_flat (by rw [k.erase_flat]; exact o.flat.erase _ _ _ _ _)
theorem ROk.scroll {w : Nat} {R : List (List GC)} (o : ROk R) (m : Nat) : ROk (scrollR w R m) := fun M hM => by
  rcases List.mem_append.1 hM with h1 | h1
  · exact o M (List.mem_of_mem_drop h1)
  · exact ROk.blank w m M h1
theorem TOk.new {w h : Nat} (w1 : 1 ≤ w) (w2 : w ≤ 500) (h1 : 1 ≤ h) (h2 : h ≤ 500) : TOk (TS.new w h) :=
  { w1 := w1, w2 := w2, h1 := h1, h2 := h2, ok := RowsOk.blank w h, ro := ROk.blank w h, row := h1, col := w1, pe := fun e => by cases e }
theorem TOk.off {t : TS} (k : TOk t) : TOk t.off := { w1 := k.w1, w2 := k.w2, h1 := k.h1, h2 := k.h2, ok := k.ok, ro := k.ro, row := k.row, col := k.col, pe := k.pe }
theorem TO0.feed {t : TS} (k : TO0 t) : TOk t.feed ∧ t.feed.pend = false := by
  unfold TS.feed
  split
  · rename_i h
    exact ⟨{ w1 := k.w1, w2 := k.w2, h1 := k.h1, h2 := k.h2, ok := k.ok, ro := k.ro, row := h, col := k.col, pe := fun e => by cases e }, rfl⟩
  · exact ⟨{ w1 := k.w1, w2 := k.w2, h1 := k.h1, h2 := k.h2, ok := k.ok.scroll k.h1, ro := k.ro.scroll 1, row := k.row, col := k.col, pe := fun e => by cases e }, rfl⟩
theorem TS.feed_dims (t : TS) : t.feed.W = t.W ∧ t.feed.H = t.H ∧ t.feed.y = t.y ∧ t.feed.col = t.col ∧ t.feed.bells = t.bells ∧ t.feed.gone ≤ t.gone + 1 := by
  unfold TS.feed; split <;> exact ⟨rfl, rfl, rfl, rfl, rfl, by dsimp only; omega⟩
theorem TOk.room {t : TS} (k : TOk t) {w : Int} (hw : 1 ≤ w) (hw2 : w ≤ t.W) : TOk (t.room w) ∧ (t.room w).pend = false ∧ (t.room w).W = t.W ∧ (t.room w).H = t.H ∧ ((t.room w).col : Int) + w ≤ t.W ∧ (t.room w).bells = t.bells ∧ (t.room w).gone ≤ t.gone + 1 := by
  unfold TS.room
  split
  · have k0 : TO0 { t with col := 0 } := { w1 := k.w1, w2 := k.w2, h1 := k.h1, h2 := k.h2, ok := k.ok, ro := k.ro, row := k.row, col := k.w1 }
    obtain ⟨h1, h2⟩ := k0.feed
    obtain ⟨e1, e2, e3, e4, e5, e6⟩ := TS.feed_dims { t with col := 0 }
    refine ⟨h1, h2, e1, e2, ?_, e5, e6⟩
    rw [e4]; simpa using hw2
  · rename_i h
    simp only [Bool.or_eq_true, decide_eq_true_eq, not_or, Bool.not_eq_true] at h
    exact ⟨k, h.1, rfl, rfl, by omega, rfl, by omega⟩
theorem TOk.lay {t : TS} (k : TOk t) (hp : t.pend = false) (r : Nat) {w : Int} (hw : 1 ≤ w) (hw2 : (t.col : Int) + w ≤ t.W) : TOk (t.lay r w) := by
  have hc := k.col
  refine { w1 := k.w1, w2 := k.w2, h1 := k.h1, h2 := k.h2, ok := k.ok.put _ _ _ _ _, ro := k.ro.put k.ok _ _ _ _ _, row := k.row, col := ?_, pe := ?_ }
  · show (if (t.W : Int) ≤ t.col + w then t.W - 1 else t.col + w.toNat) < t.W
    split <;> omega
  · show (decide ((t.W : Int) ≤ t.col + w) || t.pend) = true → (if (t.W : Int) ≤ t.col + w then t.W - 1 else t.col + w.toNat) + 1 = t.W
    rw [hp, Bool.or_false, decide_eq_true_eq]
    intro h
    rw [if_pos h]; omega
theorem TOk.print {t : TS} (k : TOk t) (r : Nat) (hr : 0 < colsB r) : TOk (t.print r) := by
  unfold TS.print
  split
  · exact k.off
  · rename_i h
    obtain ⟨h1, h2, h3, _, h4, _⟩ := k.room (w := colsB r) (by omega) (by omega)
    exact h1.lay h2 r (by omega) (by rw [h3]; exact h4)
theorem TOk.rune {t : TS} (k : TOk t) (r : Nat) : TOk (t.rune r) := by
  unfold TS.rune
  split
  · rename_i h; exact k.print r h
  · split
    · split
      · exact { w1 := k.w1, w2 := k.w2, h1 := k.h1, h2 := k.h2, ok := k.ok.join _ _ _, ro := k.ro.join k.ok _ _ _, row := k.row, col := k.col, pe := k.pe }
      · exact k
    · exact k.off
theorem TOk.control {t : TS} (k : TOk t) (c : Nat) : TOk (t.control c) := by
  have hw1 := k.w1
  have hc := k.col
  unfold TS.control
  split
  · exact { w1 := k.w1, w2 := k.w2, h1 := k.h1, h2 := k.h2, ok := k.ok, ro := k.ro, row := k.row, col := k.col, pe := k.pe }
  split
  · exact { w1 := k.w1, w2 := k.w2, h1 := k.h1, h2 := k.h2, ok := k.ok, ro := k.ro, row := k.row, col := (by show t.col - 1 < t.W; omega), pe := fun e => by cases e }
  split
  · exact { w1 := k.w1, w2 := k.w2, h1 := k.h1, h2 := k.h2, ok := k.ok, ro := k.ro, row := k.row, col := (by show min (t.W - 1) (t.col / 8 * 8 + 8) < t.W; omega), pe := fun e => by cases e }
  split
  · exact (k.off.toTO0.feed).1
  split
  · exact { w1 := k.w1, w2 := k.w2, h1 := k.h1, h2 := k.h2, ok := k.ok, ro := k.ro, row := k.row, col := (by show 0 < t.W; omega), pe := fun e => by cases e }
  · exact k.off
theorem RowsOk.eraseRows {w h : Nat} : ∀ (n i : Nat) (R : List (List GC)), RowsOk w h R → RowsOk w h (eraseRowsR w h i n R)
  | 0, _, _, k => k
  | n + 1, i, R, k => RowsOk.eraseRows n (i + 1) _ (k.erase _ _ _)
theorem ROk.eraseRows {w h : Nat} : ∀ (n i : Nat) (R : List (List GC)), RowsOk w h R → ROk R → ROk (eraseRowsR w h i n R)
  | 0, _, _, _, o => o
  | n + 1, i, R, k, o => ROk.eraseRows n (i + 1) _ (k.erase _ _ _) (o.erase k _ _ _)
theorem TOk.rows {t : TS} (k : TOk t) {R : List (List GC)} (h1 : RowsOk t.W t.H R) (h2 : ROk R) : TOk { t with R := R } :=
  { w1 := k.w1, w2 := k.w2, h1 := k.h1, h2 := k.h2, ok := h1, ro := h2, row := k.row, col := k.col, pe := k.pe }
theorem TOk.erased {t : TS} (k : TOk t) (n : Nat) (line : Bool) : TOk (t.erased n line) := by
  unfold TS.erased
  split
  · cases line
    · exact k.rows ((k.ok.erase _ _ _).eraseRows _ _ _) ((k.ro.erase k.ok _ _ _).eraseRows _ _ _ (k.ok.erase _ _ _))
    · exact k.rows (k.ok.erase _ _ _) (k.ro.erase k.ok _ _ _)
  split
  · cases line
    · exact k.rows ((k.ok.eraseRows _ _ _).erase _ _ _) ((k.ro.eraseRows _ _ _ k.ok).erase (k.ok.eraseRows _ _ _) _ _ _)
    · exact k.rows (k.ok.erase _ _ _) (k.ro.erase k.ok _ _ _)
  split
  · cases line
    · exact k.rows (k.ok.eraseRows _ _ _) (k.ro.eraseRows _ _ _ k.ok)
    · exact k.rows (k.ok.erase _ _ _) (k.ro.erase k.ok _ _ _)
  · exact k
theorem TOk.moved {t : TS} (k : TOk t) (r c : Int) : TOk (t.moved r c) := by
  have hw := k.w1
  have hh := k.h1
  exact { w1 := k.w1, w2 := k.w2, h1 := k.h1, h2 := k.h2, ok := k.ok, ro := k.ro, row := (by show (max 0 (min r ((t.H : Int) - 1))).toNat < t.H; omega), col := (by show (max 0 (min c ((t.W : Int) - 1))).toNat < t.W; omega), pe := fun e => by cases e }
theorem TOk.plain {t : TS} (k : TOk t) (l : List Nat) (e : Nat) : TOk (t.plain l e) := by
  unfold TS.plain
  dsimp only
  repeat' split
  all_goals first
    | exact k.moved _ _
    | exact k.erased _ _
    | exact k
    | exact { w1 := k.w1, w2 := k.w2, h1 := k.h1, h2 := k.h2, ok := k.ok, ro := k.ro, row := k.row, col := k.col, pe := k.pe }
theorem TOk.mode {t : TS} (k : TOk t) (on : Bool) (n : Nat) : TOk (t.mode on n) := by
  unfold TS.mode
  repeat' split
  all_goals exact { w1 := k.w1, w2 := k.w2, h1 := k.h1, h2 := k.h2, ok := k.ok, ro := k.ro, row := k.row, col := k.col, pe := k.pe }
theorem TOk.modes {t : TS} (k : TOk t) (l : List Nat) (e : Nat) : TOk (t.modes l e) := by
  unfold TS.modes
  split
  · have : ∀ (l : List Nat) (t : TS), TOk t → TOk (l.foldl (fun t n => t.mode (decide (e = 104)) n) t) := by
      intro l
      induction l with
      | nil => intro t k; exact k
      | cons n l ih => intro t k; exact ih _ (k.mode _ _)
    exact this l t k
  · exact k
theorem TOk.obey {t : TS} (k : TOk t) (b : List UInt8) (e : Nat) : TOk (t.obey b e) := by
  unfold TS.obey
  split
  · exact k.plain _ _
  · repeat' split
    all_goals first
      | exact k.modes _ _
      | exact k.plain _ _
      | exact k
theorem TOk.seq {t : TS} (k : TOk t) (r : List UInt8) : TOk (t.seq r).1 := by
  unfold TS.seq
  dsimp only
  repeat' split
  all_goals first
    | exact k.off.obey _ _
    | exact k.off
    | exact k
theorem TOk.first {t : TS} (k : TOk t) (b : List UInt8) : TOk (t.first b).1 := by
  unfold TS.first
  repeat' split
  all_goals first
    | exact k.seq _
    | exact k.off
    | exact k.control _
    | exact k.rune _
    | exact k
theorem TOk.runF : ∀ (n : Nat) (t : TS) (b : List UInt8), TOk t → TOk (runF n t b).1
  | 0, _, _, k => k
  | n + 1, t, b, k => by
    unfold Go.Proofs.YtekodpcedjpnjaaGreat.runF
    split
    · exact k
    · exact TOk.runF n _ _ (k.first b)
theorem TOk.run {t : TS} (k : TOk t) (b : List UInt8) : TOk (runT t b).1 := TOk.runF _ _ _ k
theorem TS.first_cnt (t : TS) (b : List UInt8) : (t.first b).1.bells ≤ t.bells + 1 ∧ (t.first b).1.gone ≤ t.gone + 1 := by
  have hfeed : ∀ t : TS, t.feed.bells ≤ t.bells + 1 ∧ t.feed.gone ≤ t.gone + 1 := fun t => by have := t.feed_dims; omega
  have hroom : ∀ (t : TS) w, (t.room w).bells ≤ t.bells + 1 ∧ (t.room w).gone ≤ t.gone + 1 := fun t w => by
    unfold TS.room; split
    · exact hfeed { t with col := 0 }
    · omega
  have hrune : ∀ (t : TS) r, (t.rune r).bells ≤ t.bells + 1 ∧ (t.rune r).gone ≤ t.gone + 1 := fun t r => by
    unfold TS.rune
    split
    · unfold TS.print
      split
      · exact ⟨Nat.le_succ _, Nat.le_succ _⟩
      · exact hroom t _
    · split
      · split <;> exact ⟨Nat.le_succ _, Nat.le_succ _⟩
      · exact ⟨Nat.le_succ _, Nat.le_succ _⟩
  have hctl : ∀ (t : TS) c, (t.control c).bells ≤ t.bells + 1 ∧ (t.control c).gone ≤ t.gone + 1 := fun t c => by
    unfold TS.control
    split; · exact ⟨Nat.le_refl _, Nat.le_succ _⟩
    split; · exact ⟨Nat.le_succ _, Nat.le_succ _⟩
    split; · exact ⟨Nat.le_succ _, Nat.le_succ _⟩
    split; · exact hfeed t.off
    split <;> exact ⟨Nat.le_succ _, Nat.le_succ _⟩
  have her : ∀ (t : TS) n l, (t.erased n l).bells = t.bells ∧ (t.erased n l).gone = t.gone := fun t n l => by
    unfold TS.erased; repeat' split
    all_goals exact ⟨rfl, rfl⟩
  have hpl : ∀ (t : TS) l e, (t.plain l e).bells = t.bells ∧ (t.plain l e).gone = t.gone := fun t l e => by
    unfold TS.plain; dsimp only; repeat' split
    all_goals first | exact her _ _ _ | exact ⟨rfl, rfl⟩
  have hmo : ∀ (l : List Nat) (e : Nat) (t : TS), (l.foldl (fun t n => t.mode (decide (e = 104)) n) t).bells = t.bells ∧ (l.foldl (fun t n => t.mode (decide (e = 104)) n) t).gone = t.gone := fun l e => by
    induction l with
    | nil => intro t; exact ⟨rfl, rfl⟩
    | cons n l ih =>
      intro t
      have h := ih (t.mode (decide (e = 104)) n)
      have h2 : (t.mode (decide (e = 104)) n).bells = t.bells ∧ (t.mode (decide (e = 104)) n).gone = t.gone := by unfold TS.mode; repeat' split
                                                                                                                  all_goals exact ⟨rfl, rfl⟩
      exact ⟨h.1.trans h2.1, h.2.trans h2.2⟩
  have hmod : ∀ (t : TS) l e, (t.modes l e).bells = t.bells ∧ (t.modes l e).gone = t.gone := fun t l e => by
    unfold TS.modes; split
    · exact hmo l e t
    · exact ⟨rfl, rfl⟩
  have hob : ∀ (t : TS) b e, (t.obey b e).bells = t.bells ∧ (t.obey b e).gone = t.gone := fun t b e => by
    unfold TS.obey; repeat' split
    all_goals first | exact hpl _ _ _ | exact hmod _ _ _ | exact ⟨rfl, rfl⟩
  have hseq : ∀ (t : TS) r, (t.seq r).1.bells = t.bells ∧ (t.seq r).1.gone = t.gone := fun t r => by
    unfold TS.seq; dsimp only; repeat' split
    all_goals first | exact hob t.off _ _ | exact ⟨rfl, rfl⟩
  unfold TS.first
  repeat' split
  all_goals first
    | (have := hseq t; rename_i r' _; have := this r'; omega)
    | exact hctl _ _
    | exact hrune _ _
    | exact ⟨Nat.le_succ _, Nat.le_succ _⟩
theorem spanN_le (p : UInt8 → Bool) : ∀ l : List UInt8, spanN p l ≤ l.length
  | [] => Nat.le_refl _
  | c :: t => by unfold spanN; have := spanN_le p t; split <;> simp only [List.length_cons] <;> omega
theorem spanN_app (p : UInt8 → Bool) : ∀ (l m : List UInt8), spanN p l < l.length → spanN p (l ++ m) = spanN p l
  | [], _, h => by simp [spanN] at h
  | c :: t, m, h => by
    rw [List.cons_append]
    unfold spanN at h ⊢
    split
    · rename_i hc
      rw [if_pos hc] at h
      simp only [List.length_cons] at h
      rw [spanN_app p t m (by omega)]
    · rfl
theorem spanN_all (p : UInt8 → Bool) : ∀ (l m : List UInt8), spanN p l = l.length → spanN p (l ++ m) = l.length + spanN p m
  | [], _, _ => by simp
  | c :: t, m, h => by
    rw [List.cons_append]
    unfold spanN at h
    split at h
    · rename_i hc
      have h2 : spanN p t = t.length := by simpa using h
      rw [show spanN p (c :: (t ++ m)) = spanN p (t ++ m) + 1 by rw [spanN, if_pos hc], spanN_all p t m h2, List.length_cons]
      omega
    · simp at h
theorem moreL_len {l : List UInt8} (h : moreL l = true) : l.length < 4 := by
  cases l with
  | nil => simp
  | cons c t =>
    unfold moreL at h
    have h := (of_decide_eq_true h).1
    have := manyL_le c.toNat
    simp only [List.length_cons]
    omega
theorem many_pos {c : UInt8} {t : List UInt8} (h : moreL (c :: t) = false) (h1 : 1 ≤ manyL c.toNat) : (∀ j, j + 1 < manyL c.toNat → okAt c.toNat t j) ∨ ∃ j, j + 1 < manyL c.toNat ∧ j < t.length ∧ ¬ okAt c.toNat t j := by
  by_cases hb : ∃ j, j + 1 < manyL c.toNat ∧ j < t.length ∧ ¬ okAt c.toNat t j
  · exact .inr hb
  · left
    have hb2 : ∀ j, j + 1 < manyL c.toNat → j < t.length → okAt c.toNat t j := fun j h2 h3 => Classical.byContradiction fun h4 => hb ⟨j, h2, h3, h4⟩
    unfold moreL at h
    have h := of_decide_eq_false h
    intro j hj
    refine hb2 j hj (Classical.byContradiction fun hlt => h ⟨by omega, fun i hi => hb2 i (by omega) hi⟩)
theorem okAt_app {c : Nat} {t : List UInt8} {j : Nat} (hj : j < t.length) (m : List UInt8) : okAt c (t ++ m) j ↔ okAt c t j := by
  unfold okAt
  have : nth 0 (t ++ m) j = nth 0 t j := by rw [nth_eq _ _ _ (by simp; omega), nth_eq _ _ _ hj, List.getElem_append_left hj]
  rw [this]
  constructor
  · exact fun h => ⟨hj, h.2⟩
  · exact fun h => ⟨by rw [List.length_append]; omega, h.2⟩
theorem step_app {l : List UInt8} (h : moreL l = false) (m : List UInt8) : stepL (l ++ m) = stepL l ∧ moreL (l ++ m) = false ∧ (stepL l).2 ≤ l.length := by
  cases l with
  | nil => simp [moreL] at h
  | cons c t =>
    rw [List.cons_append]
    by_cases h0 : manyL c.toNat = 0
    · rw [step_many0 _ _ h0, step_many0 _ _ h0]
      exact ⟨rfl, more_no (by omega), by simp⟩
    · rcases many_pos h (by omega) with hok | ⟨j, hj1, hj2, hj3⟩
      · have hlen : manyL c.toNat ≤ t.length + 1 := by
          rcases Nat.lt_or_ge (t.length + 1) (manyL c.toNat) with hl | hl
          · exact absurd (hok t.length hl).1 (Nat.lt_irrefl _)
          · exact hl
        have hok2 : ∀ j, j + 1 < manyL c.toNat → okAt c.toNat (t ++ m) j := fun j hj => (okAt_app (by omega) m).2 (hok j hj)
        have e1 := step_ok c t (by omega) hok
        have e2 := step_ok c (t ++ m) (by omega) hok2
        have hacc : ∀ k, k ≤ t.length → accN c.toNat (t ++ m) k = accN c.toNat t k := by
          intro k
          induction k with
          | zero => intro _; rfl
          | succ k ih =>
            intro hk
            unfold accN
            rw [ih (by omega)]
            have : nth 0 (t ++ m) k = nth 0 t k := by rw [nth_eq _ _ _ (by simp; omega), nth_eq _ _ _ (by omega), List.getElem_append_left (by omega)]
            rw [this]
        rw [hacc _ (by omega)] at e2
        refine ⟨e2.trans e1.symm, ?_, by rw [e1]; simpa using hlen⟩
        unfold moreL
        refine decide_eq_false fun h2 => ?_
        simp only [List.length_append] at h2
        omega
      · have hbad := step_bad c t j hj1 hj3
        have hbad2 := step_bad c (t ++ m) j hj1 (fun h2 => hj3 ((okAt_app hj2 m).1 h2))
        refine ⟨hbad2.trans hbad.symm, ?_, by rw [hbad]; simp⟩
        unfold moreL
        refine decide_eq_false fun h2 => hj3 ((okAt_app hj2 m).1 (h2.2 j (by simp; omega)))
theorem TS.seq_le (t : TS) (r : List UInt8) : (t.seq r).2 ≤ r.length + 2 ∧ ((t.seq r).2 = 0 → (t.seq r).1 = t ∧ r.length + 2 < 32) := by
  have h1 := spanN_le parB r
  have h2 := spanN_le midB (r.drop (spanN parB r))
  rw [List.length_drop] at h2
  unfold TS.seq
  dsimp only
  split
  · exact ⟨by dsimp only; omega, fun e => by cases e⟩
  split
  · exact ⟨Nat.zero_le _, fun _ => ⟨rfl, by omega⟩⟩
  split
  · exact ⟨by dsimp only; omega, fun e => by dsimp only at e; omega⟩
  · exact ⟨by dsimp only; omega, fun e => by dsimp only at e; omega⟩
theorem TS.first_le (t : TS) (b : List UInt8) : (t.first b).2 ≤ b.length ∧ ((t.first b).2 = 0 → (t.first b).1 = t ∧ b.length < 32) := by
  unfold TS.first
  split
  · exact ⟨Nat.le_refl _, fun _ => ⟨rfl, by simp⟩⟩
  rename_i c r
  split
  · split
    · exact ⟨Nat.zero_le _, fun _ => ⟨rfl, by simp⟩⟩
    · rename_i d r'
      split
      · have h := t.seq_le r'
        simp only [List.length_cons]
        exact ⟨h.1, h.2⟩
      · refine ⟨?_, fun e => ?_⟩
        · dsimp only; simp only [List.length_cons]; split <;> omega
        · dsimp only at e; split at e <;> cases e
  split
  · exact ⟨by simp, fun e => by cases e⟩
  split
  · rename_i hm
    have := moreL_len hm
    exact ⟨Nat.zero_le _, fun _ => ⟨rfl, by omega⟩⟩
  · rename_i hm
    have hm : moreL (c :: r) = false := by simpa using hm
    have h := step_app hm []
    have hp := stepL_pos (c :: r)
    exact ⟨h.2.2, fun e => by dsimp only at e; omega⟩
theorem TS.seq_app (t : TS) (r m : List UInt8) (h : (t.seq r).2 ≠ 0) : t.seq (r ++ m) = t.seq r := by
  have h1 := spanN_le parB r
  have h2 := spanN_le midB (r.drop (spanN parB r))
  rw [List.length_drop] at h2
  obtain ⟨p, hp⟩ : ∃ p, p = spanN parB r := ⟨_, rfl⟩
  obtain ⟨q, hq⟩ : ∃ q, q = spanN midB (r.drop p) := ⟨_, rfl⟩
  rw [← hp] at h1 h2
  rw [← hq] at h2
  by_cases hpl : p < r.length
  · have e1 : spanN parB (r ++ m) = p := by rw [spanN_app _ _ _ (by omega), hp]
    have ed : (r ++ m).drop p = r.drop p ++ m := by rw [List.drop_append_of_le_length (by omega)]
    by_cases hql : p + q < r.length
    · have e2 : spanN midB ((r ++ m).drop p) = q := by rw [ed, spanN_app _ _ _ (by rw [← hq, List.length_drop]; omega), hq]
      have e3 : nth 0 (r ++ m) (p + q) = nth 0 r (p + q) := by rw [nth_eq _ _ _ (by simp; omega), nth_eq _ _ _ hql, List.getElem_append_left hql]
      have e4 : nth 0 (r ++ m) p = nth 0 r p := by rw [nth_eq _ _ _ (by simp; omega), nth_eq _ _ _ hpl, List.getElem_append_left hpl]
      have e5 : (r ++ m).take p = r.take p := by rw [List.take_append_of_le_length (by omega)]
      unfold TS.seq
      dsimp only
      rw [e1, e2, ← hp, ← hq, e3, e4, e5]
      rw [if_neg (show ¬ 2 + p + q = (r ++ m).length + 2 by simp; omega), if_neg (show ¬ 2 + p + q = r.length + 2 by omega)]
    · have hq2 : q = (r.drop p).length := by rw [List.length_drop]; omega
      have e2 : spanN midB ((r ++ m).drop p) = q + spanN midB m := by rw [ed, spanN_all _ _ _ (by rw [← hq]; exact hq2), ← hq2]
      have h32 : 32 ≤ 2 + p + q := by
        apply Classical.byContradiction
        intro hlt
        apply h
        unfold TS.seq
        dsimp only
        rw [← hp, ← hq, if_neg hlt, if_pos (by omega)]
      unfold TS.seq
      dsimp only
      rw [e1, e2, ← hp, ← hq, if_pos h32, if_pos (by omega)]
  · have hpe : p = r.length := by omega
    have hq0 : q = 0 := by omega
    have h32 : 32 ≤ 2 + p + q := by
      apply Classical.byContradiction
      intro hlt
      apply h
      unfold TS.seq
      dsimp only
      rw [← hp, ← hq, if_neg hlt, if_pos (by omega)]
    have e1 : spanN parB (r ++ m) = p + spanN parB m := by rw [spanN_all _ _ _ (by omega), hpe]
    unfold TS.seq
    dsimp only
    rw [e1, ← hp, ← hq, if_pos h32, if_pos (by omega)]
theorem TS.first_app (t : TS) (b m : List UInt8) (h : (t.first b).2 ≠ 0) : t.first (b ++ m) = t.first b := by
  cases b with
  | nil => exact absurd rfl h
  | cons c r =>
    rw [List.cons_append]
    unfold TS.first at h ⊢
    dsimp only at h ⊢
    by_cases h27 : c.toNat = 27
    · rw [if_pos h27] at h ⊢
      rw [if_pos h27]
      cases r with
      | nil => exact absurd rfl h
      | cons d r' =>
        rw [List.cons_append]
        dsimp only at h ⊢
        by_cases h91 : d.toNat = 91
        · rw [if_pos h91] at h ⊢
          rw [if_pos h91]
          exact t.seq_app r' m h
        · rw [if_neg h91, if_neg h91]
    · rw [if_neg h27] at h ⊢
      rw [if_neg h27]
      by_cases hc : c.toNat < 32 ∨ c.toNat = 127
      · rw [if_pos hc, if_pos hc]
      · rw [if_neg hc] at h ⊢
        rw [if_neg hc]
        cases hm : moreL (c :: r) with
        | true => rw [hm] at h; exact absurd rfl h
        | false =>
          obtain ⟨e1, e2, _⟩ := step_app hm m
          rw [List.cons_append] at e1 e2
          rw [e2, e1]
theorem runF_more : ∀ (n k : Nat) (t : TS) (b : List UInt8), b.length ≤ n → b.length ≤ k → runF n t b = runF k t b
  | 0, 0, _, _, _, _ => rfl
  | 0, k + 1, t, b, h, _ => by
    have : b = [] := List.eq_nil_of_length_eq_zero (by omega)
    subst this
    unfold runF
    rfl
  | n + 1, 0, t, b, _, h => by
    have : b = [] := List.eq_nil_of_length_eq_zero (by omega)
    subst this
    unfold runF
    rfl
  | n + 1, k + 1, t, b, h1, h2 => by
    unfold runF
    split
    · rfl
    · rename_i h
      exact runF_more n k _ _ (by rw [List.length_drop]; omega) (by rw [List.length_drop]; omega)
theorem run_step (t : TS) (b : List UInt8) (h : (t.first b).2 ≠ 0) : runT t b = runT (t.first b).1 (b.drop (t.first b).2) := by
  unfold runT
  have hl := (t.first_le b).1
  have hne : b.length ≠ 0 := by omega
  obtain ⟨n, hn⟩ := Nat.exists_eq_succ_of_ne_zero hne
  rw [hn]
  show runF (n + 1) t b = _
  rw [show runF (n + 1) t b = if (t.first b).2 = 0 then (t, b) else runF n (t.first b).1 (b.drop (t.first b).2) from rfl, if_neg h]
  exact runF_more _ _ _ _ (by rw [List.length_drop]; omega) (by rw [List.length_drop]; omega)
theorem run_wait (t : TS) (b : List UInt8) (h : (t.first b).2 = 0) : runT t b = (t, b) := by
  unfold runT
  cases b with
  | nil => rfl
  | cons c r =>
    show runF (r.length + 1) t (c :: r) = _
    rw [show runF (r.length + 1) t (c :: r) = if (t.first (c :: r)).2 = 0 then (t, (c :: r)) else runF r.length (t.first (c :: r)).1 ((c :: r).drop (t.first (c :: r)).2) from rfl, if_pos h]
theorem run_app : ∀ (n : Nat) (t : TS) (b m : List UInt8), b.length ≤ n → runT t (b ++ m) = runT (runT t b).1 ((runT t b).2 ++ m)
  | n, t, b, m, hn => by
    by_cases h : (t.first b).2 = 0
    · rw [run_wait t b h]
    · have hl := (t.first_le b).1
      have e := t.first_app b m h
      cases n with
      | zero => omega
      | succ n =>
        rw [run_step t (b ++ m) (by rw [e]; exact h), e, run_step t b h, List.drop_append_of_le_length hl]
        exact run_app n _ _ m (by rw [List.length_drop]; omega)
theorem run_waits : ∀ (n : Nat) (t : TS) (b : List UInt8), b.length ≤ n → (runT t b).2.length < 32
  | n, t, b, hn => by
    by_cases h : (t.first b).2 = 0
    · rw [run_wait t b h]; exact ((t.first_le b).2 h).2
    · have hl := (t.first_le b).1
      cases n with
      | zero => omega
      | succ n =>
        rw [run_step t b h]
        exact run_waits n _ _ (by rw [List.length_drop]; omega)
end Go.Proofs.YtekodpcedjpnjaaGreat
