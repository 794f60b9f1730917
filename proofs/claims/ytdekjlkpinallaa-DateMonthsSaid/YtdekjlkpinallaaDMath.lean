/- The plain law of the calendar: digits, leap years, days of a month, the number of a date. No program in sight. No condition. -/
import Derived.Test.YtdekjlkpinallaaEMath
namespace Go.Proofs.Ytdekjlkpinallaa
/-- The last k digits of a number. -/
def dig : Nat → Nat → List UInt8
  | 0, _ => []
  | k + 1, n => dig k (n / 10) ++ [digB (n % 10)]
theorem dig_len (k : Nat) : ∀ n, (dig k n).length = k := by
  induction k with
  | zero => intro n; rfl
  | succ k ih => intro n; simp [dig, ih]
def numL (l : List UInt8) : Nat := l.foldl (fun n b => 10 * n + (b.toNat - 48)) 0
theorem numL_snoc (l : List UInt8) (b : UInt8) : numL (l ++ [b]) = 10 * numL l + (b.toNat - 48) := by simp [numL]
def isDig (b : UInt8) : Bool := decide (48 ≤ b.toNat ∧ b.toNat ≤ 57)
def digs (l : List UInt8) : Bool := l.all isDig
theorem digs_snoc (l : List UInt8) (b : UInt8) : digs (l ++ [b]) = (digs l && isDig b) := by simp [digs]
theorem digs_append (l m : List UInt8) : digs (l ++ m) = (digs l && digs m) := by simp [digs]
theorem digB_dig (n : Nat) (h : n < 10) : isDig (digB n) = true := by unfold isDig; rw [digB_nat n h]; simp; omega
theorem dig_digs (k : Nat) : ∀ n, digs (dig k n) = true := by
  induction k with
  | zero => intro n; rfl
  | succ k ih => intro n; rw [dig, digs_snoc, ih, digB_dig _ (Nat.mod_lt _ (by omega))]; rfl
theorem digB_of (b : UInt8) (h : isDig b = true) : digB (b.toNat - 48) = b := by
  have h := of_decide_eq_true h
  unfold digB
  rw [show 48 + (b.toNat - 48) = b.toNat by omega]
  simp
theorem snoc_cases (l : List UInt8) (h : l ≠ []) : ∃ m b, l = m ++ [b] := ⟨l.dropLast, l.getLast h, (List.dropLast_concat_getLast h).symm⟩
theorem numL_lt (k : Nat) : ∀ l : List UInt8, l.length = k → digs l = true → numL l < 10 ^ k := by
  induction k with
  | zero => intro l h _; rw [List.length_eq_zero_iff.1 h]; simp [numL]
  | succ k ih =>
    intro l h hd
    obtain ⟨m, b, rfl⟩ := snoc_cases l (by rintro rfl; simp at h)
    rw [digs_snoc, Bool.and_eq_true] at hd
    have := ih m (by simpa using h) hd.1
    have hb := of_decide_eq_true hd.2
    rw [numL_snoc, Nat.pow_succ]
    omega
theorem dig_num (k : Nat) : ∀ l : List UInt8, l.length = k → digs l = true → dig k (numL l) = l := by
  induction k with
  | zero => intro l h _; rw [List.length_eq_zero_iff.1 h]; rfl
  | succ k ih =>
    intro l h hd
    obtain ⟨m, b, rfl⟩ := snoc_cases l (by rintro rfl; simp at h)
    rw [digs_snoc, Bool.and_eq_true] at hd
    have hb := of_decide_eq_true hd.2
    rw [numL_snoc, dig, show (10 * numL m + (b.toNat - 48)) / 10 = numL m by omega, show (10 * numL m + (b.toNat - 48)) % 10 = b.toNat - 48 by omega, ih m (by simpa using h) hd.1, digB_of b hd.2]
theorem num_dig (k : Nat) : ∀ n, n < 10 ^ k → numL (dig k n) = n := by
  induction k with
  | zero => intro n h; simp at h; subst h; rfl
  | succ k ih =>
    intro n h
    rw [Nat.pow_succ] at h
    rw [dig, numL_snoc, ih _ (by omega), digB_nat _ (Nat.mod_lt _ (by omega))]
    omega
/-! ### years and months -/
def leapI (y : Int) : Bool := decide (1 ≤ y ∧ y ≤ 9999 ∧ y % 4 = 0 ∧ (y % 100 ≠ 0 ∨ y % 400 = 0))
def daysI (y m : Int) : Int :=
  if y < 1 ∨ 9999 < y ∨ m < 1 ∨ 12 < m then 0 else if m = 2 then (if leapI y then 29 else 28) else if m = 4 ∨ m = 6 ∨ m = 9 ∨ m = 11 then 30 else 31
theorem days_le (y m : Int) : 0 ≤ daysI y m ∧ daysI y m ≤ 31 := by unfold daysI; repeat' split <;> omega
theorem days_pos {y m : Int} (h : 0 < daysI y m) : 1 ≤ y ∧ y ≤ 9999 ∧ 1 ≤ m ∧ m ≤ 12 := by
  unfold daysI at h
  split at h
  · omega
  · omega
theorem days_some {y m : Int} (h : 1 ≤ y ∧ y ≤ 9999 ∧ 1 ≤ m ∧ m ≤ 12) : 28 ≤ daysI y m := by
  unfold daysI
  rw [if_neg (by omega)]
  repeat' split <;> omega
structure IsDay (y m d : Int) : Prop where
  d1 : 1 ≤ d
  d2 : d ≤ daysI y m
theorem IsDay.at {y m d : Int} (h : IsDay y m d) : 1 ≤ y ∧ y ≤ 9999 ∧ 1 ≤ m ∧ m ≤ 12 := days_pos (by have := h.1; have := h.2; omega)
theorem IsDay.le {y m d : Int} (h : IsDay y m d) : d ≤ 31 := by have := h.2; have := (days_le y m).2; omega
/-- How many days the first k months have. -/
def cumI (y : Int) : Nat → Int
  | 0 => 0
  | k + 1 => cumI y k + daysI y (k + 1)
def beforeI (y : Int) : Int := 365 * (y - 1) + (y - 1) / 4 - (y - 1) / 100 + (y - 1) / 400
def yearI (y : Int) : Int := if leapI y then 366 else 365
theorem before_succ (y : Int) (h1 : 1 ≤ y) (h2 : y ≤ 9999) : beforeI (y + 1) = beforeI y + yearI y := by
  unfold beforeI yearI leapI
  by_cases h : y % 4 = 0 ∧ (y % 100 ≠ 0 ∨ y % 400 = 0)
  · rw [if_pos (by simp; omega)]; omega
  · rw [if_neg (by simp; omega)]; omega
theorem cum_le (y : Int) (k : Nat) : 0 ≤ cumI y k ∧ cumI y k ≤ 31 * k := by
  induction k with
  | zero => simp [cumI]
  | succ k ih => have := days_le y (k + 1); simp only [cumI]; omega
theorem cum_mono (y : Int) {j k : Nat} (h : j ≤ k) : cumI y j ≤ cumI y k := by
  induction k with
  | zero => have : j = 0 := by omega
            subst this; exact Int.le_refl _
  | succ k ih =>
    by_cases hj : j = k + 1
    · subst hj; exact Int.le_refl _
    · have := ih (by omega); have := days_le y (k + 1); simp only [cumI]; omega
theorem cum_all (y : Int) (h1 : 1 ≤ y) (h2 : y ≤ 9999) : cumI y 12 = yearI y := by
  have hd : ∀ m : Int, 1 ≤ m → m ≤ 12 → daysI y m = if m = 2 then (if leapI y then 29 else 28) else if m = 4 ∨ m = 6 ∨ m = 9 ∨ m = 11 then 30 else 31 := by
    intro m h3 h4; unfold daysI; rw [if_neg (by omega)]
  simp only [cumI]
  unfold yearI
  simp only [hd _ (show (1 : Int) ≤ ((0 : Nat) : Int) + 1 by omega) (by omega), hd _ (show (1 : Int) ≤ ((1 : Nat) : Int) + 1 by omega) (by omega), hd _ (show (1 : Int) ≤ ((2 : Nat) : Int) + 1 by omega) (by omega), hd _ (show (1 : Int) ≤ ((3 : Nat) : Int) + 1 by omega) (by omega),
    hd _ (show (1 : Int) ≤ ((4 : Nat) : Int) + 1 by omega) (by omega), hd _ (show (1 : Int) ≤ ((5 : Nat) : Int) + 1 by omega) (by omega), hd _ (show (1 : Int) ≤ ((6 : Nat) : Int) + 1 by omega) (by omega), hd _ (show (1 : Int) ≤ ((7 : Nat) : Int) + 1 by omega) (by omega),
    hd _ (show (1 : Int) ≤ ((8 : Nat) : Int) + 1 by omega) (by omega), hd _ (show (1 : Int) ≤ ((9 : Nat) : Int) + 1 by omega) (by omega), hd _ (show (1 : Int) ≤ ((10 : Nat) : Int) + 1 by omega) (by omega), hd _ (show (1 : Int) ≤ ((11 : Nat) : Int) + 1 by omega) (by omega)]
  cases leapI y <;> simp
def aheadI (y m d : Int) : Int := beforeI y + cumI y (m - 1).toNat + d - 1
theorem before_mono {y z : Int} (_ : 1 ≤ y) (h2 : y ≤ z) (_ : z ≤ 10000) : beforeI y ≤ beforeI z := by
  unfold beforeI; omega
theorem IsDay.ahead_in {y m d : Int} (h : IsDay y m d) : beforeI y ≤ aheadI y m d ∧ aheadI y m d < beforeI (y + 1) := by
  obtain ⟨a1, a2, a3, a4⟩ := h.at
  have hd := h.2
  have hd1 := h.1
  rw [before_succ y a1 a2, ← cum_all y a1 a2]
  unfold aheadI
  obtain ⟨k, hk⟩ : ∃ k : Nat, m = (k : Int) + 1 := ⟨(m - 1).toNat, by omega⟩
  subst hk
  rw [show ((k : Int) + 1 - 1).toNat = k by omega]
  have h1 := cum_mono y (show k + 1 ≤ 12 by omega)
  have h2 := (cum_le y k).1
  rw [show cumI y (k + 1) = cumI y k + daysI y (k + 1) from rfl] at h1
  omega
theorem IsDay.ahead_range {y m d : Int} (h : IsDay y m d) : 0 ≤ aheadI y m d ∧ aheadI y m d ≤ 3652058 := by
  obtain ⟨a1, a2, a3, a4⟩ := h.at
  obtain ⟨b1, b2⟩ := h.ahead_in
  have h1 := before_mono (y := 1) (z := y) (by omega) a1 (by omega)
  have h2 := before_mono (y := y + 1) (z := 10000) (by omega) (by omega) (by omega)
  have e1 : beforeI 1 = 0 := by decide
  have e2 : beforeI 10000 = 3652059 := by decide
  omega
/-- The number of a date orders as the date. -/
theorem ahead_lt {y m d y' m' d' : Int} (h : IsDay y m d) (h' : IsDay y' m' d') : aheadI y m d < aheadI y' m' d' ↔ y < y' ∨ y = y' ∧ (m < m' ∨ m = m' ∧ d < d') := by
  obtain ⟨a1, a2, a3, a4⟩ := h.at
  obtain ⟨b1, b2⟩ := h.ahead_in
  obtain ⟨a1', a2', a3', a4'⟩ := h'.at
  obtain ⟨b1', b2'⟩ := h'.ahead_in
  by_cases hy : y < y'
  · have := before_mono (y := y + 1) (z := y') (by omega) (by omega) (by omega)
    constructor
    · intro _; exact .inl hy
    · intro _; omega
  · by_cases hy2 : y' < y
    · have := before_mono (y := y' + 1) (z := y) (by omega) (by omega) (by omega)
      constructor
      · intro _; omega
      · intro _; omega
    · obtain rfl : y = y' := by omega
      have hd := h.2
      have hd1 := h.1
      have hd' := h'.2
      have hd1' := h'.1
      unfold aheadI
      obtain ⟨k, hk⟩ : ∃ k : Nat, m = (k : Int) + 1 := ⟨(m - 1).toNat, by omega⟩
      obtain ⟨k', hk'⟩ : ∃ k : Nat, m' = (k : Int) + 1 := ⟨(m' - 1).toNat, by omega⟩
      subst hk
      subst hk'
      rw [show ((k : Int) + 1 - 1).toNat = k by omega, show ((k' : Int) + 1 - 1).toNat = k' by omega]
      by_cases hm : k < k'
      · have h1 := cum_mono y (show k + 1 ≤ k' by omega)
        simp only [cumI] at h1
        constructor
        · intro _; omega
        · intro _; omega
      · by_cases hm2 : k' < k
        · have h1 := cum_mono y (show k' + 1 ≤ k by omega)
          simp only [cumI] at h1
          constructor
          · intro _; omega
          · intro _; omega
        · obtain rfl : k = k' := by omega
          constructor
          · intro _; omega
          · intro _; omega
theorem ahead_inj {y m d y' m' d' : Int} (h : IsDay y m d) (h' : IsDay y' m' d') (e : aheadI y m d = aheadI y' m' d') : y = y' ∧ m = m' ∧ d = d' := by
  have h1 := not_congr (ahead_lt h h')
  have h2 := not_congr (ahead_lt h' h)
  have n1 : ¬ aheadI y m d < aheadI y' m' d' := by omega
  have n2 : ¬ aheadI y' m' d' < aheadI y m d := by omega
  have n1 := h1.1 n1
  have n2 := h2.1 n2
  omega
/-! ### texts -/
def plainL (y m d : Int) : List UInt8 := dig 4 y.toNat ++ (dig 2 m.toNat ++ dig 2 d.toNat)
def dashL (l : List UInt8) : List UInt8 := l.take 4 ++ ([45] ++ ((l.drop 4).take 2 ++ ([45] ++ l.drop 6)))
def textL (y m d : Int) : List UInt8 := dig 4 y.toNat ++ ([45] ++ (dig 2 m.toNat ++ ([45] ++ dig 2 d.toNat)))
theorem plain_len (y m d : Int) : (plainL y m d).length = 8 := by simp [plainL, dig_len]
theorem text_len (y m d : Int) : (textL y m d).length = 10 := by simp [textL, dig_len]
theorem dash_plain (y m d : Int) : dashL (plainL y m d) = textL y m d := by
  unfold dashL plainL textL
  rw [List.take_append_of_le_length (by rw [dig_len]; omega), List.take_of_length_le (by rw [dig_len]; omega), List.drop_append_of_le_length (by rw [dig_len]; omega), List.drop_of_length_le (by rw [dig_len]; omega), List.nil_append,
    List.take_append_of_le_length (by rw [dig_len]; omega), List.take_of_length_le (l := dig 2 m.toNat) (by rw [dig_len]; omega), List.drop_append, List.drop_of_length_le (l := dig 4 y.toNat) (by rw [dig_len]; omega), dig_len, List.nil_append, show 6 - 4 = 2 by omega,
    List.drop_append_of_le_length (by rw [dig_len]; omega), List.drop_of_length_le (l := dig 2 m.toNat) (by rw [dig_len]; omega), List.nil_append]
def yOf (l : List UInt8) : Nat := numL (l.take 4)
def mOf (l : List UInt8) : Nat := numL ((l.drop 5).take 2)
def dOf (l : List UInt8) : Nat := numL (l.drop 8)
def readB (l : List UInt8) : Bool :=
  decide (l.length = 10 ∧ (nth 0 l 4).toNat = 45 ∧ (nth 0 l 7).toNat = 45) && (digs (l.take 4) && (digs ((l.drop 5).take 2) && (digs (l.drop 8) && decide (1 ≤ (dOf l : Int) ∧ (dOf l : Int) ≤ daysI (yOf l) (mOf l)))))
theorem readB_day {l : List UInt8} (h : readB l = true) : IsDay (yOf l) (mOf l) (dOf l) := by
  simp only [readB, Bool.and_eq_true, decide_eq_true_eq] at h
  exact ⟨h.2.2.2.2.1, h.2.2.2.2.2⟩
theorem list10 {l : List UInt8} (h : l.length = 10) : l = l.take 4 ++ ([nth 0 l 4] ++ ((l.drop 5).take 2 ++ ([nth 0 l 7] ++ l.drop 8))) := by
  match l, h with
  | [a, b, c, d, e, f, g, i, j, k], _ => rfl
theorem readB_text {l : List UInt8} (h : readB l = true) : l = textL (yOf l) (mOf l) (dOf l) := by
  simp only [readB, Bool.and_eq_true, decide_eq_true_eq] at h
  obtain ⟨⟨h1, h2, h3⟩, h4, h5, h6, _⟩ := h
  have e4 : nth 0 l 4 = 45 := UInt8.toNat_inj.1 h2
  have e7 : nth 0 l 7 = 45 := UInt8.toNat_inj.1 h3
  conv => lhs; rw [list10 h1]
  unfold textL yOf mOf dOf
  rw [e4, e7, Int.toNat_natCast, Int.toNat_natCast, Int.toNat_natCast, dig_num 4 _ (by simp; omega) h4, dig_num 2 _ (by simp; omega) h5, dig_num 2 _ (by simp; omega) h6]
theorem text_at (y m d : Int) : (textL y m d).take 4 = dig 4 y.toNat ∧ ((textL y m d).drop 5).take 2 = dig 2 m.toNat ∧ (textL y m d).drop 8 = dig 2 d.toNat ∧ nth 0 (textL y m d) 4 = 45 ∧ nth 0 (textL y m d) 7 = 45 := by
  obtain ⟨a, ha⟩ : ∃ a, dig 4 y.toNat = a := ⟨_, rfl⟩
  obtain ⟨b, hb⟩ : ∃ a, dig 2 m.toNat = a := ⟨_, rfl⟩
  obtain ⟨c, hc⟩ : ∃ a, dig 2 d.toNat = a := ⟨_, rfl⟩
  have la : a.length = 4 := by rw [← ha, dig_len]
  have lb : b.length = 2 := by rw [← hb, dig_len]
  have lc : c.length = 2 := by rw [← hc, dig_len]
  unfold textL
  rw [ha, hb, hc]
  match a, la with
  | [a0, a1, a2, a3], _ =>
    match b, lb with
    | [b0, b1], _ =>
      match c, lc with
      | [c0, c1], _ => exact ⟨rfl, rfl, rfl, rfl, rfl⟩
theorem IsDay.of_text {y m d : Int} (h : IsDay y m d) : (yOf (textL y m d) : Int) = y ∧ (mOf (textL y m d) : Int) = m ∧ (dOf (textL y m d) : Int) = d := by
  obtain ⟨a1, a2, a3, a4⟩ := h.at
  have := h.1
  have := h.le
  obtain ⟨t1, t2, t3, _, _⟩ := text_at y m d
  unfold yOf mOf dOf
  rw [t1, t2, t3, num_dig 4 _ (by omega), num_dig 2 _ (by omega), num_dig 2 _ (by omega)]
  omega
theorem IsDay.readB {y m d : Int} (h : IsDay y m d) : readB (textL y m d) = true := by
  obtain ⟨t1, t2, t3, t4, t5⟩ := text_at y m d
  obtain ⟨e1, e2, e3⟩ := h.of_text
  simp only [Go.Proofs.Ytdekjlkpinallaa.readB, Bool.and_eq_true, decide_eq_true_eq]
  rw [t1, t2, t3, t4, t5, e1, e2, e3]
  exact ⟨⟨text_len _ _ _, rfl, rfl⟩, dig_digs _ _, dig_digs _ _, dig_digs _ _, h.1, h.2⟩
end Go.Proofs.Ytdekjlkpinallaa
