/- The plain law of what begins a date. No program in sight. No condition. -/
import Derived.Test.YtdekjlkpinallaaDMath
namespace Go.Proofs.Ytdekjlkpinallaa
/-- Does some date begin so? As the program finds it. -/
def beginsB (l : List UInt8) : Bool :=
  digs l && decide (l.length < 4 ∨ l.length = 4 ∧ 1 ≤ numL l ∨ l.length = 5 ∧ 1 ≤ numL l / 10 ∧ numL l % 10 ≤ 1 ∨
    l.length = 6 ∧ 0 < daysI (numL (l.take 4)) (numL ((l.drop 4).take 2)) ∨
    l.length = 7 ∧ 0 < daysI (numL (l.take 4)) (numL ((l.drop 4).take 2)) ∧ 10 * ((numL l % 10 : Nat) : Int) ≤ daysI (numL (l.take 4)) (numL ((l.drop 4).take 2)) ∨
    l.length = 8 ∧ 1 ≤ ((numL l % 100 : Nat) : Int) ∧ ((numL l % 100 : Nat) : Int) ≤ daysI (numL (l.take 4)) (numL ((l.drop 4).take 2)))
theorem begins_len {l : List UInt8} (h : beginsB l = true) : l.length ≤ 8 := by
  simp only [beginsB, Bool.and_eq_true, decide_eq_true_eq] at h; omega
theorem begins_digs {l : List UInt8} (h : beginsB l = true) : digs l = true := by
  simp only [beginsB, Bool.and_eq_true] at h; exact h.1
theorem begins_few {l : List UInt8} (h : digs l = true) (hl : l.length < 4) : beginsB l = true := by
  simp only [beginsB, Bool.and_eq_true, decide_eq_true_eq]; exact ⟨h, .inl hl⟩
theorem digB_eq {n : Nat} {c : UInt8} (h : n < 10) (hc : isDig c = true) : digB n = c ↔ n = c.toNat - 48 := by
  have hc' := of_decide_eq_true hc
  constructor
  · intro e; have := digB_nat n h; rw [e] at this; omega
  · intro e; subst e; exact digB_of c hc
theorem numL_two (a : List UInt8) (c e : UInt8) : numL (a ++ [c, e]) = 10 * (10 * numL a + (c.toNat - 48)) + (e.toNat - 48) := by
  rw [show a ++ [c, e] = (a ++ [c]) ++ [e] by simp, numL_snoc, numL_snoc]
theorem numL_three (a : List UInt8) (c e f : UInt8) : numL (a ++ [c, e, f]) = 10 * (10 * (10 * numL a + (c.toNat - 48)) + (e.toNat - 48)) + (f.toNat - 48) := by
  rw [show a ++ [c, e, f] = (a ++ [c, e]) ++ [f] by simp, numL_snoc, numL_two]
theorem numL_four (a : List UInt8) (c e f g : UInt8) : numL (a ++ [c, e, f, g]) = 10 * (10 * (10 * (10 * numL a + (c.toNat - 48)) + (e.toNat - 48)) + (f.toNat - 48)) + (g.toNat - 48) := by
  rw [show a ++ [c, e, f, g] = (a ++ [c, e, f]) ++ [g] by simp, numL_snoc, numL_three]
theorem dig_two (n : Nat) : dig 2 n = [digB (n / 10 % 10), digB (n % 10)] := rfl
/-- Is there a date that begins with the digits l? -/
def SomeDay (l : List UInt8) : Prop := ∃ m k : Int, 1 ≤ m ∧ m ≤ 12 ∧ 1 ≤ k ∧ k ≤ daysI (numL (l.take 4)) m ∧ (plainL (numL (l.take 4)) m k).take l.length = l
theorem someDay_app {a t : List UInt8} (ha : a.length = 4) (hd : digs a = true) (m k : Int) : (plainL (numL a) m k).take (a ++ t).length = a ++ t ↔ (dig 2 m.toNat ++ dig 2 k.toNat).take t.length = t := by
  unfold plainL
  rw [Int.toNat_natCast, dig_num 4 a ha hd, List.length_append, List.take_length_add_append]
  exact List.append_right_inj a
theorem begins_some {l : List UInt8} (hd : digs l = true) (h4 : 4 ≤ l.length) (h8 : l.length ≤ 8) : beginsB l = true ↔ SomeDay l := by
  obtain ⟨a, t, rfl, ha⟩ : ∃ a t, l = a ++ t ∧ a.length = 4 := ⟨l.take 4, l.drop 4, (List.take_append_drop 4 l).symm, by simp; omega⟩
  have hda : digs a = true := by rw [digs_append, Bool.and_eq_true] at hd; exact hd.1
  have hdt : digs t = true := by rw [digs_append, Bool.and_eq_true] at hd; exact hd.2
  have ht : (a ++ t).take 4 = a := by rw [← ha, List.take_left']; rfl
  have hr : (a ++ t).drop 4 = t := by rw [← ha, List.drop_left']; rfl
  have htl : t.length ≤ 4 := by simp at h8; omega
  have hy := numL_lt 4 a ha hda
  unfold SomeDay beginsB
  simp only [hd, Bool.true_and, decide_eq_true_eq, ht, hr, List.length_append, ha]
  have happ := fun m k => @someDay_app a t ha hda m k
  simp only [List.length_append, ha] at happ
  simp only [happ]
  match t, hdt, htl with
  | [], _, _ =>
    simp only [List.length_nil, List.take_zero, List.append_nil, Nat.add_zero, and_true, true_and]
    constructor
    · intro h
      have h1 : 1 ≤ numL a := by omega
      have := @days_some (numL a) 1 (by omega)
      exact ⟨1, 1, by omega, by omega, by omega, by omega⟩
    · rintro ⟨m, k, h1, h2, h3, h4⟩
      have := @days_pos (numL a) m (by omega)
      omega
  | [c], hdt, _ =>
    have hc : isDig c = true := by simpa [digs] using hdt
    have hc' := of_decide_eq_true hc
    rw [numL_snoc]
    simp only [dig_two, List.length_cons, List.length_nil, List.cons_append, List.take_succ_cons, List.take_zero, List.cons.injEq, and_true, true_and]
    constructor
    · intro h
      have h1 : 1 ≤ numL a := by omega
      by_cases h2 : c.toNat = 48
      · have := @days_some (numL a) 1 (by omega)
        exact ⟨1, 1, by omega, by omega, by omega, by omega, by rw [digB_eq (by omega) hc]; omega⟩
      · have := @days_some (numL a) 10 (by omega)
        exact ⟨10, 1, by omega, by omega, by omega, by omega, by rw [digB_eq (by omega) hc]; omega⟩
    · rintro ⟨m, k, h1, h2, h3, h4, h5⟩
      have := @days_pos (numL a) m (by omega)
      rw [digB_eq (by omega) hc] at h5
      omega
  | [c, e], hdt, _ =>
    have hc : isDig c = true ∧ isDig e = true := by simpa [digs] using hdt
    have hc' := of_decide_eq_true hc.1
    have he' := of_decide_eq_true hc.2
    have hn2 : numL [c, e] = 10 * (c.toNat - 48) + (e.toNat - 48) := by simp [numL]
    simp only [dig_two, List.length_cons, List.length_nil, List.cons_append, List.nil_append, List.take_succ_cons, List.take_zero, List.cons.injEq, and_true, true_and, hn2]
    constructor
    · intro h
      have h1 : 0 < daysI (numL a) ((10 * (c.toNat - 48) + (e.toNat - 48) : Nat) : Int) := by omega
      have h2 := days_pos h1
      exact ⟨_, 1, h2.2.2.1, h2.2.2.2, by omega, by omega, by rw [digB_eq (by omega) hc.1]; omega, by rw [digB_eq (by omega) hc.2]; omega⟩
    · rintro ⟨m, k, h1, h2, h3, h4, h5, h6⟩
      rw [digB_eq (by omega) hc.1] at h5
      rw [digB_eq (by omega) hc.2] at h6
      have : m = ((10 * (c.toNat - 48) + (e.toNat - 48) : Nat) : Int) := by omega
      rw [← this]
      omega
  | [c, e, f], hdt, _ =>
    have hc : isDig c = true ∧ isDig e = true ∧ isDig f = true := by simpa [digs] using hdt
    have hc' := of_decide_eq_true hc.1
    have he' := of_decide_eq_true hc.2.1
    have hf' := of_decide_eq_true hc.2.2
    have hn2 : numL [c, e] = 10 * (c.toNat - 48) + (e.toNat - 48) := by simp [numL]
    rw [numL_three]
    simp only [dig_two, List.length_cons, List.length_nil, List.cons_append, List.nil_append, List.take_succ_cons, List.take_zero, List.cons.injEq, and_true, true_and, hn2]
    constructor
    · intro h
      have h1 : 0 < daysI (numL a) ((10 * (c.toNat - 48) + (e.toNat - 48) : Nat) : Int) := by omega
      have h2 := days_pos h1
      have h3 := (days_le (numL a) ((10 * (c.toNat - 48) + (e.toNat - 48) : Nat) : Int)).2
      by_cases h4 : f.toNat = 48
      · exact ⟨_, 1, h2.2.2.1, h2.2.2.2, by omega, by omega, by rw [digB_eq (by omega) hc.1]; omega, by rw [digB_eq (by omega) hc.2.1]; omega, by rw [digB_eq (by omega) hc.2.2]; omega⟩
      · exact ⟨_, 10 * ((f.toNat - 48 : Nat) : Int), h2.2.2.1, h2.2.2.2, by omega, by omega, by rw [digB_eq (by omega) hc.1]; omega, by rw [digB_eq (by omega) hc.2.1]; omega, by rw [digB_eq (by omega) hc.2.2]; omega⟩
    · rintro ⟨m, k, h1, h2, h3, h4, h5, h6, h7⟩
      have h8 := (days_le (numL a) m).2
      rw [digB_eq (by omega) hc.1] at h5
      rw [digB_eq (by omega) hc.2.1] at h6
      rw [digB_eq (by omega) hc.2.2] at h7
      have : m = ((10 * (c.toNat - 48) + (e.toNat - 48) : Nat) : Int) := by omega
      rw [← this]
      omega
  | [c, e, f, g], hdt, _ =>
    have hc : isDig c = true ∧ isDig e = true ∧ isDig f = true ∧ isDig g = true := by simpa [digs] using hdt
    have hc' := of_decide_eq_true hc.1
    have he' := of_decide_eq_true hc.2.1
    have hf' := of_decide_eq_true hc.2.2.1
    have hg' := of_decide_eq_true hc.2.2.2
    have hn2 : numL [c, e] = 10 * (c.toNat - 48) + (e.toNat - 48) := by simp [numL]
    rw [numL_four]
    simp only [dig_two, List.length_cons, List.length_nil, List.cons_append, List.nil_append, List.take_succ_cons, List.take_zero, List.cons.injEq, and_true, true_and, hn2]
    have hk : ((10 * (10 * (10 * (10 * numL a + (c.toNat - 48)) + (e.toNat - 48)) + (f.toNat - 48)) + (g.toNat - 48)) % 100 : Nat) = 10 * (f.toNat - 48) + (g.toNat - 48) := by omega
    rw [hk]
    constructor
    · intro h
      have h1 : 1 ≤ ((10 * (f.toNat - 48) + (g.toNat - 48) : Nat) : Int) ∧ ((10 * (f.toNat - 48) + (g.toNat - 48) : Nat) : Int) ≤ daysI (numL a) ((10 * (c.toNat - 48) + (e.toNat - 48) : Nat) : Int) := by omega
      have h2 := @days_pos (numL a) ((10 * (c.toNat - 48) + (e.toNat - 48) : Nat) : Int) (by omega)
      exact ⟨_, _, h2.2.2.1, h2.2.2.2, h1.1, h1.2, by rw [digB_eq (by omega) hc.1]; omega, by rw [digB_eq (by omega) hc.2.1]; omega, by rw [digB_eq (by omega) hc.2.2.1]; omega, by rw [digB_eq (by omega) hc.2.2.2]; omega⟩
    · rintro ⟨m, k, h1, h2, h3, h4, h5, h6, h7, h8⟩
      have h9 := (days_le (numL a) m).2
      rw [digB_eq (by omega) hc.1] at h5
      rw [digB_eq (by omega) hc.2.1] at h6
      rw [digB_eq (by omega) hc.2.2.1] at h7
      rw [digB_eq (by omega) hc.2.2.2] at h8
      have e1 : m = ((10 * (c.toNat - 48) + (e.toNat - 48) : Nat) : Int) := by omega
      have e2 : k = ((10 * (f.toNat - 48) + (g.toNat - 48) : Nat) : Int) := by omega
      rw [← e1, ← e2]
      omega
theorem plain_digs (y m d : Int) : digs (plainL y m d) = true := by unfold plainL; rw [digs_append, digs_append, dig_digs, dig_digs, dig_digs]; rfl
theorem digs_take {l : List UInt8} (h : digs l = true) (k : Nat) : digs (l.take k) = true := by
  unfold digs at *
  rw [List.all_eq_true] at *
  exact fun b hb => h b (List.mem_of_mem_take hb)
/-- Each beginning of a date's digits begins a date. -/
theorem IsDay.begins {y m d : Int} (h : IsDay y m d) (k : Nat) (hk : k ≤ 8) : beginsB ((plainL y m d).take k) = true := by
  have hd := digs_take (plain_digs y m d) k
  have hl : ((plainL y m d).take k).length = k := by rw [List.length_take, plain_len]; omega
  by_cases h4 : k < 4
  · exact begins_few hd (by rw [hl]; exact h4)
  · refine (begins_some hd (by omega) (by omega)).2 ?_
    obtain ⟨a1, a2, a3, a4⟩ := h.at
    have e : (numL (((plainL y m d).take k).take 4) : Int) = y := by
      rw [List.take_take, show min 4 k = 4 by omega]
      unfold plainL
      rw [List.take_append_of_le_length (by rw [dig_len]; omega), List.take_of_length_le (by rw [dig_len]; omega), num_dig 4 _ (by omega)]
      omega
    refine ⟨m, d, a3, a4, h.1, ?_, ?_⟩
    · rw [e]; exact h.2
    · rw [e, hl]
theorem begins_far (l : List UInt8) (h : 8 < l.length) : beginsB l = false := by
  cases hb : beginsB l with
  | false => rfl
  | true => have := begins_len hb; omega
/-- What stands in a text: eight digits that begin a date make it. -/
theorem begins_eight {l : List UInt8} (h : beginsB l = true) (hl : l.length = 8) : ∃ y m d : Int, IsDay y m d ∧ plainL y m d = l := by
  obtain ⟨m, k, h1, h2, h3, h4, h5⟩ := (begins_some (begins_digs h) (by omega) (by omega)).1 h
  refine ⟨_, m, k, ⟨h3, h4⟩, ?_⟩
  rw [hl, List.take_of_length_le (by rw [plain_len]; omega)] at h5
  exact h5
def shownL (l : List UInt8) : List UInt8 := dashL (l ++ List.replicate (8 - l.length) 95)
end Go.Proofs.Ytdekjlkpinallaa
