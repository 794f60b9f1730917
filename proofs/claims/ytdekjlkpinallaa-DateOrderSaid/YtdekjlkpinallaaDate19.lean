/- The law DateOrder. -/
import Derived.Test.YtdekjlkpinallaaDate18
namespace Go.Proofs.Ytdekjlkpinallaa
open Go.RowKit Go.Maps
theorem less_app : ∀ (a b x y : List UInt8), a.length = b.length → (Op.bytesLess (a ++ x) (b ++ y) = true ↔ Op.bytesLess a b = true ∨ a = b ∧ Op.bytesLess x y = true)
  | [], [], x, y, _ => by simp [Op.bytesLess]
  | [], _ :: _, _, _, h => by simp at h
  | _ :: _, [], _, _, h => by simp at h
  | c :: a, d :: b, x, y, h => by
    have ih := less_app a b x y (by simpa using h)
    simp only [List.cons_append, Op.bytesLess, Bool.or_eq_true, Bool.and_eq_true, decide_eq_true_eq, beq_iff_eq, List.cons.injEq]
    rw [ih]
    constructor
    · rintro (h1 | ⟨h1, h2 | ⟨h2, h3⟩⟩)
      · exact .inl (.inl h1)
      · exact .inl (.inr ⟨h1, h2⟩)
      · exact .inr ⟨⟨h1, h2⟩, h3⟩
    · rintro ((h1 | ⟨h1, h2⟩) | ⟨⟨h1, h2⟩, h3⟩)
      · exact .inl h1
      · exact .inr ⟨h1, .inl h2⟩
      · exact .inr ⟨h1, .inr ⟨h2, h3⟩⟩
theorem dig_inj {k n m : Nat} (hn : n < 10 ^ k) (hm : m < 10 ^ k) (h : dig k n = dig k m) : n = m := by
  have := congrArg numL h
  rwa [num_dig k n hn, num_dig k m hm] at this
theorem less_dig (k : Nat) : ∀ n m, n < 10 ^ k → m < 10 ^ k → (Op.bytesLess (dig k n) (dig k m) = true ↔ n < m) := by
  induction k with
  | zero => intro n m hn hm; simp at hn hm; subst hn hm; simp [dig, Op.bytesLess]
  | succ k ih =>
    intro n m hn hm
    rw [Nat.pow_succ] at hn hm
    rw [dig, dig, less_app _ _ _ _ (by rw [dig_len, dig_len]), ih _ _ (by omega) (by omega)]
    have h1 : Op.bytesLess [digB (n % 10)] [digB (m % 10)] = true ↔ n % 10 < m % 10 := by
      simp only [Op.bytesLess, Bool.or_eq_true, Bool.and_eq_true, decide_eq_true_eq, Bool.false_eq_true, and_false, or_false, UInt8.lt_iff_toNat_lt]
      rw [digB_nat _ (Nat.mod_lt _ (by omega)), digB_nat _ (Nat.mod_lt _ (by omega))]
      omega
    rw [h1]
    constructor
    · rintro (h | ⟨h, h2⟩)
      · omega
      · have := dig_inj (by omega) (by omega) h
        omega
    · intro h
      by_cases h2 : n / 10 < m / 10
      · exact .inl h2
      · exact .inr ⟨by rw [show n / 10 = m / 10 by omega], by omega⟩
theorem less_text {y m d y' m' d' : Int} (h : IsDay y m d) (h' : IsDay y' m' d') : Op.bytesLess (textL y m d) (textL y' m' d') = true ↔ aheadI y m d < aheadI y' m' d' := by
  obtain ⟨a1, a2, a3, a4⟩ := h.at
  obtain ⟨b1, b2, b3, b4⟩ := h'.at
  have a5 := h.1
  have b5 := h'.1
  have a6 := h.le
  have b6 := h'.le
  rw [ahead_lt h h']
  have h45 : Op.bytesLess [45] [45] = false := by decide
  unfold textL
  rw [less_app _ _ _ _ (by rw [dig_len, dig_len]), less_app [45] [45] _ _ rfl, less_app _ _ _ _ (by rw [dig_len, dig_len]), less_app [45] [45] _ _ rfl, h45,
    less_dig 4 _ _ (by omega) (by omega), less_dig 2 _ _ (by omega) (by omega), less_dig 2 _ _ (by omega) (by omega)]
  simp only [Bool.false_eq_true, false_or, true_and]
  constructor
  · rintro (h1 | ⟨h1, h2 | ⟨h2, h3⟩⟩)
    · omega
    · have := dig_inj (k := 4) (by omega) (by omega) h1
      omega
    · have := dig_inj (k := 4) (by omega) (by omega) h1
      have := dig_inj (k := 2) (by omega) (by omega) h2
      omega
  · rintro (h1 | ⟨rfl, h2 | ⟨rfl, h3⟩⟩)
    · exact .inl (by omega)
    · exact .inr ⟨rfl, .inl (by omega)⟩
    · exact .inr ⟨rfl, .inr ⟨rfl, by omega⟩⟩
theorem less_num {a b : List UInt8} (ha : readB a = true) (hb : readB b = true) : Op.bytesLess (S a).toList (S b).toList = decide (numV a < numV b) := by
  have h : ∀ l, (S l).toList = l := fun l => by rw [ByteArray.toList_eq]; simp [S]
  rw [h, h, Bool.eq_iff_iff, decide_eq_true_eq, (numV_yes ha).1, (numV_yes hb).1, ← less_text (readB_day ha) (readB_day hb), ← readB_text ha, ← readB_text hb]
theorem eq_num {a b : List UInt8} (ha : readB a = true) (hb : readB b = true) : a = b ↔ numV a = numV b := by
  constructor
  · rintro rfl; rfl
  · intro h
    have := isAt_self ha
    rw [h] at this
    have e := isAt_back hb this
    rw [← e]
    exact readB_text ha
theorem addPost_to {a b : List UInt8} (ha : readB a = true) (hb : readB b = true) {e : Ending} (hp : AddPost a (numV b - numV a) e) : e = .returned (.tuple #[.string (S b), .int .i64 0]) := by
  have hr := numV_range b
  have hk : numV a + (numV b - numV a) = numV b := by omega
  rcases hp with ⟨h1, _⟩ | ⟨_, h2, _⟩ | ⟨_, _, _, y, m, d, h4, rfl⟩
  · rw [ha] at h1; cases h1
  · omega
  · rw [hk] at h4
    rw [isAt_back hb h4]
set_option maxRecDepth 100000 in
set_option maxHeartbeats 4000000 in
theorem dateOrder_law (s t : ByteArray) (w : World) (_ : s.size ≤ maxLen) (_ : t.size ≤ maxLen) :
    Calls Try.prog 7 #[.string s, .string t] w fun e w' => e = .returned (.bool true) ∧ Below w.heap.size w w' := by
  go_enter Try.func7, Try.ntmps7
  go_wp2_with fail
  refine (cut_any s w).mono ?_
  rintro e w' ⟨⟨a, hal, rfl⟩, rfl⟩
  go_wp2_with fail
  refine (cut_any t w).mono ?_
  rintro e w' ⟨⟨b, hbl, rfl⟩, rfl⟩
  have VA := fun W => valid_any a W
  have VB := fun W => valid_any b W
  cases ha : readB a with
  | false =>
    rw [ha] at VA
    have VA := Lib.hid VA
    clear VB ha
    go_wp2_with (first
      | (go_at_call 25; refine (VA.out _).mono ?_; rintro e w1 ⟨rfl, hb1⟩)
      | (go_at_call 13; refine (awake20_any _).mono ?_; rintro e w2 ⟨rfl, hb2⟩))
    go_ret
    exact ⟨rfl, bnext hb1 hb2⟩
  | true =>
    rw [ha] at VA
    cases hb : readB b with
    | false =>
      rw [hb] at VB
      have VA := Lib.hid VA
      have VB := Lib.hid VB
      clear ha hb
      go_wp2_with fail
      refine (VA.out _).mono ?_
      rintro e w1 ⟨rfl, hb1⟩
      go_wp2_with fail
      refine (VB.out _).mono ?_
      rintro e w2 ⟨rfl, hb2⟩
      go_wp2_with (go_at_call 13; refine (awake20_any _).mono ?_; rintro e w3 ⟨rfl, hb3⟩)
      go_ret
      exact ⟨rfl, bnext (bnext hb1 hb2) hb3⟩
    | true =>
      rw [hb] at VB
      have hra := numV_range a
      have hrb := numV_range b
      have C1 := fun W => number20_any a (by omega) W
      have C2 := fun W => number20_any b (by omega) W
      rw [(numV_yes ha).2] at C1
      rw [(numV_yes hb).2] at C2
      have CA := fun W => (add20_any a (numV b - numV a) (by omega) W (by omega)).mono fun e w' h => (⟨addPost_to ha hb h.1, h.2⟩ : e = .returned (.tuple #[.string (S b), .int .i64 0]) ∧ Below W.heap.size W w')
      have hless := less_num ha hb
      have heq := S_eq a b
      have heq2 : decide (a = b) = decide (numV a = numV b) := by rw [decide_eq_decide]; exact eq_num ha hb
      rw [heq2] at heq
      obtain ⟨n1, hn1⟩ : ∃ n, n = numV a := ⟨_, rfl⟩
      obtain ⟨n2, hn2⟩ : ∃ n, n = numV b := ⟨_, rfl⟩
      rw [← hn1] at C1 CA hless heq hra
      rw [← hn2] at C2 CA hless heq hrb
      have VA := Lib.hid VA
      have VB := Lib.hid VB
      have C1 := Lib.hid C1
      have C2 := Lib.hid C2
      have CA := Lib.hid CA
      clear ha hb heq2 hn1 hn2
      have h3 : n1 < n2 ∨ n1 = n2 ∨ n2 < n1 := by omega
      rcases h3 with h3 | h3 | h3
      · rw [decide_eq_true h3] at hless
        rw [decide_eq_false (by omega)] at heq
        have hne : (n1 == n2) = false := by simp; omega
        have hdl : decide (n1 < n2) = true := decide_eq_true h3
        go_wp2_with fail
        refine (VA.out _).mono ?_
        rintro e w1 ⟨rfl, hb1⟩
        go_wp2_with fail
        refine (VB.out _).mono ?_
        rintro e w2 ⟨rfl, hb2⟩
        go_wp2_with fail
        refine (C1.out _).mono ?_
        rintro e w3 ⟨rfl, hb3⟩
        go_wp2_with fail
        refine (C2.out _).mono ?_
        rintro e w4 ⟨rfl, hb4⟩
        go_wp2_with (first
          | (go_at_call 27; refine (CA.out _).mono ?_; rintro e w5 ⟨rfl, hb5⟩)
          | (go_at_call 13; refine (awake20_any _).mono ?_; rintro e w6 ⟨rfl, hb6⟩))
        go_ret
        exact ⟨by first | rfl | exact ret_bool (by simp [hdl]), bnext (bnext (bnext (bnext (bnext hb1 hb2) hb3) hb4) hb5) hb6⟩
      · rw [decide_eq_false (by omega)] at hless
        rw [decide_eq_true h3] at heq
        have hne : (n1 == n2) = true := by simpa using h3
        have hnl : n2 ≤ n1 := by omega
        have hdl : decide (n1 < n2) = false := decide_eq_false (by omega)
        clear h3
        go_wp2_with fail
        refine (VA.out _).mono ?_
        rintro e w1 ⟨rfl, hb1⟩
        go_wp2_with fail
        refine (VB.out _).mono ?_
        rintro e w2 ⟨rfl, hb2⟩
        go_wp2_with fail
        refine (C1.out _).mono ?_
        rintro e w3 ⟨rfl, hb3⟩
        go_wp2_with fail
        refine (C2.out _).mono ?_
        rintro e w4 ⟨rfl, hb4⟩
        go_wp2_with (first
          | (go_at_call 27; refine (CA.out _).mono ?_; rintro e w5 ⟨rfl, hb5⟩)
          | (go_at_call 13; refine (awake20_any _).mono ?_; rintro e w6 ⟨rfl, hb6⟩))
        go_ret
        exact ⟨by first | rfl | exact ret_bool (by simp [hdl]), bnext (bnext (bnext (bnext (bnext hb1 hb2) hb3) hb4) hb5) hb6⟩
      · rw [decide_eq_false (by omega)] at hless
        rw [decide_eq_false (by omega)] at heq
        have hne : (n1 == n2) = false := by simp; omega
        have hdl : decide (n1 < n2) = false := decide_eq_false (by omega)
        go_wp2_with fail
        refine (VA.out _).mono ?_
        rintro e w1 ⟨rfl, hb1⟩
        go_wp2_with fail
        refine (VB.out _).mono ?_
        rintro e w2 ⟨rfl, hb2⟩
        go_wp2_with fail
        refine (C1.out _).mono ?_
        rintro e w3 ⟨rfl, hb3⟩
        go_wp2_with fail
        refine (C2.out _).mono ?_
        rintro e w4 ⟨rfl, hb4⟩
        go_wp2_with (first
          | (go_at_call 27; refine (CA.out _).mono ?_; rintro e w5 ⟨rfl, hb5⟩)
          | (go_at_call 13; refine (awake20_any _).mono ?_; rintro e w6 ⟨rfl, hb6⟩))
        go_ret
        exact ⟨by first | rfl | exact ret_bool (by simp [hdl]), bnext (bnext (bnext (bnext (bnext hb1 hb2) hb3) hb4) hb5) hb6⟩
end Go.Proofs.Ytdekjlkpinallaa
