/- The contracts of moves and columns, of the program and of its reference; the law EscMoves. -/
import Derived.Test.YtcihcjlaamfjfaaEsc2
namespace Go.Proofs.Ytcihcjlaamfjfaa
open Go.RowKit

theorem held_any (n : Int) (w : World) : Calls Try.prog 88 #[.int .i64 n] w fun e w' => e = .returned (.int .i64 (heldI n)) ∧ w = w' := by
  go_enter Try.func88, Try.ntmps88
  go_wp2
  all_goals (go_ret; exact ⟨ret_int (by unfold heldI; omega), rfl⟩)
theorem place_any (n : Int) (w : World) : Calls Try.prog 89 #[.int .i64 n] w fun e w' => e = .returned (.int .i64 (heldI n)) ∧ w = w' := by
  go_enter Try.func89, Try.ntmps89
  go_wp2
  all_goals (go_ret; exact ⟨ret_int (by unfold heldI; omega), rfl⟩)
set_option maxHeartbeats 1000000 in
theorem by_any (n : Int) (e : UInt8) (w : World) : Calls Try.prog 84 #[.int .i64 n, .string (S [e])] w fun r w' => r = .returned (.string (S (byL n e))) ∧ Below w.heap.size w w' := by
  by_cases h : n < 1
  · have hby := Lib.hid (show byL n e = [] by unfold byL; rw [if_pos h])
    go_enter Try.func84, Try.ntmps84
    go_wp2
    go_ret
    exact ⟨ret_str (by rw [hby.out]; rfl), Below.refl _ _⟩
  · have hby := Lib.hid (seqL_one n e (by omega))
    have h1 : 1 ≤ n := by omega
    clear h
    have hrow : RowAt (w.alloc (.cells #[.int .i64 n] 3)).heap.size (w.alloc (.cells #[.int .i64 n] 3)) (some ⟨w.heap.size, 0, none⟩) (i64s [n]) := RowAt.new w (i64s [n]) 3
    have Hrow := Lib.hid hrow
    clear hrow
    go_enter Try.func84, Try.ntmps84
    go_wp2_with fail
    refine (sequence_any [e] [n] _ 1 1 _ (by simp) rfl (by simp) Hrow.out (fun k hk => by simp at hk; subst hk; simp [nth]; omega)).mono ?_
    rintro r w1 ⟨rfl, hb1⟩
    go_wp2
    go_ret
    exact ⟨ret_str (by rw [hby.out]), bnext ((Below.refl _ _).alloc (Nat.le_refl _) _) hb1⟩
theorem up_any (n : Int) (w : World) : Calls Try.prog 33 #[.int .i64 n] w fun r w' => r = .returned (.string (S (byL n 65))) ∧ Below w.heap.size w w' := by
  go_enter Try.func33, Try.ntmps33
  go_wp2_with fail
  refine (by_any n 65 _).mono ?_
  rintro r w1 ⟨rfl, hb1⟩
  go_wp2
  go_ret
  exact ⟨rfl, hb1⟩
theorem down_any (n : Int) (w : World) : Calls Try.prog 35 #[.int .i64 n] w fun r w' => r = .returned (.string (S (byL n 66))) ∧ Below w.heap.size w w' := by
  go_enter Try.func35, Try.ntmps35
  go_wp2_with fail
  refine (by_any n 66 _).mono ?_
  rintro r w1 ⟨rfl, hb1⟩
  go_wp2
  go_ret
  exact ⟨rfl, hb1⟩
theorem right_any (n : Int) (w : World) : Calls Try.prog 36 #[.int .i64 n] w fun r w' => r = .returned (.string (S (byL n 67))) ∧ Below w.heap.size w w' := by
  go_enter Try.func36, Try.ntmps36
  go_wp2_with fail
  refine (by_any n 67 _).mono ?_
  rintro r w1 ⟨rfl, hb1⟩
  go_wp2
  go_ret
  exact ⟨rfl, hb1⟩
theorem left_any (n : Int) (w : World) : Calls Try.prog 37 #[.int .i64 n] w fun r w' => r = .returned (.string (S (byL n 68))) ∧ Below w.heap.size w w' := by
  go_enter Try.func37, Try.ntmps37
  go_wp2_with fail
  refine (by_any n 68 _).mono ?_
  rintro r w1 ⟨rfl, hb1⟩
  go_wp2
  go_ret
  exact ⟨rfl, hb1⟩
set_option maxHeartbeats 1000000 in
theorem column_any (n : Int) (w : World) : Calls Try.prog 38 #[.int .i64 n] w fun r w' => r = .returned (.string (S (colL n))) ∧ Below w.heap.size w w' := by
  by_cases h : n < 0
  · have hby := Lib.hid (show colL n = [] by unfold colL; rw [if_pos h])
    go_enter Try.func38, Try.ntmps38
    go_wp2
    go_ret
    exact ⟨ret_str (by rw [hby.out]; rfl), Below.refl _ _⟩
  · have h1 : 0 ≤ n := by omega
    have hby := Lib.hid ((seqL_one (min n 9998 + 1) 71 (by omega)).trans (colL_by n h1))
    clear h
    obtain ⟨m, hm⟩ : ∃ m, m = min n 9998 + 1 := ⟨_, rfl⟩
    have hrow : RowAt (w.alloc (.cells #[.int .i64 m] 3)).heap.size (w.alloc (.cells #[.int .i64 m] 3)) (some ⟨w.heap.size, 0, none⟩) (i64s [m]) := RowAt.new w (i64s [m]) 3
    rw [← hm] at hby
    by_cases hb : n ≤ 9998
    · obtain rfl : m = n + 1 := by omega
      have Hrow := Lib.hid hrow
      clear hrow hm
      go_enter Try.func38, Try.ntmps38
      go_wp2_with fail
      refine (sequence_any [71] [n + 1] _ 1 1 _ (by simp) rfl (by simp) Hrow.out (fun k hk => by simp at hk; subst hk; simp [nth]; omega)).mono ?_
      rintro r w1 ⟨rfl, hb1⟩
      go_wp2
      go_ret
      exact ⟨ret_str (by rw [hby.out]), bnext ((Below.refl _ _).alloc (Nat.le_refl _) _) hb1⟩
    · obtain rfl : m = 9999 := by omega
      have hb2 : 9998 < n := by omega
      have Hrow := Lib.hid hrow
      clear hrow hm hb
      go_enter Try.func38, Try.ntmps38
      go_wp2_with fail
      refine (sequence_any [71] [9999] _ 1 1 _ (by simp) rfl (by simp) Hrow.out (fun k hk => by simp at hk; subst hk; simp [nth])).mono ?_
      rintro r w1 ⟨rfl, hb1⟩
      go_wp2
      go_ret
      exact ⟨ret_str (by rw [hby.out]), bnext ((Below.refl _ _).alloc (Nat.le_refl _) _) hb1⟩

theorem refE_any (w : World) : Calls Try.prog 85 #[] w fun r w' => r = .returned (.string (S [27, 91])) ∧ Below w.heap.size w w' := by
  have hcv := conv_new w [27, 91] 2 rfl
  have hcv2 : (convert 110 9 (.slice (some ⟨w.heap.size, 0, none⟩) 2 2)).run Try.prog (w.alloc (.cells #[.int .u8 27, .int .u8 91] 5)) = .ok (.string (S [27, 91])) (w.alloc (.cells #[.int .u8 27, .int .u8 91] 5)) := hcv
  clear hcv
  go_enter Try.func85, Try.ntmps85
  go_wp2
  go_ret
  exact ⟨rfl, (Below.refl _ _).alloc (Nat.le_refl _) _⟩
theorem num_nines (w : World) : Calls Try.prog 86 #[.int .i64 9999] w fun e w' => e = .returned (.string (S nines)) ∧ Below w.heap.size w w' := num_any 9999 w (by omega) (by omega)
set_option maxHeartbeats 1000000 in
theorem refBy_any (n : Int) (e : UInt8) (w : World) : Calls Try.prog 34 #[.int .i64 n, .string (S [e])] w fun r w' => r = .returned (.string (S (byL n e))) ∧ Below w.heap.size w w' := by
  have he : (S [e]).size ≤ 10 := by rw [S_size]; simp
  have hz : (S [27, 91]).size ≤ 10 := by rw [S_size]; simp
  by_cases h : n < 1
  · have hby := Lib.hid (show byL n e = [] by unfold byL; rw [if_pos h])
    go_enter Try.func34, Try.ntmps34
    go_wp2
    go_ret
    exact ⟨ret_str (by rw [hby.out]; rfl), Below.refl _ _⟩
  · have hby := Lib.hid (show byL n e = [27, 91] ++ decL (min n 9999).toNat ++ [e] by unfold byL; rw [if_neg h])
    have h1 : 1 ≤ n := by omega
    clear h
    by_cases hb : n ≤ 9999
    · have hm : min n 9999 = n := by omega
      rw [hm] at hby
      clear hm
      have hsz : (S (decL n.toNat)).size ≤ 4 := by rw [S_size]; exact decL_le _ (by omega)
      go_enter Try.func34, Try.ntmps34
      go_wp2_with (first
        | (go_at_call 85; refine (refE_any _).mono ?_; rintro r w1 ⟨rfl, hb1⟩)
        | (go_at_call 86; refine (num_any _ _ (by omega) (by omega)).mono ?_; rintro r w2 ⟨rfl, hb2⟩))
      go_ret
      exact ⟨ret_str (by rw [hby.out, S_append, S_append]), bnext hb1 hb2⟩
    · have hm : min n 9999 = 9999 := by omega
      have hn : decL (min n 9999).toNat = nines := by rw [hm]; rfl
      rw [hn] at hby
      have hb2 : 9999 < n := by omega
      clear hm hn hb
      have hsz : (S nines).size ≤ 4 := by rw [S_size]; exact decL_le _ (by omega)
      go_enter Try.func34, Try.ntmps34
      go_wp2_with (first
        | (go_at_call 85; refine (refE_any _).mono ?_; rintro r w1 ⟨rfl, hb1⟩)
        | (go_at_call 86; refine (num_nines _).mono ?_; rintro r w2 ⟨rfl, hb2⟩))
      go_ret
      exact ⟨ret_str (by rw [hby.out, S_append, S_append]), bnext hb1 hb2⟩
theorem refColumn_any (n : Int) (w : World) : Calls Try.prog 39 #[.int .i64 n] w fun r w' => r = .returned (.string (S (colL n))) ∧ Below w.heap.size w w' := by
  by_cases h : n < 0
  · have hby := Lib.hid (show colL n = [] by unfold colL; rw [if_pos h])
    go_enter Try.func39, Try.ntmps39
    go_wp2
    go_ret
    exact ⟨ret_str (by rw [hby.out]; rfl), Below.refl _ _⟩
  · have h1 : 0 ≤ n := by omega
    have hby := colL_by n h1
    clear h
    by_cases hb : n ≤ 9998
    · rw [show min n 9998 = n by omega] at hby
      have Hby := Lib.hid hby
      clear hby
      go_enter Try.func39, Try.ntmps39
      go_wp2_with fail
      refine (refBy_any (n + 1) 71 _).mono ?_
      rintro r w1 ⟨rfl, hb1⟩
      go_wp2
      go_ret
      exact ⟨ret_str (by rw [Hby.out]), hb1⟩
    · rw [show min n 9998 = 9998 by omega] at hby
      have hb2 : 9998 < n := by omega
      have Hby := Lib.hid hby
      clear hby hb
      go_enter Try.func39, Try.ntmps39
      go_wp2_with fail
      refine (refBy_any 9999 71 _).mono ?_
      rintro r w1 ⟨rfl, hb1⟩
      go_wp2
      go_ret
      exact ⟨ret_str (by rw [← Hby.out]; rfl), hb1⟩
end Go.Proofs.Ytcihcjlaamfjfaa
