/- Numbers of digits; dates as texts: their contracts. -/
import Derived.Test.YtdekjlkpinallaaDate2
namespace Go.Proofs.Ytdekjlkpinallaa
open Go.RowKit Go.Maps
theorem numL_step (l : List UInt8) (i : Nat) (h : i < l.length) : numL (l.take (i + 1)) = 10 * numL (l.take i) + ((nth 0 l i).toNat - 48) := by
  rw [List.take_succ_eq_append_getElem h, numL_snoc, nth_eq _ _ _ h]
theorem digs_step (l : List UInt8) (i : Nat) (h : i < l.length) : digs (l.take (i + 1)) = (digs (l.take i) && isDig (nth 0 l i)) := by
  rw [List.take_succ_eq_append_getElem h, digs_snoc, nth_eq _ _ _ h]
theorem digs_not {l : List UInt8} {i : Nat} (h : i < l.length) (hn : isDig (nth 0 l i) = false) : digs l = false := by
  cases hd : digs l with
  | false => rfl
  | true =>
    have := (List.all_eq_true.1 hd) l[i] (List.getElem_mem h)
    rw [nth_eq _ _ _ h] at hn
    rw [hn] at this; cases this
theorem numL_take_lt (l : List UInt8) (i : Nat) (hi : i ≤ 15) (hd : digs (l.take i) = true) : numL (l.take i) < 10 ^ 15 := by
  have h1 := numL_lt (l.take i).length (l.take i) rfl hd
  have h2 : (l.take i).length ≤ 15 := by simp; omega
  exact Nat.lt_of_lt_of_le h1 (Nat.pow_le_pow_right (by omega) h2)
set_option maxRecDepth 100000 in
set_option maxHeartbeats 2000000 in
theorem number_any (l : List UInt8) (hl : l.length ≤ 1000) (w : World) : Calls Try.prog 41 #[.string (S l)] w fun e w' => (∃ n : Int, e = .returned (.tuple #[.int .i64 n, .bool (digs l)]) ∧ (digs l = true → l.length ≤ 15 → n = numL l)) ∧ w = w' := by
  have hsz := S_size l
  have hget := S_get l
  go_enter Try.func41, Try.ntmps41
  go_wp2
  go_loop [4, 5] (fun v i => ∃ (k : Nat) (n : Int), v = .int .i64 n ∧ i = .int .i64 k ∧ k ≤ l.length ∧ Hid (digs (l.take k) = true) ∧ Hid (k ≤ 15 → n = numL (l.take k))) (fun _ i => l.length - (intOf i).toNat)
  case atStart => exact ⟨0, 0, rfl, rfl, Nat.zero_le _, rfl, fun _ => rfl⟩
  case round =>
    obtain ⟨k, n, rfl, rfl, hk, hd, hn⟩ := hrel
    by_cases hlt : k < l.length
    · obtain ⟨b, hb⟩ : ∃ b, b = isDig (nth 0 l k) := ⟨_, rfl⟩
      have HB := Lib.hid hb
      have h2 : b = true ∧ 48 ≤ (nth 0 l k).toNat ∧ (nth 0 l k).toNat ≤ 57 ∨ b = false ∧ ((nth 0 l k).toNat < 48 ∨ 57 < (nth 0 l k).toNat) := by
        rw [hb]; unfold isDig
        by_cases h : 48 ≤ (nth 0 l k).toNat ∧ (nth 0 l k).toNat ≤ 57
        · exact .inl ⟨decide_eq_true h, h⟩
        · exact .inr ⟨decide_eq_false h, by omega⟩
      clear hb
      rcases h2 with ⟨rfl, h3, h4⟩ | ⟨rfl, h3⟩
      · have u1 : IntKind.u8.wrap (((nth 0 l k).toNat : Int) - 48) = ((nth 0 l k).toNat : Int) - 48 := IntWalk.u8_in _ (by omega)
        go_wp2
        go_round
        case rel =>
          refine ⟨k + 1, _, rfl, by go_num, by omega, by rw [Hid, digs_step l k hlt, hd.out, ← HB.out]; rfl, fun h15 => ?_⟩
          have e := hn.out (by omega)
          have hb := numL_take_lt l k (by omega) hd.out
          rw [numL_step l k hlt, e]
          unfold wrap64
          omega
        case measure => simp [intOf]; omega
      · have hf := Lib.hid (digs_not hlt HB.out.symm)
        rcases h3 with h3 | h3
        all_goals
          go_wp2
          go_ret2
          exact ⟨⟨0, by rw [hf.out]; rfl, fun h => by rw [hf.out] at h; cases h⟩, rfl⟩
    · obtain rfl : k = l.length := by omega
      rw [List.take_length] at hd hn
      go_wp2
      go_ret2
      exact ⟨⟨n, by rw [hd.out]; rfl, fun _ h => hn.out h⟩, rfl⟩
set_option maxRecDepth 100000 in
set_option maxHeartbeats 2000000 in
theorem refNumber_any (l : List UInt8) (hl : l.length ≤ 15) (w : World) : Calls Try.prog 42 #[.string (S l)] w fun e w' => e = .returned (.int .i64 (if digs l then (numL l : Int) else -1)) ∧ w = w' := by
  obtain ⟨z, hz⟩ : ∃ z, z = (if digs l then (numL l : Int) else -1) := ⟨_, rfl⟩
  rw [← hz]
  have HZ := Lib.hid hz
  clear hz
  have hsz := S_size l
  have hget := S_get l
  go_enter Try.func42, Try.ntmps42
  go_wp2
  go_loop [3, 4] (fun v i => ∃ (k n : Nat), v = .int .i64 n ∧ i = .int .i64 k ∧ k ≤ l.length ∧ n < 10 ^ 15 ∧ Hid (digs (l.take k) = true) ∧ Hid (n = numL (l.take k))) (fun _ i => l.length - (intOf i).toNat)
  case atStart => exact ⟨0, 0, rfl, rfl, Nat.zero_le _, by decide, rfl, rfl⟩
  case round =>
    obtain ⟨k, n, rfl, rfl, hk, hn15, hd, hn⟩ := hrel
    by_cases hlt : k < l.length
    · obtain ⟨b, hb⟩ : ∃ b, b = isDig (nth 0 l k) := ⟨_, rfl⟩
      have HB := Lib.hid hb
      have h2 : b = true ∧ 48 ≤ (nth 0 l k).toNat ∧ (nth 0 l k).toNat ≤ 57 ∨ b = false ∧ ((nth 0 l k).toNat < 48 ∨ 57 < (nth 0 l k).toNat) := by
        rw [hb]; unfold isDig
        by_cases h : 48 ≤ (nth 0 l k).toNat ∧ (nth 0 l k).toNat ≤ 57
        · exact .inl ⟨decide_eq_true h, h⟩
        · exact .inr ⟨decide_eq_false h, by omega⟩
      clear hb
      rcases h2 with ⟨rfl, h3, h4⟩ | ⟨rfl, h3⟩
      · have u1 : IntKind.u8.wrap (((nth 0 l k).toNat : Int) - 48) = ((nth 0 l k).toNat : Int) - 48 := IntWalk.u8_in _ (by omega)
        go_wp2
        go_round
        case rel =>
          have hs : Hid (digs (l.take (k + 1)) = true) := by rw [Hid, digs_step l k hlt, hd.out, ← HB.out]; rfl
          have hm := numL_take_lt l (k + 1) (by omega) hs.out
          have e := numL_step l k hlt
          have e2 := hn.out
          refine ⟨k + 1, numL (l.take (k + 1)), congrArg (Value.int .i64) (by omega), by go_num, by omega, hm, hs, rfl⟩
        case measure => simp [intOf]; omega
      · have hf := Lib.hid (digs_not hlt HB.out.symm)
        rcases h3 with h3 | h3
        all_goals
          go_wp2
          go_ret
          exact ⟨ret_int (by rw [HZ.out, hf.out]; rfl), rfl⟩
    · obtain rfl : k = l.length := by omega
      rw [List.take_length] at hd hn
      go_wp2
      go_ret
      exact ⟨ret_int (by rw [HZ.out, hd.out, hn.out]; rfl), rfl⟩
end Go.Proofs.Ytdekjlkpinallaa
