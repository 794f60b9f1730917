/- Check, Number, Weekday, of the program and of its reference. -/
import Derived.Test.YtdekjlkpinallaaDate6
namespace Go.Proofs.Ytdekjlkpinallaa
open Go.RowKit Go.Maps
theorem ret_val2 {a b c : Int} (h : a = b) : Ending.returned (.tuple #[.int .i64 a, .int .i64 c]) = .returned (.tuple #[.int .i64 b, .int .i64 c]) := by rw [h]
def numV (l : List UInt8) : Int := if readB l then aheadI (yOf l) (mOf l) (dOf l) else 0
def errV (l : List UInt8) : Int := if readB l then 0 else 200
theorem numV_no {l : List UInt8} (h : readB l = false) : numV l = 0 ∧ errV l = 200 := by unfold numV errV; rw [h]; exact ⟨rfl, rfl⟩
theorem numV_yes {l : List UInt8} (h : readB l = true) : numV l = aheadI (yOf l) (mOf l) (dOf l) ∧ errV l = 0 := by unfold numV errV; rw [h]; exact ⟨rfl, rfl⟩
theorem numV_range (l : List UInt8) : 0 ≤ numV l ∧ numV l ≤ 3652058 := by
  cases h : readB l with
  | false => rw [(numV_no h).1]; omega
  | true => rw [(numV_yes h).1]; exact (readB_day h).ahead_range
set_option maxRecDepth 100000 in
theorem valid_any (l : List UInt8) (w : World) : Calls Try.prog 25 #[.string (S l)] w fun e w' => e = .returned (.bool (readB l)) ∧ Below w.heap.size w w' := by
  go_enter Try.func25, Try.ntmps25
  go_wp2_with fail
  refine (refRead_any l _).mono ?_
  rintro e w1 ⟨⟨y, m, d, rfl, _⟩, hb1⟩
  go_wp2
  go_ret
  exact ⟨rfl, hb1.alloc hb1.size _⟩
set_option maxRecDepth 100000 in
theorem refCheck_any (l : List UInt8) (w : World) : Calls Try.prog 37 #[.string (S l)] w fun e w' => e = .returned (.int .i64 (errV l)) ∧ Below w.heap.size w w' := by
  have C := valid_any l w
  cases h : readB l with
  | false =>
    rw [h] at C
    rw [(numV_no h).2]
    clear h
    go_enter Try.func37, Try.ntmps37
    go_wp2_with fail
    refine C.mono ?_
    rintro e w1 ⟨rfl, hb1⟩
    go_wp2
    go_ret
    exact ⟨rfl, hb1⟩
  | true =>
    rw [h] at C
    rw [(numV_yes h).2]
    clear h
    go_enter Try.func37, Try.ntmps37
    go_wp2_with fail
    refine C.mono ?_
    rintro e w1 ⟨rfl, hb1⟩
    go_wp2
    go_ret
    exact ⟨rfl, hb1⟩
set_option maxRecDepth 100000 in
theorem check20_any (l : List UInt8) (hl : l.length ≤ 1000) (w : World) : Calls Try.prog 26 #[.string (S l)] w fun e w' => e = .returned (.int .i64 (errV l)) ∧ Below w.heap.size w w' := by
  have C := read_any l hl w
  cases h : readB l with
  | false =>
    rw [(numV_no h).2]
    go_enter Try.func26, Try.ntmps26
    go_wp2_with fail
    refine C.mono ?_
    rintro e w1 ⟨⟨y, m, d, rfl, _⟩, hb1⟩
    rw [h]
    clear h C
    go_wp2
    go_ret
    exact ⟨rfl, hb1.alloc hb1.size _⟩
  | true =>
    rw [(numV_yes h).2]
    go_enter Try.func26, Try.ntmps26
    go_wp2_with fail
    refine C.mono ?_
    rintro e w1 ⟨⟨y, m, d, rfl, _⟩, hb1⟩
    rw [h]
    clear h C
    go_wp2
    go_ret
    exact ⟨rfl, hb1.alloc hb1.size _⟩
set_option maxRecDepth 100000 in
set_option maxHeartbeats 2000000 in
theorem number20_any (l : List UInt8) (hl : l.length ≤ 1000) (w : World) : Calls Try.prog 31 #[.string (S l)] w fun e w' => e = .returned (.tuple #[.int .i64 (numV l), .int .i64 (errV l)]) ∧ Below w.heap.size w w' := by
  have C := read_any l hl w
  cases h : readB l with
  | false =>
    rw [(numV_no h).2, (numV_no h).1]
    go_enter Try.func31, Try.ntmps31
    go_wp2_with fail
    refine C.mono ?_
    rintro e w1 ⟨⟨y, m, d, rfl, _⟩, hb1⟩
    rw [h]
    clear h C
    go_wp2
    go_ret2
    exact ⟨rfl, hb1.alloc hb1.size _⟩
  | true =>
    rw [(numV_yes h).2, (numV_yes h).1]
    have hd := readB_day h
    obtain ⟨y, hY⟩ : ∃ y : Int, y = yOf l := ⟨_, rfl⟩
    obtain ⟨m, hM⟩ : ∃ m : Int, m = mOf l := ⟨_, rfl⟩
    obtain ⟨d, hD⟩ : ∃ d : Int, d = dOf l := ⟨_, rfl⟩
    rw [← hY, ← hM, ← hD] at hd ⊢
    obtain ⟨a1, a2, a3, a4⟩ := hd.at
    have hd31 := hd.le
    have hd1 := hd.1
    obtain ⟨K, rfl⟩ : ∃ K : Nat, m = (K : Int) + 1 := ⟨(m - 1).toNat, by omega⟩
    obtain ⟨x, hx⟩ : ∃ x, x = beforeI y := ⟨_, rfl⟩
    have hx1 : 0 ≤ x ∧ x ≤ 3652059 := by
      have q1 := before_mono (y := 1) (z := y) (by omega) a1 (by omega)
      have q2 := before_mono (y := y) (z := 10000) (by omega) (by omega) (by omega)
      have e1 : beforeI 1 = 0 := by decide
      have e2 : beforeI 10000 = 3652059 := by decide
      omega
    obtain ⟨v, hv⟩ : ∃ v, v = aheadI y ((K : Int) + 1) d := ⟨_, rfl⟩
    rw [← hv]
    have HV : Hid (v = x + cumI y K + d - 1) := by
      show v = _
      rw [hv, hx]; unfold aheadI; rw [show ((K : Int) + 1 - 1).toNat = K by omega]
    have CB := Lib.hid (fun W => (before_any y a1 (by omega) W))
    rw [← hx] at CB
    have HYM := Lib.hid (And.intro hY (And.intro hM hD))
    clear hv hx hd hY hM hD
    go_enter Try.func31, Try.ntmps31
    go_wp2_with fail
    refine C.mono ?_
    rintro e w1 ⟨⟨y', m', d', rfl, hymd⟩, hb1⟩
    obtain ⟨e1, e2, e3⟩ := hymd h
    rw [← HYM.out.1] at e1
    rw [← HYM.out.2.1] at e2
    rw [← HYM.out.2.2] at e3
    subst e1 e2 e3
    rw [h]
    clear h C hymd HYM
    obtain ⟨c0, c1, c2, hB, hs⟩ := three_new w1 (.int .i64 y') (.int .i64 ((K : Int) + 1)) (.int .i64 d') 61
    have hB1 := hb1.alloc hb1.size (.cells #[.int .i64 y', .int .i64 ((K : Int) + 1), .int .i64 d'] 61)
    have hs1 := hb1.size
    generalize hW : w1.alloc (.cells #[.int .i64 y', .int .i64 ((K : Int) + 1), .int .i64 d'] 61) = W1 at c0 c1 c2 hB hs hB1
    have CB2 := Lib.hid (fun n => Calls.quiet_of_same ((CB.out (W1.drewN n)).mono fun e w' h => ⟨h.1, h.2.symm⟩))
    clear hB hb1 CB
    go_wp2_with fail
    go_quiet (exact CB2.out _)
    have hB2 : Below w.heap.size w (W1.drewN nq) := ⟨hB1.os, hB1.tape, hB1.output, hB1.size, hB1.block⟩
    have c1' : (W1.drewN nq).cell? ⟨w1.heap.size, 1, none⟩ = some (.int .i64 ((K : Int) + 1)) := c1
    have c0' : (W1.drewN nq).cell? ⟨w1.heap.size, 0, none⟩ = some (.int .i64 y') := c0
    have hs2 : (W1.drewN nq).heap.size = w1.heap.size + 1 := hs
    generalize W1.drewN nq = W2 at hB2 c1' c0' hs2 ⊢
    clear c0 c1 c2 hB1 hs CB2 hW
    go_wp2_with fail
    go_loopw [6, 7] (fun n i wr => ∃ k : Nat, k ≤ K ∧ n = .int .i64 (x + d' - 1 + cumI y' k) ∧ i = .int .i64 ((k : Int) + 1) ∧ Below W2.heap.size W2 wr) (fun _ i _ => (13 - intOf i).toNat)
    case atStart => exact ⟨0, Nat.zero_le _, congrArg (Value.int .i64) (by simp [cumI]), rfl, Below.refl _ _⟩
    case round =>
      obtain ⟨k, hk, rfl, rfl, hb⟩ := hrel
      have k0 := (hb.cell (p := ⟨w1.heap.size, 0, none⟩) (by show w1.heap.size < _; omega)).trans c0'
      have k1 := (hb.cell (p := ⟨w1.heap.size, 1, none⟩) (by show w1.heap.size < _; omega)).trans c1'
      have hcl := cum_le y' k
      by_cases hlt : k < K
      · have hcs : cumI y' (k + 1) = cumI y' k + daysI y' ((k : Int) + 1) := rfl
        have CD := days_any y' ((k : Int) + 1) wr
        have hdl := days_le y' ((k : Int) + 1)
        have HCS := Lib.hid hcs
        revert HCS CD hdl
        generalize daysI y' ((k : Int) + 1) = z
        intro CD hdl HCS
        obtain ⟨u, hu⟩ : ∃ u, u = cumI y' k := ⟨_, rfl⟩
        rw [← hu] at HCS hcl ⊢
        clear hu hcs
        go_wp2_with fail
        refine CD.mono ?_
        rintro e w3 ⟨rfl, hb3⟩
        go_wp2_with fail
        go_roundw
        case rel => exact ⟨k + 1, by omega, congrArg (Value.int .i64) (by rw [HCS.out]; omega), by go_num, bto hb hb3 hb.size⟩
        case measure => simp [intOf]; omega
      · obtain rfl : k = K := by omega
        go_wp2_with fail
        go_ret2
        have hs3 := hB2.size
        exact ⟨by rw [HV.out]; exact ret_val2 (by omega), hB2.trans (hb.mono hs3)⟩
/-- How many days are ahead of a year, year by year. -/
def sumI : Nat → Int
  | 0 => 0
  | k + 1 => sumI k + yearI (k + 1)
theorem sum_before (k : Nat) (h : k ≤ 9999) : sumI k = beforeI (k + 1) := by
  induction k with
  | zero => decide
  | succ k ih =>
    have := before_succ ((k : Int) + 1) (by omega) (by omega)
    simp only [sumI]
    rw [ih (by omega), show (((k + 1 : Nat) : Int) + 1) = ((k : Int) + 1) + 1 by omega]
    exact this.symm
set_option maxRecDepth 100000 in
set_option maxHeartbeats 2000000 in
theorem ahead_any {y m d : Int} (hd : IsDay y m d) (w : World) : Calls Try.prog 48 #[.agg #[.int .i64 y, .int .i64 m, .int .i64 d]] w fun e w' => e = .returned (.int .i64 (aheadI y m d)) ∧ Below w.heap.size w w' := by
  obtain ⟨a1, a2, a3, a4⟩ := hd.at
  have hd31 := hd.le
  have hd1 := hd.1
  obtain ⟨K, rfl⟩ : ∃ K : Nat, m = (K : Int) + 1 := ⟨(m - 1).toNat, by omega⟩
  obtain ⟨Y, rfl⟩ : ∃ K : Nat, y = (K : Int) + 1 := ⟨(y - 1).toNat, by omega⟩
  obtain ⟨v, hv⟩ : ∃ v, v = aheadI ((Y : Int) + 1) ((K : Int) + 1) d := ⟨_, rfl⟩
  rw [← hv]
  have HV : Hid (v = sumI Y + cumI ((Y : Int) + 1) K + d - 1) := by
    show v = _
    rw [hv]; unfold aheadI; rw [show ((K : Int) + 1 - 1).toNat = K by omega, sum_before Y (by omega)]
  clear hv hd
  obtain ⟨c0, c1, c2, hB, hs⟩ := three_new w (.int .i64 ((Y : Int) + 1)) (.int .i64 ((K : Int) + 1)) (.int .i64 d) 30
  generalize hW : w.alloc (.cells #[.int .i64 ((Y : Int) + 1), .int .i64 ((K : Int) + 1), .int .i64 d] 30) = W1 at c0 c1 c2 hB hs
  go_enter Try.func48, Try.ntmps48
  go_wp2_with fail
  go_loop [3, 4] (fun n i => ∃ k : Nat, k ≤ K ∧ n = .int .i64 (d - 1 + cumI ((Y : Int) + 1) k) ∧ i = .int .i64 ((k : Int) + 1)) (fun _ i => (13 - intOf i).toNat)
  case atStart => exact ⟨0, Nat.zero_le _, congrArg (Value.int .i64) (by simp [cumI]), rfl⟩
  case round =>
    obtain ⟨k, hk, rfl, rfl⟩ := hrel
    have hcl := cum_le ((Y : Int) + 1) k
    by_cases hlt : k < K
    · have hcs : cumI ((Y : Int) + 1) (k + 1) = cumI ((Y : Int) + 1) k + daysI ((Y : Int) + 1) ((k : Int) + 1) := rfl
      have CD := refDays_any ((Y : Int) + 1) ((k : Int) + 1) W1
      have hdl := days_le ((Y : Int) + 1) ((k : Int) + 1)
      have HCS := Lib.hid hcs
      clear hcs
      revert CD hdl HCS
      generalize daysI ((Y : Int) + 1) ((k : Int) + 1) = z
      intro CD hdl HCS
      obtain ⟨u, hu⟩ : ∃ u, u = cumI ((Y : Int) + 1) k := ⟨_, rfl⟩
      rw [← hu] at HCS hcl ⊢
      clear hu
      go_wp2_with fail
      refine CD.mono ?_
      rintro e w3 ⟨rfl, rfl⟩
      go_wp2_with fail
      go_round
      case rel => exact ⟨k + 1, by omega, congrArg (Value.int .i64) (by rw [HCS.out]; omega), by go_num⟩
      case measure => simp [intOf]; omega
    · obtain rfl : k = K := by omega
      obtain ⟨u, hu⟩ : ∃ u, u = cumI ((Y : Int) + 1) k := ⟨_, rfl⟩
      rw [← hu] at HV hcl ⊢
      clear hu
      go_wp2_with fail
      go_loop [3, 5] (fun n i => ∃ j : Nat, j ≤ Y ∧ n = .int .i64 (d - 1 + u + sumI j) ∧ i = .int .i64 ((j : Int) + 1)) (fun _ i => (10000 - intOf i).toNat)
      case atStart => exact ⟨0, Nat.zero_le _, congrArg (Value.int .i64) (by simp [sumI]), rfl⟩
      case round =>
        obtain ⟨j, hj, rfl, rfl⟩ := hrel
        have hsj := sum_before j (by omega)
        have hsl : 0 ≤ sumI j ∧ sumI j ≤ 3652059 := by
          rw [hsj]
          have q1 := before_mono (y := 1) (z := (j : Int) + 1) (by omega) (by omega) (by omega)
          have q2 := before_mono (y := (j : Int) + 1) (z := 10000) (by omega) (by omega) (by omega)
          have e1 : beforeI 1 = 0 := by decide
          have e2 : beforeI 10000 = 3652059 := by decide
          omega
        clear hsj
        by_cases hlt : j < Y
        · have hss : sumI (j + 1) = sumI j + (if leapI ((j : Int) + 1) then 366 else 365) := rfl
          have CL := refLeap_any ((j : Int) + 1) W1
          obtain ⟨b, hb⟩ : ∃ b, b = leapI ((j : Int) + 1) := ⟨_, rfl⟩
          rw [← hb] at hss CL
          have HSS := Lib.hid hss
          clear hss hb
          obtain ⟨t, ht⟩ : ∃ t, t = sumI j := ⟨_, rfl⟩
          rw [← ht] at HSS hsl ⊢
          clear ht
          cases b with
          | false =>
            go_wp2_with fail
            refine CL.mono ?_
            rintro e w3 ⟨rfl, rfl⟩
            go_wp2_with fail
            go_round
            case rel => exact ⟨j + 1, by omega, congrArg (Value.int .i64) (by rw [HSS.out]; simp; omega), by go_num⟩
            case measure => simp [intOf]; omega
          | true =>
            go_wp2_with fail
            refine CL.mono ?_
            rintro e w3 ⟨rfl, rfl⟩
            go_wp2_with fail
            go_round
            case rel => exact ⟨j + 1, by omega, congrArg (Value.int .i64) (by rw [HSS.out]; simp; omega), by go_num⟩
            case measure => simp [intOf]; omega
        · obtain rfl : j = Y := by omega
          go_wp2_with fail
          go_ret
          exact ⟨ret_int (by rw [HV.out]; omega), hB⟩
set_option maxRecDepth 100000 in
set_option maxHeartbeats 1000000 in
theorem refNumber20_any (l : List UInt8) (w : World) : Calls Try.prog 32 #[.string (S l)] w fun e w' => e = .returned (.tuple #[.int .i64 (numV l), .int .i64 (errV l)]) ∧ Below w.heap.size w w' := by
  have C := refRead_any l w
  cases h : readB l with
  | false =>
    rw [(numV_no h).2, (numV_no h).1]
    go_enter Try.func32, Try.ntmps32
    go_wp2_with fail
    refine C.mono ?_
    rintro e w1 ⟨⟨y, m, d, rfl, _⟩, hb1⟩
    rw [h]
    clear h C
    go_wp2
    go_ret2
    exact ⟨rfl, hb1.alloc hb1.size _⟩
  | true =>
    rw [(numV_yes h).2, (numV_yes h).1]
    have CA := fun W => ahead_any (readB_day h) W
    obtain ⟨v, hv⟩ : ∃ v, v = aheadI (yOf l) (mOf l) (dOf l) := ⟨_, rfl⟩
    rw [← hv] at CA ⊢
    clear hv
    have CA := Lib.hid CA
    go_enter Try.func32, Try.ntmps32
    go_wp2_with fail
    refine C.mono ?_
    rintro e w1 ⟨⟨y, m, d, rfl, hymd⟩, hb1⟩
    obtain ⟨rfl, rfl, rfl⟩ := hymd h
    rw [h]
    clear h C hymd
    have hb2 := hb1.alloc hb1.size (.cells #[.int .i64 (yOf l), .int .i64 (mOf l), .int .i64 (dOf l)] 30)
    go_wp2_with fail
    refine (CA.out _).mono ?_
    rintro e w3 ⟨rfl, hb3⟩
    go_wp2
    go_ret2
    exact ⟨rfl, bto hb2 hb3 hb2.size⟩
def weekV (l : List UInt8) : Int := if readB l then numV l % 7 + 1 else 0
set_option maxRecDepth 100000 in
theorem weekday_any (l : List UInt8) (hl : l.length ≤ 1000) (w : World) : Calls Try.prog 33 #[.string (S l)] w fun e w' => e = .returned (.tuple #[.int .i64 (weekV l), .int .i64 (errV l)]) ∧ Below w.heap.size w w' := by
  have C := number20_any l hl w
  have hr := numV_range l
  have hw : weekV l = if readB l then numV l % 7 + 1 else 0 := rfl
  obtain ⟨v, hv⟩ : ∃ v, v = numV l := ⟨_, rfl⟩
  rw [← hv] at C hr hw
  cases h : readB l with
  | false =>
    rw [(numV_no h).2] at C ⊢
    rw [h] at hw
    rw [hw]
    clear h hv hw
    go_enter Try.func33, Try.ntmps33
    go_wp2_with fail
    refine C.mono ?_
    rintro e w1 ⟨rfl, hb1⟩
    go_wp2
    go_ret2
    exact ⟨rfl, hb1⟩
  | true =>
    rw [(numV_yes h).2] at C ⊢
    rw [h] at hw
    rw [hw]
    clear h hv hw
    have t1 : v.tmod 7 = v % 7 := Int.tmod_eq_emod_of_nonneg (by omega)
    go_enter Try.func33, Try.ntmps33
    go_wp2_with fail
    refine C.mono ?_
    rintro e w1 ⟨rfl, hb1⟩
    go_wp2
    go_ret2
    exact ⟨rfl, hb1⟩
set_option maxRecDepth 100000 in
theorem refWeekday_any (l : List UInt8) (w : World) : Calls Try.prog 34 #[.string (S l)] w fun e w' => e = .returned (.tuple #[.int .i64 (weekV l), .int .i64 (errV l)]) ∧ Below w.heap.size w w' := by
  have C := refNumber20_any l w
  have hr := numV_range l
  have hw : weekV l = if readB l then numV l % 7 + 1 else 0 := rfl
  obtain ⟨v, hv⟩ : ∃ v, v = numV l := ⟨_, rfl⟩
  rw [← hv] at C hr hw
  cases h : readB l with
  | false =>
    rw [(numV_no h).2] at C ⊢
    rw [h] at hw
    rw [hw]
    clear h hv hw
    go_enter Try.func34, Try.ntmps34
    go_wp2_with fail
    refine C.mono ?_
    rintro e w1 ⟨rfl, hb1⟩
    go_wp2
    go_ret2
    exact ⟨rfl, hb1⟩
  | true =>
    rw [(numV_yes h).2] at C ⊢
    rw [h] at hw
    rw [hw]
    clear h hv hw
    have t1 : v.tmod 7 = v % 7 := Int.tmod_eq_emod_of_nonneg (by omega)
    go_enter Try.func34, Try.ntmps34
    go_wp2_with fail
    refine C.mono ?_
    rintro e w1 ⟨rfl, hb1⟩
    go_wp2
    go_ret2
    exact ⟨rfl, hb1⟩
end Go.Proofs.Ytdekjlkpinallaa
