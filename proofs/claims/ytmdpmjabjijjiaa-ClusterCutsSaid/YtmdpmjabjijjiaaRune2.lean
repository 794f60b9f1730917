/- A rune's bytes: for any number; and the reference's. -/
import Derived.Test.YtmdpmjabjijjiaaRune1
namespace Go.Proofs.Ytmdpmjabjijjiaa
open Go.RowKit
set_option maxRecDepth 100000 in
set_option maxHeartbeats 2000000 in
theorem rbytes_bad (r : Int) (hr : isR r = false) (w : World) : Calls Try.prog 91 #[.int .i32 r] w (NewB (bytesN 65533) w) := by
  have CI := isRune_any r w
  rw [hr] at CI
  have CI := Lib.hid CI
  have hsix : ∀ k : Nat, (k = 0 ∨ k = 6 ∨ k = 12) → ∀ W : World, Calls Try.prog 129 #[.int .i32 65533, .int .u64 k] W fun e w' => e = .returned (.int .u8 ((128 + 65533 / 2 ^ k % 64 : Nat) : Int)) ∧ W = w' := fun k hk W => six_any 65533 k (by omega) hk W
  have C0 := hsix 0 (by omega)
  have C6 := hsix 6 (by omega)
  simp only [Nat.reducePow, Nat.reduceDiv, Nat.reduceMod, Nat.reduceAdd] at C0 C6
  have C0 := Lib.hid C0
  have C6 := Lib.hid C6
  clear hsix hr
  go_enter Try.func91, Try.ntmps91
  go_wp2_with (go_at_call 128; refine (CI.out).mono ?_; rintro e w1 ⟨rfl, rfl⟩)
  refine (C6.out _).mono ?_
  rintro e w1 ⟨rfl, rfl⟩
  go_wp2_with fail
  refine (C0.out _).mono ?_
  rintro e w1 ⟨rfl, rfl⟩
  go_wp2_with fail
  go_ret
  refine ⟨3, rfl, rfl, ?_⟩
  refine congrArg (fun a => w.alloc (.cells a 5)) ?_
  kernel_rfl
theorem rbytes_any (r : Int) (w : World) : Calls Try.prog 91 #[.int .i32 r] w (NewB (bytesR r) w) := by
  unfold bytesR runeN
  by_cases h : isR r = true
  · have h2 := h
    unfold isR at h2
    have h2 := of_decide_eq_true h2
    obtain ⟨n, rfl⟩ := Int.eq_ofNat_of_zero_le h2.1
    rw [if_pos h, Int.toNat_natCast]
    exact rbytes_at n (by omega) h w
  · rw [if_neg h]
    exact rbytes_bad r (by simpa using h) w
set_option maxRecDepth 100000 in
theorem refIs1_any (r : Int) (w : World) : Calls Try.prog 119 #[.int .i32 r] w fun e w' => e = .returned (.bool (isR r)) ∧ w = w' := by
  obtain ⟨z, hz⟩ : ∃ z, z = isR r := ⟨_, rfl⟩
  rw [← hz]
  have HZ := Lib.hid hz
  clear hz
  go_enter Try.func119, Try.ntmps119
  go_wp2
  all_goals go_ret
  all_goals refine ⟨ret_bool ?_, rfl⟩
  all_goals rw [HZ.out]
  all_goals unfold isR
  all_goals first | exact (decide_eq_true (by omega)).symm | exact (decide_eq_false (by omega)).symm | (rw [Bool.eq_iff_iff]; simp only [decide_eq_true_eq, Bool.or_eq_true, Bool.and_eq_true]; omega)
set_option maxRecDepth 100000 in
theorem low_any (r : Int) (h0 : 0 ≤ r) (h1 : r ≤ 1114111) (w : World) : Calls Try.prog 120 #[.int .i32 r] w fun e w' => e = .returned (.int .u8 (128 + r % 64)) ∧ w = w' := by
  have ht : r.tmod 64 = r % 64 := Int.tmod_eq_emod_of_nonneg h0
  have hb : 0 ≤ r % 64 ∧ r % 64 < 64 := by omega
  go_enter Try.func120, Try.ntmps120
  go_wp2
  go_ret
  exact ⟨ret_int (by omega), rfl⟩
theorem isR_isB (r : Int) : isR r = isB r := rfl
theorem runeN_le (r : Int) : runeN r ≤ 1114111 := by
  unfold runeN isR
  split
  · rename_i h; have := of_decide_eq_true h; omega
  · omega
set_option maxRecDepth 100000 in
set_option maxHeartbeats 2000000 in
theorem refBytes_bad (r : Int) (hr : isR r = false) (w : World) : Calls Try.prog 85 #[.int .i32 r] w (NewB (bytesN 65533) w) := by
  have CI := refIs1_any r w
  rw [hr] at CI
  have CI := Lib.hid CI
  have C0 := Lib.hid (fun W => low_any 65533 (by omega) (by omega) W)
  have C6 := Lib.hid (fun W => low_any 1023 (by omega) (by omega) W)
  clear hr
  go_enter Try.func85, Try.ntmps85
  go_wp2_with (go_at_call 119; refine (CI.out).mono ?_; rintro e w1 ⟨rfl, rfl⟩)
  refine (C6.out _).mono ?_
  rintro e w1 ⟨rfl, rfl⟩
  go_wp2_with fail
  refine (C0.out _).mono ?_
  rintro e w1 ⟨rfl, rfl⟩
  go_wp2_with fail
  go_ret
  refine ⟨3, rfl, rfl, ?_⟩
  refine congrArg (fun a => w.alloc (.cells a 5)) ?_
  kernel_rfl
set_option maxRecDepth 100000 in
set_option maxHeartbeats 2000000 in
theorem refBytes_any (r : Int) (w : World) : Calls Try.prog 85 #[.int .i32 r] w (NewB (bytesR r) w) := by
  obtain ⟨n, hnN⟩ : ∃ n, n = runeN r := ⟨_, rfl⟩
  obtain ⟨q, hnr⟩ : ∃ q : Int, q = (n : Int) := ⟨_, rfl⟩
  have hn : n ≤ 1114111 := hnN ▸ runeN_le r
  have CI := refIs1_any r w
  have hbR : bytesR r = bytesN n := by unfold bytesR; rw [hnN]
  rw [hbR]
  clear hbR
  have hkey : (isR r = true ∧ r = q) ∨ (isR r = false ∧ q = 65533) := by
    rw [hnr, hnN]
    unfold runeN
    by_cases h : isR r = true
    · rw [if_pos h]
      unfold isR at h
      have := of_decide_eq_true h
      exact .inl ⟨by unfold isR; exact decide_eq_true this, by omega⟩
    · rw [if_neg h]
      exact .inr ⟨by simpa using h, rfl⟩
  have hq0 : 0 ≤ q := by omega
  have hq1 : q ≤ 1114111 := by omega
  have CL := fun (k : Int) (h0 : 0 ≤ k) (h1 : k ≤ 1114111) (W : World) => low_any k h0 h1 W
  have C0 := Lib.hid (CL q hq0 hq1)
  have C6 := Lib.hid (CL (q / 64) (by omega) (by omega))
  have C12 := Lib.hid (CL (q / 4096) (by omega) (by omega))
  have t6 : q.tdiv 64 = q / 64 := Int.tdiv_eq_ediv_of_nonneg hq0
  have t12 : q.tdiv 4096 = q / 4096 := Int.tdiv_eq_ediv_of_nonneg hq0
  have t18 : q.tdiv 262144 = q / 262144 := Int.tdiv_eq_ediv_of_nonneg hq0
  have HH := Lib.hid (And.intro hnr hn)
  have hex : ∀ l : List UInt8, bytesN n = l → ∀ vs : Array Value, (u8v l).toArray = vs → ∀ W e, e = .returned (.slice (some ⟨W.heap.size, 0, none⟩) l.length l.length) → NewB (bytesN n) W e (W.alloc (.cells vs 5)) := fun l h vs hv W e he => by
    rw [h]; exact ⟨_, rfl, he, by rw [hv]⟩
  have HEX := Lib.hid hex
  clear hex CL hnN hnr
  have hcase : n < 128 ∨ (¬ n < 128 ∧ n < 2048) ∨ (¬ n < 128 ∧ ¬ n < 2048 ∧ n < 65536) ∨ (¬ n < 128 ∧ ¬ n < 2048 ∧ ¬ n < 65536) := by omega
  rcases hcase with h1 | hcase | hcase | hcase
  · have hb : bytesN n = [byteB n] := by unfold bytesN; rw [if_pos h1]
    have d1 : q < 128 := by have := HH.out; omega
    have HH2 := Lib.hid (And.intro hb h1)
    clear hb h1 t6 t12 t18 hn
    rcases hkey with ⟨hi, rfl⟩ | ⟨hi, hq⟩
    · rw [hi] at CI
      have CI := Lib.hid CI
      clear hi
      go_enter Try.func85, Try.ntmps85
      go_wp2_with (go_at_call 119; refine (CI.out).mono ?_; rintro e w1 ⟨rfl, rfl⟩)
      go_ret
      obtain ⟨hnr, hn⟩ := HH.out
      obtain ⟨hb, h1⟩ := HH2.out
      refine HEX.out _ hb _ ?_ w _ rfl
      simp only [u8v, List.map_cons, List.map_nil, byteB_nat n (by omega), hnr]
    · omega
  · have hb : bytesN n = [byteB (192 + n / 64), byteB (128 + n % 64)] := by unfold bytesN; rw [if_neg hcase.1, if_pos hcase.2]
    have d1 : 128 ≤ q := by have := HH.out; omega
    have d2 : q < 2048 := by have := HH.out; omega
    have HH2 := Lib.hid (And.intro hb hcase)
    clear hb hcase hn t12 t18
    rcases hkey with ⟨hi, rfl⟩ | ⟨hi, hq⟩
    · rw [hi] at CI
      have CI := Lib.hid CI
      clear hi
      go_enter Try.func85, Try.ntmps85
      go_wp2_with (go_at_call 119; refine (CI.out).mono ?_; rintro e w1 ⟨rfl, rfl⟩)
      refine (C0.out _).mono ?_
      rintro e w1 ⟨rfl, rfl⟩
      go_wp2_with fail
      go_ret
      obtain ⟨hnr, hn⟩ := HH.out
      obtain ⟨hb, hcase⟩ := HH2.out
      refine HEX.out _ hb _ ?_ w _ rfl
      unfold u8v
      rw [List.map_cons, List.map_cons, List.map_nil, byteB_nat (192 + n / 64) (by omega), byteB_nat (128 + n % 64) (by omega)]
      simp only [Int.natCast_add, Int.natCast_ediv, Int.natCast_emod, Int.cast_ofNat_Int, hnr]
    · omega
  · have hb : bytesN n = [byteB (224 + n / 4096), byteB (128 + n / 64 % 64), byteB (128 + n % 64)] := by unfold bytesN; rw [if_neg hcase.1, if_neg hcase.2.1, if_pos hcase.2.2]
    have d1 : 128 ≤ q := by have := HH.out; omega
    have d2 : 2048 ≤ q := by have := HH.out; omega
    have d3 : q < 65536 := by have := HH.out; omega
    have HH2 := Lib.hid (And.intro hb hcase)
    clear hb hcase hn t18
    rcases hkey with ⟨hi, rfl⟩ | ⟨hi, hq⟩
    · rw [hi] at CI
      have CI := Lib.hid CI
      clear hi
      go_enter Try.func85, Try.ntmps85
      go_wp2_with (go_at_call 119; refine (CI.out).mono ?_; rintro e w1 ⟨rfl, rfl⟩)
      refine (C6.out _).mono ?_
      rintro e w1 ⟨rfl, rfl⟩
      go_wp2_with fail
      refine (C0.out _).mono ?_
      rintro e w1 ⟨rfl, rfl⟩
      go_wp2_with fail
      go_ret
      obtain ⟨hnr, hn⟩ := HH.out
      obtain ⟨hb, hcase⟩ := HH2.out
      refine HEX.out _ hb _ ?_ w _ rfl
      unfold u8v
      rw [List.map_cons, List.map_cons, List.map_cons, List.map_nil, byteB_nat (224 + n / 4096) (by omega), byteB_nat (128 + n / 64 % 64) (by omega), byteB_nat (128 + n % 64) (by omega)]
      simp only [Int.natCast_add, Int.natCast_ediv, Int.natCast_emod, Int.cast_ofNat_Int, hnr]
    · have hnn : n = 65533 := by have := HH.out.1; omega
      rw [hnn]
      exact refBytes_bad r hi w
  · have hb : bytesN n = [byteB (240 + n / 262144), byteB (128 + n / 4096 % 64), byteB (128 + n / 64 % 64), byteB (128 + n % 64)] := by unfold bytesN; rw [if_neg hcase.1, if_neg hcase.2.1, if_neg hcase.2.2]
    have d1 : 128 ≤ q := by have := HH.out; omega
    have d2 : 2048 ≤ q := by have := HH.out; omega
    have d3 : 65536 ≤ q := by have := HH.out; omega
    have HH2 := Lib.hid (And.intro hb hcase)
    clear hb hcase hn 
    rcases hkey with ⟨hi, rfl⟩ | ⟨hi, hq⟩
    · rw [hi] at CI
      have CI := Lib.hid CI
      clear hi
      go_enter Try.func85, Try.ntmps85
      go_wp2_with (go_at_call 119; refine (CI.out).mono ?_; rintro e w1 ⟨rfl, rfl⟩)
      refine (C12.out _).mono ?_
      rintro e w1 ⟨rfl, rfl⟩
      go_wp2_with fail
      refine (C6.out _).mono ?_
      rintro e w1 ⟨rfl, rfl⟩
      go_wp2_with fail
      refine (C0.out _).mono ?_
      rintro e w1 ⟨rfl, rfl⟩
      go_wp2_with fail
      go_ret
      obtain ⟨hnr, hn⟩ := HH.out
      obtain ⟨hb, hcase⟩ := HH2.out
      refine HEX.out _ hb _ ?_ w _ rfl
      unfold u8v
      rw [List.map_cons, List.map_cons, List.map_cons, List.map_cons, List.map_nil, byteB_nat (240 + n / 262144) (by omega), byteB_nat (128 + n / 4096 % 64) (by omega), byteB_nat (128 + n / 64 % 64) (by omega), byteB_nat (128 + n % 64) (by omega)]
      simp only [Int.natCast_add, Int.natCast_ediv, Int.natCast_emod, Int.cast_ofNat_Int, hnr]
    · omega
end Go.Proofs.Ytmdpmjabjijjiaa
