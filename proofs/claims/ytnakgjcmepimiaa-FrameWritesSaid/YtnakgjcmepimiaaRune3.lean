/- A rune's bytes: the contracts of isRune, six, Bytes, and of the reference's. A rune's bytes: for any number; and the reference's. The first rune of bytes: the contracts of shapeOf, Next and step. -/
import Derived.Test.YtnakgjcmepimiaaRMath
import Derived.Test.YtnakgjcmepimiaaWidth3
import Derived.Test.YtnakgjcmepimiaaRMath2
namespace Go.Proofs.Ytnakgjcmepimiaa
set_option linter.unusedVariables false
set_option linter.unusedSimpArgs false
open Go.RowKit
theorem wrap_u8_nat (m : Nat) : IntKind.u8.wrap (m : Int) = ((m % 256 : Nat) : Int) := by
  rw [IntKind.wrap_u8]; omega
set_option maxRecDepth 100000 in
theorem six_any (n k : Nat) (hn : n ≤ 1114111) (hk : k = 0 ∨ k = 6 ∨ k = 12) (w : World) : Calls Try.prog 136 #[.int .i32 n, .int .u64 k] w fun e w' => e = .returned (.int .u8 ((128 + n / 2 ^ k % 64 : Nat) : Int)) ∧ w = w' := by
  have h0 := wrap_u8_nat (n / 2 ^ k)
  have h1 := and63 (n / 2 ^ k % 256) (Nat.mod_lt _ (by omega))
  have h2 := or128 (n / 2 ^ k % 256 % 64) (Nat.mod_lt _ (by omega))
  have h3 : (n : Int).fdiv ((2 ^ k : Nat) : Int) = ((n / 2 ^ k : Nat) : Int) := by
    rw [Int.fdiv_eq_ediv_of_nonneg _ (Int.natCast_nonneg _), Int.natCast_ediv]
  rcases hk with rfl | rfl | rfl
  all_goals
    simp only [Nat.reducePow] at h0 h1 h2 h3 ⊢
    go_enter Try.func136, Try.ntmps136
    go_wp2
    go_ret
    exact ⟨ret_int (by omega), rfl⟩
set_option maxRecDepth 100000 in
theorem isRune_any (r : Int) (w : World) : Calls Try.prog 135 #[.int .i32 r] w fun e w' => e = .returned (.bool (isR r)) ∧ w = w' := by
  obtain ⟨z, hz⟩ : ∃ z, z = isR r := ⟨_, rfl⟩
  rw [← hz]
  have HZ := Lib.hid hz
  clear hz
  go_enter Try.func135, Try.ntmps135
  go_wp2
  all_goals go_ret
  all_goals refine ⟨ret_bool ?_, rfl⟩
  all_goals rw [HZ.out]
  all_goals unfold isR
  all_goals first | exact (decide_eq_true (by omega)).symm | exact (decide_eq_false (by omega)).symm | (rw [Bool.eq_iff_iff]; simp only [decide_eq_true_eq, Bool.or_eq_true, Bool.and_eq_true]; omega)
def u8v (l : List UInt8) : List Value := l.map fun b => .int .u8 b.toNat
/-- A new slice of these bytes, and nothing else. -/
def NewB (l : List UInt8) (w : World) (e : Ending) (w' : World) : Prop := ∃ n, n = l.length ∧ e = .returned (.slice (some ⟨w.heap.size, 0, none⟩) n n) ∧ w.alloc (.cells (u8v l).toArray 5) = w'
theorem byteB_nat (n : Nat) (h : n < 256) : (byteB n).toNat = n := by simp [byteB]; omega
set_option maxRecDepth 100000 in
set_option maxHeartbeats 2000000 in
theorem rbytes_at (n : Nat) (hn : n ≤ 1114111) (hr : isR n = true) (w : World) : Calls Try.prog 116 #[.int .i32 n] w (NewB (bytesN n) w) := by
  obtain ⟨r, hnr⟩ : ∃ r : Int, r = (n : Int) := ⟨_, rfl⟩
  rw [← hnr] at hr ⊢
  have HR := Lib.hid hnr
  have CI := isRune_any r w
  rw [hr] at CI
  have CI := Lib.hid CI
  have hsix : ∀ k : Nat, (k = 0 ∨ k = 6 ∨ k = 12) → ∀ W : World, Calls Try.prog 136 #[.int .i32 r, .int .u64 k] W fun e w' => e = .returned (.int .u8 ((128 + n / 2 ^ k % 64 : Nat) : Int)) ∧ W = w' := fun k hk W => by rw [hnr]; exact six_any n k hn hk W
  have h3 : ∀ k : Nat, r.fdiv (k : Int) = ((n / k : Nat) : Int) := fun k => by rw [hnr, Int.fdiv_eq_ediv_of_nonneg _ (Int.natCast_nonneg _), Int.natCast_ediv]
  have C0 := hsix 0 (by omega)
  have C6 := hsix 6 (by omega)
  have C12 := hsix 12 (by omega)
  simp only [Nat.reducePow, Nat.div_one] at C0 C6 C12
  have C0 := Lib.hid C0
  have C6 := Lib.hid C6
  have C12 := Lib.hid C12
  by_cases h1 : n < 128
  · have hb : bytesN n = [byteB n] := by unfold bytesN; rw [if_pos h1]
    have h0i : 0 ≤ r := by omega
    have h1i : r < 128 := by omega
    clear hnr hn hr h1 h3 hsix
    rw [hb]
    go_enter Try.func116, Try.ntmps116
    go_wp2_with (go_at_call 135; refine (CI.out).mono ?_; rintro e w1 ⟨rfl, rfl⟩)
    go_ret
    refine ⟨1, rfl, rfl, ?_⟩
    have hnr := HR.out
    refine congrArg (fun a => w.alloc (.cells a 5)) ?_
    simp only [u8v, List.map_cons, List.map_nil, byteB_nat n (by omega)]
    rw [hnr]
    all_goals (try rw [show (n : Int) % 256 = (n : Int) by omega])
  · have h1i : (128 : Int) ≤ r := by omega
    have q6 := h3 64
    have q12 := h3 4096
    have q18 := h3 262144
    have w6 := wrap_u8_nat (n / 64)
    have w12 := wrap_u8_nat (n / 4096)
    have w18 := wrap_u8_nat (n / 262144)
    clear h3 hsix
    by_cases h2 : n < 2048
    · have hb : bytesN n = [byteB (192 + n / 64), byteB (128 + n % 64)] := by unfold bytesN; rw [if_neg h1, if_pos h2]
      have o1 := or192 (n / 64 % 256) (by omega)
      rw [hb]
      have h2i : r < 2048 := by omega
      have HN := Lib.hid hn
      clear h1 h2 hb q12 q18 w12 w18 hn hr hnr
      go_enter Try.func116, Try.ntmps116
      go_wp2_with (first
        | (go_at_call 135; refine (CI.out).mono ?_; rintro e w1 ⟨rfl, rfl⟩)
        | (go_at_call 136; refine (C0.out _).mono ?_; rintro e w1 ⟨rfl, rfl⟩))
      go_ret
      refine ⟨2, rfl, rfl, ?_⟩
      have hn := HN.out
      have hnr := HR.out
      refine congrArg (fun a => w.alloc (.cells a 5)) ?_
      simp only [u8v, List.map_cons, List.map_nil, byteB_nat (192 + n / 64) (by omega), byteB_nat (128 + n % 64) (by omega)]
      simp only [Int.natCast_add, Int.natCast_ediv, Int.natCast_emod, Int.cast_ofNat_Int, hnr]
    · have h2i : (2048 : Int) ≤ r := by omega
      by_cases h3 : n < 65536
      · have hb : bytesN n = [byteB (224 + n / 4096), byteB (128 + n / 64 % 64), byteB (128 + n % 64)] := by unfold bytesN; rw [if_neg h1, if_neg h2, if_pos h3]
        have o1 := or224 (n / 4096 % 256) (by omega)
        rw [hb]
        have h3i : r < 65536 := by omega
        have HN := Lib.hid (And.intro hn h3)
        clear h1 h2 h3 hb q6 q18 w6 w18 hn hr hnr
        go_enter Try.func116, Try.ntmps116
        go_wp2_with (go_at_call 135; refine (CI.out).mono ?_; rintro e w1 ⟨rfl, rfl⟩)
        refine (C6.out _).mono ?_
        rintro e w1 ⟨rfl, rfl⟩
        go_wp2_with fail
        refine (C0.out _).mono ?_
        rintro e w1 ⟨rfl, rfl⟩
        go_wp2_with fail
        go_ret
        refine ⟨3, rfl, rfl, ?_⟩
        obtain ⟨hn, h3⟩ := HN.out
        have hnr := HR.out
        refine congrArg (fun a => w.alloc (.cells a 5)) ?_
        unfold u8v
        rw [List.map_cons, List.map_cons, List.map_cons, List.map_nil, byteB_nat (224 + n / 4096) (by omega), byteB_nat (128 + n / 64 % 64) (by omega), byteB_nat (128 + n % 64) (by omega)]
        simp only [Int.natCast_add, Int.natCast_ediv, Int.natCast_emod, Int.cast_ofNat_Int, hnr]
      · have h3i : (65536 : Int) ≤ r := by omega
        have h4i : r ≤ 1114111 := by omega
        have hb : bytesN n = [byteB (240 + n / 262144), byteB (128 + n / 4096 % 64), byteB (128 + n / 64 % 64), byteB (128 + n % 64)] := by unfold bytesN; rw [if_neg h1, if_neg h2, if_neg h3]
        have o1 := or240 (n / 262144 % 256) (by omega)
        rw [hb]
        have HN := Lib.hid hn
        clear h1 h2 h3 hb q6 q12 w6 w12 hn hr hnr
        go_enter Try.func116, Try.ntmps116
        go_wp2_with (go_at_call 135; refine (CI.out).mono ?_; rintro e w1 ⟨rfl, rfl⟩)
        refine (C12.out _).mono ?_
        rintro e w1 ⟨rfl, rfl⟩
        go_wp2_with fail
        refine (C6.out _).mono ?_
        rintro e w1 ⟨rfl, rfl⟩
        go_wp2_with fail
        refine (C0.out _).mono ?_
        rintro e w1 ⟨rfl, rfl⟩
        go_wp2_with fail
        go_ret
        refine ⟨4, rfl, rfl, ?_⟩
        have hn := HN.out
        have hnr := HR.out
        refine congrArg (fun a => w.alloc (.cells a 5)) ?_
        unfold u8v
        rw [List.map_cons, List.map_cons, List.map_cons, List.map_cons, List.map_nil, byteB_nat (240 + n / 262144) (by omega), byteB_nat (128 + n / 4096 % 64) (by omega), byteB_nat (128 + n / 64 % 64) (by omega), byteB_nat (128 + n % 64) (by omega)]
        simp only [Int.natCast_add, Int.natCast_ediv, Int.natCast_emod, Int.cast_ofNat_Int, hnr]
end Go.Proofs.Ytnakgjcmepimiaa
namespace Go.Proofs.Ytnakgjcmepimiaa
set_option linter.unusedVariables false
set_option linter.unusedSimpArgs false
open Go.RowKit
set_option maxRecDepth 100000 in
set_option maxHeartbeats 2000000 in
theorem rbytes_bad (r : Int) (hr : isR r = false) (w : World) : Calls Try.prog 116 #[.int .i32 r] w (NewB (bytesN 65533) w) := by
  have CI := isRune_any r w
  rw [hr] at CI
  have CI := Lib.hid CI
  have hsix : ∀ k : Nat, (k = 0 ∨ k = 6 ∨ k = 12) → ∀ W : World, Calls Try.prog 136 #[.int .i32 65533, .int .u64 k] W fun e w' => e = .returned (.int .u8 ((128 + 65533 / 2 ^ k % 64 : Nat) : Int)) ∧ W = w' := fun k hk W => six_any 65533 k (by omega) hk W
  have C0 := hsix 0 (by omega)
  have C6 := hsix 6 (by omega)
  simp only [Nat.reducePow, Nat.reduceDiv, Nat.reduceMod, Nat.reduceAdd] at C0 C6
  have C0 := Lib.hid C0
  have C6 := Lib.hid C6
  clear hsix hr
  go_enter Try.func116, Try.ntmps116
  go_wp2_with (go_at_call 135; refine (CI.out).mono ?_; rintro e w1 ⟨rfl, rfl⟩)
  refine (C6.out _).mono ?_
  rintro e w1 ⟨rfl, rfl⟩
  go_wp2_with fail
  refine (C0.out _).mono ?_
  rintro e w1 ⟨rfl, rfl⟩
  go_wp2_with fail
  go_ret
  refine ⟨3, rfl, rfl, ?_⟩
  refine congrArg (fun a => w.alloc (.cells a 5)) ?_
  kernel_rfl
theorem rbytes_any (r : Int) (w : World) : Calls Try.prog 116 #[.int .i32 r] w (NewB (bytesR r) w) := by
  unfold bytesR runeN
  by_cases h : isR r = true
  · have h2 := h
    unfold isR at h2
    have h2 := of_decide_eq_true h2
    obtain ⟨n, rfl⟩ := Int.eq_ofNat_of_zero_le h2.1
    rw [if_pos h, Int.toNat_natCast]
    exact rbytes_at n (by omega) h w
  · rw [if_neg h]
    exact rbytes_bad r (by simpa using h) w
set_option maxRecDepth 100000 in
theorem refIs1_any (r : Int) (w : World) : Calls Try.prog 95 #[.int .i32 r] w fun e w' => e = .returned (.bool (isR r)) ∧ w = w' := by
  obtain ⟨z, hz⟩ : ∃ z, z = isR r := ⟨_, rfl⟩
  rw [← hz]
  have HZ := Lib.hid hz
  clear hz
  go_enter Try.func95, Try.ntmps95
  go_wp2
  all_goals go_ret
  all_goals refine ⟨ret_bool ?_, rfl⟩
  all_goals rw [HZ.out]
  all_goals unfold isR
  all_goals first | exact (decide_eq_true (by omega)).symm | exact (decide_eq_false (by omega)).symm | (rw [Bool.eq_iff_iff]; simp only [decide_eq_true_eq, Bool.or_eq_true, Bool.and_eq_true]; omega)
set_option maxRecDepth 100000 in
theorem low_any (r : Int) (h0 : 0 ≤ r) (h1 : r ≤ 1114111) (w : World) : Calls Try.prog 96 #[.int .i32 r] w fun e w' => e = .returned (.int .u8 (128 + r % 64)) ∧ w = w' := by
  have ht : r.tmod 64 = r % 64 := Int.tmod_eq_emod_of_nonneg h0
  have hb : 0 ≤ r % 64 ∧ r % 64 < 64 := by omega
  go_enter Try.func96, Try.ntmps96
  go_wp2
  go_ret
  exact ⟨ret_int (by omega), rfl⟩
theorem isR_isB (r : Int) : isR r = isB r := rfl
theorem runeN_le (r : Int) : runeN r ≤ 1114111 := by
  unfold runeN isR
  split
  · rename_i h; have := of_decide_eq_true h; omega
  · omega
set_option maxRecDepth 100000 in
set_option maxHeartbeats 2000000 in
theorem refBytes_bad (r : Int) (hr : isR r = false) (w : World) : Calls Try.prog 64 #[.int .i32 r] w (NewB (bytesN 65533) w) := by
  have CI := refIs1_any r w
  rw [hr] at CI
  have CI := Lib.hid CI
  have C0 := Lib.hid (fun W => low_any 65533 (by omega) (by omega) W)
  have C6 := Lib.hid (fun W => low_any 1023 (by omega) (by omega) W)
  clear hr
  go_enter Try.func64, Try.ntmps64
  go_wp2_with (go_at_call 95; refine (CI.out).mono ?_; rintro e w1 ⟨rfl, rfl⟩)
  refine (C6.out _).mono ?_
  rintro e w1 ⟨rfl, rfl⟩
  go_wp2_with fail
  refine (C0.out _).mono ?_
  rintro e w1 ⟨rfl, rfl⟩
  go_wp2_with fail
  go_ret
  refine ⟨3, rfl, rfl, ?_⟩
  refine congrArg (fun a => w.alloc (.cells a 5)) ?_
  kernel_rfl
set_option maxRecDepth 100000 in
set_option maxHeartbeats 2000000 in
theorem refBytes_any (r : Int) (w : World) : Calls Try.prog 64 #[.int .i32 r] w (NewB (bytesR r) w) := by
  obtain ⟨n, hnN⟩ : ∃ n, n = runeN r := ⟨_, rfl⟩
  obtain ⟨q, hnr⟩ : ∃ q : Int, q = (n : Int) := ⟨_, rfl⟩
  have hn : n ≤ 1114111 := hnN ▸ runeN_le r
  have CI := refIs1_any r w
  have hbR : bytesR r = bytesN n := by unfold bytesR; rw [hnN]
  rw [hbR]
  clear hbR
  have hkey : (isR r = true ∧ r = q) ∨ (isR r = false ∧ q = 65533) := by
    rw [hnr, hnN]
    unfold runeN
    by_cases h : isR r = true
    · rw [if_pos h]
      unfold isR at h
      have := of_decide_eq_true h
      exact .inl ⟨by unfold isR; exact decide_eq_true this, by omega⟩
    · rw [if_neg h]
      exact .inr ⟨by simpa using h, rfl⟩
  have hq0 : 0 ≤ q := by omega
  have hq1 : q ≤ 1114111 := by omega
  have CL := fun (k : Int) (h0 : 0 ≤ k) (h1 : k ≤ 1114111) (W : World) => low_any k h0 h1 W
  have C0 := Lib.hid (CL q hq0 hq1)
  have C6 := Lib.hid (CL (q / 64) (by omega) (by omega))
  have C12 := Lib.hid (CL (q / 4096) (by omega) (by omega))
  have t6 : q.tdiv 64 = q / 64 := Int.tdiv_eq_ediv_of_nonneg hq0
  have t12 : q.tdiv 4096 = q / 4096 := Int.tdiv_eq_ediv_of_nonneg hq0
  have t18 : q.tdiv 262144 = q / 262144 := Int.tdiv_eq_ediv_of_nonneg hq0
  have HH := Lib.hid (And.intro hnr hn)
  have hex : ∀ l : List UInt8, bytesN n = l → ∀ vs : Array Value, (u8v l).toArray = vs → ∀ W e, e = .returned (.slice (some ⟨W.heap.size, 0, none⟩) l.length l.length) → NewB (bytesN n) W e (W.alloc (.cells vs 5)) := fun l h vs hv W e he => by
    rw [h]; exact ⟨_, rfl, he, by rw [hv]⟩
  have HEX := Lib.hid hex
  clear hex CL hnN hnr
  have hcase : n < 128 ∨ (¬ n < 128 ∧ n < 2048) ∨ (¬ n < 128 ∧ ¬ n < 2048 ∧ n < 65536) ∨ (¬ n < 128 ∧ ¬ n < 2048 ∧ ¬ n < 65536) := by omega
  rcases hcase with h1 | hcase | hcase | hcase
  · have hb : bytesN n = [byteB n] := by unfold bytesN; rw [if_pos h1]
    have d1 : q < 128 := by have := HH.out; omega
    have HH2 := Lib.hid (And.intro hb h1)
    clear hb h1 t6 t12 t18 hn
    rcases hkey with ⟨hi, rfl⟩ | ⟨hi, hq⟩
    · rw [hi] at CI
      have CI := Lib.hid CI
      clear hi
      go_enter Try.func64, Try.ntmps64
      go_wp2_with (go_at_call 95; refine (CI.out).mono ?_; rintro e w1 ⟨rfl, rfl⟩)
      go_ret
      obtain ⟨hnr, hn⟩ := HH.out
      obtain ⟨hb, h1⟩ := HH2.out
      refine HEX.out _ hb _ ?_ w _ rfl
      simp only [u8v, List.map_cons, List.map_nil, byteB_nat n (by omega), hnr]
    · omega
  · have hb : bytesN n = [byteB (192 + n / 64), byteB (128 + n % 64)] := by unfold bytesN; rw [if_neg hcase.1, if_pos hcase.2]
    have d1 : 128 ≤ q := by have := HH.out; omega
    have d2 : q < 2048 := by have := HH.out; omega
    have HH2 := Lib.hid (And.intro hb hcase)
    clear hb hcase hn t12 t18
    rcases hkey with ⟨hi, rfl⟩ | ⟨hi, hq⟩
    · rw [hi] at CI
      have CI := Lib.hid CI
      clear hi
      go_enter Try.func64, Try.ntmps64
      go_wp2_with (go_at_call 95; refine (CI.out).mono ?_; rintro e w1 ⟨rfl, rfl⟩)
      refine (C0.out _).mono ?_
      rintro e w1 ⟨rfl, rfl⟩
      go_wp2_with fail
      go_ret
      obtain ⟨hnr, hn⟩ := HH.out
      obtain ⟨hb, hcase⟩ := HH2.out
      refine HEX.out _ hb _ ?_ w _ rfl
      unfold u8v
      rw [List.map_cons, List.map_cons, List.map_nil, byteB_nat (192 + n / 64) (by omega), byteB_nat (128 + n % 64) (by omega)]
      simp only [Int.natCast_add, Int.natCast_ediv, Int.natCast_emod, Int.cast_ofNat_Int, hnr]
    · omega
  · have hb : bytesN n = [byteB (224 + n / 4096), byteB (128 + n / 64 % 64), byteB (128 + n % 64)] := by unfold bytesN; rw [if_neg hcase.1, if_neg hcase.2.1, if_pos hcase.2.2]
    have d1 : 128 ≤ q := by have := HH.out; omega
    have d2 : 2048 ≤ q := by have := HH.out; omega
    have d3 : q < 65536 := by have := HH.out; omega
    have HH2 := Lib.hid (And.intro hb hcase)
    clear hb hcase hn t18
    rcases hkey with ⟨hi, rfl⟩ | ⟨hi, hq⟩
    · rw [hi] at CI
      have CI := Lib.hid CI
      clear hi
      go_enter Try.func64, Try.ntmps64
      go_wp2_with (go_at_call 95; refine (CI.out).mono ?_; rintro e w1 ⟨rfl, rfl⟩)
      refine (C6.out _).mono ?_
      rintro e w1 ⟨rfl, rfl⟩
      go_wp2_with fail
      refine (C0.out _).mono ?_
      rintro e w1 ⟨rfl, rfl⟩
      go_wp2_with fail
      go_ret
      obtain ⟨hnr, hn⟩ := HH.out
      obtain ⟨hb, hcase⟩ := HH2.out
      refine HEX.out _ hb _ ?_ w _ rfl
      unfold u8v
      rw [List.map_cons, List.map_cons, List.map_cons, List.map_nil, byteB_nat (224 + n / 4096) (by omega), byteB_nat (128 + n / 64 % 64) (by omega), byteB_nat (128 + n % 64) (by omega)]
      simp only [Int.natCast_add, Int.natCast_ediv, Int.natCast_emod, Int.cast_ofNat_Int, hnr]
    · have hnn : n = 65533 := by have := HH.out.1; omega
      rw [hnn]
      exact refBytes_bad r hi w
  · have hb : bytesN n = [byteB (240 + n / 262144), byteB (128 + n / 4096 % 64), byteB (128 + n / 64 % 64), byteB (128 + n % 64)] := by unfold bytesN; rw [if_neg hcase.1, if_neg hcase.2.1, if_neg hcase.2.2]
    have d1 : 128 ≤ q := by have := HH.out; omega
    have d2 : 2048 ≤ q := by have := HH.out; omega
    have d3 : 65536 ≤ q := by have := HH.out; omega
    have HH2 := Lib.hid (And.intro hb hcase)
    clear hb hcase hn 
    rcases hkey with ⟨hi, rfl⟩ | ⟨hi, hq⟩
    · rw [hi] at CI
      have CI := Lib.hid CI
      clear hi
      go_enter Try.func64, Try.ntmps64
      go_wp2_with (go_at_call 95; refine (CI.out).mono ?_; rintro e w1 ⟨rfl, rfl⟩)
      refine (C12.out _).mono ?_
      rintro e w1 ⟨rfl, rfl⟩
      go_wp2_with fail
      refine (C6.out _).mono ?_
      rintro e w1 ⟨rfl, rfl⟩
      go_wp2_with fail
      refine (C0.out _).mono ?_
      rintro e w1 ⟨rfl, rfl⟩
      go_wp2_with fail
      go_ret
      obtain ⟨hnr, hn⟩ := HH.out
      obtain ⟨hb, hcase⟩ := HH2.out
      refine HEX.out _ hb _ ?_ w _ rfl
      unfold u8v
      rw [List.map_cons, List.map_cons, List.map_cons, List.map_cons, List.map_nil, byteB_nat (240 + n / 262144) (by omega), byteB_nat (128 + n / 4096 % 64) (by omega), byteB_nat (128 + n / 64 % 64) (by omega), byteB_nat (128 + n % 64) (by omega)]
      simp only [Int.natCast_add, Int.natCast_ediv, Int.natCast_emod, Int.cast_ofNat_Int, hnr]
    · omega
end Go.Proofs.Ytnakgjcmepimiaa
namespace Go.Proofs.Ytnakgjcmepimiaa
set_option linter.unusedVariables false
set_option linter.unusedSimpArgs false
open Go.RowKit
def loI (c : Int) : Int := if c < 194 then 0 else if c = 224 then 160 else if c = 240 then 144 else if c < 245 then 128 else 0
def hiI (c : Int) : Int := if c < 194 then 0 else if c = 237 then 159 else if c = 244 then 143 else if c < 245 then 191 else 0
def manyI (c : Int) : Int := if c < 128 then 1 else if c < 194 then 0 else if c < 224 then 2 else if c < 240 then 3 else if c < 245 then 4 else 0
def bitsI (c : Int) : Int := if c < 128 then c else if c < 194 then 0 else if c < 224 then c % 32 else if c < 240 then c % 16 else if c < 245 then c % 8 else 0
def shapeV (c : Int) : Value := .agg #[.int .i64 (manyI c), .int .u8 (loI c), .int .u8 (hiI c), .int .i32 (bitsI c)]
theorem shapeV_of {c m l h b : Int} (h1 : manyI c = m) (h2 : loI c = l) (h3 : hiI c = h) (h4 : bitsI c = b) : Ending.returned (.agg #[.int .i64 m, .int .u8 l, .int .u8 h, .int .i32 b]) = .returned (shapeV c) := by
  subst h1 h2 h3 h4; rfl
set_option maxRecDepth 100000 in
set_option maxHeartbeats 2000000 in
theorem shape_any (n : Nat) (hn : n < 256) (w : World) : Calls Try.prog 113 #[.int .u8 n] w fun e w' => e = .returned (shapeV n) ∧ Below w.heap.size w w' := by
  have a31 := and31 n hn
  have a15 := and15 n hn
  have a7 := and7 n hn
  obtain ⟨c, hc⟩ : ∃ c : Int, c = (n : Int) := ⟨_, rfl⟩
  have m31 : ((n % 32 : Nat) : Int) = c % 32 := by omega
  have m15 : ((n % 16 : Nat) : Int) = c % 16 := by omega
  have m7 : ((n % 8 : Nat) : Int) = c % 8 := by omega
  rw [m31] at a31
  rw [m15] at a15
  rw [m7] at a7
  rw [← hc] at a31 a15 a7 ⊢
  have c0 : 0 ≤ c := by omega
  have c1 : c < 256 := by omega
  clear m31 m15 m7 hc hn
  have key : c = 224 ∨ c = 237 ∨ c = 240 ∨ c = 244 ∨ ((c == 224) = false ∧ (c == 237) = false ∧ (c == 240) = false ∧ (c == 244) = false ∧ c ≠ 224 ∧ c ≠ 237 ∧ c ≠ 240 ∧ c ≠ 244) := by
    simp only [beq_eq_false_iff_ne]; omega
  rcases key with rfl | rfl | rfl | rfl | ⟨k1, k2, k3, k4, n1, n2, n3, n4⟩
  all_goals try clear a31 a15 a7
  all_goals
    go_enter Try.func113, Try.ntmps113
    go_wp2
  all_goals
    refine bodyPost_ret (results_cell_row rfl _ _ w.heap.size 144 _ (0, 0) _ rfl (World.alloc_heap_new w _) Try.underlying144 rfl (by kernel_rfl)) rfl ?_
    refine ⟨shapeV_of ?_ ?_ ?_ ?_, (Below.refl _ _).alloc (Nat.le_refl _) _⟩
  all_goals first | rfl | (unfold manyI; (repeat' split) <;> omega) | (unfold loI; (repeat' split) <;> omega) | (unfold hiI; (repeat' split) <;> omega) | (unfold bitsI; (repeat' split) <;> omega)
end Go.Proofs.Ytnakgjcmepimiaa
