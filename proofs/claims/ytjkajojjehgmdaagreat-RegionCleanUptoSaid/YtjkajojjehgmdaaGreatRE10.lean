/- A rune's bytes: the contracts of isRune, six, Bytes, and of the reference's. A rune's bytes: for any number; and the reference's. The first rune of bytes: the contracts of shapeOf, Next and step. The first rune of bytes: the contracts of Next and step. The runes of bytes, one by one: the contracts of the iterators. -/
import Derived.Laws.IdiomStrings
import Derived.Test.YtjkajojjehgmdaaGreatRE04
import Derived.Test.YtjkajojjehgmdaaGreatRE06
import Derived.Test.YtjkajojjehgmdaaGreatRE07
set_option linter.unusedVariables false
set_option linter.unusedSimpArgs false
namespace Go.Proofs.YtjkajojjehgmdaaGreat
open Go.RowKit
theorem wrap_u8_nat (m : Nat) : IntKind.u8.wrap (m : Int) = ((m % 256 : Nat) : Int) := by
 rw [IntKind.wrap_u8]; omega
set_option maxRecDepth 100000 in
theorem six_any (n k : Nat) (hn : n ≤ 1114111) (hk : k = 0 ∨ k = 6 ∨ k = 12) (w : World) : Calls Tryz.prog 194 #[.int .i32 n, .int .u64 k] w fun e w' => e = .returned (.int .u8 ((128 + n / 2 ^ k % 64 : Nat) : Int)) ∧ w = w' := by
 have h0 := wrap_u8_nat (n / 2 ^ k)
 have h1 := and63 (n / 2 ^ k % 256) (Nat.mod_lt _ (by omega))
 have h2 := or128 (n / 2 ^ k % 256 % 64) (Nat.mod_lt _ (by omega))
 have h3 : (n : Int).fdiv ((2 ^ k : Nat) : Int) = ((n / 2 ^ k : Nat) : Int) := by
  rw [Int.fdiv_eq_ediv_of_nonneg _ (Int.natCast_nonneg _), Int.natCast_ediv]
 rcases hk with rfl | rfl | rfl
 all_goals
  simp only [Nat.reducePow] at h0 h1 h2 h3 ⊢
  go_enter Tryz.func194, Tryz.ntmps194
  go_wp2
  go_ret
  exact ⟨ret_int (by omega), rfl⟩
set_option maxRecDepth 100000 in
theorem isRune_any (r : Int) (w : World) : Calls Tryz.prog 193 #[.int .i32 r] w fun e w' => e = .returned (.bool (isR r)) ∧ w = w' := by
 obtain ⟨z, hz⟩ : ∃ z, z = isR r := ⟨_, rfl⟩
 rw [← hz]
 have HZ := Lib.hid hz
 clear hz
 go_enter Tryz.func193, Tryz.ntmps193
 go_wp2
 all_goals go_ret
 all_goals refine ⟨ret_bool ?_, rfl⟩
 all_goals rw [HZ.out]
 all_goals unfold isR
 all_goals first | exact (decide_eq_true (by omega)).symm | exact (decide_eq_false (by omega)).symm | (rw [Bool.eq_iff_iff]; simp only [decide_eq_true_eq, Bool.or_eq_true, Bool.and_eq_true]; omega)
def u8v (l : List UInt8) : List Value := l.map fun b => .int .u8 b.toNat
def NewB (l : List UInt8) (w : World) (e : Ending) (w' : World) : Prop := ∃ n, n = l.length ∧ e = .returned (.slice (some ⟨w.heap.size, 0, none⟩) n n) ∧ w.alloc (.cells (u8v l).toArray 5) = w'
theorem byteB_nat (n : Nat) (h : n < 256) : (byteB n).toNat = n := by simp [byteB]; omega
set_option maxRecDepth 100000 in
set_option maxHeartbeats 2000000 in
theorem rbytes_at (n : Nat) (hn : n ≤ 1114111) (hr : isR n = true) (w : World) : Calls Tryz.prog 184 #[.int .i32 n] w (NewB (bytesN n) w) := by
 obtain ⟨r, hnr⟩ : ∃ r : Int, r = (n : Int) := ⟨_, rfl⟩
 rw [← hnr] at hr ⊢
 have HR := Lib.hid hnr
 have CI := isRune_any r w
 rw [hr] at CI
 have CI := Lib.hid CI
 have hsix : ∀ k : Nat, (k = 0 ∨ k = 6 ∨ k = 12) → ∀ W : World, Calls Tryz.prog 194 #[.int .i32 r, .int .u64 k] W fun e w' => e = .returned (.int .u8 ((128 + n / 2 ^ k % 64 : Nat) : Int)) ∧ W = w' := fun k hk W => by rw [hnr]; exact six_any n k hn hk W
 have h3 : ∀ k : Nat, r.fdiv (k : Int) = ((n / k : Nat) : Int) := fun k => by rw [hnr, Int.fdiv_eq_ediv_of_nonneg _ (Int.natCast_nonneg _), Int.natCast_ediv]
 have C0 := hsix 0 (by omega)
 have C6 := hsix 6 (by omega)
 have C12 := hsix 12 (by omega)
 simp only [Nat.reducePow, Nat.div_one] at C0 C6 C12
 have C0 := Lib.hid C0
 have C6 := Lib.hid C6
 have C12 := Lib.hid C12
 by_cases h1 : n < 128
 ·have hb : bytesN n = [byteB n] := by unfold bytesN; rw [if_pos h1]
  have h0i : 0 ≤ r := by omega
  have h1i : r < 128 := by omega
  clear hnr hn hr h1 h3 hsix
  rw [hb]
  go_enter Tryz.func184, Tryz.ntmps184
  go_wp2_with (go_at_call 193; refine (CI.out).mono ?_; rintro e w1 ⟨rfl, rfl⟩)
  go_ret
  refine ⟨1, rfl, rfl, ?_⟩
  have hnr := HR.out
  refine congrArg (fun a => w.alloc (.cells a 5)) ?_
  simp only [u8v, List.map_cons, List.map_nil, byteB_nat n (by omega)]
  rw [hnr]
  all_goals (try rw [show (n : Int) % 256 = (n : Int) by omega])
 ·have h1i : (128 : Int) ≤ r := by omega
  have q6 := h3 64
  have q12 := h3 4096
  have q18 := h3 262144
  have w6 := wrap_u8_nat (n / 64)
  have w12 := wrap_u8_nat (n / 4096)
  have w18 := wrap_u8_nat (n / 262144)
  clear h3 hsix
  by_cases h2 : n < 2048
  ·have hb : bytesN n = [byteB (192 + n / 64), byteB (128 + n % 64)] := by unfold bytesN; rw [if_neg h1, if_pos h2]
   have o1 := or192 (n / 64 % 256) (by omega)
   rw [hb]
   have h2i : r < 2048 := by omega
   have HN := Lib.hid hn
   clear h1 h2 hb q12 q18 w12 w18 hn hr hnr
   go_enter Tryz.func184, Tryz.ntmps184
   go_wp2_with (first
    | (go_at_call 193; refine (CI.out).mono ?_; rintro e w1 ⟨rfl, rfl⟩)
    | (go_at_call 194; refine (C0.out _).mono ?_; rintro e w1 ⟨rfl, rfl⟩))
   go_ret
   refine ⟨2, rfl, rfl, ?_⟩
   have hn := HN.out
   have hnr := HR.out
   refine congrArg (fun a => w.alloc (.cells a 5)) ?_
   simp only [u8v, List.map_cons, List.map_nil, byteB_nat (192 + n / 64) (by omega), byteB_nat (128 + n % 64) (by omega)]
   simp only [Int.natCast_add, Int.natCast_ediv, Int.natCast_emod, Int.cast_ofNat_Int, hnr]
  ·have h2i : (2048 : Int) ≤ r := by omega
   by_cases h3 : n < 65536
   ·have hb : bytesN n = [byteB (224 + n / 4096), byteB (128 + n / 64 % 64), byteB (128 + n % 64)] := by unfold bytesN; rw [if_neg h1, if_neg h2, if_pos h3]
    have o1 := or224 (n / 4096 % 256) (by omega)
    rw [hb]
    have h3i : r < 65536 := by omega
    have HN := Lib.hid (And.intro hn h3)
    clear h1 h2 h3 hb q6 q18 w6 w18 hn hr hnr
    go_enter Tryz.func184, Tryz.ntmps184
    go_wp2_with (go_at_call 193; refine (CI.out).mono ?_; rintro e w1 ⟨rfl, rfl⟩)
    refine (C6.out _).mono ?_
    rintro e w1 ⟨rfl, rfl⟩
    go_wp2_with fail
    refine (C0.out _).mono ?_
    rintro e w1 ⟨rfl, rfl⟩
    go_wp2_with fail
    go_ret
    refine ⟨3, rfl, rfl, ?_⟩
    obtain ⟨hn, h3⟩ := HN.out
    have hnr := HR.out
    refine congrArg (fun a => w.alloc (.cells a 5)) ?_
    unfold u8v
    rw [List.map_cons, List.map_cons, List.map_cons, List.map_nil, byteB_nat (224 + n / 4096) (by omega), byteB_nat (128 + n / 64 % 64) (by omega), byteB_nat (128 + n % 64) (by omega)]
    simp only [Int.natCast_add, Int.natCast_ediv, Int.natCast_emod, Int.cast_ofNat_Int, hnr]
   ·have h3i : (65536 : Int) ≤ r := by omega
    have h4i : r ≤ 1114111 := by omega
    have hb : bytesN n = [byteB (240 + n / 262144), byteB (128 + n / 4096 % 64), byteB (128 + n / 64 % 64), byteB (128 + n % 64)] := by unfold bytesN; rw [if_neg h1, if_neg h2, if_neg h3]
    have o1 := or240 (n / 262144 % 256) (by omega)
    rw [hb]
    have HN := Lib.hid hn
    clear h1 h2 h3 hb q6 q12 w6 w12 hn hr hnr
    go_enter Tryz.func184, Tryz.ntmps184
    go_wp2_with (go_at_call 193; refine (CI.out).mono ?_; rintro e w1 ⟨rfl, rfl⟩)
    refine (C12.out _).mono ?_
    rintro e w1 ⟨rfl, rfl⟩
    go_wp2_with fail
    refine (C6.out _).mono ?_
    rintro e w1 ⟨rfl, rfl⟩
    go_wp2_with fail
    refine (C0.out _).mono ?_
    rintro e w1 ⟨rfl, rfl⟩
    go_wp2_with fail
    go_ret
    refine ⟨4, rfl, rfl, ?_⟩
    have hn := HN.out
    have hnr := HR.out
    refine congrArg (fun a => w.alloc (.cells a 5)) ?_
    unfold u8v
    rw [List.map_cons, List.map_cons, List.map_cons, List.map_cons, List.map_nil, byteB_nat (240 + n / 262144) (by omega), byteB_nat (128 + n / 4096 % 64) (by omega), byteB_nat (128 + n / 64 % 64) (by omega), byteB_nat (128 + n % 64) (by omega)]
    simp only [Int.natCast_add, Int.natCast_ediv, Int.natCast_emod, Int.cast_ofNat_Int, hnr]
set_option maxRecDepth 100000 in
set_option maxHeartbeats 2000000 in
theorem rbytes_bad (r : Int) (hr : isR r = false) (w : World) : Calls Tryz.prog 184 #[.int .i32 r] w (NewB (bytesN 65533) w) := by
 have CI := isRune_any r w
 rw [hr] at CI
 have CI := Lib.hid CI
 have hsix : ∀ k : Nat, (k = 0 ∨ k = 6 ∨ k = 12) → ∀ W : World, Calls Tryz.prog 194 #[.int .i32 65533, .int .u64 k] W fun e w' => e = .returned (.int .u8 ((128 + 65533 / 2 ^ k % 64 : Nat) : Int)) ∧ W = w' := fun k hk W => six_any 65533 k (by omega) hk W
 have C0 := hsix 0 (by omega)
 have C6 := hsix 6 (by omega)
 simp only [Nat.reducePow, Nat.reduceDiv, Nat.reduceMod, Nat.reduceAdd] at C0 C6
 have C0 := Lib.hid C0
 have C6 := Lib.hid C6
 clear hsix hr
 go_enter Tryz.func184, Tryz.ntmps184
 go_wp2_with (go_at_call 193; refine (CI.out).mono ?_; rintro e w1 ⟨rfl, rfl⟩)
 refine (C6.out _).mono ?_
 rintro e w1 ⟨rfl, rfl⟩
 go_wp2_with fail
 refine (C0.out _).mono ?_
 rintro e w1 ⟨rfl, rfl⟩
 go_wp2_with fail
 go_ret
 refine ⟨3, rfl, rfl, ?_⟩
 refine congrArg (fun a => w.alloc (.cells a 5)) ?_
 kernel_rfl
theorem rbytes_any (r : Int) (w : World) : Calls Tryz.prog 184 #[.int .i32 r] w (NewB (bytesR r) w) := by
 unfold bytesR runeN
 by_cases h : isR r = true
 ·have h2 := h
  unfold isR at h2
  have h2 := of_decide_eq_true h2
  obtain ⟨n, rfl⟩ := Int.eq_ofNat_of_zero_le h2.1
  rw [if_pos h, Int.toNat_natCast]
  exact rbytes_at n (by omega) h w
 ·rw [if_neg h]
  exact rbytes_bad r (by simpa using h) w
set_option maxRecDepth 100000 in
theorem refIs1_any (r : Int) (w : World) : Calls Tryz.prog 124 #[.int .i32 r] w fun e w' => e = .returned (.bool (isR r)) ∧ w = w' := by
 obtain ⟨z, hz⟩ : ∃ z, z = isR r := ⟨_, rfl⟩
 rw [← hz]
 have HZ := Lib.hid hz
 clear hz
 go_enter Tryz.func124, Tryz.ntmps124
 go_wp2
 all_goals go_ret
 all_goals refine ⟨ret_bool ?_, rfl⟩
 all_goals rw [HZ.out]
 all_goals unfold isR
 all_goals first | exact (decide_eq_true (by omega)).symm | exact (decide_eq_false (by omega)).symm | (rw [Bool.eq_iff_iff]; simp only [decide_eq_true_eq, Bool.or_eq_true, Bool.and_eq_true]; omega)
set_option maxRecDepth 100000 in
theorem low_any (r : Int) (h0 : 0 ≤ r) (h1 : r ≤ 1114111) (w : World) : Calls Tryz.prog 129 #[.int .i32 r] w fun e w' => e = .returned (.int .u8 (128 + r % 64)) ∧ w = w' := by
 have ht : r.tmod 64 = r % 64 := Int.tmod_eq_emod_of_nonneg h0
 have hb : 0 ≤ r % 64 ∧ r % 64 < 64 := by omega
 go_enter Tryz.func129, Tryz.ntmps129
 go_wp2
 go_ret
 exact ⟨ret_int (by omega), rfl⟩
theorem runeN_le (r : Int) : runeN r ≤ 1114111 := by
 unfold runeN isR
 split
 ·rename_i h; have := of_decide_eq_true h; omega
 ·omega
set_option maxRecDepth 100000 in
set_option maxHeartbeats 2000000 in
theorem refBytes_bad (r : Int) (hr : isR r = false) (w : World) : Calls Tryz.prog 92 #[.int .i32 r] w (NewB (bytesN 65533) w) := by
 have CI := refIs1_any r w
 rw [hr] at CI
 have CI := Lib.hid CI
 have C0 := Lib.hid (fun W => low_any 65533 (by omega) (by omega) W)
 have C6 := Lib.hid (fun W => low_any 1023 (by omega) (by omega) W)
 clear hr
 go_enter Tryz.func92, Tryz.ntmps92
 go_wp2_with (go_at_call 124; refine (CI.out).mono ?_; rintro e w1 ⟨rfl, rfl⟩)
 refine (C6.out _).mono ?_
 rintro e w1 ⟨rfl, rfl⟩
 go_wp2_with fail
 refine (C0.out _).mono ?_
 rintro e w1 ⟨rfl, rfl⟩
 go_wp2_with fail
 go_ret
 refine ⟨3, rfl, rfl, ?_⟩
 refine congrArg (fun a => w.alloc (.cells a 5)) ?_
 kernel_rfl
set_option maxRecDepth 100000 in
set_option maxHeartbeats 2000000 in
theorem refBytes_any (r : Int) (w : World) : Calls Tryz.prog 92 #[.int .i32 r] w (NewB (bytesR r) w) := by
 obtain ⟨n, hnN⟩ : ∃ n, n = runeN r := ⟨_, rfl⟩
 obtain ⟨q, hnr⟩ : ∃ q : Int, q = (n : Int) := ⟨_, rfl⟩
 have hn : n ≤ 1114111 := hnN ▸ runeN_le r
 have CI := refIs1_any r w
 have hbR : bytesR r = bytesN n := by unfold bytesR; rw [hnN]
 rw [hbR]
 clear hbR
 have hkey : (isR r = true ∧ r = q) ∨ (isR r = false ∧ q = 65533) := by
  rw [hnr, hnN]
  unfold runeN
  by_cases h : isR r = true
  ·rw [if_pos h]
   unfold isR at h
   have := of_decide_eq_true h
   exact .inl ⟨by unfold isR; exact decide_eq_true this, by omega⟩
  ·rw [if_neg h]
   exact .inr ⟨by simpa using h, rfl⟩
 have hq0 : 0 ≤ q := by omega
 have hq1 : q ≤ 1114111 := by omega
 have CL := fun (k : Int) (h0 : 0 ≤ k) (h1 : k ≤ 1114111) (W : World) => low_any k h0 h1 W
 have C0 := Lib.hid (CL q hq0 hq1)
 have C6 := Lib.hid (CL (q / 64) (by omega) (by omega))
 have C12 := Lib.hid (CL (q / 4096) (by omega) (by omega))
 have t6 : q.tdiv 64 = q / 64 := Int.tdiv_eq_ediv_of_nonneg hq0
 have t12 : q.tdiv 4096 = q / 4096 := Int.tdiv_eq_ediv_of_nonneg hq0
 have t18 : q.tdiv 262144 = q / 262144 := Int.tdiv_eq_ediv_of_nonneg hq0
 have HH := Lib.hid (And.intro hnr hn)
 have hex : ∀ l : List UInt8, bytesN n = l → ∀ vs : Array Value, (u8v l).toArray = vs → ∀ W e, e = .returned (.slice (some ⟨W.heap.size, 0, none⟩) l.length l.length) → NewB (bytesN n) W e (W.alloc (.cells vs 5)) := fun l h vs hv W e he => by
  rw [h]; exact ⟨_, rfl, he, by rw [hv]⟩
 have HEX := Lib.hid hex
 clear hex CL hnN hnr
 have hcase : n < 128 ∨ (¬ n < 128 ∧ n < 2048) ∨ (¬ n < 128 ∧ ¬ n < 2048 ∧ n < 65536) ∨ (¬ n < 128 ∧ ¬ n < 2048 ∧ ¬ n < 65536) := by omega
 rcases hcase with h1 | hcase | hcase | hcase
 ·have hb : bytesN n = [byteB n] := by unfold bytesN; rw [if_pos h1]
  have d1 : q < 128 := by have := HH.out; omega
  have HH2 := Lib.hid (And.intro hb h1)
  clear hb h1 t6 t12 t18 hn
  rcases hkey with ⟨hi, rfl⟩ | ⟨hi, hq⟩
  ·rw [hi] at CI
   have CI := Lib.hid CI
   clear hi
   go_enter Tryz.func92, Tryz.ntmps92
   go_wp2_with (go_at_call 124; refine (CI.out).mono ?_; rintro e w1 ⟨rfl, rfl⟩)
   go_ret
   obtain ⟨hnr, hn⟩ := HH.out
   obtain ⟨hb, h1⟩ := HH2.out
   refine HEX.out _ hb _ ?_ w _ rfl
   simp only [u8v, List.map_cons, List.map_nil, byteB_nat n (by omega), hnr]
  ·omega
 ·have hb : bytesN n = [byteB (192 + n / 64), byteB (128 + n % 64)] := by unfold bytesN; rw [if_neg hcase.1, if_pos hcase.2]
  have d1 : 128 ≤ q := by have := HH.out; omega
  have d2 : q < 2048 := by have := HH.out; omega
  have HH2 := Lib.hid (And.intro hb hcase)
  clear hb hcase hn t12 t18
  rcases hkey with ⟨hi, rfl⟩ | ⟨hi, hq⟩
  ·rw [hi] at CI
   have CI := Lib.hid CI
   clear hi
   go_enter Tryz.func92, Tryz.ntmps92
   go_wp2_with (go_at_call 124; refine (CI.out).mono ?_; rintro e w1 ⟨rfl, rfl⟩)
   refine (C0.out _).mono ?_
   rintro e w1 ⟨rfl, rfl⟩
   go_wp2_with fail
   go_ret
   obtain ⟨hnr, hn⟩ := HH.out
   obtain ⟨hb, hcase⟩ := HH2.out
   refine HEX.out _ hb _ ?_ w _ rfl
   unfold u8v
   rw [List.map_cons, List.map_cons, List.map_nil, byteB_nat (192 + n / 64) (by omega), byteB_nat (128 + n % 64) (by omega)]
   simp only [Int.natCast_add, Int.natCast_ediv, Int.natCast_emod, Int.cast_ofNat_Int, hnr]
  ·omega
 ·have hb : bytesN n = [byteB (224 + n / 4096), byteB (128 + n / 64 % 64), byteB (128 + n % 64)] := by unfold bytesN; rw [if_neg hcase.1, if_neg hcase.2.1, if_pos hcase.2.2]
  have d1 : 128 ≤ q := by have := HH.out; omega
  have d2 : 2048 ≤ q := by have := HH.out; omega
  have d3 : q < 65536 := by have := HH.out; omega
  have HH2 := Lib.hid (And.intro hb hcase)
  clear hb hcase hn t18
  rcases hkey with ⟨hi, rfl⟩ | ⟨hi, hq⟩
  ·rw [hi] at CI
   have CI := Lib.hid CI
   clear hi
   go_enter Tryz.func92, Tryz.ntmps92
   go_wp2_with (go_at_call 124; refine (CI.out).mono ?_; rintro e w1 ⟨rfl, rfl⟩)
   refine (C6.out _).mono ?_
   rintro e w1 ⟨rfl, rfl⟩
   go_wp2_with fail
   refine (C0.out _).mono ?_
   rintro e w1 ⟨rfl, rfl⟩
   go_wp2_with fail
   go_ret
   obtain ⟨hnr, hn⟩ := HH.out
   obtain ⟨hb, hcase⟩ := HH2.out
   refine HEX.out _ hb _ ?_ w _ rfl
   unfold u8v
   rw [List.map_cons, List.map_cons, List.map_cons, List.map_nil, byteB_nat (224 + n / 4096) (by omega), byteB_nat (128 + n / 64 % 64) (by omega), byteB_nat (128 + n % 64) (by omega)]
   simp only [Int.natCast_add, Int.natCast_ediv, Int.natCast_emod, Int.cast_ofNat_Int, hnr]
  ·have hnn : n = 65533 := by have := HH.out.1; omega
   rw [hnn]
   exact refBytes_bad r hi w
 ·have hb : bytesN n = [byteB (240 + n / 262144), byteB (128 + n / 4096 % 64), byteB (128 + n / 64 % 64), byteB (128 + n % 64)] := by unfold bytesN; rw [if_neg hcase.1, if_neg hcase.2.1, if_neg hcase.2.2]
  have d1 : 128 ≤ q := by have := HH.out; omega
  have d2 : 2048 ≤ q := by have := HH.out; omega
  have d3 : 65536 ≤ q := by have := HH.out; omega
  have HH2 := Lib.hid (And.intro hb hcase)
  clear hb hcase hn 
  rcases hkey with ⟨hi, rfl⟩ | ⟨hi, hq⟩
  ·rw [hi] at CI
   have CI := Lib.hid CI
   clear hi
   go_enter Tryz.func92, Tryz.ntmps92
   go_wp2_with (go_at_call 124; refine (CI.out).mono ?_; rintro e w1 ⟨rfl, rfl⟩)
   refine (C12.out _).mono ?_
   rintro e w1 ⟨rfl, rfl⟩
   go_wp2_with fail
   refine (C6.out _).mono ?_
   rintro e w1 ⟨rfl, rfl⟩
   go_wp2_with fail
   refine (C0.out _).mono ?_
   rintro e w1 ⟨rfl, rfl⟩
   go_wp2_with fail
   go_ret
   obtain ⟨hnr, hn⟩ := HH.out
   obtain ⟨hb, hcase⟩ := HH2.out
   refine HEX.out _ hb _ ?_ w _ rfl
   unfold u8v
   rw [List.map_cons, List.map_cons, List.map_cons, List.map_cons, List.map_nil, byteB_nat (240 + n / 262144) (by omega), byteB_nat (128 + n / 4096 % 64) (by omega), byteB_nat (128 + n / 64 % 64) (by omega), byteB_nat (128 + n % 64) (by omega)]
   simp only [Int.natCast_add, Int.natCast_ediv, Int.natCast_emod, Int.cast_ofNat_Int, hnr]
  ·omega
def loI (c : Int) : Int := if c < 194 then 0 else if c = 224 then 160 else if c = 240 then 144 else if c < 245 then 128 else 0
def hiI (c : Int) : Int := if c < 194 then 0 else if c = 237 then 159 else if c = 244 then 143 else if c < 245 then 191 else 0
def manyI (c : Int) : Int := if c < 128 then 1 else if c < 194 then 0 else if c < 224 then 2 else if c < 240 then 3 else if c < 245 then 4 else 0
def bitsI (c : Int) : Int := if c < 128 then c else if c < 194 then 0 else if c < 224 then c % 32 else if c < 240 then c % 16 else if c < 245 then c % 8 else 0
def shapeV (c : Int) : Value := .agg #[.int .i64 (manyI c), .int .u8 (loI c), .int .u8 (hiI c), .int .i32 (bitsI c)]
theorem shapeV_of {c m l h b : Int} (h1 : manyI c = m) (h2 : loI c = l) (h3 : hiI c = h) (h4 : bitsI c = b) : Ending.returned (.agg #[.int .i64 m, .int .u8 l, .int .u8 h, .int .i32 b]) = .returned (shapeV c) := by
 subst h1 h2 h3 h4; rfl
set_option maxRecDepth 100000 in
set_option maxHeartbeats 2000000 in
theorem shape_any (n : Nat) (hn : n < 256) (w : World) : Calls Tryz.prog 198 #[.int .u8 n] w fun e w' => e = .returned (shapeV n) ∧ Below w.heap.size w w' := by
 have a31 := and31 n hn
 have a15 := and15 n hn
 have a7 := and7 n hn
 obtain ⟨c, hc⟩ : ∃ c : Int, c = (n : Int) := ⟨_, rfl⟩
 have m31 : ((n % 32 : Nat) : Int) = c % 32 := by omega
 have m15 : ((n % 16 : Nat) : Int) = c % 16 := by omega
 have m7 : ((n % 8 : Nat) : Int) = c % 8 := by omega
 rw [m31] at a31
 rw [m15] at a15
 rw [m7] at a7
 rw [← hc] at a31 a15 a7 ⊢
 have c0 : 0 ≤ c := by omega
 have c1 : c < 256 := by omega
 clear m31 m15 m7 hc hn
 have key : c = 224 ∨ c = 237 ∨ c = 240 ∨ c = 244 ∨ ((c == 224) = false ∧ (c == 237) = false ∧ (c == 240) = false ∧ (c == 244) = false ∧ c ≠ 224 ∧ c ≠ 237 ∧ c ≠ 240 ∧ c ≠ 244) := by
  simp only [beq_eq_false_iff_ne]; omega
 rcases key with rfl | rfl | rfl | rfl | ⟨k1, k2, k3, k4, n1, n2, n3, n4⟩
 all_goals try clear a31 a15 a7
 all_goals
  go_enter Tryz.func198, Tryz.ntmps198
  go_wp2
 all_goals
  refine bodyPost_ret (results_cell_row rfl _ _ w.heap.size 250 _ (0, 0) _ rfl (World.alloc_heap_new w _) Tryz.underlying250 rfl (by kernel_rfl)) rfl ?_
  refine ⟨shapeV_of ?_ ?_ ?_ ?_, (Below.refl _ _).alloc (Nat.le_refl _) _⟩
 all_goals first | rfl | (unfold manyI; (repeat' split) <;> omega) | (unfold loI; (repeat' split) <;> omega) | (unfold hiI; (repeat' split) <;> omega) | (unfold bitsI; (repeat' split) <;> omega)
structure Bys (w : World) (b off : Nat) (l : List UInt8) : Prop where
 lt : b < w.heap.size
 at_ : ∀ j, j < l.length → w.cell? ⟨b, off + j, none⟩ = some (.int .u8 ((nth 0 l j).toNat : Int))
theorem Bys.below {w w' : World} {b off : Nat} {l : List UInt8} (h : Bys w b off l) (hb : Below w.heap.size w w') : Bys w' b off l :=
 ⟨by have := hb.size; have := h.lt; omega, fun j hj => (hb.cell (p := ⟨b, off + j, none⟩) h.lt).trans (h.at_ j hj)⟩
def NextP (l : List UInt8) (e : Ending) : Prop := ∃ (r : Int) (n : Nat) (m : Bool), e = .returned (.tuple #[.int .i32 r, .int .i64 n, .bool m]) ∧ (m = true ∧ stepL l = (65533, 1) ∧ moreL l = true ∨ m = false ∧ r = (stepL l).1 ∧ n = (stepL l).2 ∧ moreL l = false)
theorem nextP_more {l : List UInt8} (h : stepL l = (65533, 1)) (h' : moreL l = true) : NextP l (.returned (.tuple #[.int .i32 0, .int .i64 0, .bool true])) := ⟨0, 0, true, rfl, .inl ⟨rfl, h, h'⟩⟩
theorem nextP_bad {l : List UInt8} (h : stepL l = (65533, 1)) (h' : moreL l = false) : NextP l (.returned (.tuple #[.int .i32 65533, .int .i64 1, .bool false])) := ⟨65533, 1, false, rfl, .inr ⟨rfl, by rw [h]; rfl, by rw [h], h'⟩⟩
theorem nextP_ok {l : List UInt8} {r n : Nat} (h : stepL l = (r, n)) (h' : moreL l = false) : NextP l (.returned (.tuple #[.int .i32 r, .int .i64 n, .bool false])) := ⟨r, n, false, rfl, .inr ⟨rfl, by rw [h], by rw [h], h'⟩⟩
theorem manyI_L (n : Nat) : manyI n = (manyL n : Nat) := by unfold manyI manyL; (repeat' split) <;> omega
theorem loI_L (n : Nat) (h : 2 ≤ manyL n) : loI n = (lo1 n : Nat) := by unfold loI lo1; unfold manyL at h; (repeat' split at h) <;> (repeat' split) <;> omega
theorem hiI_L (n : Nat) (h : 2 ≤ manyL n) : hiI n = (hi1 n : Nat) := by unfold hiI hi1; unfold manyL at h; (repeat' split at h) <;> (repeat' split) <;> omega
theorem bitsI_L (n : Nat) (h : 1 ≤ manyL n) : bitsI n = (bitsL n : Nat) := by unfold bitsI bitsL; unfold manyL at h; (repeat' split at h) <;> (repeat' split) <;> omega
theorem acc_val {c A k : Nat} {t : List UInt8} {x : UInt8} (hA : A < 2 ^ 24) (ha : A = accN c t k) (hx : x = nth 0 t k) :
    Value.int .i32 (bits .or .i32 (wrap32 ((A : Int) * 64)) ((x.toNat : Int) % 64)) = .int .i32 ((accN c t (k + 1) : Nat) : Int) := by
 have h1 := or_i32 A (x.toNat % 64) hA (Nat.mod_lt _ (by omega))
 have h2 : wrap32 ((A : Int) * 64) = ((A * 64 : Nat) : Int) := by rw [IntWalk.wrap32_in _ (by omega)]; omega
 have h3 : ((x.toNat : Int) % 64) = ((x.toNat % 64 : Nat) : Int) := by omega
 rw [h2, h3, h1]
 unfold accN
 rw [← ha, ← hx]
set_option maxRecDepth 100000 in
set_option maxHeartbeats 4000000 in
theorem next_any (c : UInt8) (t : List UInt8) (b off cap : Nat) (w : World) (hlen : (c :: t).length ≤ 2000000) (hB : Bys w b off (c :: t)) :
    Calls Tryz.prog 195 #[.slice (some ⟨b, off, none⟩) (c :: t).length cap] w fun e w' => NextP (c :: t) e ∧ Below w.heap.size w w' := by
 have hn256 : c.toNat < 256 := c.toNat_lt
 have CS := fun W => shape_any c.toNat hn256 W
 have k0 := hB.at_ 0 (by simp)
 have hnth0 : nth 0 (c :: t) 0 = c := rfl
 rw [hnth0, Nat.add_zero] at k0
 have hnthS : ∀ k, nth 0 (c :: t) (k + 1) = nth 0 t k := fun k => rfl
 have H0 := Lib.hid (step_many0 c t)
 have H1 := Lib.hid (step_bad c t)
 have H2 := Lib.hid (step_ok c t)
 have hlo : ∃ lo hi : Int, loI c.toNat = lo ∧ hiI c.toNat = hi ∧ (2 ≤ manyL c.toNat → lo = (lo1 c.toNat : Nat) ∧ hi = (hi1 c.toNat : Nat)) := ⟨_, _, rfl, rfl, fun h => ⟨loI_L _ h, hiI_L _ h⟩⟩
 have hbt : ∃ bt : Int, bitsI c.toNat = bt ∧ (1 ≤ manyL c.toNat → bt = (bitsL c.toNat : Nat)) := ⟨_, rfl, fun h => bitsI_L _ h⟩
 obtain ⟨lo, hi, e1, e2, hlohi⟩ := hlo
 obtain ⟨bt, e3, hbt⟩ := hbt
 unfold shapeV at CS
 rw [e1, e2, e3, manyI_L] at CS
 have hmle := manyL_le c.toNat
 have HA := Lib.hid (fun h => accN_lt c.toNat t h)
 obtain ⟨m, hm⟩ : ∃ m, m = manyL c.toNat := ⟨_, rfl⟩
 have HN := Lib.hid (more_no (c := c) (t := t))
 have HY := Lib.hid (more_yes (c := c) (t := t))
 rw [← hm] at CS hlohi hbt H0 H1 H2 hmle HA HN HY
 have CS := Lib.hid CS
 have HLH := Lib.hid hlohi
 have HBT := Lib.hid hbt
 clear hm hlohi hbt e1 e2 e3
 have hlen' : (c :: t).length = t.length + 1 := rfl
 rw [hlen']
 clear hlen'
 by_cases hm0 : m = 0
 ·subst hm0
  have HF0 := Lib.hid (H0.out rfl)
  have HM0 := Lib.hid (HN.out (Nat.zero_le _))
  go_enter Tryz.func195, Tryz.ntmps195
  go_wp2_with (go_at_call 198; refine (CS.out _).mono ?_; rintro e w1 ⟨rfl, hb1⟩)
  refine bodyPost_ret (results_tmp3 rfl _ _ _) rfl ?_
  exact ⟨nextP_bad HF0.out HM0.out, hb1.alloc hb1.size _⟩
 ·have hm1 : (1 : Int) ≤ (m : Int) := by omega
  have hmz : ((m : Int) == 0) = false := by simp; omega
  have hbtv := HBT.out (by omega)
  subst hbtv
  go_enter Tryz.func195, Tryz.ntmps195
  go_wp2_with (go_at_call 198; refine (CS.out _).mono ?_; rintro e w1 ⟨rfl, hb1⟩)
  obtain ⟨W2, hW2⟩ : ∃ W2, w1.alloc (.cells #[.int .i64 m, .int .u8 lo, .int .u8 hi, .int .i32 ((bitsL c.toNat : Nat) : Int)] 250) = W2 := ⟨_, rfl⟩
  have hb2 : Below w.heap.size w W2 := hW2 ▸ hb1.alloc hb1.size _
  have hcs : (W2.cell? ⟨w1.heap.size, 0, none⟩ = some (.int .i64 m) ∧ W2.cell? ⟨w1.heap.size, 1, none⟩ = some (.int .u8 lo) ∧ W2.cell? ⟨w1.heap.size, 2, none⟩ = some (.int .u8 hi)) ∧ w1.heap.size < W2.heap.size := by
   have h : W2.heap[w1.heap.size]? = some (.cells #[.int .i64 m, .int .u8 lo, .int .u8 hi, .int .i32 ((bitsL c.toNat : Nat) : Int)] 250) := hW2 ▸ World.alloc_heap_new w1 _
   refine ⟨?_, (Array.getElem?_eq_some_iff.1 h).1⟩
   unfold World.cell?
   dsimp only
   rw [h]
   exact ⟨rfl, rfl, rfl⟩
  obtain ⟨⟨s0, s1, s2⟩, hs⟩ := hcs
  rw [hW2]
  have hB2 : Bys W2 b off (c :: t) := hB.below hb2
  clear hW2
  generalize w1.heap.size = S at s0 s1 s2 hs ⊢
  go_loopw [6, 2] (fun i r wr => ∃ k : Nat, k + 1 ≤ m ∧ i = .int .i64 ((k : Int) + 1) ∧ r = .int .i32 (accN c.toNat t k : Nat) ∧ Hid (∀ j, j < k → okAt c.toNat t j) ∧ Below W2.heap.size W2 wr) (fun i _ _ => (10 - intOf i).toNat)
  case atStart => exact ⟨0, by omega, rfl, rfl, fun j hj => by omega, Below.refl _ _⟩
  case round =>
   obtain ⟨k, hk, rfl, rfl, hok, hbr⟩ := hrel
   have z0 := (hbr.cell (p := ⟨S, 0, none⟩) hs).trans s0
   have z1 := (hbr.cell (p := ⟨S, 1, none⟩) hs).trans s1
   have z2 := (hbr.cell (p := ⟨S, 2, none⟩) hs).trans s2
   have hBr := hB2.below hbr
   obtain ⟨A, hA⟩ : ∃ A, A = accN c.toNat t k := ⟨_, rfl⟩
   rw [← hA]
   by_cases hlt : k + 1 < m
   ·have hlti : (k : Int) + 1 < (m : Int) := by omega
    have hAlt : A < 2 ^ 24 := by
     have := HA.out (by omega) k (by omega)
     have h2 : 2 ^ (5 + 6 * k) ≤ 2 ^ 23 := Nat.pow_le_pow_right (by omega) (by omega)
     omega
    have HAX := Lib.hid hA
    have HAL := Lib.hid hAlt
    by_cases hin : k < t.length
    ·obtain ⟨x, hx⟩ : ∃ x, x = nth 0 t k := ⟨_, rfl⟩
     have cy := hBr.at_ (k + 1) (by simp; omega)
     rw [hnthS, ← hx] at cy
     have cx := cy
     rw [← Nat.add_assoc] at cx
     have hx256 : x.toNat < 256 := x.toNat_lt
     have a63 := and63 x.toNat hx256
     have key : ∃ lN hN : Nat, (okAt c.toNat t k ↔ lN ≤ x.toNat ∧ x.toNat ≤ hN) ∧ ((k = 0 ∧ lo = lN ∧ hi = hN) ∨ (k ≠ 0 ∧ lN = 128 ∧ hN = 191)) := by
      unfold okAt
      rw [← hx]
      by_cases h0 : k = 0
      ·obtain ⟨q1, q2⟩ := HLH.out (by omega)
       exact ⟨lo1 c.toNat, hi1 c.toNat, by rw [if_pos h0, if_pos h0]; exact ⟨fun h => h.2, fun h => ⟨hin, h⟩⟩, .inl ⟨h0, q1, q2⟩⟩
      ·exact ⟨128, 191, by rw [if_neg h0, if_neg h0]; exact ⟨fun h => h.2, fun h => ⟨hin, h⟩⟩, .inr ⟨h0, rfl, rfl⟩⟩
     obtain ⟨lN, hN, hiff, hk0⟩ := key
     have HX := Lib.hid hx
     have HIFF := Lib.hid hiff
     have hinI : (k : Int) + 1 < (t.length : Int) + 1 := by omega
     have HK0 := Lib.hid hk0
     clear hx hiff hA hAlt hk0
     by_cases hk0 : k = 0
     ·subst hk0
      obtain ⟨q1, q2⟩ : lo = lN ∧ hi = hN := by rcases HK0.out with h | h; exact h.2; exact absurd rfl h.1
      subst q1 q2
      clear cy
      rw [Nat.add_zero] at cx
      by_cases hc1 : x.toNat < lN
      ·have hc1i : (x.toNat : Int) < (lN : Int) := by omega
       have HFN : ¬ okAt c.toNat t 0 := fun h => by have := HIFF.out.1 h; omega
       have HMM := Lib.hid (more_bad hin HFN)
       have HF := Lib.hid (H1.out 0 hlt HFN)
       clear HFN
       go_wp2_with fail
       go_quiet (fail)
       go_wp2
       refine bodyPost_ret (results_tmp3 rfl _ _ _) rfl ?_
       exact ⟨nextP_bad HF.out HMM.out, bto hb2 (below_drewN hbr nq) hb2.size⟩
      ·have hc1i : (lN : Int) ≤ (x.toNat : Int) := by omega
       by_cases hc2 : hN < x.toNat
       ·have hc2i : (hN : Int) < (x.toNat : Int) := by omega
        have HFN : ¬ okAt c.toNat t 0 := fun h => by have := HIFF.out.1 h; omega
        have HMM := Lib.hid (more_bad hin HFN)
        have HF := Lib.hid (H1.out 0 hlt HFN)
        clear HFN
        go_wp2_with fail
        go_quiet (fail)
        go_wp2
        refine bodyPost_ret (results_tmp3 rfl _ _ _) rfl ?_
        exact ⟨nextP_bad HF.out HMM.out, bto hb2 (below_drewN hbr nq) hb2.size⟩
       ·have hc2i : (x.toNat : Int) ≤ (hN : Int) := by omega
        have HF := Lib.hid (HIFF.out.2 ⟨by omega, by omega⟩)
        go_wp2_with fail
        go_quiet (fail)
        go_wp2
        go_roundw
        case rel => exact ⟨1, by omega, rfl, acc_val HAL.out HAX.out HX.out, Lib.hid (fun j hj => (show 0 = j by omega) ▸ HF.out), below_drewN hbr nq⟩
        case measure => simp [intOf]
     ·obtain ⟨q1, q2⟩ : lN = 128 ∧ hN = 191 := by rcases HK0.out with h | h; exact absurd h.1 hk0; exact h.2
      subst q1 q2
      have hk1 : ((k : Int) + 1 == 1) = false := by simp; omega
      by_cases hc1 : x.toNat < 128
      ·have hc1i : (x.toNat : Int) < 128 := by omega
       have HFN : ¬ okAt c.toNat t k := fun h => by have := HIFF.out.1 h; omega
       have HMM := Lib.hid (more_bad hin HFN)
       have HF := Lib.hid (H1.out k hlt HFN)
       clear HFN
       go_wp2
       refine bodyPost_ret (results_tmp3 rfl _ _ _) rfl ?_
       exact ⟨nextP_bad HF.out HMM.out, bto hb2 hbr hb2.size⟩
      ·have hc1i : 128 ≤ (x.toNat : Int) := by omega
       by_cases hc2 : 191 < x.toNat
       ·have hc2i : 191 < (x.toNat : Int) := by omega
        have HFN : ¬ okAt c.toNat t k := fun h => by have := HIFF.out.1 h; omega
        have HMM := Lib.hid (more_bad hin HFN)
        have HF := Lib.hid (H1.out k hlt HFN)
        clear HFN
        go_wp2
        refine bodyPost_ret (results_tmp3 rfl _ _ _) rfl ?_
        exact ⟨nextP_bad HF.out HMM.out, bto hb2 hbr hb2.size⟩
       ·have hc2i : (x.toNat : Int) ≤ 191 := by omega
        have HF := Lib.hid (HIFF.out.2 ⟨by omega, by omega⟩)
        go_wp2
        go_roundw
        case rel => exact ⟨k + 1, by omega, by go_num, acc_val HAL.out HAX.out HX.out, Lib.hid (fun j hj => by rcases Nat.lt_succ_iff_lt_or_eq.1 hj with h | h; exact hok.out j h; exact h ▸ HF.out), hbr⟩
        case measure => simp [intOf]; omega
    ·have hge : (t.length : Int) + 1 ≤ (k : Int) + 1 := by omega
     clear hA hAlt
     have HF := Lib.hid (H1.out k hlt (fun h => hin h.1))
     have hkt : t.length ≤ k := by omega
     have HMM := Lib.hid (HY.out (by omega) (fun j hj => hok.out j (by omega)))
     go_wp2
     refine bodyPost_ret (results_tmp3 rfl _ _ _) rfl ?_
     exact ⟨nextP_more HF.out HMM.out, bto hb2 hbr hb2.size⟩
   ·have hlti : (m : Int) ≤ (k : Int) + 1 := by omega
    have HF := Lib.hid (H2.out (by omega) (fun j hj => hok.out j (by omega)))
    have hkm : k = m - 1 := by omega
    have HMM := Lib.hid (HN.out (by
     rcases Nat.eq_zero_or_pos k with h0 | h0
     ·omega
     ·have := (hok.out (k - 1) (by omega)).1; omega))
    have HAX := Lib.hid hA
    clear hA
    go_wp2_with fail
    go_quiet (fail)
    go_wp2
    refine bodyPost_ret (results_tmp3 rfl _ _ _) rfl ?_
    exact ⟨nextP_ok (by rw [HAX.out, hkm]; exact HF.out) HMM.out, bto hb2 (below_drewN hbr nq) hb2.size⟩
set_option maxRecDepth 100000 in
theorem step_any (l : List UInt8) (b off cap : Nat) (w : World) (h0 : 1 ≤ l.length) (hlen : l.length ≤ 2000000) (hB : Bys w b off l) :
    Calls Tryz.prog 188 #[.slice (some ⟨b, off, none⟩) l.length cap] w fun e w' => e = .returned (.tuple #[.int .i32 ((stepL l).1 : Nat), .int .i64 ((stepL l).2 : Nat)]) ∧ Below w.heap.size w w' := by
 obtain ⟨c, t, rfl⟩ : ∃ c t, l = c :: t := by cases l with | nil => simp at h0 | cons c t => exact ⟨c, t, rfl⟩
 have C := Lib.hid (fun W (h : W = w) => h ▸ next_any c t b off cap w hlen hB)
 obtain ⟨n, hn⟩ : ∃ n, n = (c :: t).length := ⟨_, rfl⟩
 obtain ⟨R, hR⟩ : ∃ R, R = stepL (c :: t) := ⟨_, rfl⟩
 have HR := Lib.hid hR
 have HN := Lib.hid hn
 rw [← hn, ← hR]
 clear hn hR h0 hlen hB
 go_enter Tryz.func188, Tryz.ntmps188
 go_wp2_with fail
 rw [HN.out]
 refine (C.out _ rfl).mono ?_
 rintro e w1 ⟨⟨r, k, m, rfl, hm⟩, hb1⟩
 rw [← HR.out] at hm
 rcases hm with ⟨rfl, hm, -⟩ | ⟨rfl, rfl, rfl, -⟩
 ·have HM := Lib.hid hm
  clear hm
  go_wp2
  go_ret2
  exact ⟨by rw [HM.out]; rfl, hb1⟩
 ·go_wp2
  go_ret2
  exact ⟨rfl, hb1⟩
end Go.Proofs.YtjkajojjehgmdaaGreat
namespace Go.Proofs.YtjkajojjehgmdaaGreat
open Go.RowKit Go.Shelf Go.Maps
attribute [local go_sem] Oper.semAt_some
structure RP where
 pl : Nat
 r : Nat
 ok : isR r = true
def eachF : Nat → Nat → List UInt8 → List RP
 | 0, _, _ => []
 | _ + 1, _, [] => []
 | n + 1, k, c :: t => ⟨k, (stepL (c :: t)).1, stepL_isR _⟩ :: eachF n (k + (stepL (c :: t)).2) ((c :: t).drop (stepL (c :: t)).2)
def eachFrom (l : List UInt8) (k : Nat) : List RP := eachF (l.length - k) k (l.drop k)
def eachL (l : List UInt8) : List RP := eachFrom l 0
theorem eachF_more : ∀ (n m k : Nat) (l : List UInt8), l.length ≤ n → l.length ≤ m → eachF n k l = eachF m k l
 | 0, 0, _, _, _, _ => rfl
 | 0, m + 1, _, [], _, _ => rfl
 | 0, m + 1, _, _ :: _, h, _ => by simp at h
 | n + 1, 0, _, [], _, _ => rfl
 | n + 1, 0, _, _ :: _, _, h => by simp at h
 | n + 1, m + 1, _, [], _, _ => rfl
 | n + 1, m + 1, k, c :: t, h1, h2 => by
  simp only [List.length_cons] at h1 h2
  unfold eachF
  have hp := stepL_pos (c :: t)
  have hl : ((c :: t).drop (stepL (c :: t)).2).length ≤ t.length := by rw [List.length_drop, List.length_cons]; omega
  rw [eachF_more n m _ _ (by omega) (by omega)]
theorem eachFrom_end (l : List UInt8) (k : Nat) (h : l.length ≤ k) : eachFrom l k = [] := by
 unfold eachFrom
 rw [List.drop_eq_nil_of_le h, show l.length - k = 0 by omega]
 rfl
theorem isR_of {l : List UInt8} {r n : Nat} (hs : stepL l = (r, n)) : isR r = true := by have := stepL_isR l; rw [hs] at this; exact this
theorem eachFrom_step (l : List UInt8) (k r n : Nat) (h : k < l.length) (hs : stepL (l.drop k) = (r, n)) (ho : isR r = true) : eachFrom l k = ⟨k, r, ho⟩ :: eachFrom l (k + n) := by
 unfold eachFrom
 have hne : l.drop k ≠ [] := by
  intro e; have := congrArg List.length e; simp at this; omega
 obtain ⟨c, t, e⟩ : ∃ c t, l.drop k = c :: t := List.exists_cons_of_ne_nil hne
 have hlen : (c :: t).length = l.length - k := by rw [← e, List.length_drop]
 have hn : 1 ≤ n := by have := stepL_pos (l.drop k); rw [hs] at this; exact this
 rw [e] at hs
 rw [← hlen, e]
 show eachF (t.length + 1) k (c :: t) = _
 conv => lhs; unfold eachF
 have e3 : (⟨k, (stepL (c :: t)).1, stepL_isR _⟩ : RP) = ⟨k, r, ho⟩ := by simp [hs]
 rw [e3, hs]
 dsimp only
 have e2 : (c :: t).drop n = l.drop (k + n) := by rw [← e, List.drop_drop]
 rw [e2]
 simp only [List.length_cons] at hlen
 rw [eachF_more t.length (l.length - (k + n)) _ _ (by simp; omega) (by simp)]
theorem eachF_runes : ∀ (n k : Nat) (l : List UInt8), (eachF n k l).map RP.r = runesF n l
 | 0, _, _ => rfl
 | _ + 1, _, [] => rfl
 | n + 1, k, c :: t => by
  unfold eachF runesF
  rw [List.map_cons, eachF_runes n]
theorem eachL_runes (l : List UInt8) : (eachL l).map RP.r = runesL l := by
 have := eachF_runes l.length 0 l
 unfold eachL eachFrom
 simpa [runesL] using this
theorem eachL_len (l : List UInt8) : (eachL l).length ≤ l.length := by
 have := congrArg List.length (eachL_runes l)
 rw [List.length_map] at this
 rw [this]; exact runesL_len l
theorem bytes_conv (w : World) (l : List UInt8) : ∃ cap W1, (convert 9 22 (.string (S l))).run Tryz.prog w = .ok (.slice (some ⟨w.heap.size, 0, none⟩) l.length cap) W1 ∧
    Below w.heap.size w W1 ∧ W1.heap.size = w.heap.size + 1 ∧ Bys W1 w.heap.size 0 l ∧ l.length ≤ cap ∧ (∀ j, j < l.length → W1.frozen? ⟨w.heap.size, j, none⟩ = false) := by
 have h := run_bytes_of_string (P := Tryz.prog) w 9 22 5 (S l) Tryz.underlying9 Tryz.underlying22 Tryz.underlying5
 obtain ⟨cap, hcap⟩ : ∃ cap, cap = grownCap w (S l).size 0 5 := ⟨_, rfl⟩
 have hge : l.length ≤ cap := by rw [hcap, ← S_size]; exact grownCap_ge _ _ _ _
 rw [← hcap, S_size] at h
 obtain ⟨W1, hW1⟩ : ∃ W1, W1 = w.drew.alloc (.cells (bytesRow (S l) cap) 5 ((bytesRow (S l) cap).size, (bytesRow (S l) cap).size + 1)) := ⟨_, rfl⟩
 rw [← hW1] at h
 have hn : W1.heap[w.heap.size]? = some (.cells (bytesRow (S l) cap) 5 ((bytesRow (S l) cap).size, (bytesRow (S l) cap).size + 1)) := by
  rw [hW1]; exact World.alloc_heap_new w.drew _
 have hsz : W1.heap.size = w.heap.size + 1 := by rw [hW1]; exact World.size_alloc w.drew _
 have hrow : ∀ j, j < l.length → (bytesRow (S l) cap)[j]? = some (.int .u8 ((nth 0 l j).toNat : Int)) := by
  intro j hj
  unfold bytesRow
  rw [Array.getElem?_append_left (by simp [S]; exact hj)]
  simp [S, nth, hj]
 have hrs : l.length ≤ (bytesRow (S l) cap).size := by simp [bytesRow, S]
 refine ⟨cap, W1, h, ?_, hsz, ⟨by omega, fun j hj => ?_⟩, hge, fun j hj => ?_⟩
 ·rw [hW1]
  exact ((Below.refl _ w).drew).alloc (Nat.le_refl _) _
 ·unfold World.cell?
  dsimp only
  rw [hn, Nat.zero_add]
  exact hrow j hj
 ·unfold World.frozen?
  dsimp only
  rw [hn]
  simp
  omega
theorem Bys.of_block {W W' : World} {b off : Nat} {l : List UInt8} (h : Bys W b off l) (hb : W'.heap[b]? = W.heap[b]?) (hs : W.heap.size ≤ W'.heap.size) : Bys W' b off l :=
 ⟨Nat.lt_of_lt_of_le h.lt hs, fun j hj => (cell_block hb).trans (h.at_ j hj)⟩
theorem Bys.drop {W : World} {b : Nat} {l : List UInt8} (h : Bys W b 0 l) (k : Nat) : Bys W b k (l.drop k) :=
 ⟨h.lt, fun j hj => by
  rw [List.length_drop] at hj
  have := h.at_ (k + j) (by omega)
  rw [Nat.zero_add] at this
  rw [this]
  simp [nth, List.getD]⟩
theorem step_at (l : List UInt8) (b off n cap r k : Nat) (w : World) (hn : (n == l.length) = true) (hs : stepL l = (r, k)) (h0 : 1 ≤ n) (hlen : n ≤ 2000000) (hB : Bys w b off l) :
    Calls Tryz.prog 188 #[.slice (some ⟨b, off, none⟩) n cap] w fun e w' => e = .returned (.tuple #[.int .i32 (r : Int), .int .i64 (k : Int)]) ∧ Below w.heap.size w w' := by
 obtain rfl : n = l.length := by simpa using hn
 have := step_any l b off cap w h0 hlen hB
 rw [hs] at this
 exact this
set_option maxRecDepth 100000 in
set_option maxHeartbeats 2000000 in
theorem each1_stops (l : List UInt8) (Bx b cap : Nat) (w : World) (hbx : Bx < w.heap.size) (hcx : w.cell? ⟨Bx, 0, none⟩ = some (.slice (some ⟨b, 0, none⟩) l.length cap)) (hcap : l.length ≤ cap)
    (hB : Bys w b 0 l) (hlen : l.length ≤ 2000000) (mm : Nat) (hm : 1 ≤ mm) :
    SeqStopsK Fence.wide mm Tryz.prog 187 #[.pointer (some ⟨Bx, 0, none⟩)] (fun x : RP => #[Value.int .i64 x.pl, Value.int .i32 x.r]) (KB Bx b) (fun ys => ys = eachL l) (fun pre => pre <+: eachL l) l.length w := by
 intro L J Jx W hW0 hJ hJx hY h0
 have hW := KB.of_below hW0 hbx hB.lt
 clear hW0
 refine callsIn_of_wp Tryz.func187 rfl trivial ?_ rfl
 simp only [Tryz.ntmps187, List.size_toArray, List.length_cons, List.length_nil, Nat.reduceAdd, Nat.reduceSub, Array.replicate_succ, Array.replicate_zero, List.push_toArray, List.append_toArray, List.nil_append, List.cons_append]
 gi_wp2
 obtain ⟨z, hz⟩ : ∃ z : Nat, z = l.length := ⟨_, rfl⟩
 have HE := Lib.hid (eachL_len l)
 rw [← hz] at hcx hcap hlen hY
 have HZ := Lib.hid hz
 clear hz
 gi_loopw [3] (fun i wr => ∃ (k : Nat) (pre : List RP), k ≤ z ∧ i = .int .i64 (k : Int) ∧ J pre wr ∧ KB Bx b W wr ∧ Hid (eachL l = pre ++ eachFrom l k))
  (fun i _ => z - (intOf i).toNat)
 case atStart => exact ⟨0, [], Nat.zero_le _, rfl, h0, KB.refl _ _ _, Lib.hid rfl⟩
 case round =>
  obtain ⟨k, pre, hk, rfl, hJs, hnx, hpre⟩ := hrel
  have hbw := hW.trans hnx
  have hx := (cell_block hbw.a).trans hcx
  have hBr := hB.of_block hbw.b hbw.size
  by_cases hlt : k < z
  ·obtain ⟨r, n, hs⟩ : ∃ r n, stepL (l.drop k) = (r, n) := ⟨_, _, rfl⟩
   have hlt' : k < l.length := by rw [← HZ.out]; exact hlt
   have hn1 : 1 ≤ n := by have := stepL_pos (l.drop k); rw [hs] at this; exact this
   have hn2 : n ≤ z - k := by
    have := stepL_le (l.drop k) (by intro e; have := congrArg List.length e; simp at this; omega)
    rw [hs, List.length_drop, ← HZ.out] at this; exact this
   have hkc : k < cap := by omega
   have CS := Lib.hid (fun (W' : World) (h : Bys W' b k (l.drop k)) => step_at (l.drop k) b k (z - k) (cap - k) r n W' (by rw [List.length_drop, ← HZ.out]; simp) hs (by omega) (by omega) h)
   have hok := isR_of hs
   have HS := Lib.hid (eachFrom_step l k r n hlt' hs hok)
   clear hlt' hs
   gi_wp2_with fail
   refine ⟨trivial, ?_⟩
   refine (callsIn_wide.2 (CS.out _ (hBr.drop k))).mono ?_
   rintro e w2 ⟨rfl, hb2⟩
   have hlp : pre.length < z := by
    have h1 := congrArg List.length hpre.out
    rw [HS.out, List.length_append, List.length_cons] at h1
    have h2 := HE.out
    rw [← HZ.out] at h2
    omega
   obtain ⟨fn, tmps, assign, body, hy, hR⟩ := hY pre ⟨k, r, hok⟩ w2 (hJ _ _ _ none hJs (grown_of_below hb2) (fun r e => by cases e)) hlp
   dsimp only at hy
   gi_wp2
   refine hR.mono ?_
   rintro e W3 (⟨rfl, hJ3, hk3⟩ | ⟨rfl, hJx3⟩)
   ·gi_wp2
    go_roundw
    case rel => exact ⟨k + n, pre ++ [⟨k, r, hok⟩], by omega, by go_num, hJ3, (hnx.trans (KB.of_below hb2 (by have := hbw.size; omega) (by have := hbw.size; have := hB.lt; omega))).trans hk3, Lib.hid (by rw [hpre.out, HS.out]; simp)⟩
    case measure => simp [intOf]; omega
   ·gi_wp2
    refine bodyPost_ret (results_none rfl _ _ _) rfl ?_
    exact ⟨⟨_, rfl⟩, .inr ⟨_, ⟨eachFrom l (k + n), by rw [hpre.out, HS.out]; simp⟩, hJx3⟩⟩
  ·obtain rfl : k = z := by omega
   gi_wp2
   go_end0
   exact ⟨⟨_, rfl⟩, .inl ⟨_, by rw [hpre.out, eachFrom_end l k (by rw [HZ.out]; exact Nat.le_refl _)]; simp, hJs⟩⟩
structure RSeq (w w' : World) (l : List UInt8) (e : Ending) (Bx b cap : Nat) : Prop where
 en : e = .returned (.func (.func 187) #[] #[.pointer (some ⟨Bx, 0, none⟩)])
 bx : w.heap.size ≤ Bx ∧ Bx < w'.heap.size
 bl : w.heap.size ≤ b
 cell : w'.cell? ⟨Bx, 0, none⟩ = some (.slice (some ⟨b, 0, none⟩) l.length cap)
 capge : l.length ≤ cap
 bys : Bys w' b 0 l
 below : Below w.heap.size w w'
theorem each_any (a : Option Addr) (n c : Nat) (w : World) : Calls Tryz.prog 172 #[.slice a n c] w fun e w' => e = .returned (.func (.func 187) #[] #[.pointer (some ⟨w.heap.size, 0, none⟩)]) ∧ w.alloc (.cells #[.slice a n c] 22) = w' := by
 go_enter Tryz.func172, Tryz.ntmps172
 go_wp2
 go_ret
 exact ⟨rfl, rfl⟩
theorem rall_any (l : List UInt8) (w : World) : Calls Tryz.prog 137 #[.string (S l)] w fun e w' => ∃ Bx b cap, RSeq w w' l e Bx b cap := by
 obtain ⟨cap, W1, hrun, hb1, hs1, hB, hcap, _⟩ := bytes_conv w l
 go_enter Tryz.func137, Tryz.ntmps137
 go_wp2_with (go_at_call 172; refine (each_any _ _ _ _).mono ?_; rintro e w2 ⟨rfl, rfl⟩)
 go_ret
 have hc := cell_new_l W1 (.slice (some ⟨w.heap.size, 0, none⟩) l.length cap) 22
 have hb2 : Below W1.heap.size W1 (W1.alloc (.cells #[.slice (some ⟨w.heap.size, 0, none⟩) l.length cap] 22)) := (Below.refl _ _).alloc (Nat.le_refl _) _
 rw [hs1] at hc
 exact ⟨w.heap.size + 1, w.heap.size, cap, rfl, ⟨by omega, by simp; omega⟩, Nat.le_refl _, hc.1, hcap, hB.below hb2, hb1.trans (hb2.mono (by omega))⟩
end Go.Proofs.YtjkajojjehgmdaaGreat
