/- A rune's bytes: the contracts of isRune, six, Bytes, and of the reference's. -/
import Derived.Test.YtmdpmjabjijjiaaRMath
import Derived.Test.YtmdpmjabjijjiaaWidth3
namespace Go.Proofs.Ytmdpmjabjijjiaa
open Go.RowKit
theorem wrap_u8_nat (m : Nat) : IntKind.u8.wrap (m : Int) = ((m % 256 : Nat) : Int) := by
  rw [IntKind.wrap_u8]; omega
set_option maxRecDepth 100000 in
theorem six_any (n k : Nat) (hn : n ≤ 1114111) (hk : k = 0 ∨ k = 6 ∨ k = 12) (w : World) : Calls Try.prog 129 #[.int .i32 n, .int .u64 k] w fun e w' => e = .returned (.int .u8 ((128 + n / 2 ^ k % 64 : Nat) : Int)) ∧ w = w' := by
  have h0 := wrap_u8_nat (n / 2 ^ k)
  have h1 := and63 (n / 2 ^ k % 256) (Nat.mod_lt _ (by omega))
  have h2 := or128 (n / 2 ^ k % 256 % 64) (Nat.mod_lt _ (by omega))
  have h3 : (n : Int).fdiv ((2 ^ k : Nat) : Int) = ((n / 2 ^ k : Nat) : Int) := by
    rw [Int.fdiv_eq_ediv_of_nonneg _ (Int.natCast_nonneg _), Int.natCast_ediv]
  rcases hk with rfl | rfl | rfl
  all_goals
    simp only [Nat.reducePow] at h0 h1 h2 h3 ⊢
    go_enter Try.func129, Try.ntmps129
    go_wp2
    go_ret
    exact ⟨ret_int (by omega), rfl⟩
set_option maxRecDepth 100000 in
theorem isRune_any (r : Int) (w : World) : Calls Try.prog 128 #[.int .i32 r] w fun e w' => e = .returned (.bool (isR r)) ∧ w = w' := by
  obtain ⟨z, hz⟩ : ∃ z, z = isR r := ⟨_, rfl⟩
  rw [← hz]
  have HZ := Lib.hid hz
  clear hz
  go_enter Try.func128, Try.ntmps128
  go_wp2
  all_goals go_ret
  all_goals refine ⟨ret_bool ?_, rfl⟩
  all_goals rw [HZ.out]
  all_goals unfold isR
  all_goals first | exact (decide_eq_true (by omega)).symm | exact (decide_eq_false (by omega)).symm | (rw [Bool.eq_iff_iff]; simp only [decide_eq_true_eq, Bool.or_eq_true, Bool.and_eq_true]; omega)
def u8v (l : List UInt8) : List Value := l.map fun b => .int .u8 b.toNat
/-- A new slice of these bytes, and nothing else. -/
def NewB (l : List UInt8) (w : World) (e : Ending) (w' : World) : Prop := ∃ n, n = l.length ∧ e = .returned (.slice (some ⟨w.heap.size, 0, none⟩) n n) ∧ w.alloc (.cells (u8v l).toArray 5) = w'
theorem byteB_nat (n : Nat) (h : n < 256) : (byteB n).toNat = n := by simp [byteB]; omega
set_option maxRecDepth 100000 in
set_option maxHeartbeats 2000000 in
theorem rbytes_at (n : Nat) (hn : n ≤ 1114111) (hr : isR n = true) (w : World) : Calls Try.prog 91 #[.int .i32 n] w (NewB (bytesN n) w) := by
  obtain ⟨r, hnr⟩ : ∃ r : Int, r = (n : Int) := ⟨_, rfl⟩
  rw [← hnr] at hr ⊢
  have HR := Lib.hid hnr
  have CI := isRune_any r w
  rw [hr] at CI
  have CI := Lib.hid CI
  have hsix : ∀ k : Nat, (k = 0 ∨ k = 6 ∨ k = 12) → ∀ W : World, Calls Try.prog 129 #[.int .i32 r, .int .u64 k] W fun e w' => e = .returned (.int .u8 ((128 + n / 2 ^ k % 64 : Nat) : Int)) ∧ W = w' := fun k hk W => by rw [hnr]; exact six_any n k hn hk W
  have h3 : ∀ k : Nat, r.fdiv (k : Int) = ((n / k : Nat) : Int) := fun k => by rw [hnr, Int.fdiv_eq_ediv_of_nonneg _ (Int.natCast_nonneg _), Int.natCast_ediv]
  have C0 := hsix 0 (by omega)
  have C6 := hsix 6 (by omega)
  have C12 := hsix 12 (by omega)
  simp only [Nat.reducePow, Nat.div_one] at C0 C6 C12
  have C0 := Lib.hid C0
  have C6 := Lib.hid C6
  have C12 := Lib.hid C12
  by_cases h1 : n < 128
  · have hb : bytesN n = [byteB n] := by unfold bytesN; rw [if_pos h1]
    have h0i : 0 ≤ r := by omega
    have h1i : r < 128 := by omega
    clear hnr hn hr h1 h3 hsix
    rw [hb]
    go_enter Try.func91, Try.ntmps91
    go_wp2_with (go_at_call 128; refine (CI.out).mono ?_; rintro e w1 ⟨rfl, rfl⟩)
    go_ret
    refine ⟨1, rfl, rfl, ?_⟩
    have hnr := HR.out
    refine congrArg (fun a => w.alloc (.cells a 5)) ?_
    simp only [u8v, List.map_cons, List.map_nil, byteB_nat n (by omega)]
    rw [hnr]
    all_goals (try rw [show (n : Int) % 256 = (n : Int) by omega])
  · have h1i : (128 : Int) ≤ r := by omega
    have q6 := h3 64
    have q12 := h3 4096
    have q18 := h3 262144
    have w6 := wrap_u8_nat (n / 64)
    have w12 := wrap_u8_nat (n / 4096)
    have w18 := wrap_u8_nat (n / 262144)
    clear h3 hsix
    by_cases h2 : n < 2048
    · have hb : bytesN n = [byteB (192 + n / 64), byteB (128 + n % 64)] := by unfold bytesN; rw [if_neg h1, if_pos h2]
      have o1 := or192 (n / 64 % 256) (by omega)
      rw [hb]
      have h2i : r < 2048 := by omega
      have HN := Lib.hid hn
      clear h1 h2 hb q12 q18 w12 w18 hn hr hnr
      go_enter Try.func91, Try.ntmps91
      go_wp2_with (first
        | (go_at_call 128; refine (CI.out).mono ?_; rintro e w1 ⟨rfl, rfl⟩)
        | (go_at_call 129; refine (C0.out _).mono ?_; rintro e w1 ⟨rfl, rfl⟩))
      go_ret
      refine ⟨2, rfl, rfl, ?_⟩
      have hn := HN.out
      have hnr := HR.out
      refine congrArg (fun a => w.alloc (.cells a 5)) ?_
      simp only [u8v, List.map_cons, List.map_nil, byteB_nat (192 + n / 64) (by omega), byteB_nat (128 + n % 64) (by omega)]
      simp only [Int.natCast_add, Int.natCast_ediv, Int.natCast_emod, Int.cast_ofNat_Int, hnr]
    · have h2i : (2048 : Int) ≤ r := by omega
      by_cases h3 : n < 65536
      · have hb : bytesN n = [byteB (224 + n / 4096), byteB (128 + n / 64 % 64), byteB (128 + n % 64)] := by unfold bytesN; rw [if_neg h1, if_neg h2, if_pos h3]
        have o1 := or224 (n / 4096 % 256) (by omega)
        rw [hb]
        have h3i : r < 65536 := by omega
        have HN := Lib.hid (And.intro hn h3)
        clear h1 h2 h3 hb q6 q18 w6 w18 hn hr hnr
        go_enter Try.func91, Try.ntmps91
        go_wp2_with (go_at_call 128; refine (CI.out).mono ?_; rintro e w1 ⟨rfl, rfl⟩)
        refine (C6.out _).mono ?_
        rintro e w1 ⟨rfl, rfl⟩
        go_wp2_with fail
        refine (C0.out _).mono ?_
        rintro e w1 ⟨rfl, rfl⟩
        go_wp2_with fail
        go_ret
        refine ⟨3, rfl, rfl, ?_⟩
        obtain ⟨hn, h3⟩ := HN.out
        have hnr := HR.out
        refine congrArg (fun a => w.alloc (.cells a 5)) ?_
        unfold u8v
        rw [List.map_cons, List.map_cons, List.map_cons, List.map_nil, byteB_nat (224 + n / 4096) (by omega), byteB_nat (128 + n / 64 % 64) (by omega), byteB_nat (128 + n % 64) (by omega)]
        simp only [Int.natCast_add, Int.natCast_ediv, Int.natCast_emod, Int.cast_ofNat_Int, hnr]
      · have h3i : (65536 : Int) ≤ r := by omega
        have h4i : r ≤ 1114111 := by omega
        have hb : bytesN n = [byteB (240 + n / 262144), byteB (128 + n / 4096 % 64), byteB (128 + n / 64 % 64), byteB (128 + n % 64)] := by unfold bytesN; rw [if_neg h1, if_neg h2, if_neg h3]
        have o1 := or240 (n / 262144 % 256) (by omega)
        rw [hb]
        have HN := Lib.hid hn
        clear h1 h2 h3 hb q6 q12 w6 w12 hn hr hnr
        go_enter Try.func91, Try.ntmps91
        go_wp2_with (go_at_call 128; refine (CI.out).mono ?_; rintro e w1 ⟨rfl, rfl⟩)
        refine (C12.out _).mono ?_
        rintro e w1 ⟨rfl, rfl⟩
        go_wp2_with fail
        refine (C6.out _).mono ?_
        rintro e w1 ⟨rfl, rfl⟩
        go_wp2_with fail
        refine (C0.out _).mono ?_
        rintro e w1 ⟨rfl, rfl⟩
        go_wp2_with fail
        go_ret
        refine ⟨4, rfl, rfl, ?_⟩
        have hn := HN.out
        have hnr := HR.out
        refine congrArg (fun a => w.alloc (.cells a 5)) ?_
        unfold u8v
        rw [List.map_cons, List.map_cons, List.map_cons, List.map_cons, List.map_nil, byteB_nat (240 + n / 262144) (by omega), byteB_nat (128 + n / 4096 % 64) (by omega), byteB_nat (128 + n / 64 % 64) (by omega), byteB_nat (128 + n % 64) (by omega)]
        simp only [Int.natCast_add, Int.natCast_ediv, Int.natCast_emod, Int.cast_ofNat_Int, hnr]
end Go.Proofs.Ytmdpmjabjijjiaa
