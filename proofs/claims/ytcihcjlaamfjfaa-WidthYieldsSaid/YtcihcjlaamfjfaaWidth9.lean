/- The law WidthYields: the contract of its function. -/
import Derived.Test.YtcihcjlaamfjfaaWidth8
namespace Go.Proofs.Ytcihcjlaamfjfaa
open Go.RowKit Go.Shelf Go.Maps
attribute [local go_sem] Oper.semAt_some

def inTo (L : List Int) (r : Int) (k : Nat) : Bool := (List.range k).any fun j => decide (fst L j ≤ r) && decide (r ≤ snd L j)
theorem inTo_zero (L : List Int) (r : Int) : inTo L r 0 = false := rfl
theorem inTo_succ (L : List Int) (r : Int) (k : Nat) : inTo L r (k + 1) = (inTo L r k || (decide (fst L k ≤ r) && decide (r ≤ snd L k))) := by simp [inTo, List.range_succ]
theorem inTo_1 {L : List Int} {r : Int} {k : Nat} (h : inTo L r k = true) : true = inTo L r (k + 1) := by rw [inTo_succ, h]; rfl
theorem inTo_2 {L : List Int} {r : Int} {k : Nat} (h : ¬ inTo L r k = true) (h2 : fst L k ≤ r) : decide (r ≤ snd L k) = inTo L r (k + 1) := by
  rw [inTo_succ, Bool.eq_false_iff.2 h, decide_eq_true h2]; simp
theorem inTo_3 {L : List Int} {r : Int} {k : Nat} (h : ¬ inTo L r k = true) (h2 : ¬ fst L k ≤ r) : false = inTo L r (k + 1) := by
  rw [inTo_succ, Bool.eq_false_iff.2 h, decide_eq_false h2]; simp
theorem inTo_all (L : List Int) (r : Int) (n : Nat) (hn : L.length = 2 * n) : inTo L r n = inP L r := by unfold inTo inP; rw [show L.length / 2 = n by omega]

set_option maxRecDepth 100000 in
set_option maxHeartbeats 1000000 in
theorem widthYields_law (a0 : Int) (r : Int) (w : World) (w0 : (Lit.int .u8 a0).wf = true) (w1 : (Lit.int .i32 r).wf = true) :
    Calls Try.prog 5 #[.int .u8 a0, .int .i32 r] w fun e w' => e = .returned (.bool true) ∧ Below w.heap.size w w' := by
  have hk0 := bounds_u8 w0
  clear w0 w1
  obtain ⟨most, rfl⟩ := Int.eq_ofNat_of_zero_le hk0.1
  have hm : most ≤ 255 := by omega
  clear hk0
  go_enter Try.func5, Try.ntmps5
  go_wp2_with fail
  refine (told_any true most (by omega) _).mono ?_
  rintro e w1 ⟨a1, c1, n1, rfl, hn1, hr1, hb1⟩
  rw [if_pos rfl] at hr1 hn1
  have Hn1 := Lib.hid hn1
  clear hn1
  go_wp2_with fail
  refine (told_any false most (by omega) _).mono ?_
  rintro e w2 ⟨a2, c2, n2, rfl, hn2, hr2, hb2⟩
  rw [if_neg (by simp)] at hr2 hn2
  have Hn2 := Lib.hid hn2
  clear hn2
  go_wp2_with fail
  refine (told_any true 1000 (by omega) _).mono ?_
  rintro e w3 ⟨a3, c3, n3, rfl, hn3, hr3, hb3⟩
  rw [if_pos rfl, List.take_of_length_le (by rw [marks_len]; omega)] at hr3 hn3
  rw [marks_len] at hn3
  subst hn3
  go_wp2_with fail
  refine (told_any false 1000 (by omega) _).mono ?_
  rintro e w4 ⟨a4, c4, n4, rfl, hn4, hr4, hb4⟩
  rw [if_neg (by simp), List.take_of_length_le (by rw [wides_len]; omega)] at hr4 hn4
  rw [wides_len] at hn4
  subst hn4
  have hB2 := bnext hb1 hb2
  have hB3 := bnext hB2 hb3
  have hB4 := bnext hB3 hb4
  have hr1' := (hr1.below (bnext (bnext hb2 hb3) hb4)).more (bnext (bnext hb2 hb3) hb4).size
  have hr2' := (hr2.below (bnext hb3 hb4)).more (bnext hb3 hb4).size
  have hr3' := (hr3.below hb4).more hb4.size
  clear hb1 hb2 hb3 hb4 hB2 hB3 hr1 hr2 hr3
  go_wp2_with fail
  refine (refMarks_any _).mono ?_
  rintro e w5 ⟨rfl, rfl⟩
  go_wp2_with fail
  refine (same_any marksL 28 most rfl (by omega) (by omega) a1 _ c1 _ _ Hn1.out ((hr1'.below ((Below.refl _ _).alloc (Nat.le_refl _) _)).more (by simp)) (RowAt.new _ _ _)).mono ?_
  rintro e w6 ⟨rfl, hb6⟩
  have hB6 := bnext (hB4.alloc hB4.size _) hb6
  have hs6 : Below w4.heap.size w4 w6 := bnext ((Below.refl _ w4).alloc (Nat.le_refl _) _) hb6
  clear hb6
  go_wp2_with fail
  refine (refWides_any _).mono ?_
  rintro e w7 ⟨rfl, rfl⟩
  go_wp2_with fail
  refine (same_any widesL 51 most rfl (by omega) (by omega) a2 _ c2 _ _ Hn2.out ((hr2'.below (hs6.alloc hs6.size _)).more (by have := hs6.size; simp; omega)) (RowAt.new _ _ _)).mono ?_
  rintro e w8 ⟨rfl, hb8⟩
  have hB8 := bnext (hB6.alloc hB6.size _) hb8
  have hs8 : Below w4.heap.size w4 w8 := bnext (hs6.alloc hs6.size _) hb8
  clear hb8 hB6 hs6 hr1' hr2'
  go_wp2_with fail
  refine (awake02_any _).mono ?_
  rintro e w9 ⟨rfl, hb9⟩
  have hB9 := bnext hB8 hb9
  have hs9 := bnext hs8 hb9
  have hm3 := (hr3'.below hs9).more hs9.size
  have hm4 := (hr4.below hs9).more hs9.size
  clear hb9 hB8 hs8 hs9 hB4 hr3' hr4
  go_wp2_with fail
  go_loopw [15, 13] (fun i v wr => ∃ k : Nat, k ≤ 28 ∧ i = .int .i64 (2 * k : Nat) ∧ v = .bool (inTo marksL r k) ∧ Below w9.heap.size w9 wr) (fun i _ _ => 56 - (intOf i).toNat)
  case atStart => exact ⟨0, by omega, rfl, rfl, Below.refl _ _⟩
  case round =>
    obtain ⟨k, hk, rfl, rfl, hb⟩ := hrel
    by_cases hlt : k < 28
    · obtain ⟨b, off, rfl, _, d0⟩ := (hm3.below hb).at (2 * k) (by rw [marks_len]; omega)
      obtain ⟨b2, off2, e2, _, d1⟩ := (hm3.below hb).at (2 * k + 1) (by rw [marks_len]; omega)
      simp only [Option.some.injEq, Addr.mk.injEq, and_true] at e2
      obtain ⟨rfl, rfl⟩ := e2
      have f0 : nth 0 marksL (2 * k) = fst marksL k := rfl
      have f1 : nth 0 marksL (2 * k + 1) = snd marksL k := rfl
      rw [f0] at d0
      rw [f1] at d1
      have d2 := d1
      rw [← Nat.add_assoc] at d2
      clear f0 f1
      go_wp2
      all_goals
        refine ⟨⟨k + 1, by omega, congrArg (Value.int .i64) (by omega), congrArg Value.bool (by first | exact inTo_1 (by assumption) | exact inTo_2 (by assumption) (by assumption) | exact inTo_3 (by assumption) (by assumption)), hb⟩, by simp [intOf]; omega⟩
    · obtain rfl : k = 28 := by omega
      have hm4' := (hm4.below hb).more hb.size
      have hB10 := bnext hB9 hb
      clear hb hm3 hm4 hB9
      rw [inTo_all marksL r 28 rfl, show ((2 * 28 : Nat) : Int) = 56 from rfl]
      go_wp2_with fail
      go_loopw [16, 14] (fun i v wr2 => ∃ k : Nat, k ≤ 51 ∧ i = .int .i64 (2 * k : Nat) ∧ v = .bool (inTo widesL r k) ∧ Below wr.heap.size wr wr2) (fun i _ _ => 102 - (intOf i).toNat)
      case atStart => exact ⟨0, by omega, rfl, rfl, Below.refl _ _⟩
      case round =>
        obtain ⟨k, hk, rfl, rfl, hb⟩ := hrel
        by_cases hlt : k < 51
        · obtain ⟨b, off, rfl, _, d0⟩ := (hm4'.below hb).at (2 * k) (by rw [wides_len]; omega)
          obtain ⟨b2, off2, e2, _, d1⟩ := (hm4'.below hb).at (2 * k + 1) (by rw [wides_len]; omega)
          simp only [Option.some.injEq, Addr.mk.injEq, and_true] at e2
          obtain ⟨rfl, rfl⟩ := e2
          have f0 : nth 0 widesL (2 * k) = fst widesL k := rfl
          have f1 : nth 0 widesL (2 * k + 1) = snd widesL k := rfl
          rw [f0] at d0
          rw [f1] at d1
          have d2 := d1
          rw [← Nat.add_assoc] at d2
          clear f0 f1
          go_wp2
          all_goals
            refine ⟨⟨k + 1, by omega, congrArg (Value.int .i64) (by omega), congrArg Value.bool (by first | exact inTo_1 (by assumption) | exact inTo_2 (by assumption) (by assumption) | exact inTo_3 (by assumption) (by assumption)), hb⟩, by simp [intOf]; omega⟩
        · obtain rfl : k = 51 := by omega
          have hB11 := bnext hB10 hb
          clear hb hm4' hB10
          have hin := inTo_all widesL r 51 rfl
          go_wp2_with fail
          refine (markFn_any _ _).mono ?_
          rintro e v1 ⟨rfl, hb1⟩
          go_wp2_with fail
          refine (wideFn_any _ _).mono ?_
          rintro e v2 ⟨rfl, hb2⟩
          have hB12 := bnext (bnext hB11 hb1) hb2
          clear hb1 hb2 hB11
          go_wp2
          all_goals
            rename_i hx
            go_ret
            exact ⟨ret_bool (by simp_all [wideB, markB]), hB12⟩
end Go.Proofs.Ytcihcjlaamfjfaa
