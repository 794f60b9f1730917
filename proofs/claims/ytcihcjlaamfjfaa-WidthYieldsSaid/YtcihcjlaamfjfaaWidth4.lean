/- The contracts of the sums of columns, of the program and of its reference, and of the laws' own helpers. For lists of at most 1000 runes. -/
import Derived.Test.YtcihcjlaamfjfaaWidth3
import Derived.Test.YtcihcjlaamfjfaaWSum
namespace Go.Proofs.Ytcihcjlaamfjfaa
open Go.RowKit
attribute [local go_sem] Oper.semAt_some

/-- The slice a holds the runes l. -/
structure Runes (B : Nat) (w : World) (a : Option Addr) (l : List Int) : Prop where
  row : RowAt B w a (i32s l)
  few : l.length ≤ 1000
theorem Runes.at {B : Nat} {w : World} {a : Option Addr} {l : List Int} (h : Runes B w a l) (k : Nat) (hk : k < l.length) : ∃ b off, a = some ⟨b, off, none⟩ ∧ b < B ∧ w.cell? ⟨b, off + k, none⟩ = some (.int .i32 (nth 0 l k)) := by
  obtain ⟨b, off, e, hb, hc⟩ := h.row k (by rw [i32s_length]; exact hk)
  exact ⟨b, off, e, hb, by rw [hc, i32s_nth _ _ hk]⟩
theorem Runes.below {B : Nat} {w w' : World} {a : Option Addr} {l : List Int} (h : Runes B w a l) (hb : Below B w w') : Runes B w' a l := ⟨h.row.below hb, h.few⟩
theorem Runes.more {B B' : Nat} {w : World} {a : Option Addr} {l : List Int} (h : Runes B w a l) (hb : B ≤ B') : Runes B' w a l := ⟨h.row.more hb, h.few⟩
theorem Runes.take {B : Nat} {w : World} {a : Option Addr} {l : List Int} (h : Runes B w a l) (k : Nat) : Runes B w a (l.take k) := by
  refine ⟨fun j hj => ?_, by simp; have := h.few; omega⟩
  rw [i32s_length] at hj
  obtain ⟨b, off, e, hb, hc⟩ := h.at j (by simp at hj; omega)
  refine ⟨b, off, e, hb, ?_⟩
  rw [hc, i32s_nth _ _ hj]
  have h1 : j < k := by simp only [List.length_take] at hj; omega
  simp [nth, h1]

set_option maxHeartbeats 400000 in
theorem sum_any (l : List Int) (a : Option Addr) (c : Nat) (w : World) (hr : Runes w.heap.size w a l) :
    Calls Try.prog 31 #[.slice a l.length c] w fun e w' => e = .returned (.int .i64 (sumTo l l.length)) ∧ Below w.heap.size w w' := by
  have hfew := hr.few
  go_enter Try.func31, Try.ntmps31
  go_wp2
  go_loopw [8, 3] (fun i s wr => ∃ k : Nat, k ≤ l.length ∧ i = .int .i64 k ∧ s = .int .i64 (sumTo l k) ∧ Below w.heap.size w wr) (fun i _ _ => l.length - (intOf i).toNat)
  case atStart => exact ⟨0, by omega, rfl, by rw [sumTo_zero], Below.refl _ _⟩
  case round =>
    obtain ⟨k, hk, rfl, rfl, hb⟩ := hrel
    by_cases hlt : k < l.length
    · obtain ⟨b, off, rfl, _, hc⟩ := (hr.below hb).at k hlt
      have hs := Lib.hid (sumTo_succ l k hlt)
      have hs1 := sumTo_bd l k hk
      have hs2 := cols_bd (nth 0 l k)
      go_wp2_with (go_at_call 17; refine (of_any _ _).mono ?_; rintro e w1 ⟨rfl, hb1⟩)
      go_roundw
      case rel => exact ⟨k + 1, by omega, by go_num, by rw [hs.out], bnext hb hb1⟩
      case measure => simp [intOf]; omega
    · obtain rfl : k = l.length := by omega
      go_wp2
      go_ret
      exact ⟨rfl, hb⟩
set_option maxHeartbeats 400000 in
theorem refSum_any (l : List Int) (a : Option Addr) (c : Nat) (w : World) (hr : Runes w.heap.size w a l) :
    Calls Try.prog 32 #[.slice a l.length c] w fun e w' => e = .returned (.int .i64 (sumTo l l.length)) ∧ Below w.heap.size w w' := by
  have hfew := hr.few
  go_enter Try.func32, Try.ntmps32
  go_wp2
  go_loopw [4, 3] (fun i s wr => ∃ k : Nat, k ≤ l.length ∧ i = .int .i64 k ∧ s = .int .i64 (sumTo l k) ∧ Below w.heap.size w wr) (fun i _ _ => l.length - (intOf i).toNat)
  case atStart => exact ⟨0, by omega, rfl, by rw [sumTo_zero], Below.refl _ _⟩
  case round =>
    obtain ⟨k, hk, rfl, rfl, hb⟩ := hrel
    by_cases hlt : k < l.length
    · obtain ⟨b, off, rfl, _, hc⟩ := (hr.below hb).at k hlt
      have hs := Lib.hid (sumTo_succ l k hlt)
      have hs1 := sumTo_bd l k hk
      have hs2 := cols_bd (nth 0 l k)
      go_wp2_with (go_at_call 18; refine (refOf_any _ _).mono ?_; rintro e w1 ⟨rfl, hb1⟩)
      go_roundw
      case rel => exact ⟨k + 1, by omega, by go_num, by rw [hs.out], bnext hb hb1⟩
      case measure => simp [intOf]; omega
    · obtain rfl : k = l.length := by omega
      go_wp2
      go_ret
      exact ⟨rfl, hb⟩

def FitPost (most : Int) (l : List Int) (w : World) (e : Ending) (w' : World) : Prop := ∃ n : Nat, IsFit most l n ∧ e = .returned (.tuple #[.int .i64 n, .int .i64 (sumTo l n)]) ∧ Below w.heap.size w w'
theorem fitPost_neg {most : Int} (h : most < 0) (l : List Int) (w : World) : FitPost most l w (.returned (.tuple #[.int .i64 0, .int .i64 0])) w :=
  ⟨0, by unfold IsFit; rw [if_pos h], by rw [sumTo_zero]; rfl, Below.refl _ _⟩
theorem fitPost_at {most : Int} (h : 0 ≤ most) {l : List Int} {w w' : World} {n : Nat} (h1 : n ≤ l.length) (h2 : sumTo l n ≤ most) (h3 : n = l.length ∨ most < sumTo l (n + 1)) (hb : Below w.heap.size w w') :
    FitPost most l w (.returned (.tuple #[.int .i64 n, .int .i64 (sumTo l n)])) w' := ⟨n, by unfold IsFit; rw [if_neg (by omega)]; exact ⟨h1, h2, h3⟩, rfl, hb⟩

set_option maxHeartbeats 1000000 in
theorem fit_any (most : Int) (l : List Int) (a : Option Addr) (c : Nat) (w : World) (hm : most ≤ 9223372036854775807) (hr : Runes w.heap.size w a l) :
    Calls Try.prog 29 #[.int .i64 most, .slice a l.length c] w (FitPost most l w) := by
  have hfew := hr.few
  by_cases hneg : most < 0
  · go_enter Try.func29, Try.ntmps29
    go_wp2
    go_ret2
    exact fitPost_neg hneg l w
  · go_enter Try.func29, Try.ntmps29
    go_wp2
    go_loopw [13, 4, 5] (fun i m s wr => ∃ k : Nat, k ≤ l.length ∧ i = .int .i64 k ∧ m = .int .i64 k ∧ s = .int .i64 (sumTo l k) ∧ sumTo l k ≤ most ∧ Below w.heap.size w wr) (fun i _ _ _ => l.length - (intOf i).toNat)
    case atStart => exact ⟨0, by omega, rfl, rfl, by rw [sumTo_zero], by rw [sumTo_zero]; omega, Below.refl _ _⟩
    case round =>
      obtain ⟨k, hk, rfl, rfl, rfl, hle, hb⟩ := hrel
      by_cases hlt : k < l.length
      · obtain ⟨b, off, rfl, _, hc⟩ := (hr.below hb).at k hlt
        have hs := Lib.hid (sumTo_succ l k hlt)
        have hs1 := sumTo_bd l k hk
        have hs2 := cols_bd (nth 0 l k)
        go_wp2_with (go_at_call 17; refine (of_any _ _).mono ?_; rintro e w1 ⟨rfl, hb1⟩)
        · go_ret2
          exact fitPost_at hneg hk hle (.inr (by rw [hs.out]; omega)) (bnext hb hb1)
        · go_roundw
          case rel => exact ⟨k + 1, by omega, by go_num, by go_num, by rw [hs.out], by rw [hs.out]; omega, bnext hb hb1⟩
          case measure => simp [intOf]; omega
      · obtain rfl : k = l.length := by omega
        go_wp2
        go_ret2
        exact fitPost_at hneg hk hle (.inl rfl) hb
set_option maxHeartbeats 1000000 in
theorem refFit_any (most : Int) (l : List Int) (a : Option Addr) (c : Nat) (w : World) (hm : most ≤ 9223372036854775807) (hr : Runes w.heap.size w a l) :
    Calls Try.prog 30 #[.int .i64 most, .slice a l.length c] w (FitPost most l w) := by
  have hfew := hr.few
  by_cases hneg : most < 0
  · go_enter Try.func30, Try.ntmps30
    go_wp2
    go_ret2
    exact fitPost_neg hneg l w
  · go_enter Try.func30, Try.ntmps30
    go_wp2
    go_loopw [7, 6] (fun i s wr => ∃ k : Nat, k ≤ l.length ∧ i = .int .i64 k ∧ s = .int .i64 (sumTo l k) ∧ sumTo l k ≤ most ∧ Below w.heap.size w wr) (fun i _ _ => l.length - (intOf i).toNat)
    case atStart => exact ⟨0, by omega, rfl, by rw [sumTo_zero], by rw [sumTo_zero]; omega, Below.refl _ _⟩
    case round =>
      obtain ⟨k, hk, rfl, rfl, hle, hb⟩ := hrel
      by_cases hlt : k < l.length
      · obtain ⟨b, off, rfl, _, hc⟩ := (hr.below hb).at k hlt
        have hs := Lib.hid (sumTo_succ l k hlt)
        have hs1 := sumTo_bd l k hk
        have hs2 := cols_bd (nth 0 l k)
        go_wp2_with (go_at_call 18; refine (refOf_any _ _).mono ?_; rintro e w1 ⟨rfl, hb1⟩)
        · go_ret2
          exact fitPost_at hneg hk hle (.inr (by rw [hs.out]; omega)) (bnext hb hb1)
        · go_roundw
          case rel => exact ⟨k + 1, by omega, by go_num, by rw [hs.out], by rw [hs.out]; omega, bnext hb hb1⟩
          case measure => simp [intOf]; omega
      · obtain rfl : k = l.length := by omega
        go_wp2
        go_ret2
        exact fitPost_at hneg hk hle (.inl rfl) hb

theorem ret_slice {a : Option Addr} {n m c : Nat} (h : n = m) : Ending.returned (.slice a n c) = .returned (.slice a m c) := by rw [h]
def FewPost (a : Option Addr) (l : List Int) (w : World) (e : Ending) (w' : World) : Prop := ∃ c', e = .returned (.slice a (l.take 200).length c') ∧ (l.take 200).length ≤ c' ∧ c' ≤ 9223372036854775807 ∧ w = w'
theorem fewFn_any (l : List Int) (a : Option Addr) (n c : Nat) (w : World) (hn : n = l.length) (hc : n ≤ c) (hm : c ≤ 9223372036854775807) :
    Calls Try.prog 28 #[.slice a n c] w (FewPost a l w) := by
  have hn2 : n ≤ l.length ∧ l.length ≤ n := by omega
  clear hn
  go_enter Try.func28, Try.ntmps28
  go_wp2
  · rename_i h
    go_ret
    exact ⟨c, ret_slice (by simp; omega), by simp; omega, hm, rfl⟩
  · rename_i h
    go_ret
    exact ⟨c, ret_slice (by simp; omega), by simp; omega, hm, rfl⟩
set_option maxRecDepth 100000 in
set_option maxHeartbeats 1000000 in
theorem awake02_any (w : World) : Calls Try.prog 19 #[] w fun e w' => e = .returned (.bool true) ∧ Below w.heap.size w w' := by
  have h1 := cols_65
  have h2 := cols_769
  have h3 := cols_28450
  have h4 := cols_10
  have hrow : Runes (w.alloc (.cells (i32s [65, 769, 28450, 66]).toArray 21)).heap.size (w.alloc (.cells (i32s [65, 769, 28450, 66]).toArray 21)) (some ⟨w.heap.size, 0, none⟩) [65, 769, 28450, 66] := ⟨RowAt.new _ _ _, by simp⟩
  have hb0 : Below w.heap.size w (w.alloc (.cells (i32s [65, 769, 28450, 66]).toArray 21)) := (Below.refl _ _).alloc (Nat.le_refl _) _
  go_enter Try.func19, Try.ntmps19
  go_wp2_with fail
  refine (fit_any 3 _ _ 4 _ (by omega) hrow).mono ?_
  rintro e w1 ⟨n, hn, rfl, hb⟩
  obtain rfl : n = 3 := isFit_one hn fit_awake.1
  have h5 := fit_awake.2
  have hb1 := bnext hb0 hb
  clear hb0 hb hn hrow
  go_wp2_with (go_at_call 17; refine (of_any _ _).mono ?_; rintro e w2 ⟨rfl, hb2⟩)
  go_ret
  exact ⟨rfl, by repeat (first | exact hb1 | refine bnext ?_ (by assumption))⟩

/-! ### the laws -/
set_option maxRecDepth 100000 in
set_option maxHeartbeats 1000000 in
theorem widthOf_law (r : Int) (w : World) (_ : (Lit.int .i32 r).wf = true) : Calls Try.prog 4 #[.int .i32 r] w fun e w' => e = .returned (.bool true) ∧ Below w.heap.size w w' := by
  go_enter Try.func4, Try.ntmps4
  go_wp2_with (first
    | (go_at_call 17; refine (of_any _ _).mono ?_; rintro e w2 ⟨rfl, hb2⟩)
    | (go_at_call 18; refine (refOf_any _ _).mono ?_; rintro e w2 ⟨rfl, hb2⟩)
    | (go_at_call 20; refine (control_any _ _).mono ?_; rintro e w2 ⟨rfl, rfl⟩)
    | (go_at_call 21; refine (refControl_any _ _).mono ?_; rintro e w2 ⟨rfl, rfl⟩)
    | (go_at_call 22; refine (markFn_any _ _).mono ?_; rintro e w2 ⟨rfl, hb2⟩)
    | (go_at_call 23; refine (refMark_any _ _).mono ?_; rintro e w2 ⟨rfl, hb2⟩)
    | (go_at_call 24; refine (wideFn_any _ _).mono ?_; rintro e w2 ⟨rfl, hb2⟩)
    | (go_at_call 25; refine (refWide_any _ _).mono ?_; rintro e w2 ⟨rfl, hb2⟩)
    | (go_at_call 19; refine (awake02_any _).mono ?_; rintro e w2 ⟨rfl, hb2⟩))
  go_ret
  exact ⟨rfl, by repeat (first | exact Below.refl _ _ | assumption | refine bnext ?_ (by assumption))⟩
end Go.Proofs.Ytcihcjlaamfjfaa
