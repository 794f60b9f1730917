/- The contracts of the reference's functions on the widths: for every rune. -/
import Derived.Test.YtnakgjcmepimiaaWidth1
namespace Go.Proofs.Ytnakgjcmepimiaa
set_option linter.unusedVariables false
set_option linter.unusedSimpArgs false
open Go.RowKit
attribute [local go_sem] Oper.semAt_some

theorem row_fst {B : Nat} {w : World} {b : Nat} {L : List Int} (hc : RowAt B w (some ⟨b, 0, none⟩) (i32s L)) (k : Nat) (hk : k < L.length / 2) :
    w.cell? ⟨b, k * 2, none⟩ = some (.int .i32 (fst L k)) ∧ w.cell? ⟨b, k * 2 + 1, none⟩ = some (.int .i32 (snd L k)) := by
  have h0 := hc (k * 2) (by rw [i32s_length]; omega)
  have h1 := hc (k * 2 + 1) (by rw [i32s_length]; omega)
  obtain ⟨b0, o0, e0, _, c0⟩ := h0
  obtain ⟨b1, o1, e1, _, c1⟩ := h1
  simp only [Option.some.injEq, Addr.mk.injEq, and_true] at e0 e1
  obtain ⟨rfl, rfl⟩ := e0
  obtain ⟨rfl, rfl⟩ := e1
  rw [Nat.zero_add, i32s_nth _ _ (by omega)] at c0 c1
  refine ⟨?_, ?_⟩
  · rw [c0]; unfold fst; rw [Nat.mul_comm]
  · rw [c1]; unfold snd; rw [Nat.mul_comm]

set_option maxHeartbeats 400000 in
theorem refIn_any (L : List Int) (n : Nat) (hL : L.length = 2 * n) (hn : n < 1000) (b : Nat) (r : Int) (B : Nat) (w : World) (hc : RowAt B w (some ⟨b, 0, none⟩) (i32s L)) :
    Calls Try.prog 120 #[.slice (some ⟨b, 0, none⟩) n n, .int .i32 r] w fun e w' => e = .returned (.bool (inP L r)) ∧ w = w' := by
  have hl2 : L.length / 2 = n := by omega
  have HL := Lib.hid hL
  clear hL
  go_enter Try.func120, Try.ntmps120
  go_wp2
  go_loop [5] (fun i => ∃ k : Nat, k ≤ n ∧ i = .int .i64 k ∧ ∀ j, j < k → ¬ (fst L j ≤ r ∧ r ≤ snd L j)) (fun i => n - (intOf i).toNat)
  case atStart => exact ⟨0, by omega, rfl, fun j hj => by omega⟩
  case round =>
    obtain ⟨k, hk, rfl, hno⟩ := hrel
    by_cases hlt : k < n
    · obtain ⟨c0, c1⟩ := row_fst hc k (by omega)
      go_wp2
      · go_ret
        exact ⟨ret_bool ((inP_iff L r).2 ⟨k, by omega, by omega, by omega⟩).symm, rfl⟩
      all_goals
        go_round
        case rel => exact ⟨k + 1, by omega, by go_num, fun j hj => by
          by_cases e : j = k
          · subst e; omega
          · exact hno j (by omega)⟩
        case measure => simp [intOf]; omega
    · go_wp2
      go_ret
      exact ⟨ret_bool (inP_no L r fun j hj => hno j (by omega)).symm, rfl⟩

theorem refMark_any (r : Int) (w : World) : Calls Try.prog 99 #[.int .i32 r] w fun e w' => e = .returned (.bool (markB r)) ∧ Below w.heap.size w w' := by
  go_enter Try.func99, Try.ntmps99
  go_wp2_with (first
    | (go_at_call 121; refine (refMarks_any _).mono ?_; rintro e w' ⟨rfl, rfl⟩)
    | (go_at_call 120; refine (refIn_any marksL 28 rfl (by omega) _ _ _ _ (RowAt.new _ _ _)).mono ?_; rintro e w' ⟨rfl, rfl⟩))
  go_ret
  exact ⟨rfl, (Below.refl _ _).alloc (Nat.le_refl _) _⟩
theorem refWide_any (r : Int) (w : World) : Calls Try.prog 100 #[.int .i32 r] w fun e w' => e = .returned (.bool (wideB r)) ∧ Below w.heap.size w w' := by
  go_enter Try.func100, Try.ntmps100
  go_wp2_with (first
    | (go_at_call 99; refine (refMark_any _ _).mono ?_; rintro e w1 ⟨rfl, hb1⟩)
    | (go_at_call 122; refine (refWides_any _).mono ?_; rintro e w' ⟨rfl, rfl⟩)
    | (go_at_call 120; refine (refIn_any widesL 51 rfl (by omega) _ _ _ _ (RowAt.new _ _ _)).mono ?_; rintro e w' ⟨rfl, rfl⟩))
  · rename_i hm
    go_ret
    exact ⟨ret_bool (by simp [wideB, hm]), hb1⟩
  · rename_i hm
    go_ret
    exact ⟨ret_bool (by simp [wideB, hm]), hb1.alloc hb1.size _⟩
theorem refOf_any (r : Int) (w : World) : Calls Try.prog 65 #[.int .i32 r] w fun e w' => e = .returned (.int .i64 (colsB r)) ∧ Below w.heap.size w w' := by
  go_enter Try.func65, Try.ntmps65
  go_wp2_with (first
    | (go_at_call 97; refine (refIs_any _ _).mono ?_; rintro e w1 ⟨rfl, rfl⟩)
    | (go_at_call 98; refine (refControl_any _ _).mono ?_; rintro e w1 ⟨rfl, rfl⟩)
    | (go_at_call 99; refine (refMark_any _ _).mono ?_; rintro e w1 ⟨rfl, hb1⟩)
    | (go_at_call 100; refine (refWide_any _ _).mono ?_; rintro e w2 ⟨rfl, hb2⟩))
  all_goals
    go_ret
    refine ⟨ret_int ?_, ?_⟩
    · simp_all [colsB, wideB]
    · first | exact Below.refl _ _ | exact hb1 | exact bnext hb1 hb2
end Go.Proofs.Ytnakgjcmepimiaa
