/- awake of placardlaw06, and the law EscMoves. -/
import Derived.Test.YtcihcjlaamfjfaaStyle2
namespace Go.Proofs.Ytcihcjlaamfjfaa
open Go.RowKit Go.Maps
theorem aw_move (w : World) : Calls Try.prog 40 #[.int .i64 2, .int .i64 5, .int .i64 0, .int .i64 0] w fun r w' => r = .returned (.string ⟨#[27, 91, 50, 65, 13]⟩) ∧ Below w.heap.size w w' := by
  have h := move_any 2 5 0 0 w
  rwa [show S (moveL (heldI 2) (heldI 5) (heldI 0) (heldI 0)) = ⟨#[27, 91, 50, 65, 13]⟩ from by kernel_rfl] at h
theorem aw_style (w : World) : Calls Try.prog 45 #[.agg #[.bool false, .bool false, .bool false, .int .i64 0, .int .i64 0], .agg #[.bool true, .bool false, .bool false, .int .i64 2, .int .i64 0]] w fun r w' => r = .returned (.string ⟨#[27, 91, 49, 59, 51, 49, 109]⟩) ∧ Below w.heap.size w w' := by
  have h := style_any false false false 0 0 true false false 2 0 w
  rwa [show S (styleL false false false 0 0 true false false 2 0) = ⟨#[27, 91, 49, 59, 51, 49, 109]⟩ from by kernel_rfl] at h
theorem aw_up (w : World) : Calls Try.prog 33 #[.int .i64 0] w fun r w' => r = .returned (.string ⟨#[]⟩) ∧ Below w.heap.size w w' := by
  have h := up_any 0 w
  rwa [show S (byL 0 65) = ⟨#[]⟩ from by kernel_rfl] at h
theorem aw_strip (w : World) : Calls Try.prog 43 #[.string ⟨#[97, 27, 91, 51, 49, 109, 98, 10]⟩] w fun r w' => r = .returned (.string ⟨#[97, 98]⟩) ∧ Below w.heap.size w w' := by
  have h := strip_any [97, 27, 91, 51, 49, 109, 98, 10] w (by simp)
  rwa [show S (stripL [97, 27, 91, 51, 49, 109, 98, 10]) = ⟨#[97, 98]⟩ from by kernel_rfl] at h
set_option maxRecDepth 100000 in
set_option maxHeartbeats 1000000 in
theorem awake06_any (w : World) : Calls Try.prog 42 #[] w fun r w' => r = .returned (.bool true) ∧ Below w.heap.size w w' := by
  go_enter Try.func42, Try.ntmps42
  go_wp2_with (first
    | (go_at_call 40; refine (aw_move _).mono ?_; rintro e w2 ⟨rfl, hb2⟩)
    | (go_at_call 45; refine (aw_style _).mono ?_; rintro e w2 ⟨rfl, hb2⟩)
    | (go_at_call 33; refine (aw_up _).mono ?_; rintro e w2 ⟨rfl, hb2⟩)
    | (go_at_call 43; refine (aw_strip _).mono ?_; rintro e w2 ⟨rfl, hb2⟩))
  go_ret
  exact ⟨rfl, by repeat (first | exact Below.refl _ _ | assumption | refine bnext ?_ (by assumption))⟩
set_option maxRecDepth 100000 in
set_option maxHeartbeats 1000000 in
theorem escMoves_law (n row col toRow toCol : Int) (w : World) (_ : (Lit.int .i64 n).wf = true) (_ : (Lit.int .i64 row).wf = true) (_ : (Lit.int .i64 col).wf = true) (_ : (Lit.int .i64 toRow).wf = true) (_ : (Lit.int .i64 toCol).wf = true) :
    Calls Try.prog 7 #[.int .i64 n, .int .i64 row, .int .i64 col, .int .i64 toRow, .int .i64 toCol] w fun e w' => e = .returned (.bool true) ∧ Below w.heap.size w w' := by
  go_enter Try.func7, Try.ntmps7
  go_wp2_with (first
    | (go_at_call 33; refine (up_any _ _).mono ?_; rintro e w2 ⟨rfl, hb2⟩)
    | (go_at_call 35; refine (down_any _ _).mono ?_; rintro e w2 ⟨rfl, hb2⟩)
    | (go_at_call 36; refine (right_any _ _).mono ?_; rintro e w2 ⟨rfl, hb2⟩)
    | (go_at_call 37; refine (left_any _ _).mono ?_; rintro e w2 ⟨rfl, hb2⟩)
    | (go_at_call 38; refine (column_any _ _).mono ?_; rintro e w2 ⟨rfl, hb2⟩)
    | (go_at_call 40; refine (move_any _ _ _ _ _).mono ?_; rintro e w2 ⟨rfl, hb2⟩)
    | (go_at_call 34; refine (refBy_any _ _ _).mono ?_; rintro e w2 ⟨rfl, hb2⟩)
    | (go_at_call 39; refine (refColumn_any _ _).mono ?_; rintro e w2 ⟨rfl, hb2⟩)
    | (go_at_call 41; refine (refMove_any _ _ _ _ _).mono ?_; rintro e w2 ⟨rfl, hb2⟩)
    | (go_at_call 42; refine (awake06_any _).mono ?_; rintro e w2 ⟨rfl, hb2⟩))
  go_ret
  exact ⟨rfl, by repeat (first | exact Below.refl _ _ | assumption | refine bnext ?_ (by assumption))⟩
end Go.Proofs.Ytcihcjlaamfjfaa
