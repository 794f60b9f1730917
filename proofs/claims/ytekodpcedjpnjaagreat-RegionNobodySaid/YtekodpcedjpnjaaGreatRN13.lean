/- The plain law of the widths: the ranges of marks and of wide runes, and what a rune is by them. No program in sight. No condition. The contracts of the functions of package width and of its reference that ask for what a rune is. Each is proved for every rune. The contracts of the reference's functions on the widths: for every rune. The contracts of package width's iterators and of the functions that range over them: for every rune. -/
import Derived.Test.YtekodpcedjpnjaaGreatProg
import Derived.KernelRfl
import Derived.RangeFuncFrom
import Derived.Test.YtekodpcedjpnjaaGreatRN01
set_option linter.unusedVariables false
set_option linter.unusedSimpArgs false
namespace Go.Proofs.YtekodpcedjpnjaaGreat
def marksL : List Int := [768, 879, 1155, 1161, 1425, 1469, 1471, 1471, 1473, 1474, 1476, 1477, 1479, 1479, 1552, 1562, 1611, 1631, 1648, 1648, 1750, 1756, 1759, 1764, 1767, 1768, 1770, 1773, 3633, 3633, 3636, 3642, 3655, 3662, 6832, 6911, 7616, 7679, 8203, 8207, 8288, 8292, 8400, 8432, 12330, 12333, 12441, 12442, 65024, 65039, 65056, 65071, 65279, 65279, 917760, 917999]
def widesL : List Int := [4352, 4447, 8986, 8987, 9001, 9002, 9193, 9196, 9200, 9200, 9203, 9203, 9725, 9726, 9748, 9749, 9800, 9811, 9855, 9855, 9875, 9875, 9889, 9889, 9898, 9899, 9917, 9918, 9924, 9925, 9934, 9934, 9940, 9940, 9962, 9962, 9970, 9971, 9973, 9973, 9978, 9978, 9981, 9981, 9989, 9989, 9994, 9995, 10024, 10024, 10060, 10060, 10062, 10062, 10067, 10069, 10071, 10071, 10133, 10135, 10160, 10160, 10175, 10175, 11035, 11036, 11088, 11088, 11093, 11093, 11904, 12350, 12353, 19903, 19968, 42191, 43360, 43391, 44032, 55203, 63744, 64255, 65040, 65049, 65072, 65135, 65281, 65376, 65504, 65510, 127744, 128591, 128640, 128767, 129280, 129535, 129648, 129791, 131072, 196605, 196608, 262141]
def fst (L : List Int) (j : Nat) : Int := nth 0 L (2 * j)
def snd (L : List Int) (j : Nat) : Int := nth 0 L (2 * j + 1)
def inP (L : List Int) (r : Int) : Bool := (List.range (L.length / 2)).any fun j => decide (fst L j ≤ r) && decide (r ≤ snd L j)
theorem inP_iff (L : List Int) (r : Int) : inP L r = true ↔ ∃ j, j < L.length / 2 ∧ fst L j ≤ r ∧ r ≤ snd L j := by
  simp [inP, List.any_eq_true]
theorem inP_no (L : List Int) (r : Int) (h : ∀ j, j < L.length / 2 → ¬ (fst L j ≤ r ∧ r ≤ snd L j)) : inP L r = false := by
  rw [Bool.eq_false_iff]; intro h1; obtain ⟨j, hj, h2⟩ := (inP_iff L r).1 h1; exact h j hj h2
def isB (r : Int) : Bool := decide (0 ≤ r ∧ r ≤ 1114111 ∧ (r < 55296 ∨ 57343 < r))
def ctrlB (r : Int) : Bool := decide (0 ≤ r ∧ r ≤ 31 ∨ 127 ≤ r ∧ r ≤ 159)
def markB (r : Int) : Bool := inP marksL r
def wideB (r : Int) : Bool := !markB r && inP widesL r
def colsB (r : Int) : Int := if !isB r || ctrlB r || markB r then 0 else if inP widesL r then 2 else 1
theorem cols_bd (r : Int) : 0 ≤ colsB r ∧ colsB r ≤ 2 := by unfold colsB; split <;> (try split) <;> omega
end Go.Proofs.YtekodpcedjpnjaaGreat
namespace Go.Proofs.YtekodpcedjpnjaaGreat
open Go.RowKit
attribute [local go_sem] Oper.semAt_some
theorem control_any (r : Int) (w : World) : Calls Tryz.prog 200 #[.int .i32 r] w fun e w' => e = .returned (.bool (ctrlB r)) ∧ w = w' := by
  go_enter Tryz.func200, Tryz.ntmps200
  go_wp2
  all_goals (go_ret; refine ⟨ret_bool ?_, rfl⟩; rw [Bool.eq_iff_iff]; simp [ctrlB]; omega)
theorem refControl_any (r : Int) (w : World) : Calls Tryz.prog 208 #[.int .i32 r] w fun e w' => e = .returned (.bool (ctrlB r)) ∧ w = w' := by
  go_enter Tryz.func208, Tryz.ntmps208
  go_wp2
  all_goals (go_ret; refine ⟨ret_bool ?_, rfl⟩; rw [Bool.eq_iff_iff]; simp [ctrlB]; omega)
theorem is_any (r : Int) (w : World) : Calls Tryz.prog 239 #[.int .i32 r] w fun e w' => e = .returned (.bool (isB r)) ∧ w = w' := by
  go_enter Tryz.func239, Tryz.ntmps239
  go_wp2
  all_goals (go_ret; refine ⟨ret_bool ?_, rfl⟩; rw [Bool.eq_iff_iff]; simp [isB]; omega)
theorem refIs_any (r : Int) (w : World) : Calls Tryz.prog 207 #[.int .i32 r] w fun e w' => e = .returned (.bool (isB r)) ∧ w = w' := by
  go_enter Tryz.func207, Tryz.ntmps207
  go_wp2
  all_goals (go_ret; refine ⟨ret_bool ?_, rfl⟩; rw [Bool.eq_iff_iff]; simp [isB]; omega)
def i32s (L : List Int) : List Value := L.map (Value.int .i32)
theorem i32s_length (L : List Int) : (i32s L).length = L.length := by simp [i32s]
theorem i32s_nth (L : List Int) (j : Nat) (h : j < L.length) : nth undef (i32s L) j = .int .i32 (nth 0 L j) := nth_map _ _ _ _ h
theorem refMarks_any (w : World) : Calls Tryz.prog 244 #[] w fun e w' => e = .returned (.slice (some ⟨w.heap.size, 0, none⟩) 28 28) ∧ w.alloc (.cells (i32s marksL).toArray 318) = w' := calls_of_run Tryz.func244 (.slice (some ⟨w.heap.size, 0, none⟩) 28 28) (w.alloc (.cells (i32s marksL).toArray 318)) (by kernel_rfl) (results_keep rfl) ⟨rfl, rfl⟩
theorem refWides_any (w : World) : Calls Tryz.prog 245 #[] w fun e w' => e = .returned (.slice (some ⟨w.heap.size, 0, none⟩) 51 51) ∧ w.alloc (.cells (i32s widesL).toArray 318) = w' := calls_of_run Tryz.func245 (.slice (some ⟨w.heap.size, 0, none⟩) 51 51) (w.alloc (.cells (i32s widesL).toArray 318)) (by kernel_rfl) (results_keep rfl) ⟨rfl, rfl⟩
end Go.Proofs.YtekodpcedjpnjaaGreat
namespace Go.Proofs.YtekodpcedjpnjaaGreat
open Go.RowKit
attribute [local go_sem] Oper.semAt_some
theorem row_fst {B : Nat} {w : World} {b : Nat} {L : List Int} (hc : RowAt B w (some ⟨b, 0, none⟩) (i32s L)) (k : Nat) (hk : k < L.length / 2) :
    w.cell? ⟨b, k * 2, none⟩ = some (.int .i32 (fst L k)) ∧ w.cell? ⟨b, k * 2 + 1, none⟩ = some (.int .i32 (snd L k)) := by
  have h0 := hc (k * 2) (by rw [i32s_length]; omega)
  have h1 := hc (k * 2 + 1) (by rw [i32s_length]; omega)
  obtain ⟨b0, o0, e0, _, c0⟩ := h0
  obtain ⟨b1, o1, e1, _, c1⟩ := h1
  simp only [Option.some.injEq, Addr.mk.injEq, and_true] at e0 e1
  obtain ⟨rfl, rfl⟩ := e0
  obtain ⟨rfl, rfl⟩ := e1
  rw [Nat.zero_add, i32s_nth _ _ (by omega)] at c0 c1
  refine ⟨?_, ?_⟩
  · rw [c0]; unfold fst; rw [Nat.mul_comm]
  · rw [c1]; unfold snd; rw [Nat.mul_comm]
set_option maxHeartbeats 400000 in
theorem refIn_any (L : List Int) (n : Nat) (hL : L.length = 2 * n) (hn : n < 1000) (b : Nat) (r : Int) (B : Nat) (w : World) (hc : RowAt B w (some ⟨b, 0, none⟩) (i32s L)) :
    Calls Tryz.prog 243 #[.slice (some ⟨b, 0, none⟩) n n, .int .i32 r] w fun e w' => e = .returned (.bool (inP L r)) ∧ w = w' := by
  have hl2 : L.length / 2 = n := by omega
  have HL := Lib.hid hL
  clear hL
  go_enter Tryz.func243, Tryz.ntmps243
  go_wp2
  go_loop [5] (fun i => ∃ k : Nat, k ≤ n ∧ i = .int .i64 k ∧ ∀ j, j < k → ¬ (fst L j ≤ r ∧ r ≤ snd L j)) (fun i => n - (intOf i).toNat)
  case atStart => exact ⟨0, by omega, rfl, fun j hj => by omega⟩
  case round =>
    obtain ⟨k, hk, rfl, hno⟩ := hrel
    by_cases hlt : k < n
    · obtain ⟨c0, c1⟩ := row_fst hc k (by omega)
      go_wp2
      · go_ret
        exact ⟨ret_bool ((inP_iff L r).2 ⟨k, by omega, by omega, by omega⟩).symm, rfl⟩
      all_goals
        go_round
        case rel => exact ⟨k + 1, by omega, by go_num, fun j hj => by
          by_cases e : j = k
          · subst e; omega
          · exact hno j (by omega)⟩
        case measure => simp [intOf]; omega
    · go_wp2
      go_ret
      exact ⟨ret_bool (inP_no L r fun j hj => hno j (by omega)).symm, rfl⟩
theorem refMark_any (r : Int) (w : World) : Calls Tryz.prog 209 #[.int .i32 r] w fun e w' => e = .returned (.bool (markB r)) ∧ Below w.heap.size w w' := by
  go_enter Tryz.func209, Tryz.ntmps209
  go_wp2_with (first
    | (go_at_call 244; refine (refMarks_any _).mono ?_; rintro e w' ⟨rfl, rfl⟩)
    | (go_at_call 243; refine (refIn_any marksL 28 rfl (by omega) _ _ _ _ (RowAt.new _ _ _)).mono ?_; rintro e w' ⟨rfl, rfl⟩))
  go_ret
  exact ⟨rfl, (Below.refl _ _).alloc (Nat.le_refl _) _⟩
theorem refWide_any (r : Int) (w : World) : Calls Tryz.prog 210 #[.int .i32 r] w fun e w' => e = .returned (.bool (wideB r)) ∧ Below w.heap.size w w' := by
  go_enter Tryz.func210, Tryz.ntmps210
  go_wp2_with (first
    | (go_at_call 209; refine (refMark_any _ _).mono ?_; rintro e w1 ⟨rfl, hb1⟩)
    | (go_at_call 245; refine (refWides_any _).mono ?_; rintro e w' ⟨rfl, rfl⟩)
    | (go_at_call 243; refine (refIn_any widesL 51 rfl (by omega) _ _ _ _ (RowAt.new _ _ _)).mono ?_; rintro e w' ⟨rfl, rfl⟩))
  · rename_i hm
    go_ret
    exact ⟨ret_bool (by simp [wideB, hm]), hb1⟩
  · rename_i hm
    go_ret
    exact ⟨ret_bool (by simp [wideB, hm]), hb1.alloc hb1.size _⟩
theorem refOf_any (r : Int) (w : World) : Calls Tryz.prog 160 #[.int .i32 r] w fun e w' => e = .returned (.int .i64 (colsB r)) ∧ Below w.heap.size w w' := by
  go_enter Tryz.func160, Tryz.ntmps160
  go_wp2_with (first
    | (go_at_call 207; refine (refIs_any _ _).mono ?_; rintro e w1 ⟨rfl, rfl⟩)
    | (go_at_call 208; refine (refControl_any _ _).mono ?_; rintro e w1 ⟨rfl, rfl⟩)
    | (go_at_call 209; refine (refMark_any _ _).mono ?_; rintro e w1 ⟨rfl, hb1⟩)
    | (go_at_call 210; refine (refWide_any _ _).mono ?_; rintro e w2 ⟨rfl, hb2⟩))
  all_goals
    go_ret
    refine ⟨ret_int ?_, ?_⟩
    · simp_all [colsB, wideB]
    · first | exact Below.refl _ _ | exact hb1 | exact bnext hb1 hb2
end Go.Proofs.YtekodpcedjpnjaaGreat
namespace Go.Proofs.YtekodpcedjpnjaaGreat
open Go.RowKit Go.Shelf
attribute [local go_sem] Oper.semAt_some
end Go.Proofs.YtekodpcedjpnjaaGreat
