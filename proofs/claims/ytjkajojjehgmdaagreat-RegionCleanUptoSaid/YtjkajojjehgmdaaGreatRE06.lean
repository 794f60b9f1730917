/- The plain law of the widths: the ranges of marks and of wide runes, and what a rune is by them. No program in sight. No condition. The contracts of the functions of package width and of its reference that ask for what a rune is. Each is proved for every rune. The contracts of the reference's functions on the widths: for every rune. The contracts of package width's iterators and of the functions that range over them: for every rune. -/
import Derived.Test.YtjkajojjehgmdaaGreatProg
import Derived.KernelRfl
import Derived.RangeFuncFrom
import Derived.Test.YtjkajojjehgmdaaGreatRE02
set_option linter.unusedVariables false
set_option linter.unusedSimpArgs false
namespace Go.Proofs.YtjkajojjehgmdaaGreat
def marksL : List Int := [768, 879, 1155, 1161, 1425, 1469, 1471, 1471, 1473, 1474, 1476, 1477, 1479, 1479, 1552, 1562, 1611, 1631, 1648, 1648, 1750, 1756, 1759, 1764, 1767, 1768, 1770, 1773, 3633, 3633, 3636, 3642, 3655, 3662, 6832, 6911, 7616, 7679, 8203, 8207, 8288, 8292, 8400, 8432, 12330, 12333, 12441, 12442, 65024, 65039, 65056, 65071, 65279, 65279, 917760, 917999]
def widesL : List Int := [4352, 4447, 8986, 8987, 9001, 9002, 9193, 9196, 9200, 9200, 9203, 9203, 9725, 9726, 9748, 9749, 9800, 9811, 9855, 9855, 9875, 9875, 9889, 9889, 9898, 9899, 9917, 9918, 9924, 9925, 9934, 9934, 9940, 9940, 9962, 9962, 9970, 9971, 9973, 9973, 9978, 9978, 9981, 9981, 9989, 9989, 9994, 9995, 10024, 10024, 10060, 10060, 10062, 10062, 10067, 10069, 10071, 10071, 10133, 10135, 10160, 10160, 10175, 10175, 11035, 11036, 11088, 11088, 11093, 11093, 11904, 12350, 12353, 19903, 19968, 42191, 43360, 43391, 44032, 55203, 63744, 64255, 65040, 65049, 65072, 65135, 65281, 65376, 65504, 65510, 127744, 128591, 128640, 128767, 129280, 129535, 129648, 129791, 131072, 196605, 196608, 262141]
def fst (L : List Int) (j : Nat) : Int := nth 0 L (2 * j)
def snd (L : List Int) (j : Nat) : Int := nth 0 L (2 * j + 1)
def inP (L : List Int) (r : Int) : Bool := (List.range (L.length / 2)).any fun j => decide (fst L j ≤ r) && decide (r ≤ snd L j)
theorem inP_iff (L : List Int) (r : Int) : inP L r = true ↔ ∃ j, j < L.length / 2 ∧ fst L j ≤ r ∧ r ≤ snd L j := by
 simp [inP, List.any_eq_true]
theorem inP_no (L : List Int) (r : Int) (h : ∀ j, j < L.length / 2 → ¬ (fst L j ≤ r ∧ r ≤ snd L j)) : inP L r = false := by
 rw [Bool.eq_false_iff]; intro h1; obtain ⟨j, hj, h2⟩ := (inP_iff L r).1 h1; exact h j hj h2
def Rising (L : List Int) : Prop := ∀ i j, i < j → j < L.length / 2 → snd L i < fst L j
def risesB (L : List Int) : Bool := (List.range (L.length / 2)).all fun j => decide (fst L j ≤ snd L j) && (decide (L.length / 2 ≤ j + 1) || decide (snd L j < fst L (j + 1)))
theorem rising_of (L : List Int) (h : risesB L = true) : Rising L ∧ ∀ j, j < L.length / 2 → fst L j ≤ snd L j := by
 have h1 : ∀ j, j < L.length / 2 → fst L j ≤ snd L j ∧ (L.length / 2 ≤ j + 1 ∨ snd L j < fst L (j + 1)) := by
  intro j hj
  have := List.all_eq_true.1 h j (List.mem_range.2 hj)
  simpa using this
 refine ⟨?_, fun j hj => (h1 j hj).1⟩
 intro i j hij hj
 induction j with
 | zero => omega
 | succ j ih =>
  have h2 := (h1 j (by omega)).2.resolve_left (by omega)
  by_cases he : i = j
  ·subst he; exact h2
  ·have := ih (by omega) (by omega)
   have := (h1 j (by omega)).1
   omega
theorem marks_rise : Rising marksL ∧ ∀ j, j < marksL.length / 2 → fst marksL j ≤ snd marksL j := rising_of _ (by decide +kernel)
theorem wides_rise : Rising widesL ∧ ∀ j, j < widesL.length / 2 → fst widesL j ≤ snd widesL j := rising_of _ (by decide +kernel)
def isB (r : Int) : Bool := decide (0 ≤ r ∧ r ≤ 1114111 ∧ (r < 55296 ∨ 57343 < r))
def ctrlB (r : Int) : Bool := decide (0 ≤ r ∧ r ≤ 31 ∨ 127 ≤ r ∧ r ≤ 159)
def markB (r : Int) : Bool := inP marksL r
def wideB (r : Int) : Bool := !markB r && inP widesL r
def colsB (r : Int) : Int := if !isB r || ctrlB r || markB r then 0 else if inP widesL r then 2 else 1
theorem cols_bd (r : Int) : 0 ≤ colsB r ∧ colsB r ≤ 2 := by unfold colsB; split <;> (try split) <;> omega
end Go.Proofs.YtjkajojjehgmdaaGreat
namespace Go.Proofs.YtjkajojjehgmdaaGreat
open Go.RowKit
attribute [local go_sem] Oper.semAt_some
theorem control_any (r : Int) (w : World) : Calls Tryz.prog 162 #[.int .i32 r] w fun e w' => e = .returned (.bool (ctrlB r)) ∧ w = w' := by
 go_enter Tryz.func162, Tryz.ntmps162
 go_wp2
 all_goals (go_ret; refine ⟨ret_bool ?_, rfl⟩; rw [Bool.eq_iff_iff]; simp [ctrlB]; omega)
theorem refControl_any (r : Int) (w : World) : Calls Tryz.prog 120 #[.int .i32 r] w fun e w' => e = .returned (.bool (ctrlB r)) ∧ w = w' := by
 go_enter Tryz.func120, Tryz.ntmps120
 go_wp2
 all_goals (go_ret; refine ⟨ret_bool ?_, rfl⟩; rw [Bool.eq_iff_iff]; simp [ctrlB]; omega)
theorem is_any (r : Int) (w : World) : Calls Tryz.prog 173 #[.int .i32 r] w fun e w' => e = .returned (.bool (isB r)) ∧ w = w' := by
 go_enter Tryz.func173, Tryz.ntmps173
 go_wp2
 all_goals (go_ret; refine ⟨ret_bool ?_, rfl⟩; rw [Bool.eq_iff_iff]; simp [isB]; omega)
theorem refIs_any (r : Int) (w : World) : Calls Tryz.prog 119 #[.int .i32 r] w fun e w' => e = .returned (.bool (isB r)) ∧ w = w' := by
 go_enter Tryz.func119, Tryz.ntmps119
 go_wp2
 all_goals (go_ret; refine ⟨ret_bool ?_, rfl⟩; rw [Bool.eq_iff_iff]; simp [isB]; omega)
def i32s (L : List Int) : List Value := L.map (Value.int .i32)
theorem i32s_length (L : List Int) : (i32s L).length = L.length := by simp [i32s]
theorem i32s_nth (L : List Int) (j : Nat) (h : j < L.length) : nth undef (i32s L) j = .int .i32 (nth 0 L j) := nth_map _ _ _ _ h
theorem marks_any (w : World) : Calls Tryz.prog 196 #[] w fun e w' => e = .returned (.slice (some ⟨w.heap.size, 0, none⟩) 56 56) ∧ w.alloc (.cells (i32s marksL).toArray 21) = w' := calls_of_run Tryz.func196 (.slice (some ⟨w.heap.size, 0, none⟩) 56 56) (w.alloc (.cells (i32s marksL).toArray 21)) (by kernel_rfl) (results_keep rfl) ⟨rfl, rfl⟩
theorem wides_any (w : World) : Calls Tryz.prog 191 #[] w fun e w' => e = .returned (.slice (some ⟨w.heap.size, 0, none⟩) 102 102) ∧ w.alloc (.cells (i32s widesL).toArray 21) = w' := calls_of_run Tryz.func191 (.slice (some ⟨w.heap.size, 0, none⟩) 102 102) (w.alloc (.cells (i32s widesL).toArray 21)) (by kernel_rfl) (results_keep rfl) ⟨rfl, rfl⟩
theorem refMarks_any (w : World) : Calls Tryz.prog 159 #[] w fun e w' => e = .returned (.slice (some ⟨w.heap.size, 0, none⟩) 28 28) ∧ w.alloc (.cells (i32s marksL).toArray 238) = w' := calls_of_run Tryz.func159 (.slice (some ⟨w.heap.size, 0, none⟩) 28 28) (w.alloc (.cells (i32s marksL).toArray 238)) (by kernel_rfl) (results_keep rfl) ⟨rfl, rfl⟩
theorem refWides_any (w : World) : Calls Tryz.prog 160 #[] w fun e w' => e = .returned (.slice (some ⟨w.heap.size, 0, none⟩) 51 51) ∧ w.alloc (.cells (i32s widesL).toArray 238) = w' := calls_of_run Tryz.func160 (.slice (some ⟨w.heap.size, 0, none⟩) 51 51) (w.alloc (.cells (i32s widesL).toArray 238)) (by kernel_rfl) (results_keep rfl) ⟨rfl, rfl⟩
end Go.Proofs.YtjkajojjehgmdaaGreat
namespace Go.Proofs.YtjkajojjehgmdaaGreat
open Go.RowKit
attribute [local go_sem] Oper.semAt_some
theorem row_fst {B : Nat} {w : World} {b : Nat} {L : List Int} (hc : RowAt B w (some ⟨b, 0, none⟩) (i32s L)) (k : Nat) (hk : k < L.length / 2) :
    w.cell? ⟨b, k * 2, none⟩ = some (.int .i32 (fst L k)) ∧ w.cell? ⟨b, k * 2 + 1, none⟩ = some (.int .i32 (snd L k)) := by
 have h0 := hc (k * 2) (by rw [i32s_length]; omega)
 have h1 := hc (k * 2 + 1) (by rw [i32s_length]; omega)
 obtain ⟨b0, o0, e0, _, c0⟩ := h0
 obtain ⟨b1, o1, e1, _, c1⟩ := h1
 simp only [Option.some.injEq, Addr.mk.injEq, and_true] at e0 e1
 obtain ⟨rfl, rfl⟩ := e0
 obtain ⟨rfl, rfl⟩ := e1
 rw [Nat.zero_add, i32s_nth _ _ (by omega)] at c0 c1
 refine ⟨?_, ?_⟩
 ·rw [c0]; unfold fst; rw [Nat.mul_comm]
 ·rw [c1]; unfold snd; rw [Nat.mul_comm]
set_option maxHeartbeats 400000 in
theorem refIn_any (L : List Int) (n : Nat) (hL : L.length = 2 * n) (hn : n < 1000) (b : Nat) (r : Int) (B : Nat) (w : World) (hc : RowAt B w (some ⟨b, 0, none⟩) (i32s L)) :
    Calls Tryz.prog 158 #[.slice (some ⟨b, 0, none⟩) n n, .int .i32 r] w fun e w' => e = .returned (.bool (inP L r)) ∧ w = w' := by
 have hl2 : L.length / 2 = n := by omega
 have HL := Lib.hid hL
 clear hL
 go_enter Tryz.func158, Tryz.ntmps158
 go_wp2
 go_loop [5] (fun i => ∃ k : Nat, k ≤ n ∧ i = .int .i64 k ∧ ∀ j, j < k → ¬ (fst L j ≤ r ∧ r ≤ snd L j)) (fun i => n - (intOf i).toNat)
 case atStart => exact ⟨0, by omega, rfl, fun j hj => by omega⟩
 case round =>
  obtain ⟨k, hk, rfl, hno⟩ := hrel
  by_cases hlt : k < n
  ·obtain ⟨c0, c1⟩ := row_fst hc k (by omega)
   go_wp2
   ·go_ret
    exact ⟨ret_bool ((inP_iff L r).2 ⟨k, by omega, by omega, by omega⟩).symm, rfl⟩
   all_goals
    go_round
    case rel => exact ⟨k + 1, by omega, by go_num, fun j hj => by
     by_cases e : j = k
     ·subst e; omega
     ·exact hno j (by omega)⟩
    case measure => simp [intOf]; omega
  ·go_wp2
   go_ret
   exact ⟨ret_bool (inP_no L r fun j hj => hno j (by omega)).symm, rfl⟩
theorem refMark_any (r : Int) (w : World) : Calls Tryz.prog 121 #[.int .i32 r] w fun e w' => e = .returned (.bool (markB r)) ∧ Below w.heap.size w w' := by
 go_enter Tryz.func121, Tryz.ntmps121
 go_wp2_with (first
  | (go_at_call 159; refine (refMarks_any _).mono ?_; rintro e w' ⟨rfl, rfl⟩)
  | (go_at_call 158; refine (refIn_any marksL 28 rfl (by omega) _ _ _ _ (RowAt.new _ _ _)).mono ?_; rintro e w' ⟨rfl, rfl⟩))
 go_ret
 exact ⟨rfl, (Below.refl _ _).alloc (Nat.le_refl _) _⟩
theorem refWide_any (r : Int) (w : World) : Calls Tryz.prog 122 #[.int .i32 r] w fun e w' => e = .returned (.bool (wideB r)) ∧ Below w.heap.size w w' := by
 go_enter Tryz.func122, Tryz.ntmps122
 go_wp2_with (first
  | (go_at_call 121; refine (refMark_any _ _).mono ?_; rintro e w1 ⟨rfl, hb1⟩)
  | (go_at_call 160; refine (refWides_any _).mono ?_; rintro e w' ⟨rfl, rfl⟩)
  | (go_at_call 158; refine (refIn_any widesL 51 rfl (by omega) _ _ _ _ (RowAt.new _ _ _)).mono ?_; rintro e w' ⟨rfl, rfl⟩))
 ·rename_i hm
  go_ret
  exact ⟨ret_bool (by simp [wideB, hm]), hb1⟩
 ·rename_i hm
  go_ret
  exact ⟨ret_bool (by simp [wideB, hm]), hb1.alloc hb1.size _⟩
theorem refOf_any (r : Int) (w : World) : Calls Tryz.prog 88 #[.int .i32 r] w fun e w' => e = .returned (.int .i64 (colsB r)) ∧ Below w.heap.size w w' := by
 go_enter Tryz.func88, Tryz.ntmps88
 go_wp2_with (first
  | (go_at_call 119; refine (refIs_any _ _).mono ?_; rintro e w1 ⟨rfl, rfl⟩)
  | (go_at_call 120; refine (refControl_any _ _).mono ?_; rintro e w1 ⟨rfl, rfl⟩)
  | (go_at_call 121; refine (refMark_any _ _).mono ?_; rintro e w1 ⟨rfl, hb1⟩)
  | (go_at_call 122; refine (refWide_any _ _).mono ?_; rintro e w2 ⟨rfl, hb2⟩))
 all_goals
  go_ret
  refine ⟨ret_int ?_, ?_⟩
  ·simp_all [colsB, wideB]
  ·first | exact Below.refl _ _ | exact hb1 | exact bnext hb1 hb2
end Go.Proofs.YtjkajojjehgmdaaGreat
namespace Go.Proofs.YtjkajojjehgmdaaGreat
open Go.RowKit Go.Shelf
attribute [local go_sem] Oper.semAt_some
def pairsOf (L : List Int) : List (Int × Int) := (List.range (L.length / 2)).map fun j => (fst L j, snd L j)
theorem grownBy_drew (w : World) : w.grownBy w.drew none := ⟨rfl, rfl, rfl, Nat.le_refl _, fun _ _ _ => rfl⟩
theorem take_pairs (L : List Int) (k : Nat) (hk : k < L.length / 2) : (pairsOf L).take (k + 1) = (pairsOf L).take k ++ [(fst L k, snd L k)] := by
 rw [List.take_succ_eq_append_getElem (by simpa [pairsOf] using hk)]
 simp [pairsOf]
theorem pairs_any (a : Option Addr) (n c : Nat) (w : World) : Calls Tryz.prog 190 #[.slice a n c] w fun e w' =>
    e = .returned (.func (.func 197) #[] #[.pointer (some ⟨w.heap.size, 0, none⟩)]) ∧ w.alloc (.cells #[.slice a n c] 186) = w' := by
 go_enter Tryz.func190, Tryz.ntmps190
 go_wp2
 go_ret
 exact ⟨rfl, rfl⟩
set_option maxRecDepth 100000 in
set_option maxHeartbeats 1000000 in
theorem pairs1_stops (L : List Int) (n : Nat) (hL : L.length = 2 * n) (hn : n < 1000) (Bx b n₀ : Nat) (w : World) (hn₀ : n₀ ≤ w.heap.size) (hbx : Bx < n₀)
    (hcx : w.cell? ⟨Bx, 0, none⟩ = some (.slice (some ⟨b, 0, none⟩) (2 * n) (2 * n))) (hc : RowAt n₀ w (some ⟨b, 0, none⟩) (i32s L)) (m : Nat) (hm : 1 ≤ m) :
    SeqStopsK Fence.wide m Tryz.prog 197 #[.pointer (some ⟨Bx, 0, none⟩)] (fun x : Int × Int => #[Value.int .i32 x.1, Value.int .i32 x.2]) (Below n₀) (fun ys => ys = pairsOf L) (fun pre => pre <+: pairsOf L) n w := by
 intro l J Jx W hW0 hJ hJx hY h0
 have hW := hW0.mono hn₀
 clear hW0
 refine callsIn_of_wp Tryz.func197 rfl trivial ?_ rfl
 simp only [Tryz.ntmps197, List.size_toArray, List.length_cons, List.length_nil, Nat.reduceAdd, Nat.reduceSub, Array.replicate_succ, Array.replicate_zero, List.push_toArray, List.append_toArray, List.nil_append, List.cons_append]
 gi_wp2
 gi_loopw [3] (fun i wr => ∃ k : Nat, k ≤ n ∧ i = .int .i64 (2 * k : Nat) ∧ J ((pairsOf L).take k) wr ∧ Below n₀ W wr)
  (fun i _ => 2 * n - (intOf i).toNat)
 case atStart => exact ⟨0, Nat.zero_le _, rfl, h0, Below.refl _ _⟩
 case round =>
  obtain ⟨k, hk, rfl, hJs, hnx⟩ := hrel
  have hbw := hW.trans hnx
  have hx := (hbw.cell (p := ⟨Bx, 0, none⟩) hbx).trans hcx
  by_cases hlt : k < n
  ·obtain ⟨c0, c1⟩ := row_fst (hc.below hbw) k (by omega)
   obtain ⟨fn, tmps, assign, body, hy, hR⟩ := hY _ (fst L k, snd L k) wr.drew (hJ _ _ _ none hJs (grownBy_drew wr) (fun r e => by cases e)) (by simp [pairsOf]; omega)
   dsimp only at hy
   gi_wp2
   have i1 : (2 * (k : Int)) < 2 * (n : Int) := by omega
   have i2 : (2 * (k : Int)) + 1 < 2 * (n : Int) := by omega
   have i3 : 0 ≤ 2 * (k : Int) := by omega
   have i4 : 0 ≤ 2 * (k : Int) + 1 := by omega
   have i5 : IntKind.i64.wrap (2 * (k : Int) + 1) = 2 * (k : Int) + 1 := IntWalk.i64_in _ (by omega)
   have i6 : (2 * (k : Int)).toNat = k * 2 := by omega
   have i7 : (2 * (k : Int) + 1).toNat = k * 2 + 1 := by omega
   refine wpIn_region_still_tail (l₀ := none) 10 (by kernel_rfl) (by kernel_rfl) (by kernel_rfl) ?_
   simp only [List.take_succ_cons, List.take_zero, List.drop_succ_cons, List.drop_zero]
   repeat still_step
   refine wpStill_nil ?_
   change wpListIn Fence.wide _ _ _ _ _ _ wr.drew
   clear i1 i2 i3 i4 i5 i6 i7
   gi_wp2
   refine hR.mono ?_
   rintro e W3 (⟨rfl, hJ3, hk3⟩ | ⟨rfl, hJx3⟩)
   ·gi_wp2
    go_roundw
    case rel => exact ⟨k + 1, by omega, by go_num, by rw [take_pairs L k (by omega)]; exact hJ3, hnx.drew.trans hk3⟩
    case measure => simp [intOf]; omega
   ·gi_wp2
    refine bodyPost_ret (results_none rfl _ _ _) rfl ?_
    exact ⟨⟨_, rfl⟩, .inr ⟨_, by rw [← take_pairs L k (by omega)]; exact List.take_prefix _ _, hJx3⟩⟩
  ·obtain rfl : k = n := by omega
   gi_wp2
   go_end0
   exact ⟨⟨_, rfl⟩, .inl ⟨_, rfl, by rw [← List.take_of_length_le (l := pairsOf L) (i := k) (by simp [pairsOf]; omega)]; exact hJs⟩⟩
theorem within_stop (L : List Int) (hr : Rising L ∧ ∀ j, j < L.length / 2 → fst L j ≤ snd L j) (r : Int) (q : List (Int × Int)) (x : Int × Int) (hq : ∀ y ∈ q, y.2 < r) (hp : q ++ [x] <+: pairsOf L) :
    (r < x.1 → inP L r = false) ∧ (x.1 ≤ r → r ≤ x.2 → inP L r = true) := by
 obtain ⟨t, ht⟩ := hp
 have hlen : q.length < L.length / 2 := by
  have := congrArg List.length ht
  simp [pairsOf] at this; omega
 have hat : ∀ j (hj : j < L.length / 2), (pairsOf L)[j]'(by simpa [pairsOf] using hj) = (fst L j, snd L j) := fun j hj => by simp [pairsOf]
 have hx : x = (fst L q.length, snd L q.length) := by
  rw [← hat _ hlen]
  simp only [← ht]
  simp
 refine ⟨fun h => inP_no L r fun j hj => ?_, fun h1 h2 => (inP_iff L r).2 ⟨q.length, hlen, by rw [hx] at h1; exact h1, by rw [hx] at h2; exact h2⟩⟩
 by_cases hjq : j < q.length
 ·have hy : (fst L j, snd L j) ∈ q := by
   have e := hat j hj
   simp only [← ht] at e
   rw [← e, List.getElem_append_left (by simp; omega), List.getElem_append_left hjq]
   exact List.getElem_mem _
  have := hq _ hy
  dsimp only at this
  omega
 ·rw [hx] at h
  dsimp only at h
  by_cases he : j = q.length
  ·rw [he]; omega
  ·have h1 := hr.1 q.length j (by omega) hj
   have h3 := hr.2 q.length hlen
   omega
theorem within_end (L : List Int) (r : Int) (h : ∀ y ∈ pairsOf L, y.2 < r) : inP L r = false := inP_no L r fun j hj => by
 have := h (fst L j, snd L j) (List.mem_map.2 ⟨j, List.mem_range.2 hj, rfl⟩)
 dsimp only at this
 omega
set_option maxRecDepth 100000 in
set_option maxHeartbeats 2000000 in
theorem within_any (L : List Int) (hr : Rising L ∧ ∀ j, j < L.length / 2 → fst L j ≤ snd L j) (n : Nat) (hL : L.length = 2 * n) (hn : n < 1000) (r : Int) (Bx b : Nat) (w : World) (hbx : Bx < w.heap.size)
    (hcx : w.cell? ⟨Bx, 0, none⟩ = some (.slice (some ⟨b, 0, none⟩) (2 * n) (2 * n))) (hc : RowAt w.heap.size w (some ⟨b, 0, none⟩) (i32s L)) :
    Calls Tryz.prog 175 #[.int .i32 r, .func (.func 197) #[] #[.pointer (some ⟨Bx, 0, none⟩)]] w fun e w' => e = .returned (.bool (inP L r)) ∧ Below w.heap.size w w' := by
 refine (callsIn_wide (n := 9)).1 ?_
 have h1 : 1 ≤ 9 := by omega
 refine callsIn_of_wp_marks Tryz.func175 rfl trivial ?_ rfl
 simp only [Tryz.ntmps175, List.size_toArray, List.length_cons, List.length_nil, Nat.reduceAdd, Nat.reduceSub, Array.replicate_succ, Array.replicate_zero, List.push_toArray, List.append_toArray, List.nil_append, List.cons_append]
 gi_wp2
 have c0 := cell_new_l w (.int .i32 r) 21
 have c1 := cell_new_l (w.alloc (.cells #[.int .i32 r] 21)) (.bool false) 4
 simp only [World.size_alloc] at c1
 obtain ⟨W0, hW0⟩ : ∃ W0, (w.alloc (.cells #[.int .i32 r] 21)).alloc (.cells #[.bool false] 4) = W0 := ⟨_, rfl⟩
 have hB0 : Below w.heap.size w W0 := hW0 ▸ ((Below.refl _ w).alloc (Nat.le_refl _) _).alloc (by simp) _
 have hs0 : W0.heap.size = w.heap.size + 1 + 1 := by rw [← hW0]; simp
 have d0 : W0.cell? ⟨w.heap.size, 0, none⟩ = some (.int .i32 r) := hW0 ▸ cell_alloc_l _ c0.1
 have d1 : W0.cell? ⟨w.heap.size + 1, 0, none⟩ = some (.bool false) := hW0 ▸ c1.1
 have d2 : W0.frozen? ⟨w.heap.size + 1, 0, none⟩ = false := hW0 ▸ c1.2
 rw [hW0]
 refine wpIn_rangeFunc_ownF rfl h1 (gf := 197) (lb := #[.pointer (some ⟨Bx, 0, none⟩)]) rfl trivial (enters_of Tryz.func197 (by kernel_rfl) rfl)
  (pairs1_stops L n hL hn Bx b W0.heap.size W0 (Nat.le_refl _) (by omega) ((hB0.cell (p := ⟨Bx, 0, none⟩) hbx).trans hcx) ((hc.below hB0).more (by omega)) _ (by omega)) belowK_t (belowK_b (Nat.le_refl _)) (Below.refl _ _) (fun _ => rfl)
  (fun pre W => ((∀ y ∈ pre, y.2 < r) ∧ W.cell? ⟨w.heap.size, 0, none⟩ = some (.int .i32 r) ∧ W.cell? ⟨w.heap.size + 1, 0, none⟩ = some (.bool false) ∧ W.frozen? ⟨w.heap.size + 1, 0, none⟩ = false) ∧ Below w.heap.size w W)
  (fun c pre W => (c = .ret ∧ (∃ q x v, pre = q ++ [x] ∧ (∀ y ∈ q, y.2 < r) ∧ (r < x.1 ∧ v = false ∨ x.1 ≤ r ∧ r ≤ x.2 ∧ v = true) ∧ W.cell? ⟨w.heap.size + 1, 0, none⟩ = some (.bool v))) ∧ Below w.heap.size w W)
  (OwnFrom.and (Own.from (fun s A B row hs hg hr => ⟨hs.1, cell_kept hs.2.1 hg hr, cell_kept hs.2.2.1 hg hr, (frozen_kept hs.2.2.1 hg hr).trans hs.2.2.2⟩) _) (ownFrom_below (Nat.le_refl _) (by omega)))
  (fun c => OwnFrom.and (Own.from (fun s A B row hs hg hr => ⟨hs.1, by obtain ⟨q, x, v, h1, h2, h3, h4⟩ := hs.2; exact ⟨q, x, v, h1, h2, h3, cell_kept h4 hg hr⟩⟩) _) (ownFrom_below (Nat.le_refl _) (by omega)))
  ⟨⟨by simp, d0, d1, d2⟩, hB0⟩
  (fun x => { tmps := #[.int .i32 r, .func (.func 197) #[] #[.pointer (some ⟨Bx, 0, none⟩)], .pointer (some ⟨w.heap.size, 0, none⟩), undef, .pointer (some ⟨w.heap.size + 1, 0, none⟩), .int .i32 x.1, .int .i32 x.2, .func (.func 197) #[] #[.pointer (some ⟨Bx, 0, none⟩)], .int .i32 x.1, .int .i32 x.2, undef, undef, undef, undef, undef, undef], defers := [] }) ?assign ?body ?done ?stop
 case assign =>
  intro l x W K hK
  gi_wp2
  exact hK
 case body =>
  rintro l pre x W ⟨⟨hp, hcw, hcr, hfr⟩, hB⟩ _
  gi_wp2
  ·rename_i hx
   exact ⟨KeepsOthers.setCell _ _ _, ⟨rfl, pre, x, false, rfl, hp, .inl ⟨hx, rfl⟩, World.cell?_setCell_same' _ _ _ (by rw [hcr]; rfl)⟩, hB.setCell (p := ⟨w.heap.size + 1, 0, none⟩) (by simp) _⟩
  ·rename_i hx1 hx2
   exact ⟨KeepsOthers.setCell _ _ _, ⟨rfl, pre, x, true, rfl, hp, .inr ⟨hx1, hx2, rfl⟩, World.cell?_setCell_same' _ _ _ (by rw [hcr]; rfl)⟩, hB.setCell (p := ⟨w.heap.size + 1, 0, none⟩) (by simp) _⟩
  ·rename_i hx1 hx2
   exact ⟨KeepsOthers.refl _, Below.refl _ _, ⟨fun y hy => (List.mem_append.1 hy).elim (hp y) (fun e => by simp at e; subst e; exact hx2), hcw, hcr, hfr⟩, hB⟩
 case done =>
  rintro D ys W hD rfl ⟨⟨hne, _, hcr, hfr⟩, hB⟩ hK
  gi_wp2
  have hK' := (KeepsOthers.setCell W ⟨w.heap.size + 1, 0, none⟩ (.bool false)).same D _ hK rfl
  refine ⟨by simp, .inl ⟨_, _, rfl, run_takeDeferred hK', ?_⟩⟩
  have hc5 := cell_kept (World.cell?_setCell_same' W ⟨w.heap.size + 1, 0, none⟩ (.bool false) (by rw [hcr]; rfl)) (grownBy_putObj' _ D (.deferred none)) (fun r e => by cases e; exact ⟨_, hK', rfl⟩)
  refine ⟨.bool false, ?_, by rw [within_end L r hne], (hB.setCell (p := ⟨w.heap.size + 1, 0, none⟩) (by simp) _).trans (belowK_b (w := w) (Nat.le_refl _) _ D _ _ (by omega) hK' rfl rfl)⟩
  simp [results, Tryz.f175, go_sem, hc5]
 case stop =>
  rintro D c pre W hD hpre ⟨⟨rfl, q, x, v, rfl, hq, hv, hcr⟩, hB⟩ hK
  gi_wp2
  refine ⟨by simp, .inl ⟨_, _, rfl, run_takeDeferred hK, ?_⟩⟩
  have hc5 := cell_kept hcr (grownBy_putObj' _ D (.deferred none)) (fun r e => by cases e; exact ⟨_, hK, rfl⟩)
  obtain ⟨s1, s2⟩ := within_stop L hr r q x hq hpre
  refine ⟨.bool v, ?_, ret_bool ?_, hB.trans (belowK_b (w := w) (Nat.le_refl _) W D _ _ (by omega) hK rfl rfl)⟩
  ·simp [results, Tryz.f175, go_sem, hc5]
  ·rcases hv with ⟨h, rfl⟩ | ⟨h, h2, rfl⟩
   ·exact (s1 h).symm
   ·exact (s2 h h2).symm
theorem Marks_any (w : World) : Calls Tryz.prog 189 #[] w fun e w' => e = .returned (.func (.func 197) #[] #[.pointer (some ⟨w.heap.size + 1, 0, none⟩)]) ∧
    (w.alloc (.cells (i32s marksL).toArray 21)).alloc (.cells #[.slice (some ⟨w.heap.size, 0, none⟩) 56 56] 186) = w' := by
 go_enter Tryz.func189, Tryz.ntmps189
 go_wp2_with (first
  | (go_at_call 196; refine (marks_any _).mono ?_; rintro e w' ⟨rfl, rfl⟩)
  | (go_at_call 190; refine (pairs_any _ _ _ _).mono ?_; rintro e w' ⟨rfl, rfl⟩))
 go_ret
 exact ⟨rfl, rfl⟩
theorem Wides_any (w : World) : Calls Tryz.prog 176 #[] w fun e w' => e = .returned (.func (.func 197) #[] #[.pointer (some ⟨w.heap.size + 1, 0, none⟩)]) ∧
    (w.alloc (.cells (i32s widesL).toArray 21)).alloc (.cells #[.slice (some ⟨w.heap.size, 0, none⟩) 102 102] 186) = w' := by
 go_enter Tryz.func176, Tryz.ntmps176
 go_wp2_with (first
  | (go_at_call 191; refine (wides_any _).mono ?_; rintro e w' ⟨rfl, rfl⟩)
  | (go_at_call 190; refine (pairs_any _ _ _ _).mono ?_; rintro e w' ⟨rfl, rfl⟩))
 go_ret
 exact ⟨rfl, rfl⟩
theorem two_new (w : World) (L : List Int) (c : Value) (t1 t2 : TypeId) :
    let W := (w.alloc (.cells (i32s L).toArray t1)).alloc (.cells #[c] t2)
    w.heap.size + 1 < W.heap.size ∧ W.cell? ⟨w.heap.size + 1, 0, none⟩ = some c ∧ RowAt W.heap.size W (some ⟨w.heap.size, 0, none⟩) (i32s L) ∧ Below w.heap.size w W := by
 intro W
 refine ⟨by simp [W], ?_, ?_, ((Below.refl _ w).alloc (Nat.le_refl _) _).alloc (by simp) _⟩
 ·have := (cell_new_l (w.alloc (.cells (i32s L).toArray t1)) c t2).1
  rwa [World.size_alloc] at this
 ·exact ((RowAt.new w (i32s L) t1).below ((Below.refl _ _).alloc (Nat.le_refl _) _)).more (by simp [W])
theorem markFn_any (r : Int) (w : World) : Calls Tryz.prog 174 #[.int .i32 r] w fun e w' => e = .returned (.bool (markB r)) ∧ Below w.heap.size w w' := by
 obtain ⟨t1, t2, t3, t4⟩ := two_new w marksL (.slice (some ⟨w.heap.size, 0, none⟩) 56 56) 21 186
 go_enter Tryz.func174, Tryz.ntmps174
 go_wp2_with (first
  | (go_at_call 189; refine (Marks_any _).mono ?_; rintro e w' ⟨rfl, rfl⟩)
  | (go_at_call 175; refine (within_any marksL marks_rise 28 rfl (by omega) _ _ _ _ t1 t2 t3).mono ?_; rintro e w' ⟨rfl, hb⟩))
 go_ret
 exact ⟨rfl, bnext t4 hb⟩
theorem of_any (r : Int) (w : World) : Calls Tryz.prog 138 #[.int .i32 r] w fun e w' => e = .returned (.int .i64 (colsB r)) ∧ Below w.heap.size w w' := by
 go_enter Tryz.func138, Tryz.ntmps138
 go_wp2_with (first
  | (go_at_call 173; refine (is_any _ _).mono ?_; rintro e w1 ⟨rfl, rfl⟩)
  | (go_at_call 162; refine (control_any _ _).mono ?_; rintro e w1 ⟨rfl, rfl⟩)
  | (go_at_call 174; refine (markFn_any _ _).mono ?_; rintro e w1 ⟨rfl, hb1⟩)
  | (go_at_call 176; refine (Wides_any _).mono ?_; rintro e w' ⟨rfl, rfl⟩)
  | (go_at_call 175; refine (within_any widesL wides_rise 51 rfl (by omega) _ _ _ _ (two_new w1 widesL _ _ _).1 (two_new w1 widesL _ _ _).2.1 (two_new w1 widesL _ _ _).2.2.1).mono ?_; rintro e w' ⟨rfl, hb⟩))
 all_goals
  go_ret
  refine ⟨ret_int ?_, ?_⟩
  ·simp_all [colsB]
  ·first | exact Below.refl _ _ | exact hb1 | exact bnext hb1 (bnext (two_new w1 widesL _ _ _).2.2.2 hb)
end Go.Proofs.YtjkajojjehgmdaaGreat
