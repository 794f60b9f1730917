/- Wrap: align and fill; program. No condition. -/
import Derived.Test.YtmdpmjabjijjiaaWrap1
import Derived.Deep.RegionHeld3
namespace Go.Proofs.Ytmdpmjabjijjiaa
set_option linter.unusedVariables false
set_option linter.unusedSimpArgs false
open Go.RowKit Go.Shelf Go.Maps
set_option maxRecDepth 100000 in
set_option maxHeartbeats 2000000 in
theorem walign_any (s : List UInt8) (m how : Int) (hs : s.length ≤ 10000) (hm : -9223372036854775808 ≤ m ∧ m ≤ 1000) (hh : -9223372036854775808 ≤ how ∧ how ≤ 9223372036854775807) (w : World) : Calls Try.prog 69 #[.string (S s), .int .i64 m, .int .i64 how] w fun e w' => e = .returned (.tuple #[.string (S (alignW s m how).1), .int .i64 (alignW s m how).2]) ∧ Below w.heap.size w w' := by
  have hfl := flat_len64 s
  have hu := usedW_bd s m
  by_cases h1 : m < 0
  · have hz : alignW s m how = ([], 170) := by unfold alignW; rw [if_pos (.inl h1)]
    rw [hz]
    clear hz
    go_enter Try.func69, Try.ntmps69
    go_wp2
    refine bodyPost_ret (results_tmp2 rfl _ _ _) rfl ?_
    exact ⟨rfl, Below.refl _ _⟩
  by_cases h2 : 500 < m
  · have hz : alignW s m how = ([], 170) := by unfold alignW; rw [if_pos (.inr h2)]
    have h1' : 0 ≤ m := by omega
    rw [hz]
    clear hz h1
    go_enter Try.func69, Try.ntmps69
    go_wp2
    refine bodyPost_ret (results_tmp2 rfl _ _ _) rfl ?_
    exact ⟨rfl, Below.refl _ _⟩
  have h1' : 0 ≤ m := by omega
  have h2' : m ≤ 500 := by omega
  have C1 := Lib.hid (fun W => flat_any s (by omega) W)
  have C2 := (fun W => fitc_any (flatL s) m (by omega) (by omega) W)
  have hT := fitT_len (flatL s) m
  obtain ⟨Z, hZ⟩ : ∃ Z, Z = alignW s m how := ⟨_, rfl⟩
  rw [← hZ]
  unfold alignW at hZ
  rw [if_neg (by omega)] at hZ
  unfold cutW at hZ
  unfold usedW at hu hZ
  obtain ⟨u, hu'⟩ : ∃ u, u = fitN (flatL s) m := ⟨_, rfl⟩
  obtain ⟨T, hT'⟩ : ∃ T, T = fitT (flatL s) m := ⟨_, rfl⟩
  rw [← hu'] at hu C2 hZ
  rw [← hT'] at hT C2 hZ
  have C2 := Lib.hid C2
  have hsT := S_size T
  have hTl : T.length ≤ 100000000 := by omega
  obtain ⟨v, hv⟩ : ∃ v, v = m - u := ⟨_, rfl⟩
  rw [← hv] at hZ
  have hvi : m - u = v := hv.symm
  have hv0 : 0 ≤ v ∧ v ≤ 500 := by omega
  have HBL := Lib.hid blanksW_len
  have hwr : IntKind.i64.wrap (m - u) = v := by rw [hvi]; exact IntWalk.i64_in _ (by omega)
  clear hu' hT' hT hv h1 h2
  by_cases g0 : how = 0
  · subst g0
    rw [if_neg (by omega), if_pos rfl] at hZ
    subst hZ
    have C3 := Lib.hid (fun W => blanks_any' v (by omega) W)
    have HAP := Lib.hid (S_append T (blanksW v))
    have hBl : (S (blanksW v)).size ≤ 1000 := by rw [S_size, blanksW_len]; omega
    go_enter Try.func69, Try.ntmps69
    go_wp2_with (first
      | (go_at_call 19; refine (C1.out _).mono ?_; rintro e w1 ⟨rfl, hb1⟩)
      | (go_at_call 34; refine (C2.out _).mono ?_; rintro e w2 ⟨rfl, hb2⟩)
      | (go_at_call 112; refine (C3.out _).mono ?_; rintro e w3 ⟨rfl, hb3⟩))
    refine bodyPost_ret (results_tmp2 rfl _ _ _) rfl ?_
    exact ⟨by rw [← HAP.out]; rfl, bnext (bnext hb1 hb2) hb3⟩
  by_cases g1 : how = 1
  · subst g1
    rw [if_neg (by omega), if_neg (by omega), if_pos rfl] at hZ
    subst hZ
    have C3 := Lib.hid (fun W => blanks_any' v (by omega) W)
    have HAP := Lib.hid (S_append (blanksW v) T)
    have hBl : (S (blanksW v)).size ≤ 1000 := by rw [S_size, blanksW_len]; omega
    clear g0
    go_enter Try.func69, Try.ntmps69
    go_wp2_with (first
      | (go_at_call 19; refine (C1.out _).mono ?_; rintro e w1 ⟨rfl, hb1⟩)
      | (go_at_call 34; refine (C2.out _).mono ?_; rintro e w2 ⟨rfl, hb2⟩)
      | (go_at_call 112; refine (C3.out _).mono ?_; rintro e w3 ⟨rfl, hb3⟩))
    refine bodyPost_ret (results_tmp2 rfl _ _ _) rfl ?_
    exact ⟨by rw [← HAP.out]; rfl, bnext (bnext hb1 hb2) hb3⟩
  by_cases g2 : how = 2
  · subst g2
    rw [if_neg (by omega), if_neg (by omega), if_neg (by omega)] at hZ
    obtain ⟨x, hx⟩ : ∃ x, x = v / 2 := ⟨_, rfl⟩
    obtain ⟨y, hy⟩ : ∃ y, y = v - x := ⟨_, rfl⟩
    rw [← hx, ← hy] at hZ
    subst hZ
    have hxb : 0 ≤ x ∧ x ≤ v := by omega
    have htd : v.tdiv 2 = x := by rw [Int.tdiv_eq_ediv_of_nonneg hv0.1]; exact hx.symm
    have hwx : IntKind.i64.wrap x = x := IntWalk.i64_in _ (by omega)
    have hvx : v - x = y := hy.symm
    have hwy : IntKind.i64.wrap (v - x) = y := by rw [hvx]; exact IntWalk.i64_in _ (by omega)
    have C3 := Lib.hid (fun W => blanks_any' x (by omega) W)
    have C4 := Lib.hid (fun W => blanks_any' y (by omega) W)
    have HAP := Lib.hid (S_append (blanksW x) T)
    have HAP2 := Lib.hid (S_append (blanksW x ++ T) (blanksW y))
    have hBl : (S (blanksW x)).size ≤ 1000 := by rw [S_size, blanksW_len]; omega
    have hBl2 : (S (blanksW y)).size ≤ 1000 := by rw [S_size, blanksW_len]; omega
    clear g0 g1 hx hy
    go_enter Try.func69, Try.ntmps69
    go_wp2_with (first
      | (go_at_call 19; refine (C1.out _).mono ?_; rintro e w1 ⟨rfl, hb1⟩)
      | (go_at_call 34; refine (C2.out _).mono ?_; rintro e w2 ⟨rfl, hb2⟩)
      | (go_at_call 112; refine (C4.out _).mono ?_; rintro e w4 ⟨rfl, hb4⟩; have hb43 := bnext hb3 hb4)
      | (go_at_call 112; refine (C3.out _).mono ?_; rintro e w3 ⟨rfl, hb3⟩))
    refine bodyPost_ret (results_tmp2 rfl _ _ _) rfl ?_
    exact ⟨by rw [← HAP2.out, ← HAP.out]; rfl, bnext (bnext hb1 hb2) hb43⟩
  · rw [if_pos (by omega)] at hZ
    subst hZ
    have g0' : (how == 0) = false := by simp [g0]
    have g1' : (how == 1) = false := by simp [g1]
    have g2' : (how == 2) = false := by simp [g2]
    clear g0 g1 g2
    go_enter Try.func69, Try.ntmps69
    go_wp2_with (first
      | (go_at_call 19; refine (C1.out _).mono ?_; rintro e w1 ⟨rfl, hb1⟩)
      | (go_at_call 34; refine (C2.out _).mono ?_; rintro e w2 ⟨rfl, hb2⟩))
    refine bodyPost_ret (results_tmp2 rfl _ _ _) rfl ?_
    exact ⟨rfl, bnext hb1 hb2⟩
theorem repeat_times (t : List UInt8) (k : Nat) : Lib.repeatL t k = timesL t k := by
  unfold timesL
  induction k with
  | zero => rfl
  | succ k ih => rw [Lib.repeatL, ih, List.replicate_succ, List.flatten_cons]
theorem timesL_len (t : List UInt8) (k : Nat) : (timesL t k).length = k * t.length := by
  unfold timesL; simp
theorem repeatT (t : List UInt8) (k : Nat) (ht : t.length ≤ 1100000) (hk : k ≤ 1000) (W : World) : Calls Try.prog 114 #[.string (S t), .int .i64 k] W fun e w' => e = .returned (.string (S (timesL t k))) ∧ Below W.heap.size W w' := by
  have hmul : t.length * k ≤ 1100000 * 1000 := Nat.mul_le_mul ht hk
  refine (Try.strings_Repeat (S t) k W (by omega) (by rw [S_size]; omega)).mono fun e w' hh => ⟨?_, hh.2⟩
  rw [hh.1]
  have : (S t).data.toList = t := by simp [S]
  rw [this, repeat_times]; rfl
set_option maxRecDepth 100000 in
set_option maxHeartbeats 2000000 in
theorem wfill_any (s : List UInt8) (m : Int) (hs : s.length ≤ 10000) (hm : -9223372036854775808 ≤ m ∧ m ≤ 1000) (w : World) : Calls Try.prog 71 #[.string (S s), .int .i64 m] w fun e w' => e = .returned (.tuple #[.string (S (fillW s m).1), .int .i64 (fillW s m).2]) ∧ Below w.heap.size w w' := by
  have hfl := flat_len64 s
  by_cases h1 : m < 0
  · have hz : fillW s m = ([], 170) := by unfold fillW; rw [if_pos (.inl h1)]
    rw [hz]
    clear hz
    go_enter Try.func71, Try.ntmps71
    go_wp2
    refine bodyPost_ret (results_tmp2 rfl _ _ _) rfl ?_
    exact ⟨rfl, Below.refl _ _⟩
  by_cases h2 : 500 < m
  · have hz : fillW s m = ([], 170) := by unfold fillW; rw [if_pos (.inr h2)]
    have h1' : 0 ≤ m := by omega
    rw [hz]
    clear hz h1
    go_enter Try.func71, Try.ntmps71
    go_wp2
    refine bodyPost_ret (results_tmp2 rfl _ _ _) rfl ?_
    exact ⟨rfl, Below.refl _ _⟩
  have h1' : 0 ≤ m := by omega
  have h2' : m ≤ 500 := by omega
  have C1 := Lib.hid (fun W => flat_any s (by omega) W)
  have C2 := (fun W => columns_any (flatL s) (by omega) W)
  have hq0 := sumC_bd (cutL (flatL s))
  have hql := cutL_len (flatL s)
  obtain ⟨Z, hZ⟩ : ∃ Z, Z = fillW s m := ⟨_, rfl⟩
  rw [← hZ]
  unfold fillW at hZ
  rw [if_neg (by omega)] at hZ
  obtain ⟨q, hq⟩ : ∃ q, q = sumC (cutL (flatL s)) := ⟨_, rfl⟩
  rw [← hq] at C2 hZ hq0
  have C2 := Lib.hid C2
  have hqb : 0 ≤ q ∧ q ≤ 2000000 := by omega
  clear hq h1 h2 hq0 hql
  by_cases h0 : q = 0
  · subst h0
    rw [if_pos rfl] at hZ
    subst hZ
    have C3 := Lib.hid (fun W => blanks_any' m (by omega) W)
    go_enter Try.func71, Try.ntmps71
    go_wp2_with (first
      | (go_at_call 19; refine (C1.out _).mono ?_; rintro e w1 ⟨rfl, hb1⟩)
      | (go_at_call 30; refine (C2.out _).mono ?_; rintro e w2 ⟨rfl, hb2⟩)
      | (go_at_call 112; refine (C3.out _).mono ?_; rintro e w3 ⟨rfl, hb3⟩))
    refine bodyPost_ret (results_tmp2 rfl _ _ _) rfl ?_
    exact ⟨rfl, bnext (bnext hb1 hb2) hb3⟩
  · rw [if_neg h0] at hZ
    have hqn : (q == 0) = false := by simp [h0]
    obtain ⟨k, hk⟩ : ∃ k, k = (m / q).toNat := ⟨_, rfl⟩
    obtain ⟨r, hr⟩ : ∃ r, r = m % q := ⟨_, rfl⟩
    rw [← hk, ← hr] at hZ
    have hq1 : 1 ≤ q := by omega
    have hdiv0 : 0 ≤ m / q := Int.ediv_nonneg h1' (by omega)
    have hdivm : m / q ≤ m := Int.ediv_le_self _ h1'
    have hr0 : 0 ≤ r := by rw [hr]; exact Int.emod_nonneg _ h0
    have hrm : r ≤ m := by
      have := Int.emod_add_mul_ediv m q
      have h3 : 0 ≤ q * (m / q) := Int.mul_nonneg (by omega) hdiv0
      rw [hr]; omega
    have htd : m.tdiv q = (k : Int) := by rw [Int.tdiv_eq_ediv_of_nonneg h1', hk]; omega
    have htm : m.tmod q = r := by rw [Int.tmod_eq_emod_of_nonneg h1', hr]
    have hkb : k ≤ 500 := by omega
    have hwk : IntKind.i64.wrap (k : Int) = (k : Int) := IntWalk.i64_in _ (by omega)
    have hwr : IntKind.i64.wrap r = r := IntWalk.i64_in _ (by omega)
    subst hZ
    have C3 := Lib.hid (fun W => repeatT (flatL s) k (by omega) (by omega) W)
    have C4 := Lib.hid (fun W => blanks_any' r (by omega) W)
    have HAP := Lib.hid (S_append (timesL (flatL s) k) (blanksW r))
    have hmul : k * (flatL s).length ≤ 500 * 640000 := Nat.mul_le_mul hkb (by omega)
    have hTl : (S (timesL (flatL s) k)).size ≤ 1000000000 := by rw [S_size, timesL_len]; omega
    have hBl : (S (blanksW r)).size ≤ 1000 := by rw [S_size, blanksW_len]; omega
    obtain ⟨T, hT⟩ : ∃ T, T = timesL (flatL s) k := ⟨_, rfl⟩
    obtain ⟨B, hB⟩ : ∃ B, B = blanksW r := ⟨_, rfl⟩
    rw [← hT] at C3 HAP hTl ⊢
    rw [← hB] at C4 HAP hBl ⊢
    have hwq : IntKind.i64.wrap (m.tdiv q) = (k : Int) := by rw [htd]; exact hwk
    have hwm : IntKind.i64.wrap (m.tmod q) = r := by rw [htm]; exact hwr
    have hsT := S_size T
    have hsB := S_size B
    have hnb : ¬ 9223372036854775807 < T.length + B.length := by omega
    clear hk hr hT hB hmul hdiv0 hdivm
    go_enter Try.func71, Try.ntmps71
    go_wp2_with (first
      | (go_at_call 19; refine (C1.out _).mono ?_; rintro e w1 ⟨rfl, hb1⟩)
      | (go_at_call 30; refine (C2.out _).mono ?_; rintro e w2 ⟨rfl, hb2⟩))
    go_region_held3 (fun w' => True) (first | assumption | trivial | go_keep) (first
      | (go_at_call 114; refine (C3.out _).mono ?_; rintro e w3 ⟨rfl, hb3⟩)
      | (go_at_call 112; refine (C4.out _).mono ?_; rintro e w4 ⟨rfl, hb4⟩))
    all_goals go_wp2
    all_goals refine bodyPost_ret (results_tmp2 rfl _ _ _) rfl ?_
    all_goals exact ⟨by rw [← HAP.out]; rfl, bnext (bnext (bnext hb1 hb2) (show Below w2.heap.size w2 w3 from ⟨hb3.os, hb3.tape, hb3.output, hb3.size, hb3.block⟩)) hb4⟩
end Go.Proofs.Ytmdpmjabjijjiaa
