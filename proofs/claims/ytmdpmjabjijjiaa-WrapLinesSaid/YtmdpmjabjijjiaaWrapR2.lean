/- Wrap: blanks, cut, pad, dots, align, fill; reference. No condition. Wrap: align and fill; reference; the columns that these have. No condition. -/
import Derived.Test.YtmdpmjabjijjiaaWrap2
import Derived.Test.YtmdpmjabjijjiaaRClus3
namespace Go.Proofs.Ytmdpmjabjijjiaa
set_option linter.unusedVariables false
set_option linter.unusedSimpArgs false
open Go.RowKit Go.Shelf Go.Maps
set_option maxRecDepth 100000 in
theorem refBlanks_any (n : Int) (h : -9223372036854775808 ≤ n ∧ n ≤ 100000) (w : World) : Calls Try.prog 113 #[.int .i64 n] w fun e w' => e = .returned (.string (S (blanksW n))) ∧ Below w.heap.size w w' := by
  go_enter Try.func113, Try.ntmps113
  go_wp2
  go_loopw [4, 3] (fun i v wr => ∃ k : Nat, (k : Int) ≤ max 0 n ∧ i = .int .i64 (k : Int) ∧ v = .string (S (List.replicate k 32)) ∧ Below w.heap.size w wr)
    (fun i _ _ => n.toNat - (intOf i).toNat)
  case atStart => exact ⟨0, by omega, rfl, rfl, Below.refl _ _⟩
  case round =>
    obtain ⟨k, hk, rfl, rfl, hbr⟩ := hrel
    by_cases hlt : (k : Int) < n
    · have hs : (S (List.replicate k 32)).size = k := by rw [S_size]; simp
      have hkb : k ≤ 100000 := by omega
      have HAP := Lib.hid (S_append (List.replicate k 32) [32])
      go_wp2
      go_roundw
      case rel => exact ⟨k + 1, by omega, by go_num, by rw [List.replicate_succ', ← HAP.out]; rfl, hbr⟩
      case measure => simp [intOf]; omega
    · have hle : n ≤ (k : Int) := by omega
      have he : List.replicate k 32 = blanksW n := by unfold blanksW; congr 1; omega
      have HE := Lib.hid he
      clear he hlt
      go_wp2
      go_ret
      exact ⟨by rw [← HE.out]; rfl, hbr⟩
set_option maxRecDepth 100000 in
theorem refCut17_any (s : List UInt8) (m : Int) (hs : s.length ≤ 10000) (hm : -9223372036854775808 ≤ m ∧ m ≤ 9223372036854775807) (w : World) : Calls Try.prog 74 #[.string (S s), .int .i64 m] w fun e w' => e = .returned (.string (S (cutW s m))) ∧ Below w.heap.size w w' := by
  have hfl := flat_len64 s
  have C1 := Lib.hid (fun W => refFlat_any s (by omega) W)
  have C2 := Lib.hid (fun W => refFit_any (flatL s) m (by omega) hm W)
  unfold cutW
  go_enter Try.func74, Try.ntmps74
  go_wp2_with (first
    | (go_at_call 20; refine (C1.out _).mono ?_; rintro e w1 ⟨rfl, hb1⟩)
    | (go_at_call 35; refine (C2.out _).mono ?_; rintro e w2 ⟨rfl, hb2⟩))
  go_ret
  exact ⟨rfl, bnext hb1 hb2⟩
theorem cutW_cols (s : List UInt8) (m : Int) : sumC (cutL (cutW s m)) = usedW s m := by
  unfold cutW usedW fitT fitN
  rw [cut_take]
theorem cutW_len (s : List UInt8) (m : Int) (hs : s.length ≤ 10000) : (cutW s m).length ≤ 64 * 10000 := by
  unfold cutW
  have h1 := flat_len64 s
  have h2 := fitT_cut_len (flatL s) m
  have h3 : cleanL (flatL s) = flatL s := clean_clean _
  rw [h3] at h2
  omega
set_option maxRecDepth 100000 in
theorem refPad_any (s : List UInt8) (m : Int) (hs : s.length ≤ 10000) (hm : -9223372036854775808 ≤ m ∧ m ≤ 1000) (w : World) : Calls Try.prog 76 #[.string (S s), .int .i64 m] w fun e w' => e = .returned (.string (S (padW s m))) ∧ Below w.heap.size w w' := by
  have hu := usedW_bd s m
  have C1 := (fun W => refCut17_any s m hs (by omega) W)
  have hT := cutW_len s m hs
  have C2 := (fun W => refColumns_any (cutW s m) (by omega) W)
  rw [cutW_cols] at C2
  unfold padW
  obtain ⟨u, hu'⟩ : ∃ u, u = usedW s m := ⟨_, rfl⟩
  obtain ⟨T, hT'⟩ : ∃ T, T = cutW s m := ⟨_, rfl⟩
  rw [← hu'] at hu C2 ⊢
  rw [← hT'] at hT C1 C2 ⊢
  have C1 := Lib.hid C1
  have C2 := Lib.hid C2
  have hu0 : u = 0 ∨ 0 ≤ m := by omega
  have C3 := Lib.hid (fun W => refBlanks_any (m - u) (by omega) W)
  have hwr : IntKind.i64.wrap (m - u) = m - u := IntWalk.i64_in _ (by omega)
  have hsT := S_size T
  have HAP := Lib.hid (S_append T (blanksW (m - u)))
  have hBl : (S (blanksW (m - u))).size ≤ 1000 := by rw [S_size, blanksW_len]; omega
  have hTl : T.length ≤ 100000000 := by omega
  clear hu' hT' hT
  go_enter Try.func76, Try.ntmps76
  go_wp2_with (first
    | (go_at_call 74; refine (C1.out _).mono ?_; rintro e w1 ⟨rfl, hb1⟩)
    | (go_at_call 31; refine (C2.out _).mono ?_; rintro e w2 ⟨rfl, hb2⟩)
    | (go_at_call 113; refine (C3.out _).mono ?_; rintro e w3 ⟨rfl, hb3⟩))
  go_ret
  exact ⟨by rw [← HAP.out]; rfl, bnext (bnext hb1 hb2) hb3⟩
set_option maxRecDepth 100000 in
theorem refDots_any (s : List UInt8) (m : Int) (hs : s.length ≤ 10000) (hm : -9223372036854775808 ≤ m ∧ m ≤ 1000) (w : World) : Calls Try.prog 78 #[.string (S s), .int .i64 m] w fun e w' => e = .returned (.string (S (dotsW s m))) ∧ Below w.heap.size w w' := by
  have hfl := flat_len64 s
  have C1 := Lib.hid (fun W => refFlat_any s (by omega) W)
  by_cases h1 : m < 1
  · have hz : dotsW s m = [] := by unfold dotsW; rw [if_pos h1]
    rw [hz]
    clear hz
    go_enter Try.func78, Try.ntmps78
    go_wp2_with (go_at_call 20; refine (C1.out _).mono ?_; rintro e w1 ⟨rfl, hb1⟩)
    go_ret
    exact ⟨rfl, hb1⟩
  · have C2 := (fun W => refColumns_any (flatL s) (by omega) W)
    have hz : dotsW s m = if sumC (cutL (flatL s)) ≤ m then flatL s else cutW s (m - 1) ++ [226, 128, 166] := by unfold dotsW; rw [if_neg h1]
    rw [hz]
    clear hz
    have h1' : 1 ≤ m := by omega
    obtain ⟨q, hq⟩ : ∃ q, q = sumC (cutL (flatL s)) := ⟨_, rfl⟩
    rw [← hq] at C2 ⊢
    have C2 := Lib.hid C2
    clear h1 hq
    by_cases h2 : q ≤ m
    · rw [if_pos h2]
      go_enter Try.func78, Try.ntmps78
      go_wp2_with (first
        | (go_at_call 20; refine (C1.out _).mono ?_; rintro e w1 ⟨rfl, hb1⟩)
        | (go_at_call 31; refine (C2.out _).mono ?_; rintro e w2 ⟨rfl, hb2⟩))
      go_ret
      exact ⟨rfl, bnext hb1 hb2⟩
    · rw [if_neg h2]
      have h2' : m < q := by omega
      have C3 := (fun W => refCut17_any s (m - 1) hs (by omega) W)
      have hT := cutW_len s (m - 1) hs
      obtain ⟨T, hT'⟩ : ∃ T, T = cutW s (m - 1) := ⟨_, rfl⟩
      rw [← hT'] at hT C3 ⊢
      have C3 := Lib.hid C3
      have hsT := S_size T
      have hTl : T.length ≤ 100000000 := by omega
      have HAP := Lib.hid (S_append T [226, 128, 166])
      clear hT' hT h2
      go_enter Try.func78, Try.ntmps78
      go_wp2_with (first
        | (go_at_call 20; refine (C1.out _).mono ?_; rintro e w1 ⟨rfl, hb1⟩)
        | (go_at_call 31; refine (C2.out _).mono ?_; rintro e w2 ⟨rfl, hb2⟩)
        | (go_at_call 74; refine (C3.out _).mono ?_; rintro e w3 ⟨rfl, hb3⟩))
      go_ret
      exact ⟨by rw [← HAP.out]; rfl, bnext (bnext hb1 hb2) hb3⟩
end Go.Proofs.Ytmdpmjabjijjiaa
namespace Go.Proofs.Ytmdpmjabjijjiaa
set_option linter.unusedVariables false
set_option linter.unusedSimpArgs false
open Go.RowKit Go.Shelf Go.Maps
set_option maxRecDepth 100000 in
set_option maxHeartbeats 4000000 in
theorem refAlign_any (s : List UInt8) (m how : Int) (hs : s.length ≤ 10000) (hm : -9223372036854775808 ≤ m ∧ m ≤ 1000) (hh : -9223372036854775808 ≤ how ∧ how ≤ 9223372036854775807) (w : World) : Calls Try.prog 70 #[.string (S s), .int .i64 m, .int .i64 how] w fun e w' => e = .returned (.tuple #[.string (S (alignW s m how).1), .int .i64 (alignW s m how).2]) ∧ Below w.heap.size w w' := by
  have hu := usedW_bd s m
  by_cases h1 : m < 0
  · have hz : alignW s m how = ([], 170) := by unfold alignW; rw [if_pos (.inl h1)]
    rw [hz]
    clear hz
    go_enter Try.func70, Try.ntmps70
    go_wp2
    refine bodyPost_ret (results_tmp2 rfl _ _ _) rfl ?_
    exact ⟨rfl, Below.refl _ _⟩
  by_cases h2 : 500 < m
  · have hz : alignW s m how = ([], 170) := by unfold alignW; rw [if_pos (.inr h2)]
    have h1' : 0 ≤ m := by omega
    rw [hz]
    clear hz h1
    go_enter Try.func70, Try.ntmps70
    go_wp2
    refine bodyPost_ret (results_tmp2 rfl _ _ _) rfl ?_
    exact ⟨rfl, Below.refl _ _⟩
  have h1' : 0 ≤ m := by omega
  have h2' : m ≤ 500 := by omega
  have hmid : ∀ X : Prop, (m < 0 ∨ 500 < m) → X := fun X h => by omega
  by_cases g3 : how < 0
  · have hz : alignW s m how = ([], 1) := by unfold alignW; rw [if_neg (fun h => hmid _ h), if_pos (.inl g3)]
    rw [hz]
    clear hz hmid
    go_enter Try.func70, Try.ntmps70
    go_wp2
    refine bodyPost_ret (results_tmp2 rfl _ _ _) rfl ?_
    exact ⟨rfl, Below.refl _ _⟩
  by_cases g4 : 2 < how
  · have hz : alignW s m how = ([], 1) := by unfold alignW; rw [if_neg (fun h => hmid _ h), if_pos (.inr g4)]
    have g3' : 0 ≤ how := by omega
    rw [hz]
    clear hz g3 hmid
    go_enter Try.func70, Try.ntmps70
    go_wp2
    refine bodyPost_ret (results_tmp2 rfl _ _ _) rfl ?_
    exact ⟨rfl, Below.refl _ _⟩
  have C1 := (fun W => refCut17_any s m hs (by omega) W)
  have hT := cutW_len s m hs
  have C2 := (fun W => refColumns_any (cutW s m) (by omega) W)
  rw [cutW_cols] at C2
  obtain ⟨Z, hZ⟩ : ∃ Z, Z = alignW s m how := ⟨_, rfl⟩
  rw [← hZ]
  unfold alignW at hZ
  rw [if_neg (fun h => hmid _ h), if_neg (by omega)] at hZ
  obtain ⟨u, hu'⟩ : ∃ u, u = usedW s m := ⟨_, rfl⟩
  obtain ⟨T, hT'⟩ : ∃ T, T = cutW s m := ⟨_, rfl⟩
  rw [← hu'] at hu C2 hZ
  rw [← hT'] at hT C1 C2 hZ
  have C1 := Lib.hid C1
  have C2 := Lib.hid C2
  have hsT := S_size T
  have hTl : T.length ≤ 100000000 := by omega
  obtain ⟨v, hv⟩ : ∃ v, v = m - u := ⟨_, rfl⟩
  rw [← hv] at hZ
  have hvi : m - u = v := hv.symm
  have hv0 : 0 ≤ v ∧ v ≤ 500 := by omega
  have hwr : IntKind.i64.wrap (m - u) = v := by rw [hvi]; exact IntWalk.i64_in _ (by omega)
  have hwv : IntKind.i64.wrap v = v := IntWalk.i64_in _ (by omega)
  clear hu' hT' hT hv h1 h2 hmid
  have hb0 : blanksW 0 = [] := rfl
  have hsz : ∀ n : Int, n ≤ 500 → (S (blanksW n)).size ≤ 1000 := fun n hn => by rw [S_size, blanksW_len]; omega
  have hwz : IntKind.i64.wrap 0 = 0 := rfl
  by_cases g0 : how = 0
  · subst g0
    rw [if_pos rfl] at hZ
    subst hZ
    have hv00 : v - 0 = v := by omega
    have C3 := Lib.hid (fun W => refBlanks_any 0 (by omega) W)
    have C4 := Lib.hid (fun W => refBlanks_any v (by omega) W)
    have HAP := Lib.hid (S_append (blanksW 0) T)
    have HAP2 := Lib.hid (S_append (blanksW 0 ++ T) (blanksW v))
    have hBl := hsz 0 (by omega)
    have hBl2 := hsz v (by omega)
    obtain ⟨X, hX⟩ : ∃ X, X = blanksW 0 := ⟨_, rfl⟩
    obtain ⟨Y, hY⟩ : ∃ Y, Y = blanksW v := ⟨_, rfl⟩
    rw [← hX] at C3 HAP HAP2 hBl
    rw [← hY] at C4 HAP2 hBl2
    have HX := Lib.hid hX
    have HY := Lib.hid hY
    clear hX hY hsz
    go_enter Try.func70, Try.ntmps70
    go_wp2_with (first
      | (go_at_call 74; refine (C1.out _).mono ?_; rintro e w1 ⟨rfl, hb1⟩)
      | (go_at_call 31; refine (C2.out _).mono ?_; rintro e w2 ⟨rfl, hb2⟩)
      | (go_at_call 113; have hb3x := hb3; refine (C4.out _).mono ?_; rintro e w4 ⟨rfl, hb4⟩)
      | (go_at_call 113; refine (C3.out _).mono ?_; rintro e w3 ⟨rfl, hb3⟩))
    refine bodyPost_ret (results_tmp2 rfl _ _ _) rfl ?_
    refine ⟨?_, bnext (bnext (bnext hb1 hb2) hb3) hb4⟩
    have hfin : S X ++ S T ++ S Y = S (T ++ blanksW v) := by rw [HAP.out, HAP2.out]; rw [HX.out, HY.out]; rfl
    rw [← hfin]; rfl
  by_cases g1 : how = 1
  · subst g1
    rw [if_neg (by omega), if_pos rfl] at hZ
    subst hZ
    have hvv : v - v = 0 := by omega
    have C3 := Lib.hid (fun W => refBlanks_any v (by omega) W)
    have C4 := Lib.hid (fun W => refBlanks_any 0 (by omega) W)
    have HAP := Lib.hid (S_append (blanksW v) T)
    have HAP2 := Lib.hid (S_append (blanksW v ++ T) (blanksW 0))
    have hBl := hsz v (by omega)
    have hBl2 := hsz 0 (by omega)
    obtain ⟨X, hX⟩ : ∃ X, X = blanksW v := ⟨_, rfl⟩
    obtain ⟨Y, hY⟩ : ∃ Y, Y = blanksW 0 := ⟨_, rfl⟩
    rw [← hX] at C3 HAP HAP2 hBl
    rw [← hY] at C4 HAP2 hBl2
    have HX := Lib.hid hX
    have HY := Lib.hid hY
    clear hX hY hsz
    go_enter Try.func70, Try.ntmps70
    go_wp2_with (first
      | (go_at_call 74; refine (C1.out _).mono ?_; rintro e w1 ⟨rfl, hb1⟩)
      | (go_at_call 31; refine (C2.out _).mono ?_; rintro e w2 ⟨rfl, hb2⟩)
      | (go_at_call 113; have hb3x := hb3; refine (C4.out _).mono ?_; rintro e w4 ⟨rfl, hb4⟩)
      | (go_at_call 113; refine (C3.out _).mono ?_; rintro e w3 ⟨rfl, hb3⟩))
    refine bodyPost_ret (results_tmp2 rfl _ _ _) rfl ?_
    refine ⟨?_, bnext (bnext (bnext hb1 hb2) hb3) hb4⟩
    have hfin : S X ++ S T ++ S Y = S (blanksW v ++ T) := by rw [HAP.out, HAP2.out]; rw [HX.out, HY.out]; exact congrArg S (List.append_nil _)
    rw [← hfin]; rfl
  · obtain rfl : how = 2 := by omega
    rw [if_neg (by omega), if_neg (by omega)] at hZ
    obtain ⟨x, hx⟩ : ∃ x, x = v / 2 := ⟨_, rfl⟩
    obtain ⟨y, hy⟩ : ∃ y, y = v - x := ⟨_, rfl⟩
    rw [← hx, ← hy] at hZ
    subst hZ
    have hxb : 0 ≤ x ∧ x ≤ v := by omega
    have htd : v.tdiv 2 = x := by rw [Int.tdiv_eq_ediv_of_nonneg hv0.1]; exact hx.symm
    have hwx : IntKind.i64.wrap x = x := IntWalk.i64_in _ (by omega)
    have hvx : v - x = y := hy.symm
    have hwy : IntKind.i64.wrap (v - x) = y := by rw [hvx]; exact IntWalk.i64_in _ (by omega)
    have C3 := Lib.hid (fun W => refBlanks_any x (by omega) W)
    have C4 := Lib.hid (fun W => refBlanks_any y (by omega) W)
    have HAP := Lib.hid (S_append (blanksW x) T)
    have HAP2 := Lib.hid (S_append (blanksW x ++ T) (blanksW y))
    have hBl := hsz x (by omega)
    have hBl2 := hsz y (by omega)
    obtain ⟨X, hX⟩ : ∃ X, X = blanksW x := ⟨_, rfl⟩
    obtain ⟨Y, hY⟩ : ∃ Y, Y = blanksW y := ⟨_, rfl⟩
    rw [← hX] at C3 HAP HAP2 hBl
    rw [← hY] at C4 HAP2 hBl2
    have HX := Lib.hid hX
    have HY := Lib.hid hY
    clear hx hy
    clear hX hY hsz
    go_enter Try.func70, Try.ntmps70
    go_wp2_with (first
      | (go_at_call 74; refine (C1.out _).mono ?_; rintro e w1 ⟨rfl, hb1⟩)
      | (go_at_call 31; refine (C2.out _).mono ?_; rintro e w2 ⟨rfl, hb2⟩)
      | (go_at_call 113; have hb3x := hb3; refine (C4.out _).mono ?_; rintro e w4 ⟨rfl, hb4⟩)
      | (go_at_call 113; refine (C3.out _).mono ?_; rintro e w3 ⟨rfl, hb3⟩))
    refine bodyPost_ret (results_tmp2 rfl _ _ _) rfl ?_
    refine ⟨?_, bnext (bnext (bnext hb1 hb2) hb3) hb4⟩
    have hfin : S X ++ S T ++ S Y = S (blanksW x ++ T ++ blanksW y) := by rw [HAP.out, HAP2.out]; rw [HX.out, HY.out]
    rw [← hfin]; rfl
theorem timesL_succ (t : List UInt8) (k : Nat) : timesL t (k + 1) = timesL t k ++ t := by
  unfold timesL
  rw [List.replicate_succ', List.flatten_append]; simp
set_option maxRecDepth 100000 in
set_option maxHeartbeats 4000000 in
theorem refFill_any (s : List UInt8) (m : Int) (hs : s.length ≤ 10000) (hm : -9223372036854775808 ≤ m ∧ m ≤ 1000) (w : World) : Calls Try.prog 72 #[.string (S s), .int .i64 m] w fun e w' => e = .returned (.tuple #[.string (S (fillW s m).1), .int .i64 (fillW s m).2]) ∧ Below w.heap.size w w' := by
  have hfl := flat_len64 s
  by_cases h1 : m < 0
  · have hz : fillW s m = ([], 170) := by unfold fillW; rw [if_pos (.inl h1)]
    rw [hz]
    clear hz
    go_enter Try.func72, Try.ntmps72
    go_wp2
    refine bodyPost_ret (results_tmp2 rfl _ _ _) rfl ?_
    exact ⟨rfl, Below.refl _ _⟩
  by_cases h2 : 500 < m
  · have hz : fillW s m = ([], 170) := by unfold fillW; rw [if_pos (.inr h2)]
    have h1' : 0 ≤ m := by omega
    rw [hz]
    clear hz h1
    go_enter Try.func72, Try.ntmps72
    go_wp2
    refine bodyPost_ret (results_tmp2 rfl _ _ _) rfl ?_
    exact ⟨rfl, Below.refl _ _⟩
  have h1' : 0 ≤ m := by omega
  have h2' : m ≤ 500 := by omega
  have C1 := Lib.hid (fun W => refFlat_any s (by omega) W)
  have C2 := (fun W => refColumns_any (flatL s) (by omega) W)
  have hq0 := sumC_bd (cutL (flatL s))
  have hql := cutL_len (flatL s)
  obtain ⟨Z, hZ⟩ : ∃ Z, Z = fillW s m := ⟨_, rfl⟩
  rw [← hZ]
  unfold fillW at hZ
  rw [if_neg (by omega)] at hZ
  obtain ⟨q, hq⟩ : ∃ q, q = sumC (cutL (flatL s)) := ⟨_, rfl⟩
  rw [← hq] at C2 hZ hq0
  have C2 := Lib.hid C2
  have hqb : 0 ≤ q ∧ q ≤ 2000000 := by omega
  obtain ⟨t, ht⟩ : ∃ t, t = flatL s := ⟨_, rfl⟩
  rw [← ht] at C1 C2 hZ hfl
  have htl : t.length ≤ 640000 := by omega
  have HZ := Lib.hid hZ
  clear hq h1 h2 hq0 hql ht hfl hZ
  go_enter Try.func72, Try.ntmps72
  go_wp2_with (first
    | (go_at_call 20; refine (C1.out _).mono ?_; rintro e w1 ⟨rfl, hb1⟩)
    | (go_at_call 31; refine (C2.out _).mono ?_; rintro e w2 ⟨rfl, hb2⟩; have hB2 := bnext hb1 hb2))
  go_loopw [8, 9] (fun o k wr => ∃ (j : Nat) (K : Int), o = .string (S (timesL t j)) ∧ k = .int .i64 K ∧ Hid (K = (j : Int) * q) ∧ (0 ≤ K ∧ K ≤ m) ∧ j ≤ 500 ∧ Hid (q = 0 → j = 0) ∧ Hid ((j : Int) ≤ K ∨ j = 0) ∧ Below w.heap.size w wr) (fun _ k _ => (m - intOf k).toNat)
  case atStart => exact ⟨0, 0, rfl, rfl, Lib.hid (by simp), ⟨Int.le_refl _, h1'⟩, Nat.zero_le _, Lib.hid (fun _ => rfl), Lib.hid (.inr rfl), hB2⟩
  case round =>
    obtain ⟨j, K, rfl, rfl, hK, hKb, hjb, hj0, hjK, hbr⟩ := hrel
    have hwr : IntKind.i64.wrap (m - K) = m - K := IntWalk.i64_in _ (by omega)
    have hwk : IntKind.i64.wrap (K + q) = K + q := IntWalk.i64_in _ (by omega)
    have hmul : j * t.length ≤ 500 * 640000 := Nat.mul_le_mul hjb htl
    have hTs : (S (timesL t j)).size ≤ 1000000000 := by rw [S_size, timesL_len]; omega
    have hst := S_size t
    by_cases g1 : 0 < q
    · by_cases g2 : q ≤ m - K
      · have HAP := Lib.hid (S_append (timesL t j) t)
        have hKn : K + q = ((j + 1 : Nat) : Int) * q := by rw [hK.out]; push_cast; rw [Int.add_mul]; omega
        have HKN := Lib.hid hKn
        have hj1 : (j : Int) + 1 ≤ K + q := by rcases hjK.out with h | h <;> omega
        have hjn : j + 1 ≤ 500 := by omega
        clear hKn
        go_wp2
        go_roundw
        case rel => exact ⟨j + 1, K + q, by rw [timesL_succ, ← HAP.out], rfl, Lib.hid HKN.out, ⟨by omega, by omega⟩, hjn, Lib.hid (fun h => by omega), Lib.hid (.inl (by omega)), hbr⟩
        case measure => simp [intOf]; omega
      · have g2' : m - K < q := by omega
        have hu := (Int.ediv_emod_unique (a := m) (b := q) (q := (j : Int)) (r := m - K) g1).2 ⟨by rw [hK.out, Int.mul_comm q]; omega, by omega, g2'⟩
        have hz : Z = (timesL t j ++ blanksW (m - K), 0) := by
          rw [HZ.out, if_neg (by omega), hu.1, hu.2]; simp
        subst hz
        have C3 := Lib.hid (fun W => refBlanks_any (m - K) (by omega) W)
        have HAP := Lib.hid (S_append (timesL t j) (blanksW (m - K)))
        have hBl : (S (blanksW (m - K))).size ≤ 1000 := by rw [S_size, blanksW_len]; omega
        clear hu g2
        go_wp2_with (go_at_call 113; refine (C3.out _).mono ?_; rintro e w3 ⟨rfl, hb3⟩)
        refine bodyPost_ret (results_tmp2 rfl _ _ _) rfl ?_
        exact ⟨by rw [← HAP.out]; rfl, bto hbr hb3 hbr.size⟩
    · obtain rfl : q = 0 := by omega
      obtain rfl : j = 0 := hj0.out rfl
      obtain rfl : K = 0 := by have := hK.out; simpa using this
      have hz : Z = (blanksW m, 0) := by rw [HZ.out, if_pos rfl]
      subst hz
      have C3 := Lib.hid (fun W => refBlanks_any m (by omega) W)
      have hni : S (timesL t 0) ++ S (blanksW m) = S (blanksW m) := S_append [] (blanksW m)
      have hBl : (S (blanksW m)).size ≤ 1000 := by rw [S_size, blanksW_len]; omega
      have hm0 : m - 0 = m := by omega
      have hwm : IntKind.i64.wrap m = m := IntWalk.i64_in _ (by omega)
      clear g1
      go_wp2_with (go_at_call 113; refine (C3.out _).mono ?_; rintro e w3 ⟨rfl, hb3⟩)
      refine bodyPost_ret (results_tmp2 rfl _ _ _) rfl ?_
      exact ⟨rfl, bto hbr hb3 hbr.size⟩
end Go.Proofs.Ytmdpmjabjijjiaa
