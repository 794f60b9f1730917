/- The law EscFixed. -/
import Derived.Test.YtcihcjlaamfjfaaFixed1
namespace Go.Proofs.Ytcihcjlaamfjfaa
open Go.RowKit Go.Maps
theorem allL_len (on : Bool) : (allL on).length ≤ 40 := by cases on <;> decide
set_option maxRecDepth 100000 in
set_option maxHeartbeats 1000000 in
theorem escFixed_law (on : Bool) (n : Int) (w : World) (_ : (Lit.int .i64 n).wf = true) : Calls Try.prog 11 #[.bool on, .int .i64 n] w fun e w' => e = .returned (.bool true) ∧ Below w.heap.size w w' := by
  obtain ⟨Z, hZ⟩ : ∃ Z, Z = S (allL on) := ⟨_, rfl⟩
  obtain ⟨Y, hY⟩ : ∃ Y, Y = byL n 65 ++ colL n ++ moveL (heldI 0) (heldI 0) (heldI n) (heldI n) := ⟨_, rfl⟩
  have hYl : Y.length ≤ 100 := by
    have h1 := byL_len n 65
    have h2 := colL_len n
    have h3 := moveL_le (heldI 0) (heldI 0) (heldI n) (heldI n)
    rw [hY]; simp only [List.length_append]; omega
  have s1 := S_le (byL n 65) 7 (byL_len _ _)
  have s2 := S_le (colL n) 7 (colL_len _)
  have s3 := S_le (moveL (heldI 0) (heldI 0) (heldI n) (heldI n)) 40 (moveL_le _ _ _ _)
  have hYs : S (byL n 65) ++ S (colL n) ++ S (moveL (heldI 0) (heldI 0) (heldI n) (heldI n)) = S Y := by rw [S_append, S_append, hY]
  have c1 : ∀ w, Calls Try.prog 43 #[.string Z] w fun r w' => r = .returned (.string ⟨#[]⟩) ∧ Below w.heap.size w w' := fun w => by
    have := strip_any (allL on) w (by have := allL_len on; omega)
    rw [strip_all] at this
    rw [hZ]; exact this
  have c2 : ∀ w, Calls Try.prog 43 #[.string (S Y)] w fun r w' => r = .returned (.string ⟨#[]⟩) ∧ Below w.heap.size w w' := fun w => by
    have := strip_any Y w (by omega)
    rw [hY, (((gone_by n 65 (by decide) (by decide)).app (gone_col n)).app (gone_move _ _ _ _)).empty, ← hY] at this
    exact this
  have c3 : ∀ w, Calls Try.prog 33 #[.int .i64 n] w fun r w' => r = .returned (.string (S (byL n 65))) ∧ Below w.heap.size w w' := fun w => up_any n w
  have c4 : ∀ w, Calls Try.prog 38 #[.int .i64 n] w fun r w' => r = .returned (.string (S (colL n))) ∧ Below w.heap.size w w' := fun w => column_any n w
  have c5 : ∀ w, Calls Try.prog 40 #[.int .i64 0, .int .i64 0, .int .i64 n, .int .i64 n] w fun r w' => r = .returned (.string (S (moveL (heldI 0) (heldI 0) (heldI n) (heldI n)))) ∧ Below w.heap.size w w' := fun w => move_any 0 0 n n w
  revert s1 s2 s3 hYs c3 c4 c5
  generalize byL n 65 = X1
  generalize colL n = X2
  generalize moveL (heldI 0) (heldI 0) (heldI n) (heldI n) = X3
  intro s1 s2 s3 hYs c3 c4 c5
  have Hz := Lib.hid hZ
  have C1 := Lib.hid c1
  have C2 := Lib.hid c2
  have C3 := Lib.hid c3
  have C4 := Lib.hid c4
  have C5 := Lib.hid c5
  have HYs := Lib.hid hYs
  have m1 := S_le (modeL [50, 53] on) 10 (by rw [modeL_len]; simp)
  have m2 := S_le (modeL [50, 48, 48, 52] on) 10 (by rw [modeL_len]; simp)
  have k1 := S_le [27, 91, 75] 10 (by simp)
  have k2 := S_le [27, 91, 74] 10 (by simp)
  have k3 := S_le [7] 10 (by simp)
  clear hZ hY hYl c1 c2 c3 c4 c5 hYs
  go_enter Try.func11, Try.ntmps11
  go_upto_region 1 with fail
  go_cut [5] (fun v wx => v = .string Z ∧ wx = w)
  case first =>
    go_wp2_with (first
      | (go_at_call 55; refine (eraseLine_any _).mono ?_; rintro e w2 ⟨rfl, rfl⟩)
      | (go_at_call 56; refine (eraseBelow_any _).mono ?_; rintro e w2 ⟨rfl, rfl⟩)
      | (go_at_call 57; refine (seen_any _ _).mono ?_; rintro e w2 ⟨rfl, rfl⟩)
      | (go_at_call 58; refine (paste_any _ _).mono ?_; rintro e w2 ⟨rfl, rfl⟩)
      | (go_at_call 59; refine (bell_any _).mono ?_; rintro e w2 ⟨rfl, rfl⟩))
    go_meet
    exact ⟨congrArg Value.string (by rw [Hz.out]; simp only [S_append]; rfl), rfl⟩
  case rest =>
    obtain ⟨rfl, rfl⟩ := hcut
    go_upto_region 2 with fail
    go_cut [6] (fun v wx => v = .string Z ∧ Below wc.heap.size wc wx)
    case first =>
      go_wp2_with fail
      refine (refErase_any 75 _).mono ?_
      rintro e w2 ⟨rfl, hb1⟩
      go_wp2_with fail
      refine (refErase_any 74 _).mono ?_
      rintro e w3 ⟨rfl, hb2⟩
      go_wp2_with fail
      refine (refMode_any [50, 53] _ _ (by simp)).mono ?_
      rintro e w4 ⟨rfl, hb3⟩
      go_wp2_with fail
      refine (refMode_any [50, 48, 48, 52] _ _ (by simp)).mono ?_
      rintro e w5 ⟨rfl, hb4⟩
      go_wp2_with fail
      go_meet
      exact ⟨congrArg Value.string (by rw [Hz.out]; show S [27, 91, 75] ++ S [27, 91, 74] ++ S (modeL [50, 53] on) ++ S (modeL [50, 48, 48, 52] on) ++ S [7] = _; simp only [S_append]; rfl), bnext (bnext (bnext hb1 hb2) hb3) hb4⟩
    case rest =>
      obtain ⟨rfl, hb0⟩ := hcut
      go_wp2_with fail
      refine (C1.out _).mono ?_
      rintro e w1 ⟨rfl, hb1⟩
      go_wp2_with fail
      refine (C3.out _).mono ?_
      rintro e w2 ⟨rfl, hb2⟩
      go_wp2_with fail
      refine (C4.out _).mono ?_
      rintro e w3 ⟨rfl, hb3⟩
      go_wp2_with fail
      refine (C5.out _).mono ?_
      rintro e w4 ⟨rfl, hb4⟩
      go_wp2_with fail
      rw [HYs.out]
      refine (C2.out _).mono ?_
      rintro e w5 ⟨rfl, hb5⟩
      go_wp2_with (go_at_call 42; refine (awake06_any _).mono ?_; rintro e w6 ⟨rfl, hb6⟩)
      go_ret
      exact ⟨rfl, bnext (bnext (bnext (bnext (bnext (bnext hb0 hb1) hb2) hb3) hb4) hb5) hb6⟩
end Go.Proofs.Ytcihcjlaamfjfaa
