/- The contracts of moves from a place to another one, of the program and of its reference. -/
import Derived.Test.YtcihcjlaamfjfaaEsc3
namespace Go.Proofs.Ytcihcjlaamfjfaa
open Go.RowKit

theorem heldI_bd (n : Int) : 0 ≤ heldI n ∧ heldI n ≤ 9998 := by unfold heldI; omega
theorem S_le (l : List UInt8) (k : Nat) (h : l.length ≤ k) : (S l).size ≤ k := by rw [S_size]; exact h
set_option maxRecDepth 100000 in
set_option maxHeartbeats 1000000 in
theorem move_any (row col toRow toCol : Int) (w : World) : Calls Try.prog 40 #[.int .i64 row, .int .i64 col, .int .i64 toRow, .int .i64 toCol] w fun r w' => r = .returned (.string (S (moveL (heldI row) (heldI col) (heldI toRow) (heldI toCol)))) ∧ Below w.heap.size w w' := by
  have b1 := heldI_bd row
  have b2 := heldI_bd col
  have b3 := heldI_bd toRow
  have b4 := heldI_bd toCol
  have c1 := held_any row w
  have c2 := held_any col w
  have c3 := held_any toRow w
  have c4 := held_any toCol w
  revert b1 b2 b3 b4 c1 c2 c3 c4
  generalize heldI row = r
  generalize heldI col = c
  generalize heldI toRow = tr
  generalize heldI toCol = tc
  intro b1 b2 b3 b4 c1 c2 c3 c4
  have C1 := Lib.hid c1
  have C2 := Lib.hid c2
  have C3 := Lib.hid c3
  have C4 := Lib.hid c4
  clear c1 c2 c3 c4
  obtain ⟨A, hA⟩ : ∃ A, byL (r - tr) 65 = A := ⟨_, rfl⟩
  obtain ⟨B, hB⟩ : ∃ B, byL (tr - r) 66 = B := ⟨_, rfl⟩
  obtain ⟨C, hC⟩ : ∃ C, byL (tc - c) 67 = C := ⟨_, rfl⟩
  obtain ⟨D, hD⟩ : ∃ D, byL (c - tc) 68 = D := ⟨_, rfl⟩
  obtain ⟨E, hE⟩ : ∃ E, colL tc = E := ⟨_, rfl⟩
  have sA := S_le A 7 (hA ▸ byL_len _ _)
  have sB := S_le B 7 (hB ▸ byL_len _ _)
  have sC := S_le C 7 (hC ▸ byL_len _ _)
  have sD := S_le D 7 (hD ▸ byL_len _ _)
  have sE := S_le E 7 (hE ▸ colL_len _)
  have hfin : moveL r c tr tc = if c = tc then A ++ B else if tc = 0 then A ++ B ++ [13] else if E.length < (C ++ D).length then A ++ B ++ E else A ++ B ++ (C ++ D) := by unfold moveL; rw [hA, hB, hC, hD, hE]
  have Hfin := Lib.hid hfin
  have HA := Lib.hid (hA ▸ up_any (r - tr))
  have HB := Lib.hid (hB ▸ down_any (tr - r))
  have HC := Lib.hid (hC ▸ right_any (tc - c))
  have HD := Lib.hid (hD ▸ left_any (c - tc))
  have HE := Lib.hid (hE ▸ column_any tc)
  clear hfin hA hB hC hD hE
  by_cases h1 : c = tc
  · subst h1
    rw [if_pos rfl] at Hfin
    go_enter Try.func40, Try.ntmps40
    go_wp2_with fail
    refine C1.out.mono ?_
    rintro e w' ⟨rfl, rfl⟩
    go_wp2_with fail
    refine C2.out.mono ?_
    rintro e w' ⟨rfl, rfl⟩
    go_wp2_with fail
    refine C3.out.mono ?_
    rintro e w' ⟨rfl, rfl⟩
    go_wp2_with fail
    refine C4.out.mono ?_
    rintro e w' ⟨rfl, rfl⟩
    go_wp2_with fail
    refine (HA.out _).mono ?_
    rintro e w1 ⟨rfl, hb1⟩
    go_wp2_with fail
    refine (HB.out _).mono ?_
    rintro e w2 ⟨rfl, hb2⟩
    go_wp2
    go_ret
    exact ⟨ret_str (by rw [Hfin.out, S_append]), bnext hb1 hb2⟩
  · rw [if_neg h1] at Hfin
    have h1b : (c == tc) = false := by simpa using h1
    clear h1
    by_cases h2 : tc = 0
    · subst h2
      rw [if_pos rfl] at Hfin
      go_enter Try.func40, Try.ntmps40
      go_wp2_with fail
      refine C1.out.mono ?_
      rintro e w' ⟨rfl, rfl⟩
      go_wp2_with fail
      refine C2.out.mono ?_
      rintro e w' ⟨rfl, rfl⟩
      go_wp2_with fail
      refine C3.out.mono ?_
      rintro e w' ⟨rfl, rfl⟩
      go_wp2_with fail
      refine C4.out.mono ?_
      rintro e w' ⟨rfl, rfl⟩
      go_wp2_with fail
      refine (HA.out _).mono ?_
      rintro e w1 ⟨rfl, hb1⟩
      go_wp2_with fail
      refine (HB.out _).mono ?_
      rintro e w2 ⟨rfl, hb2⟩
      go_wp2
      go_ret
      exact ⟨ret_str (by rw [Hfin.out, ← S_append, ← S_append]; rfl), bnext hb1 hb2⟩
    · rw [if_neg h2] at Hfin
      have h2b : (tc == 0) = false := by simpa using h2
      clear h2
      go_enter Try.func40, Try.ntmps40
      go_wp2_with fail
      refine C1.out.mono ?_
      rintro e w' ⟨rfl, rfl⟩
      go_wp2_with fail
      refine C2.out.mono ?_
      rintro e w' ⟨rfl, rfl⟩
      go_wp2_with fail
      refine C3.out.mono ?_
      rintro e w' ⟨rfl, rfl⟩
      go_wp2_with fail
      refine C4.out.mono ?_
      rintro e w' ⟨rfl, rfl⟩
      go_wp2_with fail
      refine (HA.out _).mono ?_
      rintro e w1 ⟨rfl, hb1⟩
      go_wp2_with fail
      refine (HB.out _).mono ?_
      rintro e w2 ⟨rfl, hb2⟩
      go_wp2_with fail
      refine (HC.out _).mono ?_
      rintro e w3 ⟨rfl, hb3⟩
      go_wp2_with fail
      refine (HD.out _).mono ?_
      rintro e w4 ⟨rfl, hb4⟩
      go_wp2_with fail
      refine (HE.out _).mono ?_
      rintro e w5 ⟨rfl, hb5⟩
      have hB5 := bnext (bnext (bnext (bnext hb1 hb2) hb3) hb4) hb5
      clear hb1 hb2 hb3 hb4 hb5
      go_wp2
      · rename_i h
        go_ret
        exact ⟨ret_str (by simp only [S_size] at h; rw [Hfin.out, if_pos (by simp; omega), ← S_append, ← S_append]), hB5⟩
      · rename_i h
        go_ret
        exact ⟨ret_str (by simp only [S_size] at h; rw [Hfin.out, if_neg (by simp; omega), ← S_append (A ++ B), ← S_append A B, ← S_append C D]), hB5⟩
set_option maxRecDepth 100000 in
set_option maxHeartbeats 1000000 in
theorem refMove_any (row col toRow toCol : Int) (w : World) : Calls Try.prog 41 #[.int .i64 row, .int .i64 col, .int .i64 toRow, .int .i64 toCol] w fun r w' => r = .returned (.string (S (moveL (heldI row) (heldI col) (heldI toRow) (heldI toCol)))) ∧ Below w.heap.size w w' := by
  have b1 := heldI_bd row
  have b2 := heldI_bd col
  have b3 := heldI_bd toRow
  have b4 := heldI_bd toCol
  have c1 := place_any row w
  have c2 := place_any col w
  have c3 := place_any toRow w
  have c4 := place_any toCol w
  revert b1 b2 b3 b4 c1 c2 c3 c4
  generalize heldI row = r
  generalize heldI col = c
  generalize heldI toRow = tr
  generalize heldI toCol = tc
  intro b1 b2 b3 b4 c1 c2 c3 c4
  have C1 := Lib.hid c1
  have C2 := Lib.hid c2
  have C3 := Lib.hid c3
  have C4 := Lib.hid c4
  clear c1 c2 c3 c4
  obtain ⟨A, hA⟩ : ∃ A, byL (r - tr) 65 = A := ⟨_, rfl⟩
  obtain ⟨B, hB⟩ : ∃ B, byL (tr - r) 66 = B := ⟨_, rfl⟩
  obtain ⟨C, hC⟩ : ∃ C, byL (tc - c) 67 = C := ⟨_, rfl⟩
  obtain ⟨D, hD⟩ : ∃ D, byL (c - tc) 68 = D := ⟨_, rfl⟩
  obtain ⟨E, hE⟩ : ∃ E, colL tc = E := ⟨_, rfl⟩
  have sA := S_le A 7 (hA ▸ byL_len _ _)
  have sB := S_le B 7 (hB ▸ byL_len _ _)
  have sC := S_le C 7 (hC ▸ byL_len _ _)
  have sD := S_le D 7 (hD ▸ byL_len _ _)
  have sE := S_le E 7 (hE ▸ colL_len _)
  have hfin : moveL r c tr tc = if c = tc then A ++ B else if tc = 0 then A ++ B ++ [13] else if E.length < (C ++ D).length then A ++ B ++ E else A ++ B ++ (C ++ D) := by unfold moveL; rw [hA, hB, hC, hD, hE]
  have Hfin := Lib.hid hfin
  have HA := Lib.hid (hA ▸ refBy_any (r - tr) 65)
  have HB := Lib.hid (hB ▸ refBy_any (tr - r) 66)
  have HC := Lib.hid (hC ▸ refBy_any (tc - c) 67)
  have HD := Lib.hid (hD ▸ refBy_any (c - tc) 68)
  have HE := Lib.hid (hE ▸ refColumn_any tc)
  clear hfin hA hB hC hD hE
  have hcv := fun W => conv_one W 13 13 rfl
  have s13 := S_le [13] 1 (by simp)
  by_cases h1 : c = tc
  · subst h1
    rw [if_pos rfl] at Hfin
    go_enter Try.func41, Try.ntmps41
    go_wp2_with fail
    refine C1.out.mono ?_
    rintro e w' ⟨rfl, rfl⟩
    go_wp2_with fail
    refine C2.out.mono ?_
    rintro e w' ⟨rfl, rfl⟩
    go_wp2_with fail
    refine C3.out.mono ?_
    rintro e w' ⟨rfl, rfl⟩
    go_wp2_with fail
    refine C4.out.mono ?_
    rintro e w' ⟨rfl, rfl⟩
    go_wp2_with fail
    refine (HA.out _).mono ?_
    rintro e w1 ⟨rfl, hb1⟩
    go_wp2_with fail
    refine (HB.out _).mono ?_
    rintro e w2 ⟨rfl, hb2⟩
    go_wp2
    go_ret
    exact ⟨ret_str (by rw [Hfin.out, S_append]), bnext hb1 hb2⟩
  · rw [if_neg h1] at Hfin
    have h1b : (c == tc) = false := by simpa using h1
    clear h1
    by_cases h2 : tc = 0
    · subst h2
      rw [if_pos rfl] at Hfin
      go_enter Try.func41, Try.ntmps41
      go_wp2_with fail
      refine C1.out.mono ?_
      rintro e w' ⟨rfl, rfl⟩
      go_wp2_with fail
      refine C2.out.mono ?_
      rintro e w' ⟨rfl, rfl⟩
      go_wp2_with fail
      refine C3.out.mono ?_
      rintro e w' ⟨rfl, rfl⟩
      go_wp2_with fail
      refine C4.out.mono ?_
      rintro e w' ⟨rfl, rfl⟩
      go_wp2_with fail
      refine (HA.out _).mono ?_
      rintro e w1 ⟨rfl, hb1⟩
      go_wp2_with fail
      refine (HB.out _).mono ?_
      rintro e w2 ⟨rfl, hb2⟩
      go_wp2
      go_ret
      exact ⟨ret_str (by rw [Hfin.out, ← S_append, ← S_append]), (bnext hb1 hb2).alloc (bnext hb1 hb2).size _⟩
    · rw [if_neg h2] at Hfin
      have h2b : (tc == 0) = false := by simpa using h2
      clear h2
      go_enter Try.func41, Try.ntmps41
      go_wp2_with fail
      refine C1.out.mono ?_
      rintro e w' ⟨rfl, rfl⟩
      go_wp2_with fail
      refine C2.out.mono ?_
      rintro e w' ⟨rfl, rfl⟩
      go_wp2_with fail
      refine C3.out.mono ?_
      rintro e w' ⟨rfl, rfl⟩
      go_wp2_with fail
      refine C4.out.mono ?_
      rintro e w' ⟨rfl, rfl⟩
      go_wp2_with fail
      refine (HA.out _).mono ?_
      rintro e w1 ⟨rfl, hb1⟩
      go_wp2_with fail
      refine (HB.out _).mono ?_
      rintro e w2 ⟨rfl, hb2⟩
      go_wp2_with fail
      refine (HC.out _).mono ?_
      rintro e w3 ⟨rfl, hb3⟩
      go_wp2_with fail
      refine (HD.out _).mono ?_
      rintro e w4 ⟨rfl, hb4⟩
      go_wp2_with fail
      refine (HE.out _).mono ?_
      rintro e w5 ⟨rfl, hb5⟩
      have hB5 := bnext (bnext (bnext (bnext hb1 hb2) hb3) hb4) hb5
      clear hb1 hb2 hb3 hb4 hb5
      go_wp2
      · rename_i h
        go_ret
        exact ⟨ret_str (by simp only [S_size] at h; rw [Hfin.out, if_pos (by simp; omega), ← S_append, ← S_append]), hB5⟩
      · rename_i h
        go_ret
        exact ⟨ret_str (by simp only [S_size] at h; rw [Hfin.out, if_neg (by simp; omega), ← S_append (A ++ B), ← S_append A B, ← S_append C D]), hB5⟩
end Go.Proofs.Ytcihcjlaamfjfaa
