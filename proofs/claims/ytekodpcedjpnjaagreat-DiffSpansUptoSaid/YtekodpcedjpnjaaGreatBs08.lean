/- The contracts of sequences and moves, of the program and of its reference. The contracts of moves and columns, of the program and of its reference; the law EscMoves. The contracts of moves from a place to another one, of the program and of its reference. -/
import Derived.Test.YtekodpcedjpnjaaGreatBs03
set_option linter.unusedVariables false
set_option linter.unusedSimpArgs false
namespace Go.Proofs.YtekodpcedjpnjaaGreat
open Go.RowKit
def i64s (L : List Int) : List Value := L.map (Value.int .i64)
theorem i64s_length (L : List Int) : (i64s L).length = L.length := by simp [i64s]
theorem i64s_nth (L : List Int) (j : Nat) (h : j < L.length) : nth undef (i64s L) j = .int .i64 (nth 0 L j) := nth_map _ _ _ _ h
theorem ints_at {B : Nat} {w : World} {a : Option Addr} {l : List Int} (h : RowAt B w a (i64s l)) (k : Nat) (hk : k < l.length) : ∃ b off, a = some ⟨b, off, none⟩ ∧ b < B ∧ w.cell? ⟨b, off + k, none⟩ = some (.int .i64 (nth 0 l k)) := by
  obtain ⟨b, off, e, hb, hc⟩ := h k (by rw [i64s_length]; exact hk)
  exact ⟨b, off, e, hb, by rw [hc, i64s_nth _ _ hk]⟩
def nines : List UInt8 := decL (9999 : Int).toNat
theorem dec_nines (w : World) : Calls Tryz.prog 272 #[.int .i64 9999] w fun e w' => e = .returned (.string (S nines)) ∧ Below w.heap.size w w' := dec_any 9999 w (by omega) (by omega)
set_option maxRecDepth 100000 in
set_option maxHeartbeats 1000000 in
theorem sequence_any (E : List UInt8) (l : List Int) (a : Option Addr) (n c : Nat) (w : World) (hE : E.length ≤ 100) (hn : n = l.length) (hl : l.length ≤ 20) (hr : RowAt w.heap.size w a (i64s l)) (h0 : ∀ k, k < l.length → 0 ≤ nth 0 l k) :
    Calls Tryz.prog 248 #[.string (S E), .slice a n c] w fun e w' => e = .returned (.string (S (seqL l E))) ∧ Below w.heap.size w w' := by
  subst hn
  have H0 := Lib.hid h0
  clear h0
  have hEs : (S E).size ≤ 100 := by rw [S_size]; exact hE
  go_enter Tryz.func248, Tryz.ntmps248
  go_wp2
  go_loopw [10, 5] (fun i s wr => ∃ k : Nat, k ≤ l.length ∧ i = .int .i64 k ∧ s = .string (S ([27, 91] ++ sepTo l k)) ∧ Below w.heap.size w wr) (fun i _ _ => l.length - (intOf i).toNat)
  case atStart => exact ⟨0, by omega, rfl, rfl, Below.refl _ _⟩
  case round =>
    obtain ⟨k, hk, rfl, rfl, hb⟩ := hrel
    have hsz := sepTo_len l k
    have hsz2 : (S ([27, 91] ++ sepTo l k)).size ≤ 200 := by rw [S_size]; simp; omega
    obtain ⟨P, hP⟩ : ∃ P, P = [27, 91] ++ sepTo l k := ⟨_, rfl⟩
    rw [← hP] at hsz2 ⊢
    have HP := Lib.hid hP
    clear hP hsz
    by_cases hlt : k < l.length
    · obtain ⟨b, off, rfl, _, hc⟩ := ints_at (hr.below hb) k hlt
      have h00 := H0.out k hlt
      have hs : sepTo l (k + 1) = sepTo l k ++ (if k = 0 then [] else [59]) ++ decL (min (nth 0 l k) 9999).toNat := rfl
      obtain ⟨m, hm⟩ : ∃ m, m = nth 0 l k := ⟨_, rfl⟩
      rw [← hm] at hc h00 hs
      have Hs := Lib.hid hs
      clear hs hm
      have hfin : ∀ (d : List UInt8), d = decL (min m 9999).toNat → S (P ++ (if k = 0 then [] else [59]) ++ d) = S ([27, 91] ++ sepTo l (k + 1)) := fun d hd => by rw [Hs.out, HP.out, hd]; simp
      have Hfin := Lib.hid hfin
      clear hfin
      by_cases hbig : m ≤ 9999
      · have hd1 := decL_le m.toNat (by omega)
        have hd2 : (S (decL m.toNat)).size ≤ 4 := by rw [S_size]; exact hd1
        have he : min m 9999 = m := by omega
        rw [he] at Hfin
        have He := Lib.hid he
        clear he hd1
        by_cases hk0 : k = 0
        · subst hk0
          rw [Nat.add_zero] at hc
          go_wp2_with (go_at_call 272; refine (dec_any _ _ (by omega) (by omega)).mono ?_; rintro e w1 ⟨rfl, hb1⟩)
          go_roundw
          case rel => exact ⟨0 + 1, by omega, by go_num, congrArg Value.string (by rw [S_append]; have := Hfin.out _ rfl; simpa using this), bnext hb hb1⟩
          case measure => simp [intOf]; omega
        · have hk1 : 0 < (k : Int) := by omega
          have Hk0 := Lib.hid hk0
          clear hk0
          go_wp2_with (go_at_call 272; refine (dec_any _ _ (by omega) (by omega)).mono ?_; rintro e w1 ⟨rfl, hb1⟩)
          go_roundw
          case rel => exact ⟨k + 1, by omega, by go_num, congrArg Value.string (by have := Hfin.out _ rfl; rw [if_neg Hk0.out] at this; rw [← this]; exact (congrArg (· ++ S (decL m.toNat)) (S_append P [59])).trans (S_append _ _)), bnext hb hb1⟩
          case measure => simp [intOf]; omega
      · have hd2 : (S nines).size ≤ 4 := by rw [S_size]; exact decL_le _ (by omega)
        have he : min m 9999 = 9999 := by omega
        rw [he] at Hfin
        have hn : nines = decL (9999 : Int).toNat := rfl
        rw [← hn] at Hfin
        clear he hn
        have hbig2 : 9999 < m := by omega
        clear hbig
        by_cases hk0 : k = 0
        · subst hk0
          rw [Nat.add_zero] at hc
          go_wp2_with (go_at_call 272; refine (dec_nines _).mono ?_; rintro e w1 ⟨rfl, hb1⟩)
          go_roundw
          case rel => exact ⟨0 + 1, by omega, by go_num, congrArg Value.string (by rw [S_append]; have := Hfin.out _ rfl; simpa using this), bnext hb hb1⟩
          case measure => simp [intOf]; omega
        · have hk1 : 0 < (k : Int) := by omega
          have Hk0 := Lib.hid hk0
          clear hk0
          go_wp2_with (go_at_call 272; refine (dec_nines _).mono ?_; rintro e w1 ⟨rfl, hb1⟩)
          go_roundw
          case rel => exact ⟨k + 1, by omega, by go_num, congrArg Value.string (by have := Hfin.out _ rfl; rw [if_neg Hk0.out] at this; rw [← this]; exact (congrArg (· ++ S nines) (S_append P [59])).trans (S_append _ _)), bnext hb hb1⟩
          case measure => simp [intOf]; omega
    · obtain rfl : k = l.length := by omega
      go_wp2
      go_ret
      exact ⟨ret_str (by rw [S_append, HP.out]; rfl), hb⟩
end Go.Proofs.YtekodpcedjpnjaaGreat
namespace Go.Proofs.YtekodpcedjpnjaaGreat
open Go.RowKit
theorem held_any (n : Int) (w : World) : Calls Tryz.prog 249 #[.int .i64 n] w fun e w' => e = .returned (.int .i64 (heldI n)) ∧ w = w' := by
  go_enter Tryz.func249, Tryz.ntmps249
  go_wp2
  all_goals (go_ret; exact ⟨ret_int (by unfold heldI; omega), rfl⟩)
set_option maxHeartbeats 1000000 in
theorem by_any (n : Int) (e : UInt8) (w : World) : Calls Tryz.prog 234 #[.int .i64 n, .string (S [e])] w fun r w' => r = .returned (.string (S (byL n e))) ∧ Below w.heap.size w w' := by
  by_cases h : n < 1
  · have hby := Lib.hid (show byL n e = [] by unfold byL; rw [if_pos h])
    go_enter Tryz.func234, Tryz.ntmps234
    go_wp2
    go_ret
    exact ⟨ret_str (by rw [hby.out]; rfl), Below.refl _ _⟩
  · have hby := Lib.hid (seqL_one n e (by omega))
    have h1 : 1 ≤ n := by omega
    clear h
    have hrow : RowAt (w.alloc (.cells #[.int .i64 n] 3)).heap.size (w.alloc (.cells #[.int .i64 n] 3)) (some ⟨w.heap.size, 0, none⟩) (i64s [n]) := RowAt.new w (i64s [n]) 3
    have Hrow := Lib.hid hrow
    clear hrow
    go_enter Tryz.func234, Tryz.ntmps234
    go_wp2_with fail
    refine (sequence_any [e] [n] _ 1 1 _ (by simp) rfl (by simp) Hrow.out (fun k hk => by simp at hk; subst hk; simp [nth]; omega)).mono ?_
    rintro r w1 ⟨rfl, hb1⟩
    go_wp2
    go_ret
    exact ⟨ret_str (by rw [hby.out]), bnext ((Below.refl _ _).alloc (Nat.le_refl _) _) hb1⟩
theorem up_any (n : Int) (w : World) : Calls Tryz.prog 192 #[.int .i64 n] w fun r w' => r = .returned (.string (S (byL n 65))) ∧ Below w.heap.size w w' := by
  go_enter Tryz.func192, Tryz.ntmps192
  go_wp2_with fail
  refine (by_any n 65 _).mono ?_
  rintro r w1 ⟨rfl, hb1⟩
  go_wp2
  go_ret
  exact ⟨rfl, hb1⟩
theorem down_any (n : Int) (w : World) : Calls Tryz.prog 250 #[.int .i64 n] w fun r w' => r = .returned (.string (S (byL n 66))) ∧ Below w.heap.size w w' := by
  go_enter Tryz.func250, Tryz.ntmps250
  go_wp2_with fail
  refine (by_any n 66 _).mono ?_
  rintro r w1 ⟨rfl, hb1⟩
  go_wp2
  go_ret
  exact ⟨rfl, hb1⟩
theorem right_any (n : Int) (w : World) : Calls Tryz.prog 251 #[.int .i64 n] w fun r w' => r = .returned (.string (S (byL n 67))) ∧ Below w.heap.size w w' := by
  go_enter Tryz.func251, Tryz.ntmps251
  go_wp2_with fail
  refine (by_any n 67 _).mono ?_
  rintro r w1 ⟨rfl, hb1⟩
  go_wp2
  go_ret
  exact ⟨rfl, hb1⟩
theorem left_any (n : Int) (w : World) : Calls Tryz.prog 252 #[.int .i64 n] w fun r w' => r = .returned (.string (S (byL n 68))) ∧ Below w.heap.size w w' := by
  go_enter Tryz.func252, Tryz.ntmps252
  go_wp2_with fail
  refine (by_any n 68 _).mono ?_
  rintro r w1 ⟨rfl, hb1⟩
  go_wp2
  go_ret
  exact ⟨rfl, hb1⟩
set_option maxHeartbeats 1000000 in
theorem column_any (n : Int) (w : World) : Calls Tryz.prog 214 #[.int .i64 n] w fun r w' => r = .returned (.string (S (colL n))) ∧ Below w.heap.size w w' := by
  by_cases h : n < 0
  · have hby := Lib.hid (show colL n = [] by unfold colL; rw [if_pos h])
    go_enter Tryz.func214, Tryz.ntmps214
    go_wp2
    go_ret
    exact ⟨ret_str (by rw [hby.out]; rfl), Below.refl _ _⟩
  · have h1 : 0 ≤ n := by omega
    have hby := Lib.hid ((seqL_one (min n 9998 + 1) 71 (by omega)).trans (colL_by n h1))
    clear h
    obtain ⟨m, hm⟩ : ∃ m, m = min n 9998 + 1 := ⟨_, rfl⟩
    have hrow : RowAt (w.alloc (.cells #[.int .i64 m] 3)).heap.size (w.alloc (.cells #[.int .i64 m] 3)) (some ⟨w.heap.size, 0, none⟩) (i64s [m]) := RowAt.new w (i64s [m]) 3
    rw [← hm] at hby
    by_cases hb : n ≤ 9998
    · obtain rfl : m = n + 1 := by omega
      have Hrow := Lib.hid hrow
      clear hrow hm
      go_enter Tryz.func214, Tryz.ntmps214
      go_wp2_with fail
      refine (sequence_any [71] [n + 1] _ 1 1 _ (by simp) rfl (by simp) Hrow.out (fun k hk => by simp at hk; subst hk; simp [nth]; omega)).mono ?_
      rintro r w1 ⟨rfl, hb1⟩
      go_wp2
      go_ret
      exact ⟨ret_str (by rw [hby.out]), bnext ((Below.refl _ _).alloc (Nat.le_refl _) _) hb1⟩
    · obtain rfl : m = 9999 := by omega
      have hb2 : 9998 < n := by omega
      have Hrow := Lib.hid hrow
      clear hrow hm hb
      go_enter Tryz.func214, Tryz.ntmps214
      go_wp2_with fail
      refine (sequence_any [71] [9999] _ 1 1 _ (by simp) rfl (by simp) Hrow.out (fun k hk => by simp at hk; subst hk; simp [nth])).mono ?_
      rintro r w1 ⟨rfl, hb1⟩
      go_wp2
      go_ret
      exact ⟨ret_str (by rw [hby.out]), bnext ((Below.refl _ _).alloc (Nat.le_refl _) _) hb1⟩
end Go.Proofs.YtekodpcedjpnjaaGreat
namespace Go.Proofs.YtekodpcedjpnjaaGreat
open Go.RowKit
theorem heldI_bd (n : Int) : 0 ≤ heldI n ∧ heldI n ≤ 9998 := by unfold heldI; omega
theorem S_le (l : List UInt8) (k : Nat) (h : l.length ≤ k) : (S l).size ≤ k := by rw [S_size]; exact h
set_option maxRecDepth 100000 in
set_option maxHeartbeats 1000000 in
theorem move_any (row col toRow toCol : Int) (w : World) : Calls Tryz.prog 213 #[.int .i64 row, .int .i64 col, .int .i64 toRow, .int .i64 toCol] w fun r w' => r = .returned (.string (S (moveL (heldI row) (heldI col) (heldI toRow) (heldI toCol)))) ∧ Below w.heap.size w w' := by
  have b1 := heldI_bd row
  have b2 := heldI_bd col
  have b3 := heldI_bd toRow
  have b4 := heldI_bd toCol
  have c1 := held_any row w
  have c2 := held_any col w
  have c3 := held_any toRow w
  have c4 := held_any toCol w
  revert b1 b2 b3 b4 c1 c2 c3 c4
  generalize heldI row = r
  generalize heldI col = c
  generalize heldI toRow = tr
  generalize heldI toCol = tc
  intro b1 b2 b3 b4 c1 c2 c3 c4
  have C1 := Lib.hid c1
  have C2 := Lib.hid c2
  have C3 := Lib.hid c3
  have C4 := Lib.hid c4
  clear c1 c2 c3 c4
  obtain ⟨A, hA⟩ : ∃ A, byL (r - tr) 65 = A := ⟨_, rfl⟩
  obtain ⟨B, hB⟩ : ∃ B, byL (tr - r) 66 = B := ⟨_, rfl⟩
  obtain ⟨C, hC⟩ : ∃ C, byL (tc - c) 67 = C := ⟨_, rfl⟩
  obtain ⟨D, hD⟩ : ∃ D, byL (c - tc) 68 = D := ⟨_, rfl⟩
  obtain ⟨E, hE⟩ : ∃ E, colL tc = E := ⟨_, rfl⟩
  have sA := S_le A 7 (hA ▸ byL_len _ _)
  have sB := S_le B 7 (hB ▸ byL_len _ _)
  have sC := S_le C 7 (hC ▸ byL_len _ _)
  have sD := S_le D 7 (hD ▸ byL_len _ _)
  have sE := S_le E 7 (hE ▸ colL_len _)
  have hfin : moveL r c tr tc = if c = tc then A ++ B else if tc = 0 then A ++ B ++ [13] else if E.length < (C ++ D).length then A ++ B ++ E else A ++ B ++ (C ++ D) := by unfold moveL; rw [hA, hB, hC, hD, hE]
  have Hfin := Lib.hid hfin
  have HA := Lib.hid (hA ▸ up_any (r - tr))
  have HB := Lib.hid (hB ▸ down_any (tr - r))
  have HC := Lib.hid (hC ▸ right_any (tc - c))
  have HD := Lib.hid (hD ▸ left_any (c - tc))
  have HE := Lib.hid (hE ▸ column_any tc)
  clear hfin hA hB hC hD hE
  by_cases h1 : c = tc
  · subst h1
    rw [if_pos rfl] at Hfin
    go_enter Tryz.func213, Tryz.ntmps213
    go_wp2_with fail
    refine C1.out.mono ?_
    rintro e w' ⟨rfl, rfl⟩
    go_wp2_with fail
    refine C2.out.mono ?_
    rintro e w' ⟨rfl, rfl⟩
    go_wp2_with fail
    refine C3.out.mono ?_
    rintro e w' ⟨rfl, rfl⟩
    go_wp2_with fail
    refine C4.out.mono ?_
    rintro e w' ⟨rfl, rfl⟩
    go_wp2_with fail
    refine (HA.out _).mono ?_
    rintro e w1 ⟨rfl, hb1⟩
    go_wp2_with fail
    refine (HB.out _).mono ?_
    rintro e w2 ⟨rfl, hb2⟩
    go_wp2
    go_ret
    exact ⟨ret_str (by rw [Hfin.out, S_append]), bnext hb1 hb2⟩
  · rw [if_neg h1] at Hfin
    have h1b : (c == tc) = false := by simpa using h1
    clear h1
    by_cases h2 : tc = 0
    · subst h2
      rw [if_pos rfl] at Hfin
      go_enter Tryz.func213, Tryz.ntmps213
      go_wp2_with fail
      refine C1.out.mono ?_
      rintro e w' ⟨rfl, rfl⟩
      go_wp2_with fail
      refine C2.out.mono ?_
      rintro e w' ⟨rfl, rfl⟩
      go_wp2_with fail
      refine C3.out.mono ?_
      rintro e w' ⟨rfl, rfl⟩
      go_wp2_with fail
      refine C4.out.mono ?_
      rintro e w' ⟨rfl, rfl⟩
      go_wp2_with fail
      refine (HA.out _).mono ?_
      rintro e w1 ⟨rfl, hb1⟩
      go_wp2_with fail
      refine (HB.out _).mono ?_
      rintro e w2 ⟨rfl, hb2⟩
      go_wp2
      go_ret
      exact ⟨ret_str (by rw [Hfin.out, ← S_append, ← S_append]; rfl), bnext hb1 hb2⟩
    · rw [if_neg h2] at Hfin
      have h2b : (tc == 0) = false := by simpa using h2
      clear h2
      go_enter Tryz.func213, Tryz.ntmps213
      go_wp2_with fail
      refine C1.out.mono ?_
      rintro e w' ⟨rfl, rfl⟩
      go_wp2_with fail
      refine C2.out.mono ?_
      rintro e w' ⟨rfl, rfl⟩
      go_wp2_with fail
      refine C3.out.mono ?_
      rintro e w' ⟨rfl, rfl⟩
      go_wp2_with fail
      refine C4.out.mono ?_
      rintro e w' ⟨rfl, rfl⟩
      go_wp2_with fail
      refine (HA.out _).mono ?_
      rintro e w1 ⟨rfl, hb1⟩
      go_wp2_with fail
      refine (HB.out _).mono ?_
      rintro e w2 ⟨rfl, hb2⟩
      go_wp2_with fail
      refine (HC.out _).mono ?_
      rintro e w3 ⟨rfl, hb3⟩
      go_wp2_with fail
      refine (HD.out _).mono ?_
      rintro e w4 ⟨rfl, hb4⟩
      go_wp2_with fail
      refine (HE.out _).mono ?_
      rintro e w5 ⟨rfl, hb5⟩
      have hB5 := bnext (bnext (bnext (bnext hb1 hb2) hb3) hb4) hb5
      clear hb1 hb2 hb3 hb4 hb5
      go_wp2
      · rename_i h
        go_ret
        exact ⟨ret_str (by simp only [S_size] at h; rw [Hfin.out, if_pos (by simp; omega), ← S_append, ← S_append]), hB5⟩
      · rename_i h
        go_ret
        exact ⟨ret_str (by simp only [S_size] at h; rw [Hfin.out, if_neg (by simp; omega), ← S_append (A ++ B), ← S_append A B, ← S_append C D]), hB5⟩
end Go.Proofs.YtekodpcedjpnjaaGreat
