/- The contracts of sequences and moves, of the program and of its reference. The contracts of moves and columns, of the program and of its reference; the law EscMoves. The contracts of moves from a place to another one, of the program and of its reference. A style in a box. Cells of a grid: their values in memory (seven cells each), and what one block of them turns to under a store and a copy. No condition. Rows of bytes that a call owns, as strings. No condition. The contracts of Strip, of the program and of its reference. The contract of the reference's Strip. The contracts of styles: which may be, their colours. -/
import Derived.Test.YtekodpcedjpnjaaGreatProg
import Derived.KernelRfl
import Derived.Deep.DeepCutAuto
import Derived.Deep.RegionWith
import Derived.Maps.AppendAt
import Derived.Deep.MidRow
import Derived.Laws.MakeOwn
import Derived.Laws.CopyOwn
import Derived.Laws.IdiomStrings
import Derived.Test.YtekodpcedjpnjaaGreatRC02
import Derived.Test.YtekodpcedjpnjaaGreatRC04
set_option linter.unusedVariables false
set_option linter.unusedSimpArgs false
namespace Go.Proofs.YtekodpcedjpnjaaGreat
open Go.RowKit
def i64s (L : List Int) : List Value := L.map (Value.int .i64)
theorem i64s_length (L : List Int) : (i64s L).length = L.length := by simp [i64s]
theorem i64s_nth (L : List Int) (j : Nat) (h : j < L.length) : nth undef (i64s L) j = .int .i64 (nth 0 L j) := nth_map _ _ _ _ h
theorem ints_at {B : Nat} {w : World} {a : Option Addr} {l : List Int} (h : RowAt B w a (i64s l)) (k : Nat) (hk : k < l.length) : ∃ b off, a = some ⟨b, off, none⟩ ∧ b < B ∧ w.cell? ⟨b, off + k, none⟩ = some (.int .i64 (nth 0 l k)) := by
  obtain ⟨b, off, e, hb, hc⟩ := h k (by rw [i64s_length]; exact hk)
  exact ⟨b, off, e, hb, by rw [hc, i64s_nth _ _ hk]⟩
def nines : List UInt8 := decL (9999 : Int).toNat
theorem dec_nines (w : World) : Calls Tryz.prog 272 #[.int .i64 9999] w fun e w' => e = .returned (.string (S nines)) ∧ Below w.heap.size w w' := dec_any 9999 w (by omega) (by omega)
set_option maxRecDepth 100000 in
set_option maxHeartbeats 1000000 in
theorem sequence_any (E : List UInt8) (l : List Int) (a : Option Addr) (n c : Nat) (w : World) (hE : E.length ≤ 100) (hn : n = l.length) (hl : l.length ≤ 20) (hr : RowAt w.heap.size w a (i64s l)) (h0 : ∀ k, k < l.length → 0 ≤ nth 0 l k) :
    Calls Tryz.prog 248 #[.string (S E), .slice a n c] w fun e w' => e = .returned (.string (S (seqL l E))) ∧ Below w.heap.size w w' := by
  subst hn
  have H0 := Lib.hid h0
  clear h0
  have hEs : (S E).size ≤ 100 := by rw [S_size]; exact hE
  go_enter Tryz.func248, Tryz.ntmps248
  go_wp2
  go_loopw [10, 5] (fun i s wr => ∃ k : Nat, k ≤ l.length ∧ i = .int .i64 k ∧ s = .string (S ([27, 91] ++ sepTo l k)) ∧ Below w.heap.size w wr) (fun i _ _ => l.length - (intOf i).toNat)
  case atStart => exact ⟨0, by omega, rfl, rfl, Below.refl _ _⟩
  case round =>
    obtain ⟨k, hk, rfl, rfl, hb⟩ := hrel
    have hsz := sepTo_len l k
    have hsz2 : (S ([27, 91] ++ sepTo l k)).size ≤ 200 := by rw [S_size]; simp; omega
    obtain ⟨P, hP⟩ : ∃ P, P = [27, 91] ++ sepTo l k := ⟨_, rfl⟩
    rw [← hP] at hsz2 ⊢
    have HP := Lib.hid hP
    clear hP hsz
    by_cases hlt : k < l.length
    · obtain ⟨b, off, rfl, _, hc⟩ := ints_at (hr.below hb) k hlt
      have h00 := H0.out k hlt
      have hs : sepTo l (k + 1) = sepTo l k ++ (if k = 0 then [] else [59]) ++ decL (min (nth 0 l k) 9999).toNat := rfl
      obtain ⟨m, hm⟩ : ∃ m, m = nth 0 l k := ⟨_, rfl⟩
      rw [← hm] at hc h00 hs
      have Hs := Lib.hid hs
      clear hs hm
      have hfin : ∀ (d : List UInt8), d = decL (min m 9999).toNat → S (P ++ (if k = 0 then [] else [59]) ++ d) = S ([27, 91] ++ sepTo l (k + 1)) := fun d hd => by rw [Hs.out, HP.out, hd]; simp
      have Hfin := Lib.hid hfin
      clear hfin
      by_cases hbig : m ≤ 9999
      · have hd1 := decL_le m.toNat (by omega)
        have hd2 : (S (decL m.toNat)).size ≤ 4 := by rw [S_size]; exact hd1
        have he : min m 9999 = m := by omega
        rw [he] at Hfin
        have He := Lib.hid he
        clear he hd1
        by_cases hk0 : k = 0
        · subst hk0
          rw [Nat.add_zero] at hc
          go_wp2_with (go_at_call 272; refine (dec_any _ _ (by omega) (by omega)).mono ?_; rintro e w1 ⟨rfl, hb1⟩)
          go_roundw
          case rel => exact ⟨0 + 1, by omega, by go_num, congrArg Value.string (by rw [S_append]; have := Hfin.out _ rfl; simpa using this), bnext hb hb1⟩
          case measure => simp [intOf]; omega
        · have hk1 : 0 < (k : Int) := by omega
          have Hk0 := Lib.hid hk0
          clear hk0
          go_wp2_with (go_at_call 272; refine (dec_any _ _ (by omega) (by omega)).mono ?_; rintro e w1 ⟨rfl, hb1⟩)
          go_roundw
          case rel => exact ⟨k + 1, by omega, by go_num, congrArg Value.string (by have := Hfin.out _ rfl; rw [if_neg Hk0.out] at this; rw [← this]; exact (congrArg (· ++ S (decL m.toNat)) (S_append P [59])).trans (S_append _ _)), bnext hb hb1⟩
          case measure => simp [intOf]; omega
      · have hd2 : (S nines).size ≤ 4 := by rw [S_size]; exact decL_le _ (by omega)
        have he : min m 9999 = 9999 := by omega
        rw [he] at Hfin
        have hn : nines = decL (9999 : Int).toNat := rfl
        rw [← hn] at Hfin
        clear he hn
        have hbig2 : 9999 < m := by omega
        clear hbig
        by_cases hk0 : k = 0
        · subst hk0
          rw [Nat.add_zero] at hc
          go_wp2_with (go_at_call 272; refine (dec_nines _).mono ?_; rintro e w1 ⟨rfl, hb1⟩)
          go_roundw
          case rel => exact ⟨0 + 1, by omega, by go_num, congrArg Value.string (by rw [S_append]; have := Hfin.out _ rfl; simpa using this), bnext hb hb1⟩
          case measure => simp [intOf]; omega
        · have hk1 : 0 < (k : Int) := by omega
          have Hk0 := Lib.hid hk0
          clear hk0
          go_wp2_with (go_at_call 272; refine (dec_nines _).mono ?_; rintro e w1 ⟨rfl, hb1⟩)
          go_roundw
          case rel => exact ⟨k + 1, by omega, by go_num, congrArg Value.string (by have := Hfin.out _ rfl; rw [if_neg Hk0.out] at this; rw [← this]; exact (congrArg (· ++ S nines) (S_append P [59])).trans (S_append _ _)), bnext hb hb1⟩
          case measure => simp [intOf]; omega
    · obtain rfl : k = l.length := by omega
      go_wp2
      go_ret
      exact ⟨ret_str (by rw [S_append, HP.out]; rfl), hb⟩
end Go.Proofs.YtekodpcedjpnjaaGreat
namespace Go.Proofs.YtekodpcedjpnjaaGreat
open Go.RowKit
theorem held_any (n : Int) (w : World) : Calls Tryz.prog 249 #[.int .i64 n] w fun e w' => e = .returned (.int .i64 (heldI n)) ∧ w = w' := by
  go_enter Tryz.func249, Tryz.ntmps249
  go_wp2
  all_goals (go_ret; exact ⟨ret_int (by unfold heldI; omega), rfl⟩)
set_option maxHeartbeats 1000000 in
theorem by_any (n : Int) (e : UInt8) (w : World) : Calls Tryz.prog 234 #[.int .i64 n, .string (S [e])] w fun r w' => r = .returned (.string (S (byL n e))) ∧ Below w.heap.size w w' := by
  by_cases h : n < 1
  · have hby := Lib.hid (show byL n e = [] by unfold byL; rw [if_pos h])
    go_enter Tryz.func234, Tryz.ntmps234
    go_wp2
    go_ret
    exact ⟨ret_str (by rw [hby.out]; rfl), Below.refl _ _⟩
  · have hby := Lib.hid (seqL_one n e (by omega))
    have h1 : 1 ≤ n := by omega
    clear h
    have hrow : RowAt (w.alloc (.cells #[.int .i64 n] 3)).heap.size (w.alloc (.cells #[.int .i64 n] 3)) (some ⟨w.heap.size, 0, none⟩) (i64s [n]) := RowAt.new w (i64s [n]) 3
    have Hrow := Lib.hid hrow
    clear hrow
    go_enter Tryz.func234, Tryz.ntmps234
    go_wp2_with fail
    refine (sequence_any [e] [n] _ 1 1 _ (by simp) rfl (by simp) Hrow.out (fun k hk => by simp at hk; subst hk; simp [nth]; omega)).mono ?_
    rintro r w1 ⟨rfl, hb1⟩
    go_wp2
    go_ret
    exact ⟨ret_str (by rw [hby.out]), bnext ((Below.refl _ _).alloc (Nat.le_refl _) _) hb1⟩
theorem up_any (n : Int) (w : World) : Calls Tryz.prog 192 #[.int .i64 n] w fun r w' => r = .returned (.string (S (byL n 65))) ∧ Below w.heap.size w w' := by
  go_enter Tryz.func192, Tryz.ntmps192
  go_wp2_with fail
  refine (by_any n 65 _).mono ?_
  rintro r w1 ⟨rfl, hb1⟩
  go_wp2
  go_ret
  exact ⟨rfl, hb1⟩
theorem down_any (n : Int) (w : World) : Calls Tryz.prog 250 #[.int .i64 n] w fun r w' => r = .returned (.string (S (byL n 66))) ∧ Below w.heap.size w w' := by
  go_enter Tryz.func250, Tryz.ntmps250
  go_wp2_with fail
  refine (by_any n 66 _).mono ?_
  rintro r w1 ⟨rfl, hb1⟩
  go_wp2
  go_ret
  exact ⟨rfl, hb1⟩
theorem right_any (n : Int) (w : World) : Calls Tryz.prog 251 #[.int .i64 n] w fun r w' => r = .returned (.string (S (byL n 67))) ∧ Below w.heap.size w w' := by
  go_enter Tryz.func251, Tryz.ntmps251
  go_wp2_with fail
  refine (by_any n 67 _).mono ?_
  rintro r w1 ⟨rfl, hb1⟩
  go_wp2
  go_ret
  exact ⟨rfl, hb1⟩
theorem left_any (n : Int) (w : World) : Calls Tryz.prog 252 #[.int .i64 n] w fun r w' => r = .returned (.string (S (byL n 68))) ∧ Below w.heap.size w w' := by
  go_enter Tryz.func252, Tryz.ntmps252
  go_wp2_with fail
  refine (by_any n 68 _).mono ?_
  rintro r w1 ⟨rfl, hb1⟩
  go_wp2
  go_ret
  exact ⟨rfl, hb1⟩
set_option maxHeartbeats 1000000 in
theorem column_any (n : Int) (w : World) : Calls Tryz.prog 214 #[.int .i64 n] w fun r w' => r = .returned (.string (S (colL n))) ∧ Below w.heap.size w w' := by
  by_cases h : n < 0
  · have hby := Lib.hid (show colL n = [] by unfold colL; rw [if_pos h])
    go_enter Tryz.func214, Tryz.ntmps214
    go_wp2
    go_ret
    exact ⟨ret_str (by rw [hby.out]; rfl), Below.refl _ _⟩
  · have h1 : 0 ≤ n := by omega
    have hby := Lib.hid ((seqL_one (min n 9998 + 1) 71 (by omega)).trans (colL_by n h1))
    clear h
    obtain ⟨m, hm⟩ : ∃ m, m = min n 9998 + 1 := ⟨_, rfl⟩
    have hrow : RowAt (w.alloc (.cells #[.int .i64 m] 3)).heap.size (w.alloc (.cells #[.int .i64 m] 3)) (some ⟨w.heap.size, 0, none⟩) (i64s [m]) := RowAt.new w (i64s [m]) 3
    rw [← hm] at hby
    by_cases hb : n ≤ 9998
    · obtain rfl : m = n + 1 := by omega
      have Hrow := Lib.hid hrow
      clear hrow hm
      go_enter Tryz.func214, Tryz.ntmps214
      go_wp2_with fail
      refine (sequence_any [71] [n + 1] _ 1 1 _ (by simp) rfl (by simp) Hrow.out (fun k hk => by simp at hk; subst hk; simp [nth]; omega)).mono ?_
      rintro r w1 ⟨rfl, hb1⟩
      go_wp2
      go_ret
      exact ⟨ret_str (by rw [hby.out]), bnext ((Below.refl _ _).alloc (Nat.le_refl _) _) hb1⟩
    · obtain rfl : m = 9999 := by omega
      have hb2 : 9998 < n := by omega
      have Hrow := Lib.hid hrow
      clear hrow hm hb
      go_enter Tryz.func214, Tryz.ntmps214
      go_wp2_with fail
      refine (sequence_any [71] [9999] _ 1 1 _ (by simp) rfl (by simp) Hrow.out (fun k hk => by simp at hk; subst hk; simp [nth])).mono ?_
      rintro r w1 ⟨rfl, hb1⟩
      go_wp2
      go_ret
      exact ⟨ret_str (by rw [hby.out]), bnext ((Below.refl _ _).alloc (Nat.le_refl _) _) hb1⟩
end Go.Proofs.YtekodpcedjpnjaaGreat
namespace Go.Proofs.YtekodpcedjpnjaaGreat
open Go.RowKit
theorem heldI_bd (n : Int) : 0 ≤ heldI n ∧ heldI n ≤ 9998 := by unfold heldI; omega
theorem S_le (l : List UInt8) (k : Nat) (h : l.length ≤ k) : (S l).size ≤ k := by rw [S_size]; exact h
set_option maxRecDepth 100000 in
set_option maxHeartbeats 1000000 in
theorem move_any (row col toRow toCol : Int) (w : World) : Calls Tryz.prog 213 #[.int .i64 row, .int .i64 col, .int .i64 toRow, .int .i64 toCol] w fun r w' => r = .returned (.string (S (moveL (heldI row) (heldI col) (heldI toRow) (heldI toCol)))) ∧ Below w.heap.size w w' := by
  have b1 := heldI_bd row
  have b2 := heldI_bd col
  have b3 := heldI_bd toRow
  have b4 := heldI_bd toCol
  have c1 := held_any row w
  have c2 := held_any col w
  have c3 := held_any toRow w
  have c4 := held_any toCol w
  revert b1 b2 b3 b4 c1 c2 c3 c4
  generalize heldI row = r
  generalize heldI col = c
  generalize heldI toRow = tr
  generalize heldI toCol = tc
  intro b1 b2 b3 b4 c1 c2 c3 c4
  have C1 := Lib.hid c1
  have C2 := Lib.hid c2
  have C3 := Lib.hid c3
  have C4 := Lib.hid c4
  clear c1 c2 c3 c4
  obtain ⟨A, hA⟩ : ∃ A, byL (r - tr) 65 = A := ⟨_, rfl⟩
  obtain ⟨B, hB⟩ : ∃ B, byL (tr - r) 66 = B := ⟨_, rfl⟩
  obtain ⟨C, hC⟩ : ∃ C, byL (tc - c) 67 = C := ⟨_, rfl⟩
  obtain ⟨D, hD⟩ : ∃ D, byL (c - tc) 68 = D := ⟨_, rfl⟩
  obtain ⟨E, hE⟩ : ∃ E, colL tc = E := ⟨_, rfl⟩
  have sA := S_le A 7 (hA ▸ byL_len _ _)
  have sB := S_le B 7 (hB ▸ byL_len _ _)
  have sC := S_le C 7 (hC ▸ byL_len _ _)
  have sD := S_le D 7 (hD ▸ byL_len _ _)
  have sE := S_le E 7 (hE ▸ colL_len _)
  have hfin : moveL r c tr tc = if c = tc then A ++ B else if tc = 0 then A ++ B ++ [13] else if E.length < (C ++ D).length then A ++ B ++ E else A ++ B ++ (C ++ D) := by unfold moveL; rw [hA, hB, hC, hD, hE]
  have Hfin := Lib.hid hfin
  have HA := Lib.hid (hA ▸ up_any (r - tr))
  have HB := Lib.hid (hB ▸ down_any (tr - r))
  have HC := Lib.hid (hC ▸ right_any (tc - c))
  have HD := Lib.hid (hD ▸ left_any (c - tc))
  have HE := Lib.hid (hE ▸ column_any tc)
  clear hfin hA hB hC hD hE
  by_cases h1 : c = tc
  · subst h1
    rw [if_pos rfl] at Hfin
    go_enter Tryz.func213, Tryz.ntmps213
    go_wp2_with fail
    refine C1.out.mono ?_
    rintro e w' ⟨rfl, rfl⟩
    go_wp2_with fail
    refine C2.out.mono ?_
    rintro e w' ⟨rfl, rfl⟩
    go_wp2_with fail
    refine C3.out.mono ?_
    rintro e w' ⟨rfl, rfl⟩
    go_wp2_with fail
    refine C4.out.mono ?_
    rintro e w' ⟨rfl, rfl⟩
    go_wp2_with fail
    refine (HA.out _).mono ?_
    rintro e w1 ⟨rfl, hb1⟩
    go_wp2_with fail
    refine (HB.out _).mono ?_
    rintro e w2 ⟨rfl, hb2⟩
    go_wp2
    go_ret
    exact ⟨ret_str (by rw [Hfin.out, S_append]), bnext hb1 hb2⟩
  · rw [if_neg h1] at Hfin
    have h1b : (c == tc) = false := by simpa using h1
    clear h1
    by_cases h2 : tc = 0
    · subst h2
      rw [if_pos rfl] at Hfin
      go_enter Tryz.func213, Tryz.ntmps213
      go_wp2_with fail
      refine C1.out.mono ?_
      rintro e w' ⟨rfl, rfl⟩
      go_wp2_with fail
      refine C2.out.mono ?_
      rintro e w' ⟨rfl, rfl⟩
      go_wp2_with fail
      refine C3.out.mono ?_
      rintro e w' ⟨rfl, rfl⟩
      go_wp2_with fail
      refine C4.out.mono ?_
      rintro e w' ⟨rfl, rfl⟩
      go_wp2_with fail
      refine (HA.out _).mono ?_
      rintro e w1 ⟨rfl, hb1⟩
      go_wp2_with fail
      refine (HB.out _).mono ?_
      rintro e w2 ⟨rfl, hb2⟩
      go_wp2
      go_ret
      exact ⟨ret_str (by rw [Hfin.out, ← S_append, ← S_append]; rfl), bnext hb1 hb2⟩
    · rw [if_neg h2] at Hfin
      have h2b : (tc == 0) = false := by simpa using h2
      clear h2
      go_enter Tryz.func213, Tryz.ntmps213
      go_wp2_with fail
      refine C1.out.mono ?_
      rintro e w' ⟨rfl, rfl⟩
      go_wp2_with fail
      refine C2.out.mono ?_
      rintro e w' ⟨rfl, rfl⟩
      go_wp2_with fail
      refine C3.out.mono ?_
      rintro e w' ⟨rfl, rfl⟩
      go_wp2_with fail
      refine C4.out.mono ?_
      rintro e w' ⟨rfl, rfl⟩
      go_wp2_with fail
      refine (HA.out _).mono ?_
      rintro e w1 ⟨rfl, hb1⟩
      go_wp2_with fail
      refine (HB.out _).mono ?_
      rintro e w2 ⟨rfl, hb2⟩
      go_wp2_with fail
      refine (HC.out _).mono ?_
      rintro e w3 ⟨rfl, hb3⟩
      go_wp2_with fail
      refine (HD.out _).mono ?_
      rintro e w4 ⟨rfl, hb4⟩
      go_wp2_with fail
      refine (HE.out _).mono ?_
      rintro e w5 ⟨rfl, hb5⟩
      have hB5 := bnext (bnext (bnext (bnext hb1 hb2) hb3) hb4) hb5
      clear hb1 hb2 hb3 hb4 hb5
      go_wp2
      · rename_i h
        go_ret
        exact ⟨ret_str (by simp only [S_size] at h; rw [Hfin.out, if_pos (by simp; omega), ← S_append, ← S_append]), hB5⟩
      · rename_i h
        go_ret
        exact ⟨ret_str (by simp only [S_size] at h; rw [Hfin.out, if_neg (by simp; omega), ← S_append (A ++ B), ← S_append A B, ← S_append C D]), hB5⟩
end Go.Proofs.YtekodpcedjpnjaaGreat
namespace Go.Proofs.YtekodpcedjpnjaaGreat
open Go.RowKit Go.Maps
def StyBox (W : World) (r : Nat) (b u i : Bool) (f g : Int) : Prop := W.heap[r]? = some (.cells #[.bool b, .bool u, .bool i, .int .i64 f, .int .i64 g] 36 (0, 0))
theorem styBox_new (W : World) (b u i : Bool) (f g : Int) : StyBox (W.alloc (.cells #[.bool b, .bool u, .bool i, .int .i64 f, .int .i64 g] 36)) W.heap.size b u i f g := World.alloc_heap_new W _
theorem styBox_old {W W' : World} {r : Nat} {b u i : Bool} {f g : Int} {B : Nat} (h : StyBox W r b u i f g) (hb : Below B W W') (hr : r < B) : StyBox W' r b u i f g := (hb.block r hr).trans h
theorem StyBox.cells {W : World} {r : Nat} {b u i : Bool} {f g : Int} (h : StyBox W r b u i f g) : W.cell? ⟨r, 0, none⟩ = some (.bool b) ∧ W.cell? ⟨r, 1, none⟩ = some (.bool u) ∧ W.cell? ⟨r, 2, none⟩ = some (.bool i) ∧ W.cell? ⟨r, 3, none⟩ = some (.int .i64 f) ∧ W.cell? ⟨r, 4, none⟩ = some (.int .i64 g) ∧ ∀ j, W.frozen? ⟨r, j, none⟩ = false := by
  unfold StyBox at h
  unfold World.cell? World.frozen?
  dsimp only
  rw [h]
  simp
theorem set_at {W : World} {F : Nat} {c : Array Value} {t : TypeId} {fz : Nat × Nat} (h : W.heap[F]? = some (.cells c t fz)) (o : Nat) (v : Value) : (W.setCell ⟨F, o, none⟩ v).heap[F]? = some (.cells (c.setIfInBounds o v) t fz) := by
  simp [World.setCell, Array.getElem?_modify, h]
theorem set_other (W : World) (F o k : Nat) (v : Value) (h : k ≠ F) : (W.setCell ⟨F, o, none⟩ v).heap[k]? = W.heap[k]? := by
  simp [World.setCell, Array.getElem?_modify]; omega
theorem set_size (W : World) (F o : Nat) (v : Value) : (W.setCell ⟨F, o, none⟩ v).heap.size = W.heap.size := by simp [World.setCell]
structure Sy where
  b : Bool
  u : Bool
  i : Bool
  f : Int
  g : Int
def Sy.v (y : Sy) : Value := .agg #[.bool y.b, .bool y.u, .bool y.i, .int .i64 y.f, .int .i64 y.g]
def SyBox (W : World) (r : Nat) (y : Sy) : Prop := StyBox W r y.b y.u y.i y.f y.g
end Go.Proofs.YtekodpcedjpnjaaGreat
namespace Go.Proofs.YtekodpcedjpnjaaGreat
open Go.RowKit
structure GC where
  s : ByteArray
  w : Int
  y : Sy
def GC.vals (c : GC) : List Value := [.string c.s, .int .i64 c.w, .bool c.y.b, .bool c.y.u, .bool c.y.i, .int .i64 c.y.f, .int .i64 c.y.g]
def GC.v (c : GC) : Value := .agg #[.string c.s, .int .i64 c.w, .bool c.y.b, .bool c.y.u, .bool c.y.i, .int .i64 c.y.f, .int .i64 c.y.g]
def Sy.zero : Sy := ⟨false, false, false, 0, 0⟩
def GC.zero : GC := ⟨⟨#[]⟩, 0, Sy.zero⟩
def GC.blank : GC := ⟨⟨#[32]⟩, 1, Sy.zero⟩
theorem GC.vals_length (c : GC) : c.vals.length = 7 := rfl
theorem GC.one (c : GC) : ∀ v ∈ c.vals, v.oneCell' = true := by
  intro v hv
  simp only [GC.vals, List.mem_cons, List.not_mem_nil, or_false] at hv
  rcases hv with h | h | h | h | h | h | h <;> subst h <;> rfl
def flatV (L : List GC) : List Value := L.flatMap GC.vals
theorem flatV_length (L : List GC) : (flatV L).length = 7 * L.length := by
  induction L with
  | nil => rfl
  | cons c L ih => simp only [flatV, List.flatMap_cons, List.length_append, List.length_cons] at ih ⊢; rw [ih, GC.vals_length]; omega
theorem flatV_append (A B : List GC) : flatV (A ++ B) = flatV A ++ flatV B := by simp [flatV]
theorem flatV_one (L : List GC) : ∀ v ∈ flatV L, v.oneCell' = true := by
  intro v hv
  obtain ⟨c, _, h⟩ := List.mem_flatMap.1 hv
  exact c.one v h
theorem flatV_drop (L : List GC) (k : Nat) : (flatV L).drop (7 * k) = flatV (L.drop k) := by
  induction k generalizing L with
  | zero => rfl
  | succ k ih =>
    cases L with
    | nil => simp [flatV]
    | cons c L =>
      rw [List.drop_succ_cons, ← ih, show 7 * (k + 1) = 7 + 7 * k by omega, ← List.drop_drop]
      rfl
theorem flatV_take (L : List GC) (k : Nat) : (flatV L).take (7 * k) = flatV (L.take k) := by
  induction k generalizing L with
  | zero => rfl
  | succ k ih =>
    cases L with
    | nil => simp [flatV]
    | cons c L =>
      rw [List.take_succ_cons, show 7 * (k + 1) = 7 + 7 * k by omega]
      show List.take (7 + 7 * k) (c.vals ++ flatV L) = c.vals ++ flatV (L.take k)
      rw [List.take_append, GC.vals_length, List.take_of_length_le (by rw [GC.vals_length]; omega), show 7 + 7 * k - 7 = 7 * k by omega, ih]
theorem flatV_get {L : List GC} {i : Nat} {c : GC} (h : L[i]? = some c) {j : Nat} (hj : j < 7) : (flatV L)[7 * i + j]? = c.vals[j]? := by
  have h1 : ((flatV L).drop (7 * i))[j]? = (flatV L)[7 * i + j]? := by rw [List.getElem?_drop]
  rw [← h1, flatV_drop]
  have hlt : i < L.length := (List.getElem?_eq_some_iff.1 h).1
  rw [List.drop_eq_getElem_cons hlt]
  have : L[i] = c := (List.getElem?_eq_some_iff.1 h).2
  rw [this]
  show (c.vals ++ flatV (L.drop (i + 1)))[j]? = _
  rw [List.getElem?_append_left (by rw [GC.vals_length]; omega)]
theorem flatV_splice (L M : List GC) (o : Nat) (h : o + M.length ≤ L.length) : splice (flatV L) (7 * o) (flatV M) = flatV (splice L o M) := by
  unfold splice
  rw [flatV_length, flatV_take, show 7 * o + 7 * M.length = 7 * (o + M.length) by omega, flatV_drop, flatV_append, flatV_append]
theorem splice_one (L : List GC) (o : Nat) (c : GC) (h : o < L.length) : splice L o [c] = L.set o c := by
  unfold splice
  rw [List.set_eq_take_append_cons_drop, if_pos h]
  rfl
theorem flatV_set (L : List GC) (o : Nat) (c : GC) (h : o < L.length) : splice (flatV L) (7 * o) c.vals = flatV (L.set o c) := by
  have := flatV_splice L [c] o (by simp; omega)
  rw [splice_one L o c h] at this
  rw [← this]
  simp [flatV]
structure Only (S : List Nat) (w w' : World) : Prop where
  os : w'.os = w.os
  tape : w'.tape = w.tape
  output : w'.output = w.output
  size : w.heap.size ≤ w'.heap.size
  block : ∀ k, k < w.heap.size → k ∉ S → w'.heap[k]? = w.heap[k]?
theorem Only.refl (S : List Nat) (w : World) : Only S w w := ⟨rfl, rfl, rfl, Nat.le_refl _, fun _ _ _ => rfl⟩
theorem Only.trans {S : List Nat} {a b c : World} (h : Only S a b) (k : Only S b c) : Only S a c :=
  ⟨k.os.trans h.os, k.tape.trans h.tape, k.output.trans h.output, Nat.le_trans h.size k.size, fun i hi hs => (k.block i (Nat.lt_of_lt_of_le hi h.size) hs).trans (h.block i hi hs)⟩
theorem Only.of_below {S : List Nat} {w w' : World} (h : Below w.heap.size w w') : Only S w w' := ⟨h.os, h.tape, h.output, h.size, fun k hk _ => h.block k hk⟩
theorem Only.below {S : List Nat} {w w' : World} (h : Only S w w') {B : Nat} (hS : ∀ s ∈ S, B ≤ s) (hB : B ≤ w.heap.size) : Below B w w' :=
  ⟨h.os, h.tape, h.output, h.size, fun k hk => h.block k (by omega) (fun hs => by have := hS k hs; omega)⟩
theorem Only.nil {w w' : World} (h : Only [] w w') : Below w.heap.size w w' := h.below (by simp) (Nat.le_refl _)
theorem Only.mono {S S' : List Nat} {w w' : World} (h : Only S w w') (hS : ∀ s ∈ S, s ∈ S' ∨ w.heap.size ≤ s) : Only S' w w' :=
  ⟨h.os, h.tape, h.output, h.size, fun k hk hs => h.block k hk (fun hs' => (hS k hs').elim hs (fun hle => by omega))⟩
theorem Only.alloc {S : List Nat} {a w : World} (h : Only S a w) (o : Obj) : Only S a (w.alloc o) :=
  h.trans (Only.of_below ((Below.refl _ _).alloc (Nat.le_refl _) o))
theorem Only.setCell {S : List Nat} {a w : World} (h : Only S a w) {p : Addr} (hp : p.block ∈ S ∨ a.heap.size ≤ p.block) (u : Value) : Only S a (w.setCell p u) :=
  ⟨h.os, h.tape, h.output, by have := h.size; simp [World.setCell]; omega, fun k hk hs => (Below.heap_setCell _ _ _ _ (fun e => by
    rcases hp with hp | hp
    · exact hs (e ▸ hp)
    · omega)).trans (h.block k hk hs)⟩
theorem Only.setRow {S : List Nat} {a w : World} (h : Only S a w) {g : Nat} (hg : g ∈ S ∨ a.heap.size ≤ g) (cs : Array Value) : Only S a (w.setRow g cs) :=
  ⟨h.os, h.tape, h.output, by have := h.size; simp [World.setRow]; omega, fun k hk hs => (setRow_other w g k cs (fun e => by
    rcases hg with hg | hg
    · exact hs (e ▸ hg)
    · omega)).trans (h.block k hk hs)⟩
theorem Only.heap {S : List Nat} {w w' : World} (h : Only S w w') {k : Nat} {o : Obj} (hk : w.heap[k]? = some o) (hs : k ∉ S) : w'.heap[k]? = some o :=
  (h.block k (Array.getElem?_eq_some_iff.1 hk).1 hs).trans hk
def GBlk (W : World) (q : Nat) (L : List GC) : Prop := W.heap[q]? = some (.cells (flatV L).toArray 171 (0, 0))
theorem GBlk.lt {W : World} {q : Nat} {L : List GC} (h : GBlk W q L) : q < W.heap.size := (Array.getElem?_eq_some_iff.1 h).1
theorem GBlk.only {W W' : World} {q : Nat} {L : List GC} {S : List Nat} (h : GBlk W q L) (ho : Only S W W') (hs : q ∉ S) : GBlk W' q L := ho.heap h hs
theorem GBlk.alloc {W : World} {q : Nat} {L : List GC} (h : GBlk W q L) (o : Obj) : GBlk (W.alloc o) q L := h.only ((Only.refl [] W).alloc o) (by simp)
theorem GBlk.range {W : World} {q : Nat} {L : List GC} (h : GBlk W q L) (o n : Nat) : W.rangeAt q (7 * o) (flatV ((L.drop o).take n)) := by
  intro j v hv
  rw [cell_of_row W q (7 * o + j) _ _ _ h]
  rw [← flatV_take, ← flatV_drop, List.getElem?_take] at hv
  split at hv
  · rw [List.getElem?_drop] at hv
    simpa using hv
  · cases hv
theorem GBlk.range1 {W : World} {q : Nat} {L : List GC} (h : GBlk W q L) {i : Nat} {c : GC} (hi : L[i]? = some c) : W.rangeAt q (7 * i) c.vals := by
  intro j v hv
  rw [cell_of_row W q (7 * i + j) _ _ _ h]
  have hj : j < 7 := by have := (List.getElem?_eq_some_iff.1 hv).1; rwa [GC.vals_length] at this
  have := flatV_get hi hj
  simp only [List.getElem?_toArray]
  rw [this, hv]
theorem GBlk.load {W : World} {q : Nat} {L : List GC} (h : GBlk W q L) {i : Nat} {c : GC} (hi : L[i]? = some c) (o : Nat) (ho : o = 7 * i) :
    (Instr.loadAt 171 (.pointer (some ⟨q, o, none⟩))).run Tryz.prog W = .ok c.v W := by
  subst ho
  exact run_loadAt_mid W q _ _ _ _ (h.range1 hi) Tryz.underlying171 rfl (by kernel_rfl)
theorem GBlk.store {W : World} {q : Nat} {L : List GC} (h : GBlk W q L) {i : Nat} (hi : i < L.length) (c : GC) (o : Nat) (ho : o = 7 * i) :
    (Instr.storeAt 171 (.pointer (some ⟨q, o, none⟩)) c.v).run Tryz.prog W = .ok () (W.setRow q (flatV (L.set i c)).toArray) := by
  subst ho
  have hst := run_storeCells_at Tryz.prog q (7 * i) _ c.vals 0 _ W h (by rw [GC.vals_length]; simp [flatV_length]; omega) c.one
  have hsp := flatV_set L i c hi
  unfold splice at hsp
  have hs : (Tryz.prog.info? 171).map (·.size) = some 7 := by kernel_rfl
  cases hq : Tryz.prog.info? 171 with
  | none => rw [hq] at hs; cases hs
  | some t =>
    have ht : t.size = 7 := by rw [hq] at hs; simpa using hs
    simp only [Nat.add_zero] at hst
    rw [List.append_assoc, hsp] at hst
    simp only [GC.v]
    simp only [GC.vals] at hst
    simp [Instr.storeAt, Instr.sureAddr, storeVar, sizeOf, typeInfo, hq, Value.cells, ht, hst]
theorem GBlk.set {W : World} {q : Nat} {L : List GC} (h : GBlk W q L) (M : List GC) : GBlk (W.setRow q (flatV M).toArray) q M := setRow_heap W q _ _ _ _ h
theorem GBlk.set_other {W : World} {q r : Nat} {L : List GC} (h : GBlk W q L) (hr : q ≠ r) (cs : Array Value) : GBlk (W.setRow r cs) q L := (setRow_other W r q cs hr).trans h
theorem wpList_gstore {ops : Array Oper} {rest : List Oper} {op : Oper} {a : Act} {w : World} {Q : Exit → Act → World → Prop} (hgd : op.guard = none) (x y : Operand) (ho : op.op = .store 171 x y)
    (q off : Nat) (hx : a.eval x = .pointer (some ⟨q, off, none⟩)) (c : GC) (hy : a.eval y = c.v) (L : List GC) (hb : GBlk w q L) (i : Nat) (hoff : off = 7 * i) (hi : i < L.length)
    (h : ∀ w', GBlk w' q (L.set i c) → Only [q] w w' → wpList Tryz.prog ops Q rest (a.put op.dst undef) w') : wpList Tryz.prog ops Q (op :: rest) a w :=
  wpList_plain hgd fun K hK => by
    have hs := hb.store hi c off hoff
    unfold Oper.wp execOp
    simp only [ho, hx, hy, Sem.run_bind, Sem.run_pure, Result.andThen_ok, hs]
    exact hK _ _ (h _ (hb.set _) ((Only.refl [q] w).setRow (.inl (by simp)) _))
theorem wpList_gload {ops : Array Oper} {rest : List Oper} {op : Oper} {a : Act} {w : World} {Q : Exit → Act → World → Prop} (hgd : op.guard = none) (x : Operand) (ho : op.op = .load 171 x)
    (q off : Nat) (hx : a.eval x = .pointer (some ⟨q, off, none⟩)) (c : GC) (hc : w.rangeAt q off c.vals)
    (h : wpList Tryz.prog ops Q rest (a.put op.dst c.v) w) : wpList Tryz.prog ops Q (op :: rest) a w :=
  wpList_load_mid hgd _ x ho q off hx c.vals _ hc Tryz.underlying171 rfl (by kernel_rfl) h
theorem run_gcopy (w : World) (ty : TypeId) (g off dLen dCap : Nat) (s so sLen sCap : Nat) (cur M : List GC) (o : Nat) (hg : GBlk w g cur) (hoff : off = 7 * o) (hn : M.length = Nat.min sLen dLen)
    (hsrc : w.rangeAt s so (flatV M)) (hfit : o + M.length ≤ cur.length) :
    (Builtin.copy_ #[60, 60] ty #[.slice (some ⟨g, off, none⟩) dLen dCap, .slice (some ⟨s, so, none⟩) sLen sCap]).run Tryz.prog w = .ok (goInt M.length) (w.setRow g (flatV (splice cur o M)).toArray) := by
  subst hoff
  have hl := run_loadCells_list (P := Tryz.prog) w ⟨s, so, none⟩ (flatV M) (fun j v hv => by rw [Addr.add_mid]; exact hsrc j v hv)
  have hst := run_storeCells_at Tryz.prog g (7 * o) _ (flatV M) 0 _ w hg (by simp [flatV_length]; omega) (flatV_one M)
  have hsp := flatV_splice cur M o hfit
  unfold splice at hsp ⊢
  simp only [Nat.add_zero] at hst
  rw [List.append_assoc, hsp] at hst
  have hu : Tryz.prog.underlying 60 = some (.slice 171) := Tryz.underlying60
  have hs : (Tryz.prog.info? 171).map (·.size) = some 7 := by kernel_rfl
  have hl7 : (flatV M).length = M.length * 7 := by rw [flatV_length]; omega
  cases hq : Tryz.prog.info? 171 with
  | none => rw [hq] at hs; cases hs
  | some i =>
    have hi : i.size = 7 := by rw [hq] at hs; simpa using hs
    rw [hl7] at hl
    simp [Builtin.copy_, run_underlying hu, Builtin.lenOf, Builtin.firstCells, sizeOf, typeInfo, hq, hi, ← hn, hl, hst]
theorem run_gcopy_none (w : World) (ty : TypeId) (dp sp : Option Addr) (dLen dCap sLen sCap : Nat) (hn : Nat.min sLen dLen = 0) :
    (Builtin.copy_ #[60, 60] ty #[.slice dp dLen dCap, .slice sp sLen sCap]).run Tryz.prog w = .ok (goInt 0) w := by
  have hu : Tryz.prog.underlying 60 = some (.slice 171) := Tryz.underlying60
  have hs : (Tryz.prog.info? 171).map (·.size) = some 7 := by kernel_rfl
  cases hq : Tryz.prog.info? 171 with
  | none => rw [hq] at hs; cases hs
  | some i =>
    have hi : i.size = 7 := by rw [hq] at hs; simpa using hs
    have hl : ∀ a : Addr, (loadCells a 0).run Tryz.prog w = .ok #[] w := fun a => run_loadCells_list (P := Tryz.prog) w a [] (fun j v hv => by simp at hv)
    cases dp <;> cases sp <;> simp [Builtin.copy_, run_underlying hu, Builtin.lenOf, Builtin.firstCells, sizeOf, typeInfo, hq, hi, hn, hl, storeCells]
theorem wpList_gcopy {ops : Array Oper} {rest : List Oper} {op : Oper} {a : Act} {w : World} {Q : Exit → Act → World → Prop} (hgd : op.guard = none) (d s : Operand)
    (ho : op.op = .call { callee := .builtin .copy, args := #[d, s], argTypes := #[60, 60] })
    (dp sp : Option Addr) (dLen dCap sLen sCap : Nat) (hd : a.eval d = .slice dp dLen dCap) (hs : a.eval s = .slice sp sLen sCap)
    (g : Nat) (cur M : List GC) (o : Nat) (hg : GBlk w g cur) (hn : M.length = Nat.min sLen dLen)
    (hpos : 0 < M.length → (∃ off, dp = some ⟨g, off, none⟩ ∧ off = 7 * o) ∧ ∃ b so, sp = some ⟨b, so, none⟩ ∧ w.rangeAt b so (flatV M)) (hfit : o + M.length ≤ cur.length)
    (h : ∀ w', GBlk w' g (splice cur o M) → Only [g] w w' → wpList Tryz.prog ops Q rest (a.put op.dst (goInt M.length)) w') : wpList Tryz.prog ops Q (op :: rest) a w := by
  refine wpList_plain hgd fun K hK => ?_
  by_cases h0 : M.length = 0
  · obtain rfl : M = [] := List.eq_nil_of_length_eq_zero h0
    have hrun := run_gcopy_none w op.type dp sp dLen dCap sLen sCap (by simpa using hn.symm)
    unfold Oper.wp
    simp [execOp, ho, resolve, invoke, builtin, hd, hs, hrun, Result.andThen]
    have := h w (by simpa [splice] using hg) (Only.refl _ _)
    exact hK _ _ (by simpa using this)
  · obtain ⟨⟨off, rfl, hoff⟩, b, so, rfl, hsrc⟩ := hpos (by omega)
    have hrun := run_gcopy w op.type g off dLen dCap b so sLen sCap cur M o hg hoff hn hsrc hfit
    unfold Oper.wp
    simp [execOp, ho, resolve, invoke, builtin, hd, hs, hrun, Result.andThen]
    exact hK _ _ (h _ (hg.set _) ((Only.refl [g] w).setRow (.inl (by simp)) _))
theorem replicate_flat (n : Nat) : madeCells GC.zero.v.cells (n * 7) = (flatV (List.replicate n GC.zero)).toArray := by
  apply Array.ext'
  simp only [List.toList_toArray]
  have hz : GC.zero.v.cells = GC.zero.vals.toArray := rfl
  apply List.ext_getElem?
  intro i
  unfold madeCells
  rw [hz]
  by_cases hi : i < n * 7
  · have hL : (List.replicate n GC.zero)[i / 7]? = some GC.zero := by rw [List.getElem?_replicate, if_pos (by omega)]
    have := flatV_get hL (j := i % 7) (by omega)
    rw [show 7 * (i / 7) + i % 7 = i by omega] at this
    rw [this]
    have h7 : GC.zero.vals.toArray.size = 7 := rfl
    rw [h7]
    have hlt : i % 7 < 7 := Nat.mod_lt _ (by omega)
    simp only [Array.toList_map, Array.toList_range, List.getElem?_map, List.getElem?_range hi, Option.map_some]
    have : ∀ j, j < 7 → some GC.zero.vals.toArray[j]! = GC.zero.vals[j]? := by
      intro j hj
      obtain h | h | h | h | h | h | h : j = 0 ∨ j = 1 ∨ j = 2 ∨ j = 3 ∨ j = 4 ∨ j = 5 ∨ j = 6 := by omega
      all_goals subst h; rfl
    exact this _ hlt
  · rw [List.getElem?_eq_none (by simp; omega), List.getElem?_eq_none (by rw [flatV_length]; simp; omega)]
theorem run_gmake (W : World) (n : Nat) (hn : n ≤ 1000000) :
    (Instr.makeSlice 60 (.int .i64 (n : Int)) (.int .i64 (n : Int))).run Tryz.prog W = .ok (.slice (some ⟨W.heap.size, 0, none⟩) n n) (W.alloc (.cells (flatV (List.replicate n GC.zero)).toArray 171)) := by
  have hs : (Tryz.prog.info? 171).map (fun i => (i.zero, i.size, decide (i.bytes ≤ 1000))) = some (some GC.zero.v, 7, true) := by kernel_rfl
  cases hq : Tryz.prog.info? 171 with
  | none => rw [hq] at hs; cases hs
  | some i =>
    rw [hq] at hs
    simp only [Option.map_some, Option.some.injEq, Prod.mk.injEq, decide_eq_true_eq] at hs
    obtain ⟨h1, h2, h3⟩ := hs
    have := run_make (P := Tryz.prog) W 60 171 i GC.zero.v Tryz.underlying60 hq h1 .i64 .i64 n n (by omega) (by omega) (by have : i.bytes * n ≤ 1000 * 1000000 := Nat.mul_le_mul h3 hn; rw [← Int.natCast_mul]; omega) (by omega)
    rw [this]
    simp only [Int.toNat_natCast, h2, replicate_flat]
theorem GBlk.made (W : World) (L : List GC) : GBlk (W.alloc (.cells (flatV L).toArray 171)) W.heap.size L := World.alloc_heap_new W _
theorem results_gcell {fn : Func} {p u : Tmp} (h : fn.results = #[.cell p 171, .tmp u]) (tmps : Array Value) (w : World) (g : Nat) (t : TypeId) (cs : Array Value) (fr : Nat × Nat)
    (hp : tmps.getD p undef = .pointer (some ⟨g, 0, none⟩)) (hg : w.heap[g]? = some (.cells cs t fr)) (h7 : cs.size = 7) :
    (results fn tmps).run Tryz.prog w = .ok (.tuple #[.agg cs, tmps.getD u undef]) w := by
  have hi : (Tryz.prog.info? 171).map (·.size) = some cs.size := by rw [h7]; kernel_rfl
  have hl := run_loadVar_row (P := Tryz.prog) w g t 171 cs fr _ hg Tryz.underlying171 rfl hi
  rw [results_cell_tmp h, hp]
  simp [asAddr, hl, Result.andThen]
end Go.Proofs.YtekodpcedjpnjaaGreat
namespace Go.Proofs.YtekodpcedjpnjaaGreat
open Go.RowKit Go.Maps
theorem ownsRow_slice {W : World} {base : Nat} {e : TypeId} {size : Nat} {v : Value} {n : Nat} {xs : List Value} (h : W.ownsRow base e size v n xs) : ∃ a c, v = .slice a n c := by
  rcases h.2 with ⟨rfl, rfl⟩ | ⟨g, cap, _, rfl, _⟩
  · exact ⟨_, _, rfl⟩
  · exact ⟨_, _, rfl⟩
theorem S_get (l : List UInt8) (i : Nat) (h : i < (S l).size) : (S l)[i]'h = nth 0 l i := by
  rw [nth_eq _ _ _ (by rw [S_size] at h; exact h)]; rfl
end Go.Proofs.YtekodpcedjpnjaaGreat
namespace Go.Proofs.YtekodpcedjpnjaaGreat
open Go.RowKit Go.Maps
theorem below_append {B : Nat} {W w1 : World} {e : TypeId} {size : Nat} {v : Value} {n : Nat} {xs : List Value} {tmp : Obj} (hown : W.ownsRow B e size v n xs) (hB : B ≤ W.heap.size) (hg : (W.alloc tmp).grownBy w1 v.ownBlock) : Below B W w1 :=
  ((Below.refl B W).alloc hB tmp).grown hg (by simp; omega) (fun j ej => by
    rcases hown.2 with ⟨rfl, _⟩ | ⟨g, cap, cur, rfl, hgb, _⟩
    · simp [Value.ownBlock] at ej
    · obtain rfl : g = j := by simpa [Value.ownBlock] using ej
      exact hgb)
end Go.Proofs.YtekodpcedjpnjaaGreat
namespace Go.Proofs.YtekodpcedjpnjaaGreat
open Go.RowKit Go.Maps
end Go.Proofs.YtekodpcedjpnjaaGreat
namespace Go.Proofs.YtekodpcedjpnjaaGreat
open Go.RowKit Go.Maps
def mayB (f g : Int) : Bool := decide (0 ≤ f ∧ f ≤ 8 ∧ 0 ≤ g ∧ g ≤ 8)
theorem may_any (b u i : Bool) (f g : Int) (w : World) : Calls Tryz.prog 246 #[.agg #[.bool b, .bool u, .bool i, .int .i64 f, .int .i64 g]] w fun e w' => e = .returned (.bool (mayB f g)) ∧ Below w.heap.size w w' := by
  go_enter Tryz.func246, Tryz.ntmps246
  go_wp2
  all_goals
    go_ret
    refine ⟨ret_bool ?_, (Below.refl _ _).alloc (Nat.le_refl _) _⟩
    rw [Bool.eq_iff_iff]; simp [mayB]; omega
def colourI (c base : Int) : Int := if c = 0 then base + 9 else base + c - 1
theorem colour_any (c base : Int) (w : World) (hc : 0 ≤ c ∧ c ≤ 8) (hb : 0 ≤ base ∧ base ≤ 100) : Calls Tryz.prog 247 #[.int .i64 c, .int .i64 base] w fun e w' => e = .returned (.int .i64 (colourI c base)) ∧ w = w' := by
  go_enter Tryz.func247, Tryz.ntmps247
  go_wp2
  all_goals
    go_ret
    refine ⟨ret_int ?_, rfl⟩
    unfold colourI
    first | rw [if_pos (eq_of_beq ‹_›)] | rw [if_neg (ne_of_beq_false ‹_›)]
theorem infoInt04 : (Tryz.prog.info? 3).map (fun i => (i.zero, i.size, i.bytes)) = some (some (.int .i64 0), 1, 8) := by kernel_rfl
def eqS (b u i : Bool) (f g : Int) (b' u' i' : Bool) (f' g' : Int) : Bool := decide (b = b' ∧ u = u' ∧ i = i' ∧ f = f' ∧ g = g')
theorem eql_sty (b u i : Bool) (f g : Int) (b' u' i' : Bool) (f' g' : Int) (W : World) :
    (binOp .eql 36 (.agg #[.bool b, .bool u, .bool i, .int .i64 f, .int .i64 g]) (.agg #[.bool b', .bool u', .bool i', .int .i64 f', .int .i64 g'])).run Tryz.prog W = .ok (.bool (eqS b u i f g b' u' i' f' g')) W := by
  unfold eqS
  go_simp
  by_cases h1 : b = b' <;> by_cases h2 : u = u' <;> by_cases h3 : i = i' <;> by_cases h4 : f = f' <;> by_cases h5 : g = g' <;> simp [h1, h2, h3, h4, h5]
def numsL (b u i : Bool) (f g : Int) (b' u' i' : Bool) (f' g' : Int) : List Int :=
  let z := b && !b' || u && !u' || i && !i'
  (if z then [0] else []) ++ (if b' && !(!z && b) then [1] else []) ++ (if u' && !(!z && u) then [4] else []) ++ (if i' && !(!z && i) then [7] else []) ++
    (if f' ≠ (if z then 0 else f) then [colourI f' 30] else []) ++ (if g' ≠ (if z then 0 else g) then [colourI g' 40] else [])
def styleL (b u i : Bool) (f g : Int) (b' u' i' : Bool) (f' g' : Int) : List UInt8 :=
  if eqS b u i f g b' u' i' f' g' || !mayB f g || !mayB f' g' then [] else seqL (numsL b u i f g b' u' i' f' g') [109]
end Go.Proofs.YtekodpcedjpnjaaGreat
