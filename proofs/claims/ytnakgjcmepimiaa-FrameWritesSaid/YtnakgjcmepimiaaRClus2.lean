/- The reference's clusters: the contracts of Clean, Flat, Width, Columns, Is, Join, SameAll. -/
import Derived.Test.YtnakgjcmepimiaaRClus1
namespace Go.Proofs.Ytnakgjcmepimiaa
set_option linter.unusedVariables false
set_option linter.unusedSimpArgs false
open Go.RowKit Go.Shelf Go.Maps
theorem clu_runes {c : List UInt8} (h : Clu c) : ∃ r t, runesL c = r :: t := by
  obtain ⟨g, hg, rfl⟩ := h
  obtain ⟨r, t, e, _⟩ := hg.base
  exact ⟨r, t, by rw [runes_enc0 _ hg.rune, e]⟩
theorem take_len64 (l : List UInt8) (k : Nat) : ((cutL l).take k).flatten.length ≤ 64 * l.length := by
  refine Nat.le_trans (flat_len _ 64 (fun c hc => (clu_mem (List.mem_of_mem_take hc)).len.2)) ?_
  have h1 := cutL_len l
  have : ((cutL l).take k).length ≤ l.length := by rw [List.length_take]; omega
  exact Nat.mul_le_mul (Nat.le_refl _) this
theorem take_flat' (L : List (List UInt8)) (k : Nat) (h : k < L.length) : (L.take (k + 1)).flatten = (L.take k).flatten ++ nth [] L k := by
  rw [List.take_succ_eq_append_getElem h, List.flatten_append, nth_eq _ _ _ h]; simp
/-- The cell of number k. -/
theorem strs_at {B : Nat} {w : World} {a : Option Addr} {L : List (List UInt8)} (h : RowAt B w a (strV L)) (k : Nat) (hk : k < L.length) : ∃ b off, a = some ⟨b, off, none⟩ ∧ b < B ∧ w.cell? ⟨b, off + k, none⟩ = some (.string (S (nth [] L k))) := by
  obtain ⟨b, off, e, hb, hc⟩ := h k (by rw [strV_len]; exact hk)
  exact ⟨b, off, e, hb, by rw [hc, strV_nth _ _ hk]⟩
set_option maxRecDepth 100000 in
set_option maxHeartbeats 2000000 in
theorem refClean_any (l : List UInt8) (hl : l.length ≤ 1100000) (w : World) : Calls Try.prog 43 #[.string (S l)] w fun e w' => e = .returned (.string (S (cleanL l))) ∧ Below w.heap.size w w' := by
  have CC := Lib.hid (fun W => refCut_any l hl W)
  have HT := Lib.hid (take_len64 l)
  have HF := Lib.hid (take_flat' (cutL l))
  have HC := Lib.hid (fun k h => (@nth_clu l k h).len)
  obtain ⟨L, hL⟩ : ∃ L, L = cutL l := ⟨_, rfl⟩
  have HE := Lib.hid (show cleanL l = (L.take L.length).flatten by rw [List.take_length, hL]; rfl)
  have hLl : L.length ≤ 1100000 := by rw [hL]; exact Nat.le_trans (cutL_len l) hl
  rw [← hL] at CC HT HF HC
  clear hL
  go_enter Try.func43, Try.ntmps43
  go_wp2_with (go_at_call 26; refine (CC.out _).mono ?_; rintro e w1 ⟨a, n, c, hn, hnc, hcm, rfl, hrow, hb1, _⟩; have HN := Lib.hid hn; clear hn)
  have hnl : n ≤ 1100000 := by rw [HN.out]; exact hLl
  go_loop [5, 3] (fun i s => ∃ k : Nat, k ≤ n ∧ i = .int .i64 (k : Int) ∧ s = .string (S (L.take k).flatten)) (fun i _ => n - (intOf i).toNat)
  case atStart => exact ⟨0, Nat.zero_le _, rfl, rfl⟩
  case round =>
    obtain ⟨k, hk, rfl, rfl⟩ := hrel
    by_cases hlt : k < n
    · have hkL : k < L.length := by rw [← HN.out]; exact hlt
      obtain ⟨b0, o0, rfl, hb0, hck⟩ := strs_at hrow k hkL
      have hf := HF.out k hkL
      have hl1 := HT.out k
      have hl2 := HC.out k hkL
      obtain ⟨A, hA⟩ : ∃ A, A = (L.take k).flatten := ⟨_, rfl⟩
      obtain ⟨C, hC⟩ : ∃ C, C = nth [] L k := ⟨_, rfl⟩
      rw [← hC] at hck hf hl2
      rw [← hA] at hf hl1 ⊢
      have hab : S A ++ S C = S (A ++ C) := S_append _ _
      have hs1 := S_size A
      have hs2 := S_size C
      have HFF := Lib.hid hf
      clear hf hA hC hkL
      go_wp2
      go_round
      case rel => exact ⟨k + 1, by omega, by go_num, by rw [HFF.out]⟩
      case measure => simp [intOf]; omega
    · obtain rfl : k = n := by omega
      have hE := HE.out
      rw [← HN.out] at hE
      have HE2 := Lib.hid hE
      clear hE
      go_wp2
      go_ret
      exact ⟨by rw [HE2.out]; rfl, hb1⟩
set_option maxRecDepth 100000 in
set_option maxHeartbeats 2000000 in
theorem refFlat_any (l : List UInt8) (hl : l.length ≤ 1100000) (w : World) : Calls Try.prog 9 #[.string (S l)] w fun e w' => e = .returned (.string (S (flatL l))) ∧ Below w.heap.size w w' := by
  obtain ⟨cap, W1, hrun, hb1, hs1, hB, hcap, hfz⟩ := bytes_conv w l
  have CL := Lib.hid (fun W => refClean_any (blanksL l) (by unfold blanksL; simpa using hl) W)
  have hB0 : BysW W1 w.heap.size (flatTo l 0) := ⟨by omega, fun j hj => by
    have hj' : j < l.length := by rwa [flatTo_len] at hj
    have := hB.at_ j hj'
    rw [Nat.zero_add] at this
    exact ⟨by rw [this]; simp [flatTo], hfz j hj'⟩⟩
  have HL := Lib.hid (fun k => flatTo_len l k)
  have HA := Lib.hid (fun k h => flatTo_at l k h)
  have HX := Lib.hid (fun k j h hj => flatTo_next l k j h hj)
  have HE := Lib.hid (flatTo_end l)
  clear hB hfz
  go_enter Try.func9, Try.ntmps9
  go_wp2
  go_loopw [4] (fun i wr => ∃ k : Nat, k ≤ l.length ∧ i = .int .i64 (k : Int) ∧ BysW wr w.heap.size (flatTo l k) ∧ Below w.heap.size w wr) (fun i _ => l.length - (intOf i).toNat)
  case atStart => exact ⟨0, Nat.zero_le _, rfl, hB0, hb1⟩
  case round =>
    obtain ⟨k, hk, rfl, hBk, hbr⟩ := hrel
    by_cases hlt : k < l.length
    · obtain ⟨ck, fk⟩ := hBk.at_ k (by rw [HL.out]; exact hlt)
      rw [HA.out k hlt] at ck
      obtain ⟨x, hx⟩ : ∃ x, x = nth 0 l k := ⟨_, rfl⟩
      rw [← hx] at ck
      have HXX := Lib.hid hx
      clear hx
      by_cases hbl : x.toNat = 9 ∨ x.toNat = 10 ∨ x.toNat = 13
      · have hput := hBk.put (l' := flatTo l (k + 1)) k 32 (by rw [HL.out]; exact hlt) (by rw [HL.out, HL.out]) (fun j hj => by rw [HX.out k j hlt (by rw [HL.out] at hj; exact hj), ← HXX.out, blankB_yes x hbl])
        have hput : Hid (BysW (wr.setCell ⟨w.heap.size, k, none⟩ (.int .u8 32)) w.heap.size (flatTo l (k + 1))) := Lib.hid hput
        rcases hbl with h | h | h
        all_goals
          rw [h] at ck
          clear h
          go_wp2
          go_roundw
          case rel => exact ⟨k + 1, by omega, by go_num, hput.out, hbr.setCell (p := ⟨w.heap.size, k, none⟩) (Nat.le_refl _) _⟩
          case measure => simp [intOf]; omega
      · have hn1 : ((x.toNat : Int) == 9) = false := by simp; omega
        have hn2 : ((x.toNat : Int) == 10) = false := by simp; omega
        have hn3 : ((x.toNat : Int) == 13) = false := by simp; omega
        have hput : Hid (BysW wr w.heap.size (flatTo l (k + 1))) := Lib.hid ⟨hBk.lt, fun j hj => by
          rw [HL.out] at hj
          have := hBk.at_ j (by rw [HL.out]; exact hj)
          rw [HX.out k j hlt hj]
          by_cases e : j = k
          · subst e
            rw [if_pos rfl, ← HXX.out, blankB_no x hbl]
            exact ⟨ck, this.2⟩
          · rw [if_neg e]; exact this⟩
        clear hbl
        go_wp2
        go_roundw
        case rel => exact ⟨k + 1, by omega, by go_num, hput.out, hbr⟩
        case measure => simp [intOf]; omega
    · obtain rfl : k = l.length := by omega
      rw [HE.out] at hBk
      have hcv := hBk.conv (cap := cap)
      have hbl : (blanksL l).length = l.length := by unfold blanksL; simp
      rw [hbl] at hcv
      clear hbl
      go_wp2_with (go_at_call 43; refine (CL.out _).mono ?_; rintro e w2 ⟨rfl, hb2⟩)
      go_ret
      exact ⟨rfl, bto hbr hb2 hbr.size⟩
set_option maxRecDepth 100000 in
set_option maxHeartbeats 2000000 in
theorem refWidth_any (l : List UInt8) (hl : l.length ≤ 1100000) (w : World) : Calls Try.prog 28 #[.string (S l)] w fun e w' => e = .returned (.int .i64 (widthL l)) ∧ Below w.heap.size w w' := by
  have CC := Lib.hid (fun W => refCut_any l hl W)
  by_cases h0 : cutL l = []
  · have hw := widthL_0 h0
    rw [hw]
    rw [h0] at CC
    clear h0 hw
    go_enter Try.func28, Try.ntmps28
    go_wp2_with (go_at_call 26; refine (CC.out _).mono ?_; rintro e w1 ⟨a, n, c, hn, hnc, hcm, rfl, hrow, hb1, _⟩; obtain rfl : n = 0 := hn)
    go_ret
    exact ⟨rfl, hb1⟩
  · have hpos : 0 < (cutL l).length := List.length_pos_iff.2 h0
    have hw := widthL_1 hpos
    have hclu := nth_clu hpos
    have hcl := hclu.len
    obtain ⟨r, t, hrt⟩ := clu_runes hclu
    have hv : widthL l = colsB (r : Int) := by rw [hw]; unfold colsL; rw [hrt]
    rw [hv]
    obtain ⟨C, hC⟩ : ∃ C, C = nth [] (cutL l) 0 := ⟨_, rfl⟩
    have HS := Lib.hid (fun (w1 : World) (a : Option Addr) (h : RowAt w1.heap.size w1 a (strV (cutL l))) => (by rw [hC]; exact strs_at h 0 hpos : ∃ b off, a = some ⟨b, off, none⟩ ∧ b < w1.heap.size ∧ w1.cell? ⟨b, off + 0, none⟩ = some (.string (S C))))
    rw [← hC] at hcl hrt
    have CRU := Lib.hid (fun (W : World) (b cap : Nat) (hcap : C.length ≤ cap) (hB : Bys W b 0 C) => refRunes_any C b cap W (by omega) hcap hB)
    rw [hrt] at CRU
    have CO := Lib.hid (fun W => refOf_any (r : Int) W)
    have HPOS := Lib.hid hpos
    clear h0 hpos hw hclu hrt hv hC hcl
    go_enter Try.func28, Try.ntmps28
    go_wp2_with (first
      | (go_at_call 26; refine (CC.out _).mono ?_; rintro e w1 ⟨a, n, c, hn, hnc, hcm, rfl, hrow, hb1, _⟩; obtain ⟨b0, o0, rfl, hb0, hc0⟩ := HS.out w1 a hrow; rw [Nat.add_zero] at hc0; have hn0 : 0 < n := by rw [hn]; exact HPOS.out
         have hne : ((n : Int) == 0) = false := by simp; omega
         have HN := Lib.hid hn
         clear hn
         obtain ⟨cap2, W2, hrun2, hb2, hs2, hB2, hcap2, _⟩ := bytes_conv w1 C)
      | (go_at_call 63; refine (CRU.out _ _ _ hcap2 hB2).mono ?_; rintro e w3 ⟨a3, n3, c3, a4, n4, c4, hn3, hnc3, rfl, hrow3, hb3⟩; obtain ⟨b5, o5, rfl, hb5, hc5⟩ := hrow3 0 (by simp [runV]); rw [Nat.add_zero] at hc5; replace hc5 : w3.cell? ⟨b5, o5, none⟩ = some (.int .i32 (r : Int)) := hc5; have hn30 : 0 < n3 := by rw [hn3]; simp
         have HN3 := Lib.hid hn3
         clear hn3)
      | (go_at_call 65; refine (CO.out _).mono ?_; rintro e w6 ⟨rfl, hb6⟩))
    go_ret
    exact ⟨rfl, bnext (bnext (bnext hb1 hb2) hb3) hb6⟩
theorem widthL_clu {c : List UInt8} (h : Clu c) : widthL c = colsL c := by unfold widthL; rw [h.cut]
end Go.Proofs.Ytnakgjcmepimiaa
