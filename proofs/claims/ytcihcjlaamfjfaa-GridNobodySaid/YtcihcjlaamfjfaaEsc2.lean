/- The contracts of sequences and moves, of the program and of its reference. -/
import Derived.Test.YtcihcjlaamfjfaaEsc1
namespace Go.Proofs.Ytcihcjlaamfjfaa
open Go.RowKit

def i64s (L : List Int) : List Value := L.map (Value.int .i64)
theorem i64s_length (L : List Int) : (i64s L).length = L.length := by simp [i64s]
theorem i64s_nth (L : List Int) (j : Nat) (h : j < L.length) : nth undef (i64s L) j = .int .i64 (nth 0 L j) := nth_map _ _ _ _ h
theorem ints_at {B : Nat} {w : World} {a : Option Addr} {l : List Int} (h : RowAt B w a (i64s l)) (k : Nat) (hk : k < l.length) : ∃ b off, a = some ⟨b, off, none⟩ ∧ b < B ∧ w.cell? ⟨b, off + k, none⟩ = some (.int .i64 (nth 0 l k)) := by
  obtain ⟨b, off, e, hb, hc⟩ := h k (by rw [i64s_length]; exact hk)
  exact ⟨b, off, e, hb, by rw [hc, i64s_nth _ _ hk]⟩

def nines : List UInt8 := decL (9999 : Int).toNat
theorem dec_nines (w : World) : Calls Try.prog 117 #[.int .i64 9999] w fun e w' => e = .returned (.string (S nines)) ∧ Below w.heap.size w w' := dec_any 9999 w (by omega) (by omega)
set_option maxRecDepth 100000 in
set_option maxHeartbeats 1000000 in
theorem sequence_any (E : List UInt8) (l : List Int) (a : Option Addr) (n c : Nat) (w : World) (hE : E.length ≤ 100) (hn : n = l.length) (hl : l.length ≤ 20) (hr : RowAt w.heap.size w a (i64s l)) (h0 : ∀ k, k < l.length → 0 ≤ nth 0 l k) :
    Calls Try.prog 87 #[.string (S E), .slice a n c] w fun e w' => e = .returned (.string (S (seqL l E))) ∧ Below w.heap.size w w' := by
  subst hn
  have H0 := Lib.hid h0
  clear h0
  have hEs : (S E).size ≤ 100 := by rw [S_size]; exact hE
  go_enter Try.func87, Try.ntmps87
  go_wp2
  go_loopw [10, 5] (fun i s wr => ∃ k : Nat, k ≤ l.length ∧ i = .int .i64 k ∧ s = .string (S ([27, 91] ++ sepTo l k)) ∧ Below w.heap.size w wr) (fun i _ _ => l.length - (intOf i).toNat)
  case atStart => exact ⟨0, by omega, rfl, rfl, Below.refl _ _⟩
  case round =>
    obtain ⟨k, hk, rfl, rfl, hb⟩ := hrel
    have hsz := sepTo_len l k
    have hsz2 : (S ([27, 91] ++ sepTo l k)).size ≤ 200 := by rw [S_size]; simp; omega
    obtain ⟨P, hP⟩ : ∃ P, P = [27, 91] ++ sepTo l k := ⟨_, rfl⟩
    rw [← hP] at hsz2 ⊢
    have HP := Lib.hid hP
    clear hP hsz
    by_cases hlt : k < l.length
    · obtain ⟨b, off, rfl, _, hc⟩ := ints_at (hr.below hb) k hlt
      have h00 := H0.out k hlt
      have hs : sepTo l (k + 1) = sepTo l k ++ (if k = 0 then [] else [59]) ++ decL (min (nth 0 l k) 9999).toNat := rfl
      obtain ⟨m, hm⟩ : ∃ m, m = nth 0 l k := ⟨_, rfl⟩
      rw [← hm] at hc h00 hs
      have Hs := Lib.hid hs
      clear hs hm
      have hfin : ∀ (d : List UInt8), d = decL (min m 9999).toNat → S (P ++ (if k = 0 then [] else [59]) ++ d) = S ([27, 91] ++ sepTo l (k + 1)) := fun d hd => by rw [Hs.out, HP.out, hd]; simp
      have Hfin := Lib.hid hfin
      clear hfin
      by_cases hbig : m ≤ 9999
      · have hd1 := decL_le m.toNat (by omega)
        have hd2 : (S (decL m.toNat)).size ≤ 4 := by rw [S_size]; exact hd1
        have he : min m 9999 = m := by omega
        rw [he] at Hfin
        have He := Lib.hid he
        clear he hd1
        by_cases hk0 : k = 0
        · subst hk0
          rw [Nat.add_zero] at hc
          go_wp2_with (go_at_call 117; refine (dec_any _ _ (by omega) (by omega)).mono ?_; rintro e w1 ⟨rfl, hb1⟩)
          go_roundw
          case rel => exact ⟨0 + 1, by omega, by go_num, congrArg Value.string (by rw [S_append]; have := Hfin.out _ rfl; simpa using this), bnext hb hb1⟩
          case measure => simp [intOf]; omega
        · have hk1 : 0 < (k : Int) := by omega
          have Hk0 := Lib.hid hk0
          clear hk0
          go_wp2_with (go_at_call 117; refine (dec_any _ _ (by omega) (by omega)).mono ?_; rintro e w1 ⟨rfl, hb1⟩)
          go_roundw
          case rel => exact ⟨k + 1, by omega, by go_num, congrArg Value.string (by have := Hfin.out _ rfl; rw [if_neg Hk0.out] at this; rw [← this]; exact (congrArg (· ++ S (decL m.toNat)) (S_append P [59])).trans (S_append _ _)), bnext hb hb1⟩
          case measure => simp [intOf]; omega
      · have hd2 : (S nines).size ≤ 4 := by rw [S_size]; exact decL_le _ (by omega)
        have he : min m 9999 = 9999 := by omega
        rw [he] at Hfin
        have hn : nines = decL (9999 : Int).toNat := rfl
        rw [← hn] at Hfin
        clear he hn
        have hbig2 : 9999 < m := by omega
        clear hbig
        by_cases hk0 : k = 0
        · subst hk0
          rw [Nat.add_zero] at hc
          go_wp2_with (go_at_call 117; refine (dec_nines _).mono ?_; rintro e w1 ⟨rfl, hb1⟩)
          go_roundw
          case rel => exact ⟨0 + 1, by omega, by go_num, congrArg Value.string (by rw [S_append]; have := Hfin.out _ rfl; simpa using this), bnext hb hb1⟩
          case measure => simp [intOf]; omega
        · have hk1 : 0 < (k : Int) := by omega
          have Hk0 := Lib.hid hk0
          clear hk0
          go_wp2_with (go_at_call 117; refine (dec_nines _).mono ?_; rintro e w1 ⟨rfl, hb1⟩)
          go_roundw
          case rel => exact ⟨k + 1, by omega, by go_num, congrArg Value.string (by have := Hfin.out _ rfl; rw [if_neg Hk0.out] at this; rw [← this]; exact (congrArg (· ++ S nines) (S_append P [59])).trans (S_append _ _)), bnext hb hb1⟩
          case measure => simp [intOf]; omega
    · obtain rfl : k = l.length := by omega
      go_wp2
      go_ret
      exact ⟨ret_str (by rw [S_append, HP.out]; rfl), hb⟩
end Go.Proofs.Ytcihcjlaamfjfaa
