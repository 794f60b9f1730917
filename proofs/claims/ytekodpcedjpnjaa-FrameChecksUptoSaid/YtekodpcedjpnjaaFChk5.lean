/- The reference: Is of any frame. No condition but that the strings are not too long for a cut. -/
import Derived.Test.YtekodpcedjpnjaaFChk4
import Derived.Test.YtekodpcedjpnjaaBwAt
namespace Go.Proofs.Ytekodpcedjpnjaa
set_option linter.unusedVariables false
set_option linter.unusedSimpArgs false
open Go.RowKit Go.Shelf Go.Maps
/-- What the reads of a round need. -/
def IsS (W : World) (b off n cap : Nat) (r c : Int) (s : Bool) (u0 : Option Addr) (w d0 : Nat) (u1 : Option Addr) (m d1 k : Nat) (X : World) : Prop :=
  FBI X W.heap.size (.slice (some ⟨b, off, none⟩) n cap) r c s ∧ X.cell? ⟨b, off, none⟩ = some (.slice u0 w d0) ∧ X.cell? ⟨b, off + k, none⟩ = some (.slice u1 m d1)
set_option maxRecDepth 100000 in
set_option maxHeartbeats 8000000 in
theorem ris_any {W : World} {a : Option Addr} {n cap : Nat} {R : List (List GC)} (hR : RowsAt W a n R) (hn : n ≤ maxLen) (hs : ∀ M ∈ R, ∀ c ∈ M, c.s.size ≤ 1100000) (r c : Int) (s : Bool) :
    Calls Try.prog 23 #[.agg #[.slice a n cap, .int .i64 r, .int .i64 c, .bool s]] W fun e w' => e = .returned (.bool (okF R r c)) ∧ Below W.heap.size W w' := by
  have hl := hR.len
  unfold maxLen at hn
  obtain ⟨zz, hzz⟩ : ∃ zz, zz = okF R r c := ⟨_, rfl⟩
  rw [← hzz]
  have z1 : FBI (W.alloc (.cells #[.slice a n cap, .int .i64 r, .int .i64 c, .bool s] 51)) W.heap.size (.slice a n cap) r c s := World.alloc_heap_new W _
  have b1 : Below W.heap.size W (W.alloc (.cells #[.slice a n cap, .int .i64 r, .int .i64 c, .bool s] 51)) := (Below.refl _ _).alloc (Nat.le_refl _) _
  have R1 := hR.below b1
  by_cases hn1 : n < 1 ∨ 60 < n
  · have HF : Hid (zz = false) := Lib.hid (by
      rw [hzz]
      unfold okF
      rw [Bool.and_eq_false_iff]
      exact .inl (decide_eq_false (by omega)))
    clear hR R1 hs hl hzz
    have hni : (n : Int) < 1 ∨ 60 < (n : Int) := by omega
    clear hn1
    rcases hni with h | h
    · go_enter Try.func23, Try.ntmps23
      go_wp2
      go_ret
      exact ⟨ret_bool HF.out.symm, b1⟩
    · have h1 : ¬ (n : Int) < 1 := by omega
      go_enter Try.func23, Try.ntmps23
      go_wp2
      go_ret
      exact ⟨ret_bool HF.out.symm, b1⟩
  obtain ⟨M0, hM0⟩ : ∃ M, M = nth [] R 0 := ⟨_, rfl⟩
  have hM0' : R[0]? = some M0 := by rw [hM0, nth_eq _ _ _ (by omega)]; exact List.getElem?_eq_getElem (by omega)
  obtain ⟨b, off, a2, c2, rfl, hb, hc0, ⟨hc1, hc2⟩, _⟩ := R1.at_ 0 M0 hM0'
  rw [Nat.add_zero] at hc0
  unfold maxLen at hc2
  obtain ⟨w, hw⟩ : ∃ w, w = M0.length := ⟨_, rfl⟩
  rw [← hw] at hc0 hc1
  have HOK : Hid (zz = (decide (1 ≤ n ∧ n ≤ 60 ∧ 1 ≤ w ∧ w ≤ 500 ∧ 0 ≤ r ∧ r < (n : Int) ∧ 0 ≤ c ∧ c < (w : Int)) && rowsOkB w R)) := Lib.hid (by rw [hzz]; unfold okF; rw [← hM0, ← hw, hl])
  have k1 : ¬ (n : Int) < 1 := by omega
  have k2 : ¬ 60 < (n : Int) := by omega
  clear hM0 hM0' hw hzz
  by_cases hD : 1 ≤ (w : Int) ∧ (w : Int) ≤ 500
  case neg =>
    have HF : Hid (zz = false) := Lib.hid (by
      rw [HOK.out, Bool.and_eq_false_iff]
      exact .inl (decide_eq_false (by omega)))
    clear hR R1 hs hl HOK hn1
    go_enter Try.func23, Try.ntmps23
    go_wp2
    all_goals first
      | (exfalso; omega)
      | (go_ret; exact ⟨ret_bool HF.out.symm, b1⟩)
  case pos =>
  obtain ⟨d1, d2⟩ := hD
  obtain ⟨z, hz⟩ : ∃ z, z = rowsOkB w R := ⟨_, rfl⟩
  have HE : Hid (zz = (decide (0 ≤ r ∧ r < (n : Int) ∧ 0 ≤ c ∧ c < (w : Int)) && z)) := Lib.hid (by
    rw [HOK.out, hz]
    congr 1
    exact decide_eq_decide.2 ⟨fun h => ⟨h.2.2.2.2.1, h.2.2.2.2.2.1, h.2.2.2.2.2.2.1, h.2.2.2.2.2.2.2⟩, fun h => ⟨by omega, by omega, by omega, by omega, h.1, h.2.1, h.2.2.1, h.2.2.2⟩⟩)
  have HZ : Hid (z = rowsOkB w (R.drop 0)) := Lib.hid (by rw [hz]; rfl)
  have HD := Lib.hid (fun k (hk : k < n) => rowsOkB_drop w R k (by omega))
  have HN : Hid (rowsOkB w (R.drop n) = true) := Lib.hid (by rw [List.drop_eq_nil_of_le (by omega)]; rfl)
  have k3 : ¬ (w : Int) < 1 := by omega
  have k4 : ¬ 500 < (w : Int) := by omega
  have HR := Lib.hid R1
  have HS := Lib.hid hs
  have HL := Lib.hid hl
  have hn60 : n ≤ 60 := by omega
  have hw500 : w ≤ 500 := by omega
  have e0 := z1.cells.1
  clear hR R1 hs hl hz HOK hn1
  go_enter Try.func23, Try.ntmps23
  go_wp2
  obtain ⟨X, hX⟩ : ∃ X, W.alloc (.cells #[.slice (some ⟨b, off, none⟩) n cap, .int .i64 r, .int .i64 c, .bool s] 51) = X := ⟨_, rfl⟩
  rw [hX] at b1 HR z1 hb hc0 ⊢
  clear hX e0
  have R1 := HR.out
  go_loopw [3] (fun i wr => ∃ k : Nat, k ≤ n ∧ i = .int .i64 k ∧ Hid (z = rowsOkB w (R.drop k)) ∧ Below X.heap.size X wr) (fun i _ => n - (intOf i).toNat)
  case atStart => exact ⟨0, Nat.zero_le _, rfl, HZ, Below.refl _ _⟩
  case round =>
    obtain ⟨k, hk, rfl, hf, hbr⟩ := hrel
    have z2 := z1.below hbr
    have hc2' : wr.cell? ⟨b, off, none⟩ = some (.slice a2 w c2) := (hbr.cell (p := ⟨b, _, none⟩) hb).trans hc0
    have hbw : Below W.heap.size W wr := bto b1 hbr b1.size
    have dB : Below wr.heap.size wr wr.drew := (Below.refl _ _).drew
    by_cases hlt : k < n
    · have hMk : R[k]? = some (nth [] R k) := by rw [nth_eq _ _ _ (by rw [HL.out]; exact hlt), List.getElem?_eq_getElem (by rw [HL.out]; exact hlt)]
      obtain ⟨b', off', a3, c3, e', hb', hc3, ⟨hc4, hc5⟩, hM⟩ := (R1.below hbr).at_ k _ hMk
      simp only [Option.some.injEq, Addr.mk.injEq] at e'
      obtain ⟨rfl, rfl, _⟩ := e'
      have hsM := HS.out _ (List.mem_of_getElem? hMk)
      have hDk := HD.out k hlt
      obtain ⟨M, hMM⟩ : ∃ M, M = nth [] R k := ⟨_, rfl⟩
      rw [← hMM] at hc3 hc4 hM hsM hDk
      obtain ⟨m, hm⟩ : ∃ m, m = M.length := ⟨_, rfl⟩
      rw [← hm] at hc3 hc4 hM hDk
      unfold maxLen at hc5
      have hbwr : b < wr.heap.size := Nat.lt_of_lt_of_le hb hbr.size
      have hS0 : IsS W b off n cap r c s a2 w c2 a3 m c3 k wr.drew := ⟨z2.below dB, hc2', hc3⟩
      obtain ⟨u0, u1, u2, u3⟩ := z2.cells
      have hz2l := z2.lt
      have h0n : 0 < n := by omega
      have h0i : (0 : Int) < (n : Int) := by omega
      have hlti : (k : Int) < (n : Int) := by omega
      have K0 := fun p : BW wr.heap.size wr => p.cell (by exact hz2l) u0
      have K1 := fun p : BW wr.heap.size wr => p.cell (by exact hz2l) u1
      have K2 := fun p : BW wr.heap.size wr => p.cell (by exact hz2l) u2
      have K3 := fun p : BW wr.heap.size wr => p.cell (by exact hz2l) u3
      have K4 := fun p : BW wr.heap.size wr => p.cell (by exact hbwr) hc2'
      have K5 := fun p : BW wr.heap.size wr => p.cell (by exact hbwr) hc3
      clear hMk hMM hm hS0 dB
      by_cases hml : m = w
      · subst hml
        have CW := Lib.hid (fun (X' : World) (hX' : Below wr.heap.size wr X') => rwhole_any (cap := c3) (hM.below hX') (by omega) hsM)
        have hne : ((m : Int) != (m : Int)) = false := by simp
        have HDk : Hid (z = (wholeB M && rowsOkB m (R.drop (k + 1)))) := Lib.hid (by rw [hf.out, hDk]; simp)
        clear hM hc5 hsM hDk
        go_wp2_with fail
        refine wp_region_bw wr.heap.size (by kernel_rfl) (lexB_fast (by kernel_rfl)) ?_
        repeat (go_big_quiet_step ((apply Calls.bw_of (Nat.le_refl _); go_at_call 73; exact CW.out _ (BW.h _))))
        refine wpQuiet_nil ?_
        intro wq hw'
        have hwq : Below wr.heap.size wr wq := by obtain ⟨p, rfl⟩ := hw'; exact p.h
        have hB3 := bto hbr hwq hbr.size
        clear hw' K0 K1 K2 K3 K4 K5 CW
        cases hwb : wholeB M with
        | true =>
          have HZ2 : Hid (z = rowsOkB m (R.drop (k + 1))) := Lib.hid (by rw [HDk.out, hwb]; rfl)
          clear hwb
          go_wp2
          go_roundw
          case rel => exact ⟨k + 1, hlt, by go_num, HZ2, hB3⟩
          case measure => simp [intOf]; omega
        | false =>
          have HF : Hid (zz = false) := Lib.hid (by rw [HE.out, HDk.out, hwb]; simp)
          clear hwb
          go_wp2
          go_ret
          exact ⟨ret_bool HF.out.symm, bto b1 hB3 b1.size⟩
      · have hne : ((m : Int) != (w : Int)) = true := by simp; omega
        have HF : Hid (zz = false) := Lib.hid (by rw [HE.out, hf.out, hDk]; simp [hml])
        clear hM hc5 hsM hDk hml
        go_wp2_with fail
        refine wp_region_bw wr.heap.size (by kernel_rfl) (lexB_fast (by kernel_rfl)) ?_
        repeat (go_big_quiet_step (fail))
        refine wpQuiet_nil ?_
        intro wq hw'
        have hwq : Below wr.heap.size wr wq := by obtain ⟨p, rfl⟩ := hw'; exact p.h
        have hB3 := bto hbr hwq hbr.size
        clear hw' K0 K1 K2 K3 K4 K5
        go_wp2
        go_ret
        exact ⟨ret_bool HF.out.symm, bto b1 hB3 b1.size⟩
    · obtain rfl : k = n := by omega
      obtain ⟨u0, u1, u2, u3⟩ := z2.cells
      have HE2 : Hid (zz = decide (0 ≤ r ∧ r < (k : Int) ∧ 0 ≤ c ∧ c < (w : Int))) := Lib.hid (by rw [HE.out, hf.out, HN.out, Bool.and_true])
      have hk0 : (0 : Int) < (k : Int) := by omega
      have hz2l := z2.lt
      have hbl : b < wr.heap.size := Nat.lt_of_lt_of_le hb hbr.size
      have K0 := fun p : BW wr.heap.size wr => p.cell (by exact hz2l) u0
      have K1 := fun p : BW wr.heap.size wr => p.cell (by exact hz2l) u1
      have K2 := fun p : BW wr.heap.size wr => p.cell (by exact hz2l) u2
      have K3 := fun p : BW wr.heap.size wr => p.cell (by exact hz2l) u3
      have K4 := fun p : BW wr.heap.size wr => p.cell (by exact hbl) hc2'
      by_cases q1 : 0 ≤ r
      case neg =>
        have HF : Hid (zz = false) := Lib.hid (by rw [HE2.out]; simp; omega)
        have dq : decide (0 ≤ r) = false := by simpa using q1
        go_wp2_with fail
        refine wp_region_bw wr.heap.size (by kernel_rfl) (lexB_fast (by kernel_rfl)) ?_
        repeat (go_big_quiet_step (fail))
        refine wpQuiet_nil ?_
        intro wq hw'
        have hwq : Below wr.heap.size wr wq := by obtain ⟨p, rfl⟩ := hw'; exact p.h
        have hbq : Below W.heap.size W wq := bto hbw hwq hbw.size
        clear hw' K0 K1 K2 K3 K4
        go_wp2
        go_ret
        exact ⟨ret_bool HF.out.symm, hbq⟩
      have dq1 : decide (0 ≤ r) = true := by simpa using q1
      by_cases q2 : r < (k : Int)
      case neg =>
        have HF : Hid (zz = false) := Lib.hid (by rw [HE2.out]; simp; omega)
        have dq : decide (r < (k : Int)) = false := by simpa using q2
        go_wp2_with fail
        refine wp_region_bw wr.heap.size (by kernel_rfl) (lexB_fast (by kernel_rfl)) ?_
        repeat (go_big_quiet_step (fail))
        refine wpQuiet_nil ?_
        intro wq hw'
        have hwq : Below wr.heap.size wr wq := by obtain ⟨p, rfl⟩ := hw'; exact p.h
        have hbq : Below W.heap.size W wq := bto hbw hwq hbw.size
        clear hw' K0 K1 K2 K3 K4
        go_wp2
        go_ret
        exact ⟨ret_bool HF.out.symm, hbq⟩
      have dq2 : decide (r < (k : Int)) = true := by simpa using q2
      by_cases q3 : 0 ≤ c
      case neg =>
        have HF : Hid (zz = false) := Lib.hid (by rw [HE2.out]; simp; omega)
        have dq : decide (0 ≤ c) = false := by simpa using q3
        go_wp2_with fail
        refine wp_region_bw wr.heap.size (by kernel_rfl) (lexB_fast (by kernel_rfl)) ?_
        repeat (go_big_quiet_step (fail))
        refine wpQuiet_nil ?_
        intro wq hw'
        have hwq : Below wr.heap.size wr wq := by obtain ⟨p, rfl⟩ := hw'; exact p.h
        have hbq : Below W.heap.size W wq := bto hbw hwq hbw.size
        clear hw' K0 K1 K2 K3 K4
        go_wp2
        go_ret
        exact ⟨ret_bool HF.out.symm, hbq⟩
      have dq3 : decide (0 ≤ c) = true := by simpa using q3
      have HF : Hid (zz = decide (c < (w : Int))) := Lib.hid (by rw [HE2.out]; simp [q1, q2, q3])
      go_wp2_with fail
      refine wp_region_bw wr.heap.size (by kernel_rfl) (lexB_fast (by kernel_rfl)) ?_
      repeat (go_big_quiet_step (fail))
      refine wpQuiet_nil ?_
      intro wq hw'
      have hwq : Below wr.heap.size wr wq := by obtain ⟨p, rfl⟩ := hw'; exact p.h
      have hbq : Below W.heap.size W wq := bto hbw hwq hbw.size
      clear hw' K0 K1 K2 K3 K4
      go_wp2
      go_ret
      exact ⟨ret_bool HF.out.symm, hbq⟩
end Go.Proofs.Ytekodpcedjpnjaa
