/- The first rune of bytes: the contracts of Next and step. -/
import Derived.Test.YtnakgjcmepimiaaRune3
namespace Go.Proofs.Ytnakgjcmepimiaa
set_option linter.unusedVariables false
set_option linter.unusedSimpArgs false
open Go.RowKit
/-- Bytes in memory. -/
structure Bys (w : World) (b off : Nat) (l : List UInt8) : Prop where
  lt : b < w.heap.size
  at_ : ∀ j, j < l.length → w.cell? ⟨b, off + j, none⟩ = some (.int .u8 ((nth 0 l j).toNat : Int))
theorem Bys.below {w w' : World} {b off : Nat} {l : List UInt8} (h : Bys w b off l) (hb : Below w.heap.size w w') : Bys w' b off l :=
  ⟨by have := hb.size; have := h.lt; omega, fun j hj => (hb.cell (p := ⟨b, off + j, none⟩) h.lt).trans (h.at_ j hj)⟩
def NextP (l : List UInt8) (e : Ending) : Prop := ∃ (r : Int) (n : Nat) (m : Bool), e = .returned (.tuple #[.int .i32 r, .int .i64 n, .bool m]) ∧ (m = true ∧ stepL l = (65533, 1) ∨ m = false ∧ r = (stepL l).1 ∧ n = (stepL l).2)
theorem nextP_more {l : List UInt8} (h : stepL l = (65533, 1)) : NextP l (.returned (.tuple #[.int .i32 0, .int .i64 0, .bool true])) := ⟨0, 0, true, rfl, .inl ⟨rfl, h⟩⟩
theorem nextP_bad {l : List UInt8} (h : stepL l = (65533, 1)) : NextP l (.returned (.tuple #[.int .i32 65533, .int .i64 1, .bool false])) := ⟨65533, 1, false, rfl, .inr ⟨rfl, by rw [h]; rfl, by rw [h]⟩⟩
theorem nextP_ok {l : List UInt8} {r n : Nat} (h : stepL l = (r, n)) : NextP l (.returned (.tuple #[.int .i32 r, .int .i64 n, .bool false])) := ⟨r, n, false, rfl, .inr ⟨rfl, by rw [h], by rw [h]⟩⟩
theorem manyI_L (n : Nat) : manyI n = (manyL n : Nat) := by unfold manyI manyL; (repeat' split) <;> omega
theorem loI_L (n : Nat) (h : 2 ≤ manyL n) : loI n = (lo1 n : Nat) := by unfold loI lo1; unfold manyL at h; (repeat' split at h) <;> (repeat' split) <;> omega
theorem hiI_L (n : Nat) (h : 2 ≤ manyL n) : hiI n = (hi1 n : Nat) := by unfold hiI hi1; unfold manyL at h; (repeat' split at h) <;> (repeat' split) <;> omega
theorem bitsI_L (n : Nat) (h : 1 ≤ manyL n) : bitsI n = (bitsL n : Nat) := by unfold bitsI bitsL; unfold manyL at h; (repeat' split at h) <;> (repeat' split) <;> omega
theorem acc_val {c A k : Nat} {t : List UInt8} {x : UInt8} (hA : A < 2 ^ 24) (ha : A = accN c t k) (hx : x = nth 0 t k) :
    Value.int .i32 (bits .or .i32 (wrap32 ((A : Int) * 64)) ((x.toNat : Int) % 64)) = .int .i32 ((accN c t (k + 1) : Nat) : Int) := by
  have h1 := or_i32 A (x.toNat % 64) hA (Nat.mod_lt _ (by omega))
  have h2 : wrap32 ((A : Int) * 64) = ((A * 64 : Nat) : Int) := by rw [IntWalk.wrap32_in _ (by omega)]; omega
  have h3 : ((x.toNat : Int) % 64) = ((x.toNat % 64 : Nat) : Int) := by omega
  rw [h2, h3, h1]
  unfold accN
  rw [← ha, ← hx]
set_option maxRecDepth 100000 in
set_option maxHeartbeats 4000000 in
theorem next_any (c : UInt8) (t : List UInt8) (b off cap : Nat) (w : World) (hlen : (c :: t).length ≤ 2000000) (hB : Bys w b off (c :: t)) :
    Calls Try.prog 92 #[.slice (some ⟨b, off, none⟩) (c :: t).length cap] w fun e w' => NextP (c :: t) e ∧ Below w.heap.size w w' := by
  have hn256 : c.toNat < 256 := c.toNat_lt
  have CS := fun W => shape_any c.toNat hn256 W
  have k0 := hB.at_ 0 (by simp)
  have hnth0 : nth 0 (c :: t) 0 = c := rfl
  rw [hnth0, Nat.add_zero] at k0
  have hnthS : ∀ k, nth 0 (c :: t) (k + 1) = nth 0 t k := fun k => rfl
  have H0 := Lib.hid (step_many0 c t)
  have H1 := Lib.hid (step_bad c t)
  have H2 := Lib.hid (step_ok c t)
  have hlo : ∃ lo hi : Int, loI c.toNat = lo ∧ hiI c.toNat = hi ∧ (2 ≤ manyL c.toNat → lo = (lo1 c.toNat : Nat) ∧ hi = (hi1 c.toNat : Nat)) := ⟨_, _, rfl, rfl, fun h => ⟨loI_L _ h, hiI_L _ h⟩⟩
  have hbt : ∃ bt : Int, bitsI c.toNat = bt ∧ (1 ≤ manyL c.toNat → bt = (bitsL c.toNat : Nat)) := ⟨_, rfl, fun h => bitsI_L _ h⟩
  obtain ⟨lo, hi, e1, e2, hlohi⟩ := hlo
  obtain ⟨bt, e3, hbt⟩ := hbt
  unfold shapeV at CS
  rw [e1, e2, e3, manyI_L] at CS
  have hmle := manyL_le c.toNat
  have HA := Lib.hid (fun h => accN_lt c.toNat t h)
  obtain ⟨m, hm⟩ : ∃ m, m = manyL c.toNat := ⟨_, rfl⟩
  rw [← hm] at CS hlohi hbt H0 H1 H2 hmle HA
  have CS := Lib.hid CS
  have HLH := Lib.hid hlohi
  have HBT := Lib.hid hbt
  clear hm hlohi hbt e1 e2 e3
  have hlen' : (c :: t).length = t.length + 1 := rfl
  rw [hlen']
  clear hlen'
  by_cases hm0 : m = 0
  · subst hm0
    have HF0 := Lib.hid (H0.out rfl)
    go_enter Try.func92, Try.ntmps92
    go_wp2_with (go_at_call 113; refine (CS.out _).mono ?_; rintro e w1 ⟨rfl, hb1⟩)
    refine bodyPost_ret (results_tmp3 rfl _ _ _) rfl ?_
    exact ⟨nextP_bad HF0.out, hb1.alloc hb1.size _⟩
  · have hm1 : (1 : Int) ≤ (m : Int) := by omega
    have hmz : ((m : Int) == 0) = false := by simp; omega
    have hbtv := HBT.out (by omega)
    subst hbtv
    go_enter Try.func92, Try.ntmps92
    go_wp2_with (go_at_call 113; refine (CS.out _).mono ?_; rintro e w1 ⟨rfl, hb1⟩)
    obtain ⟨W2, hW2⟩ : ∃ W2, w1.alloc (.cells #[.int .i64 m, .int .u8 lo, .int .u8 hi, .int .i32 ((bitsL c.toNat : Nat) : Int)] 144) = W2 := ⟨_, rfl⟩
    have hb2 : Below w.heap.size w W2 := hW2 ▸ hb1.alloc hb1.size _
    have hcs : (W2.cell? ⟨w1.heap.size, 0, none⟩ = some (.int .i64 m) ∧ W2.cell? ⟨w1.heap.size, 1, none⟩ = some (.int .u8 lo) ∧ W2.cell? ⟨w1.heap.size, 2, none⟩ = some (.int .u8 hi)) ∧ w1.heap.size < W2.heap.size := by
      have h : W2.heap[w1.heap.size]? = some (.cells #[.int .i64 m, .int .u8 lo, .int .u8 hi, .int .i32 ((bitsL c.toNat : Nat) : Int)] 144) := hW2 ▸ World.alloc_heap_new w1 _
      refine ⟨?_, (Array.getElem?_eq_some_iff.1 h).1⟩
      unfold World.cell?
      dsimp only
      rw [h]
      exact ⟨rfl, rfl, rfl⟩
    obtain ⟨⟨s0, s1, s2⟩, hs⟩ := hcs
    rw [hW2]
    have hB2 : Bys W2 b off (c :: t) := hB.below hb2
    clear hW2
    generalize w1.heap.size = S at s0 s1 s2 hs ⊢
    go_loopw [6, 2] (fun i r wr => ∃ k : Nat, k + 1 ≤ m ∧ i = .int .i64 ((k : Int) + 1) ∧ r = .int .i32 (accN c.toNat t k : Nat) ∧ Hid (∀ j, j < k → okAt c.toNat t j) ∧ Below W2.heap.size W2 wr) (fun i _ _ => (10 - intOf i).toNat)
    case atStart => exact ⟨0, by omega, rfl, rfl, fun j hj => by omega, Below.refl _ _⟩
    case round =>
      obtain ⟨k, hk, rfl, rfl, hok, hbr⟩ := hrel
      have z0 := (hbr.cell (p := ⟨S, 0, none⟩) hs).trans s0
      have z1 := (hbr.cell (p := ⟨S, 1, none⟩) hs).trans s1
      have z2 := (hbr.cell (p := ⟨S, 2, none⟩) hs).trans s2
      have hBr := hB2.below hbr
      obtain ⟨A, hA⟩ : ∃ A, A = accN c.toNat t k := ⟨_, rfl⟩
      rw [← hA]
      by_cases hlt : k + 1 < m
      · have hlti : (k : Int) + 1 < (m : Int) := by omega
        have hAlt : A < 2 ^ 24 := by
          have := HA.out (by omega) k (by omega)
          have h2 : 2 ^ (5 + 6 * k) ≤ 2 ^ 23 := Nat.pow_le_pow_right (by omega) (by omega)
          omega
        have HAX := Lib.hid hA
        have HAL := Lib.hid hAlt
        by_cases hin : k < t.length
        · obtain ⟨x, hx⟩ : ∃ x, x = nth 0 t k := ⟨_, rfl⟩
          have cy := hBr.at_ (k + 1) (by simp; omega)
          rw [hnthS, ← hx] at cy
          have cx := cy
          rw [← Nat.add_assoc] at cx
          have hx256 : x.toNat < 256 := x.toNat_lt
          have a63 := and63 x.toNat hx256
          have key : ∃ lN hN : Nat, (okAt c.toNat t k ↔ lN ≤ x.toNat ∧ x.toNat ≤ hN) ∧ ((k = 0 ∧ lo = lN ∧ hi = hN) ∨ (k ≠ 0 ∧ lN = 128 ∧ hN = 191)) := by
            unfold okAt
            rw [← hx]
            by_cases h0 : k = 0
            · obtain ⟨q1, q2⟩ := HLH.out (by omega)
              exact ⟨lo1 c.toNat, hi1 c.toNat, by rw [if_pos h0, if_pos h0]; exact ⟨fun h => h.2, fun h => ⟨hin, h⟩⟩, .inl ⟨h0, q1, q2⟩⟩
            · exact ⟨128, 191, by rw [if_neg h0, if_neg h0]; exact ⟨fun h => h.2, fun h => ⟨hin, h⟩⟩, .inr ⟨h0, rfl, rfl⟩⟩
          obtain ⟨lN, hN, hiff, hk0⟩ := key
          have HX := Lib.hid hx
          have HIFF := Lib.hid hiff
          have hinI : (k : Int) + 1 < (t.length : Int) + 1 := by omega
          have HK0 := Lib.hid hk0
          clear hx hiff hA hAlt hk0
          by_cases hk0 : k = 0
          · subst hk0
            obtain ⟨q1, q2⟩ : lo = lN ∧ hi = hN := by rcases HK0.out with h | h; exact h.2; exact absurd rfl h.1
            subst q1 q2
            clear cy
            rw [Nat.add_zero] at cx
            by_cases hc1 : x.toNat < lN
            · have hc1i : (x.toNat : Int) < (lN : Int) := by omega
              have HF := Lib.hid (H1.out 0 hlt (fun h => by have := HIFF.out.1 h; omega))
              go_wp2_with fail
              go_quiet (fail)
              go_wp2
              refine bodyPost_ret (results_tmp3 rfl _ _ _) rfl ?_
              exact ⟨nextP_bad HF.out, bto hb2 (below_drewN hbr nq) hb2.size⟩
            · have hc1i : (lN : Int) ≤ (x.toNat : Int) := by omega
              by_cases hc2 : hN < x.toNat
              · have hc2i : (hN : Int) < (x.toNat : Int) := by omega
                have HF := Lib.hid (H1.out 0 hlt (fun h => by have := HIFF.out.1 h; omega))
                go_wp2_with fail
                go_quiet (fail)
                go_wp2
                refine bodyPost_ret (results_tmp3 rfl _ _ _) rfl ?_
                exact ⟨nextP_bad HF.out, bto hb2 (below_drewN hbr nq) hb2.size⟩
              · have hc2i : (x.toNat : Int) ≤ (hN : Int) := by omega
                have HF := Lib.hid (HIFF.out.2 ⟨by omega, by omega⟩)
                go_wp2_with fail
                go_quiet (fail)
                go_wp2
                go_roundw
                case rel => exact ⟨1, by omega, rfl, acc_val HAL.out HAX.out HX.out, Lib.hid (fun j hj => (show 0 = j by omega) ▸ HF.out), below_drewN hbr nq⟩
                case measure => simp [intOf]
          · obtain ⟨q1, q2⟩ : lN = 128 ∧ hN = 191 := by rcases HK0.out with h | h; exact absurd h.1 hk0; exact h.2
            subst q1 q2
            have hk1 : ((k : Int) + 1 == 1) = false := by simp; omega
            by_cases hc1 : x.toNat < 128
            · have hc1i : (x.toNat : Int) < 128 := by omega
              have HF := Lib.hid (H1.out k hlt (fun h => by have := HIFF.out.1 h; omega))
              go_wp2
              refine bodyPost_ret (results_tmp3 rfl _ _ _) rfl ?_
              exact ⟨nextP_bad HF.out, bto hb2 hbr hb2.size⟩
            · have hc1i : 128 ≤ (x.toNat : Int) := by omega
              by_cases hc2 : 191 < x.toNat
              · have hc2i : 191 < (x.toNat : Int) := by omega
                have HF := Lib.hid (H1.out k hlt (fun h => by have := HIFF.out.1 h; omega))
                go_wp2
                refine bodyPost_ret (results_tmp3 rfl _ _ _) rfl ?_
                exact ⟨nextP_bad HF.out, bto hb2 hbr hb2.size⟩
              · have hc2i : (x.toNat : Int) ≤ 191 := by omega
                have HF := Lib.hid (HIFF.out.2 ⟨by omega, by omega⟩)
                go_wp2
                go_roundw
                case rel => exact ⟨k + 1, by omega, by go_num, acc_val HAL.out HAX.out HX.out, Lib.hid (fun j hj => by rcases Nat.lt_succ_iff_lt_or_eq.1 hj with h | h; exact hok.out j h; exact h ▸ HF.out), hbr⟩
                case measure => simp [intOf]; omega
        · have hge : (t.length : Int) + 1 ≤ (k : Int) + 1 := by omega
          clear hA hAlt
          have HF := Lib.hid (H1.out k hlt (fun h => hin h.1))
          go_wp2
          refine bodyPost_ret (results_tmp3 rfl _ _ _) rfl ?_
          exact ⟨nextP_more HF.out, bto hb2 hbr hb2.size⟩
      · have hlti : (m : Int) ≤ (k : Int) + 1 := by omega
        have HF := Lib.hid (H2.out (by omega) (fun j hj => hok.out j (by omega)))
        have hkm : k = m - 1 := by omega
        have HAX := Lib.hid hA
        clear hA
        go_wp2_with fail
        go_quiet (fail)
        go_wp2
        refine bodyPost_ret (results_tmp3 rfl _ _ _) rfl ?_
        exact ⟨nextP_ok (by rw [HAX.out, hkm]; exact HF.out), bto hb2 (below_drewN hbr nq) hb2.size⟩
set_option maxRecDepth 100000 in
theorem next_nil (a : Option Addr) (cap : Nat) (w : World) : Calls Try.prog 92 #[.slice a 0 cap] w fun e w' => e = .returned (.tuple #[.int .i32 0, .int .i64 0, .bool true]) ∧ w = w' := by
  go_enter Try.func92, Try.ntmps92
  go_wp2
  refine bodyPost_ret (results_tmp3 rfl _ _ _) rfl ?_
  exact ⟨rfl, rfl⟩
set_option maxRecDepth 100000 in
theorem step_any (l : List UInt8) (b off cap : Nat) (w : World) (h0 : 1 ≤ l.length) (hlen : l.length ≤ 2000000) (hB : Bys w b off l) :
    Calls Try.prog 139 #[.slice (some ⟨b, off, none⟩) l.length cap] w fun e w' => e = .returned (.tuple #[.int .i32 ((stepL l).1 : Nat), .int .i64 ((stepL l).2 : Nat)]) ∧ Below w.heap.size w w' := by
  obtain ⟨c, t, rfl⟩ : ∃ c t, l = c :: t := by cases l with | nil => simp at h0 | cons c t => exact ⟨c, t, rfl⟩
  have C := Lib.hid (fun W (h : W = w) => h ▸ next_any c t b off cap w hlen hB)
  obtain ⟨n, hn⟩ : ∃ n, n = (c :: t).length := ⟨_, rfl⟩
  obtain ⟨R, hR⟩ : ∃ R, R = stepL (c :: t) := ⟨_, rfl⟩
  have HR := Lib.hid hR
  have HN := Lib.hid hn
  rw [← hn, ← hR]
  clear hn hR h0 hlen hB
  go_enter Try.func139, Try.ntmps139
  go_wp2_with fail
  rw [HN.out]
  refine (C.out _ rfl).mono ?_
  rintro e w1 ⟨⟨r, k, m, rfl, hm⟩, hb1⟩
  rw [← HR.out] at hm
  rcases hm with ⟨rfl, hm⟩ | ⟨rfl, rfl, rfl⟩
  · have HM := Lib.hid hm
    clear hm
    go_wp2
    go_ret2
    exact ⟨by rw [HM.out]; rfl, hb1⟩
  · go_wp2
    go_ret2
    exact ⟨rfl, hb1⟩
end Go.Proofs.Ytnakgjcmepimiaa
