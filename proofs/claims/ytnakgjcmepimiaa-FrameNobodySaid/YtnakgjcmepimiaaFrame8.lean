/- Check of a frame that may be. No condition. -/
import Derived.Test.YtnakgjcmepimiaaFrame7
namespace Go.Proofs.Ytnakgjcmepimiaa
set_option linter.unusedVariables false
set_option linter.unusedSimpArgs false
open Go.RowKit Go.Shelf Go.Maps
set_option maxRecDepth 100000 in
set_option maxHeartbeats 8000000 in
theorem check_true {W : World} {a : Option Addr} {n cap : Nat} {R : List (List GC)} {r c w : Nat} {s : Bool} (hR : RowsAt W a n R) (h1 : 1 ≤ n) (h2 : n ≤ 60) (hw : ∀ M ∈ R, M.length = w ∧ wholeB M = true) (w1 : 1 ≤ w) (w2 : w ≤ 500) (hr : r < n) (hc : c < w) :
    Calls Try.prog 17 #[.agg #[.slice a n cap, .int .i64 r, .int .i64 c, .bool s]] W fun e w' => e = .returned (.int .i64 0) ∧ Below W.heap.size W w' := by
  have hl := hR.len
  have z1 : FBox (W.alloc (.cells #[.slice a n cap, .int .i64 r, .int .i64 c, .bool s] 35)) W.heap.size (.slice a n cap) r c s := World.alloc_heap_new W _
  have b1 : Below W.heap.size W (W.alloc (.cells #[.slice a n cap, .int .i64 r, .int .i64 c, .bool s] 35)) := (Below.refl _ _).alloc (Nat.le_refl _) _
  have R1 := hR.below b1
  have s1 : (W.alloc (.cells #[.slice a n cap, .int .i64 r, .int .i64 c, .bool s] 35)).heap.size = W.heap.size + 1 := by simp
  have hMw : ∀ i M, R[i]? = some M → M.length = w ∧ wholeB M = true := fun i M hi => hw M (List.mem_of_getElem? hi)
  obtain ⟨M0, hM0⟩ : ∃ M, R[0]? = some M := ⟨_, List.getElem?_eq_getElem (by omega)⟩
  obtain ⟨b, off, a2, c2, rfl, hb, hc0, ⟨hc1, hc2⟩, _⟩ := R1.at_ 0 M0 hM0
  obtain ⟨hM1, _⟩ := hMw 0 M0 hM0
  rw [hM1] at hc0 hc1
  have HMW := Lib.hid hMw
  have HR := Lib.hid R1
  rw [Nat.add_zero] at hc0
  have e1 := z1.cells.2.1
  have e2 := z1.cells.2.2.1
  clear hMw hw hM0 hM1 R1
  have k1 : ¬ (n : Int) < 1 := by omega
  have k2 : ¬ 60 < (n : Int) := by omega
  have k3 : ¬ (w : Int) < 1 := by omega
  have k4 : ¬ 500 < (w : Int) := by omega
  have k5 : ¬ (r : Int) < 0 := by omega
  have k6 : ¬ (n : Int) ≤ (r : Int) := by omega
  have k7 : ¬ (c : Int) < 0 := by omega
  have k8 : ¬ (w : Int) ≤ (c : Int) := by omega
  go_enter Try.func17, Try.ntmps17
  go_wp2
  obtain ⟨X, hX⟩ : ∃ X, W.alloc (.cells #[.slice (some ⟨b, off, none⟩) n cap, .int .i64 r, .int .i64 c, .bool s] 35) = X := ⟨_, rfl⟩
  rw [hX] at b1 HR ⊢
  clear hX hc0 e1 e2 z1 s1
  have R1 := HR.out
  go_loopw [54] (fun i wr => ∃ k : Nat, k ≤ n ∧ i = .int .i64 k ∧ Below X.heap.size X wr) (fun i _ => n - (intOf i).toNat)
  case atStart => exact ⟨0, Nat.zero_le _, rfl, Below.refl _ _⟩
  case round =>
    obtain ⟨k, hk, rfl, hbr⟩ := hrel
    by_cases hlt : k < n
    · have hMk : R[k]? = some (nth [] R k) := by rw [nth_eq _ _ _ (by omega), List.getElem?_eq_getElem (by omega)]
      obtain ⟨b', off', a3, c3, e', hb', hc3, ⟨hc4, hc5⟩, hM⟩ := (R1.below hbr).at_ k _ hMk
      simp only [Option.some.injEq, Addr.mk.injEq] at e'
      obtain ⟨rfl, rfl, _⟩ := e'
      obtain ⟨hl3, hw3⟩ := HMW.out k _ hMk
      rw [hl3] at hc3 hc4 hM
      have CW := Lib.hid (fun cap => whole_true (cap := cap) hM (by omega) hw3)
      have hne : ((w : Int) != (w : Int)) = false := by simp
      clear hMk hl3 hw3 hM hc5
      go_wp2_with (go_at_call 54; refine (CW.out _).mono ?_; rintro e w2 ⟨rfl, hb2⟩; have hB2 := bto hbr hb2 hbr.size)
      go_roundw
      case rel => exact ⟨k + 1, hlt, by go_num, hB2⟩
      case measure => simp [intOf]; omega
    · obtain rfl : k = n := by omega
      go_wp2
      go_ret
      exact ⟨rfl, bto b1 hbr b1.size⟩
end Go.Proofs.Ytnakgjcmepimiaa
