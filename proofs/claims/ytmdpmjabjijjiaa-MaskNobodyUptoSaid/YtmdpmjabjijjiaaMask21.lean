/- The law MaskNobody: a mask that nobody made. Condition: strings of not more than 1100000 bytes. -/
import Derived.Test.YtmdpmjabjijjiaaMask20
namespace Go.Proofs.Ytmdpmjabjijjiaa
open Go.RowKit Go.Shelf Go.Maps
abbrev NM (W : World) (p : Option Addr) : Prop := MaskAt W p none 0 0 []
theorem nob_ok : PLok [] := ⟨by simp, by simp, by simp⟩
theorem nob_fits (f : List UInt8) : fitsL [] f = false := by unfold fitsL; simp [slotsL]
theorem nob_push (f s : List UInt8) : pushL [] f s = ([], false) := by
  unfold pushL; rw [if_neg (by rw [nob_fits]; simp)]; rfl
theorem nob_read (s : List UInt8) : readL [] s = ([], false) := by unfold readL; rw [if_neg (by simp)]
theorem nob_back (f : List UInt8) : backL [] f = [] := by unfold backL; rw [if_neg (by rw [nob_fits]; simp)]; rfl
theorem nob_feed (f s : List UInt8) : feedL [] f s = [] := by unfold feedL; rw [if_neg (by rw [nob_fits]; simp)]; rfl
theorem nob_show (f : List UInt8) : showL [] f = [] := by unfold showL; rw [if_neg (by rw [nob_fits]; simp)]
theorem nob_whole (f : List UInt8) : wholeL [] f = false := by unfold wholeL; rw [nob_fits]; rfl
theorem nob_at (f : List UInt8) : atL [] f = 0 := by unfold atL; rw [if_neg (by rw [nob_fits]; simp)]
theorem flatL_len (l : List UInt8) : (flatL l).length ≤ 64 * l.length := by
  have := clean_len (blanksL l)
  unfold flatL
  unfold blanksL at this ⊢
  simpa using this
set_option maxRecDepth 100000 in
theorem nobFeed_any {w : World} {p : Option Addr} (h : NM w p) (f s : List UInt8) (hf : f.length ≤ 1100000) : Calls Try.prog 46 #[.pointer p, .string (S f), .string (S s)] w fun e w' => e = .returned (.string (S [])) ∧ Below w.heap.size w w' := by
  have CM := Lib.hid (nob_fits f ▸ mfits_any h nob_ok f hf)
  have CE := Lib.hid (fun W hb => msame_any (w := W) (h.below hb) f (by omega))
  clear h
  go_enter Try.func46, Try.ntmps46
  go_wp2_with (first
    | (go_at_call 48; refine (CM.out).mono ?_; rintro e w1 ⟨rfl, hb1⟩)
    | (go_at_call 99; refine (CE.out _ hb1).mono ?_; rintro e w2 ⟨rfl, rfl⟩))
  go_ret
  exact ⟨rfl, hb1⟩
set_option maxRecDepth 100000 in
set_option maxHeartbeats 8000000 in
theorem maskNobody_law (f0 s0 : ByteArray) (w : World) (hf : f0.size ≤ 1048576) (hs : s0.size ≤ 1048576) :
    Calls Try.prog 12 #[.string f0, .string s0] w fun e w' => e = .returned (.bool true) ∧ Below w.heap.size w w' := by
  obtain ⟨f, rfl⟩ := S_back f0
  obtain ⟨s, rfl⟩ := S_back s0
  rw [S_size] at hf hs
  have C1 := Lib.hid (fun W p (h : NM W p) => nob_push f s ▸ mpush_any h nob_ok f s (by omega) (by omega))
  have C2 := Lib.hid (fun W p (h : NM W p) => nob_read s ▸ mread_any h nob_ok s (by omega))
  have C3 : ∀ W p, NM W p → Calls Try.prog 40 #[.pointer p, .int .i64 3] W (Told34 [] W) := fun W p h => told34_any h (by simp) 3 (by omega)
  have C3 := Lib.hid C3
  have C4 : ∀ W p, NM W p → Calls Try.prog 41 #[.pointer p] W fun e w' => e = .returned (.string (S [])) ∧ Below W.heap.size W w' := fun W p h => mprint_any h nob_ok
  have C4 := Lib.hid C4
  have C6 : ∀ W p, NM W p → Calls Try.prog 46 #[.pointer p, .string (S f), .string (S s)] W fun e w' => e = .returned (.string (S [])) ∧ Below W.heap.size W w' := fun W p h => nobFeed_any h f s (by omega)
  have C6 := Lib.hid C6
  have C5 := Lib.hid (fun W p (h : NM W p) => nob_back f ▸ mback_any h nob_ok f (by omega))
  have C7 := Lib.hid (fun W p (h : NM W p) => nob_show f ▸ mshow_any h nob_ok f (by omega))
  have C8 := Lib.hid (fun W p (h : NM W p) => nob_fits f ▸ mfits_any h nob_ok f (by omega))
  have C9 := Lib.hid (fun W p (h : NM W p) => nob_whole f ▸ mwhole_any h nob_ok f (by omega))
  have CA : ∀ W p, NM W p → Calls Try.prog 44 #[.pointer p] W fun e w' => e = .returned (.int .i64 0) ∧ Below W.heap.size W w' := fun W p h => mSlots_any h (by simp)
  have CA := Lib.hid CA
  have CB := Lib.hid (fun W p (h : NM W p) => nob_at f ▸ mat_any h nob_ok f (by omega))
  obtain ⟨W1, hW1⟩ : ∃ W1, w.alloc (.cells #[.slice none 0 0] 71) = W1 := ⟨_, rfl⟩
  have hs1 : W1.heap.size = w.heap.size + 1 := by rw [← hW1]; simp
  have hb1 : Below w.heap.size w W1 := by rw [← hW1]; exact (Below.refl _ _).alloc (Nat.le_refl _) _
  have hc1 : W1.cell? ⟨w.heap.size, 0, none⟩ = some (.slice none 0 0) := by rw [← hW1]; exact (cell_new_l w _ _).1
  obtain ⟨W2, hW2⟩ : ∃ W2, W1.alloc (.cells #[.pointer none, .pointer (some ⟨w.heap.size, 0, none⟩)] 39) = W2 := ⟨_, rfl⟩
  have hs2 : W2.heap.size = W1.heap.size + 1 := by rw [← hW2]; simp
  have hb2 : Below W1.heap.size W1 W2 := by rw [← hW2]; exact (Below.refl _ _).alloc (Nat.le_refl _) _
  have hrw := RowAt.new W1 [.pointer none, .pointer (some ⟨w.heap.size, 0, none⟩)] 39
  rw [show ([.pointer none, .pointer (some ⟨w.heap.size, 0, none⟩)] : List Value).toArray = #[.pointer none, .pointer (some ⟨w.heap.size, 0, none⟩)] from rfl, hW2] at hrw
  have hN2 : NM W2 (some ⟨w.heap.size, 0, none⟩) := ⟨.inr ⟨_, rfl, by omega, (hb2.cell (p := ⟨w.heap.size, 0, none⟩) (by show w.heap.size < _; omega)).trans hc1⟩, rfl, Nat.le_refl _, by unfold maxLen; omega, RowAt.nil _ _ _⟩
  have hN0 : NM W2 none := ⟨.inl ⟨rfl, rfl, rfl, rfl⟩, rfl, Nat.le_refl _, by unfold maxLen; omega, RowAt.nil _ _ _⟩
  have hB2 := bnext hb1 hb2
  have hcel : Hid (∀ k, k < 2 → ∃ p, W2.cell? ⟨W1.heap.size, k, none⟩ = some (.pointer p) ∧ NM W2 p) := Lib.hid fun k hk => by
    obtain ⟨b, off, e, _, hc⟩ := hrw k hk
    simp only [Option.some.injEq, Addr.mk.injEq] at e
    obtain ⟨rfl, rfl, _⟩ := e
    rw [Nat.zero_add] at hc
    match k, hk with
    | 0, _ => exact ⟨_, hc, hN0⟩
    | 1, _ => exact ⟨_, hc, hN2⟩
  clear hrw hN2 hN0 hc1
  have q1 : ((S []).toList == []) = true := by rw [S_toList]; rfl
  have q2 : S [] ++ S [] = S [] := S_append [] []
  go_enter Try.func12, Try.ntmps12
  go_wp2
  try rw [hs1]
  go_loopw [7] (fun i wr => ∃ k : Nat, k ≤ 2 ∧ i = .int .i64 (k : Int) ∧ Below W2.heap.size W2 wr) (fun i _ => 2 - (intOf i).toNat)
  case atStart => exact ⟨0, by omega, rfl, Below.refl _ _⟩
  case round =>
    obtain ⟨k, hk, rfl, hbr⟩ := hrel
    by_cases hlt : k < 2
    · obtain ⟨p, hcp, hNp⟩ := hcel.out k hlt
      have hcr := (hbr.cell (p := ⟨W1.heap.size, k, none⟩) (by show W1.heap.size < _; omega)).trans hcp
      rw [hs1] at hcr
      have hN := Lib.hid (fun W h => MaskAt.below hNp (w' := W) h)
      clear hNp hcp
      go_wp2_with (first
        | (go_at_call 49; refine (C1.out _ _ (hN.out _ hbr)).mono ?_; rintro e w1 ⟨rfl, hb1'⟩; have hB1 := bto hbr hb1' hbr.size; clear hb1')
        | (go_at_call 52; refine (C2.out _ _ (hN.out _ hB1)).mono ?_; rintro e w2 ⟨rfl, hb2'⟩; have hB2' := bto hB1 hb2' hB1.size; clear hb2')
        | (go_at_call 40; refine (C3.out _ _ (hN.out _ hB2')).mono ?_; rintro e w3 ⟨a3, n3, c3, hn3, hnc3, hcm3, rfl, hrow3, hb3'⟩; obtain rfl : n3 = 0 := hn3; have hB3 := bto hB2' hb3' hB2'.size; clear hb3' hrow3)
        | (go_at_call 41; refine (C4.out _ _ (hN.out _ hB3)).mono ?_; rintro e w4 ⟨rfl, hb4'⟩; have hB4 := bto hB3 hb4' hB3.size; clear hb4')
        | (go_at_call 50; refine (C5.out _ _ (hN.out _ hB4)).mono ?_; rintro e w5 ⟨rfl, hb5'⟩; have hB5 := bto hB4 hb5' hB4.size; clear hb5')
        | (go_at_call 46; refine (C6.out _ _ (hN.out _ hB5)).mono ?_; rintro e w6 ⟨rfl, hb6'⟩; have hB6 := bto hB5 hb6' hB5.size; clear hb6')
        | (go_at_call 53; refine (C7.out _ _ (hN.out _ hB6)).mono ?_; rintro e w7 ⟨rfl, hb7'⟩; have hB7 := bto hB6 hb7' hB6.size; clear hb7')
        | (go_at_call 48; refine (C8.out _ _ (hN.out _ hB7)).mono ?_; rintro e w8 ⟨rfl, hb8'⟩; have hB8 := bto hB7 hb8' hB7.size; clear hb8')
        | (go_at_call 54; refine (C9.out _ _ (hN.out _ hB8)).mono ?_; rintro e w9 ⟨rfl, hb9'⟩; have hB9 := bto hB8 hb9' hB8.size; clear hb9')
        | (go_at_call 44; refine (CA.out _ _ (hN.out _ hB9)).mono ?_; rintro e w10 ⟨rfl, hb10'⟩; have hB10 := bto hB9 hb10' hB9.size; clear hb10')
        | (go_at_call 56; refine (CB.out _ _ (hN.out _ hB10)).mono ?_; rintro e w11 ⟨rfl, hb11'⟩; have hB11 := bto hB10 hb11' hB10.size; clear hb11'))
      go_roundw
      case rel => exact ⟨k + 1, by omega, by go_num, hB11⟩
      case measure => simp [intOf]; omega
    · obtain rfl : k = 2 := by omega
      go_wp2_with (go_at_call 39; refine (awake34_any _).mono ?_; rintro e w12 ⟨rfl, hb12⟩)
      go_ret
      exact ⟨rfl, bnext hB2 (bto hbr hb12 hbr.size)⟩
end Go.Proofs.Ytmdpmjabjijjiaa
