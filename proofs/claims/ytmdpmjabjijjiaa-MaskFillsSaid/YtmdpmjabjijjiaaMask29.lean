/- The law MaskFills. No condition. -/
import Derived.Test.YtmdpmjabjijjiaaMask27
import Derived.Test.YtmdpmjabjijjiaaMask28
import Derived.Test.YtmdpmjabjijjiaaBwAt
namespace Go.Proofs.Ytmdpmjabjijjiaa
open Go.RowKit Go.Shelf Go.Maps
set_option maxRecDepth 100000 in
set_option maxHeartbeats 8000000 in
theorem maskFills_law (p0 f0 s0 t0 : ByteArray) (w : World) (hp : p0.size ≤ maxLen) (hf : f0.size ≤ maxLen) (hs : s0.size ≤ maxLen) (ht : t0.size ≤ maxLen) :
    Calls Try.prog 11 #[.string p0, .string f0, .string s0, .string t0] w fun e w' => e = .returned (.bool true) ∧ Below w.heap.size w w' := by
  obtain ⟨p1, rfl⟩ := S_back p0
  obtain ⟨f1, rfl⟩ := S_back f0
  obtain ⟨s1, rfl⟩ := S_back s0
  obtain ⟨t1, rfl⟩ := S_back t0
  rw [S_size] at hp hf hs ht
  have C1 := Lib.hid (fun W => cut34_any p1 80 W hp (by omega))
  have C2 := Lib.hid (fun W => cut34_any f1 80 W hf (by omega))
  have C3 := Lib.hid (fun W => cut34_any s1 80 W hs (by omega))
  have C4 := Lib.hid (fun W => cut34_any t1 80 W ht (by omega))
  obtain ⟨p, hp'⟩ : ∃ p, p = p1.take 80 := ⟨_, rfl⟩
  obtain ⟨f, hf'⟩ : ∃ f, f = f1.take 80 := ⟨_, rfl⟩
  obtain ⟨s, hs'⟩ : ∃ s, s = s1.take 80 := ⟨_, rfl⟩
  obtain ⟨t, ht'⟩ : ∃ t, t = t1.take 80 := ⟨_, rfl⟩
  rw [← hp'] at C1
  rw [← hf'] at C2
  rw [← hs'] at C3
  rw [← ht'] at C4
  have hpl : p.length ≤ 80 := by rw [hp', List.length_take]; omega
  have hfl : f.length ≤ 80 := by rw [hf', List.length_take]; omega
  have hsl : s.length ≤ 80 := by rw [hs', List.length_take]; omega
  have htl : t.length ≤ 80 := by rw [ht', List.length_take]; omega
  have hftl : (flatL t).length ≤ 1100000 := by have := flatL_len t; omega
  clear hp' hf' hs' ht'
  by_cases h0 : parseC p = 0
  · have CP := Lib.hid (fun W => parse_new (by omega) h0 W)
    have CR := Lib.hid (fun W => refParse_new (by omega) h0 W)
    have hok := parse_ok h0
    have hS := (parse_flat h0).2.2.2
    have HOK := Lib.hid hok
    have HS := Lib.hid hS
    obtain ⟨L, hL⟩ : ∃ L, L = parseL p := ⟨_, rfl⟩
    rw [← hL] at CP CR HOK HS
    clear h0 hok hS hL
    go_enter Try.func11, Try.ntmps11
    go_wp2_with fail
    refine (C1.out _).mono ?_
    rintro e w1 ⟨rfl, rfl⟩
    go_wp2_with fail
    refine (C2.out _).mono ?_
    rintro e w2 ⟨rfl, rfl⟩
    go_wp2_with fail
    refine (C3.out _).mono ?_
    rintro e w3 ⟨rfl, rfl⟩
    go_wp2_with fail
    refine (C4.out _).mono ?_
    rintro e w4 ⟨rfl, rfl⟩
    go_wp2_with fail
    refine (CP.out _).mono ?_
    rintro e w5 ⟨b, a1, n1, c1, rfl, hM5, hb5⟩
    go_wp2_with fail
    refine (CR.out _).mono ?_
    rintro e w6 ⟨a, n, c, rfl, hR6, hb6⟩
    obtain ⟨W7, hW7, hcx, hR, hb7, hs7⟩ := box_new hR6 45
    have hM := (hM5.below hb6).below hb7
    have hB7 := bnext (bnext hb5 hb6) hb7
    have hlt7 : w6.heap.size < W7.heap.size := by omega
    clear hR6 hM5 hb5 hb6 hb7
    have hok := HOK.out
    have hSn := HS.out
    have D1 := Lib.hid (fun W hb => mpush_any (w := W) (hM.below hb) hok f s (by omega) (by omega))
    have D2 := Lib.hid (fun W hb => refPush_any (w := W) (hR.below hb) hok hSn f s (by omega) (by omega))
    have D3 := Lib.hid (fun W hb => mread_any (w := W) (hM.below hb) hok t (by omega))
    have D4 := Lib.hid (fun W hb => refRead_any (w := W) (hR.below hb) hok hSn t (by omega))
    have E1 := Lib.hid (fun q : BW W7.heap.size W7 => mfits_any (hM.below q.h) hok f (by omega))
    have E2 := Lib.hid (fun q : BW W7.heap.size W7 => refFits34_any (hR.below q.h) hok hSn f (by omega))
    have E3 := Lib.hid (fun q : BW W7.heap.size W7 => mwhole_any (hM.below q.h) hok f (by omega))
    have E4 := Lib.hid (fun q : BW W7.heap.size W7 => refWhole_any (hR.below q.h) hok hSn f (by omega))
    have E5 := Lib.hid (fun q : BW W7.heap.size W7 => mback_any (hM.below q.h) hok f (by omega))
    have E6 := Lib.hid (fun q : BW W7.heap.size W7 => refBack_any (hR.below q.h) hok hSn f (by omega))
    have E7 := Lib.hid (fun q : BW W7.heap.size W7 => mfeed_any (hM.below q.h) hok f t (by omega) (by omega) hftl)
    have E8 := Lib.hid (fun q : BW W7.heap.size W7 => refFeed_any (hR.below q.h) hok hSn f t (by omega) (by omega) hftl)
    have E9 := Lib.hid (fun q : BW W7.heap.size W7 => mshow_any (hM.below q.h) hok f (by omega))
    have EA := Lib.hid (fun q : BW W7.heap.size W7 => refShow_any (hR.below q.h) hok hSn f (by omega))
    have EB := Lib.hid (fun q : BW W7.heap.size W7 => mat_any (hM.below q.h) hok f (by omega))
    have EC := Lib.hid (fun q : BW W7.heap.size W7 => refAt34_any (hR.below q.h) hok hSn f (by omega))
    have KX := fun q : BW W7.heap.size W7 => q.cell hlt7 hcx
    obtain ⟨P, hP⟩ : ∃ P, P = pushL L f s := ⟨_, rfl⟩
    rw [← hP] at D1 D2
    obtain ⟨R, hRR⟩ : ∃ R, R = readL L t := ⟨_, rfl⟩
    rw [← hRR] at D3 D4
    obtain ⟨x1, e1⟩ : ∃ x, x = fitsL L f := ⟨_, rfl⟩
    rw [← e1] at E1 E2
    obtain ⟨x2, e2⟩ : ∃ x, x = wholeL L f := ⟨_, rfl⟩
    rw [← e2] at E3 E4
    clear hok hSn hP hRR e1 e2 hM hR
    go_wp2_with (go_at_call 39; refine (awake34_any _).mono ?_; rintro e w8 ⟨rfl, hB8⟩; have hc8 := (hB8.cell (p := ⟨w6.heap.size, 0, none⟩) hlt7).trans hcx)
    refine (D1.out _ hB8).mono ?_
    rintro e w9 ⟨rfl, hb9⟩
    have hB9 := bto hB8 hb9 hB8.size
    have hc9 := (hB9.cell (p := ⟨w6.heap.size, 0, none⟩) hlt7).trans hcx
    go_wp2_with fail
    refine (D2.out _ hB9).mono ?_
    rintro e w10 ⟨rfl, hb10⟩
    have hB10 := bto hB9 hb10 hB9.size
    clear hb9 hb10 hc8 hc9
    go_wp2_with fail
    refine wp_region_bwFrom W7.heap.size W7 hB10 (by kernel_rfl) (lexB_fast (by kernel_rfl)) ?_
    repeat (go_big_quiet_step ((apply Calls.bw_of (Nat.le_refl _); first
      | (go_at_call 48; exact E1.out _)
      | (go_at_call 47; exact E2.out _)
      | (go_at_call 54; exact E3.out _)
      | (go_at_call 55; exact E4.out _)
      | (go_at_call 50; exact E5.out _)
      | (go_at_call 62; exact E6.out _))))
    refine wpQuiet_nil ?_
    rintro _ ⟨⟨w11, hB11⟩, rfl⟩
    have hc11 := (hB11.cell (p := ⟨w6.heap.size, 0, none⟩) hlt7).trans hcx
    go_wp2_with fail
    refine (D3.out _ hB11).mono ?_
    rintro e w12 ⟨rfl, hb12⟩
    have hB12 := bto hB11 hb12 hB11.size
    have hc12 := (hB12.cell (p := ⟨w6.heap.size, 0, none⟩) hlt7).trans hcx
    go_wp2_with fail
    refine (D4.out _ hB12).mono ?_
    rintro e w13 ⟨rfl, hb13⟩
    have hB13 := bto hB12 hb13 hB12.size
    clear hb12 hb13 hc11 hc12
    go_wp2_with fail
    refine wp_region_bwFrom W7.heap.size W7 hB13 (by kernel_rfl) (lexB_fast (by kernel_rfl)) ?_
    repeat (go_big_quiet_step ((apply Calls.bw_of (Nat.le_refl _); first
      | (go_at_call 46; exact E7.out _)
      | (go_at_call 64; exact E8.out _)
      | (go_at_call 53; exact E9.out _)
      | (go_at_call 65; exact EA.out _)
      | (go_at_call 56; exact EB.out _)
      | (go_at_call 66; exact EC.out _))))
    refine wpQuiet_nil ?_
    rintro _ ⟨⟨w14, hB14⟩, rfl⟩
    go_wp2_with fail
    go_ret
    exact ⟨rfl, bnext hB7 hB14⟩
  · have CP := Lib.hid (fun W => parse_bad (by omega) h0 W)
    have CR := Lib.hid (fun W => refParse_bad (f := p) (by omega) W)
    have hz1 : (parseC p == 0) = false := by simp [h0]
    clear h0
    go_enter Try.func11, Try.ntmps11
    go_wp2_with fail
    refine (C1.out _).mono ?_
    rintro e w1 ⟨rfl, rfl⟩
    go_wp2_with fail
    refine (C2.out _).mono ?_
    rintro e w2 ⟨rfl, rfl⟩
    go_wp2_with fail
    refine (C3.out _).mono ?_
    rintro e w3 ⟨rfl, rfl⟩
    go_wp2_with fail
    refine (C4.out _).mono ?_
    rintro e w4 ⟨rfl, rfl⟩
    go_wp2_with fail
    refine (CP.out _).mono ?_
    rintro e w5 ⟨rfl, hb5⟩
    go_wp2_with fail
    refine (CR.out _).mono ?_
    rintro e w6 ⟨⟨a, n, c, rfl⟩, hb6⟩
    have hB7 := (bnext hb5 hb6).alloc (bnext hb5 hb6).size (.cells #[.slice a n c] 45)
    go_wp2_with (go_at_call 39; refine (awake34_any _).mono ?_; rintro e w8 ⟨rfl, hb8⟩)
    go_ret
    exact ⟨rfl, bnext hB7 hb8⟩
end Go.Proofs.Ytmdpmjabjijjiaa
