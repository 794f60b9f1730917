/- The law MaskGrows. No condition. -/
import Derived.Test.YtmdpmjabjijjiaaMask27
import Derived.Test.YtmdpmjabjijjiaaMask28
namespace Go.Proofs.Ytmdpmjabjijjiaa
open Go.RowKit Go.Shelf Go.Maps
theorem S_prefix {a b : List UInt8} (h : a <+: b) : (S b).extract 0 a.length = S a := by
  rw [S_extract, List.drop_zero, Nat.sub_zero, List.prefix_iff_eq_take.1 h, List.length_take, Nat.min_eq_left h.length_le]
set_option maxRecDepth 100000 in
set_option maxHeartbeats 8000000 in
theorem maskGrows_law (p0 f0 t0 s0 : ByteArray) (w : World) (hp : p0.size ≤ maxLen) (hf : f0.size ≤ maxLen) (ht : t0.size ≤ maxLen) (hs : s0.size ≤ maxLen) :
    Calls Try.prog 8 #[.string p0, .string f0, .string t0, .string s0] w fun e w' => e = .returned (.bool true) ∧ Below w.heap.size w w' := by
  obtain ⟨p1, rfl⟩ := S_back p0
  obtain ⟨f1, rfl⟩ := S_back f0
  obtain ⟨s1, rfl⟩ := S_back s0
  obtain ⟨t1, rfl⟩ := S_back t0
  rw [S_size] at hp hf hs ht
  have C1 := Lib.hid (fun W => cut34_any p1 80 W hp (by omega))
  have C2 := Lib.hid (fun W => cut34_any f1 80 W hf (by omega))
  have C3 := Lib.hid (fun W => cut34_any s1 80 W hs (by omega))
  have C4 := Lib.hid (fun W => cut34_any t1 80 W ht (by omega))
  obtain ⟨p, hp'⟩ : ∃ p, p = p1.take 80 := ⟨_, rfl⟩
  obtain ⟨f, hf'⟩ : ∃ f, f = f1.take 80 := ⟨_, rfl⟩
  obtain ⟨s, hs'⟩ : ∃ s, s = s1.take 80 := ⟨_, rfl⟩
  obtain ⟨t, ht'⟩ : ∃ t, t = t1.take 80 := ⟨_, rfl⟩
  rw [← hp'] at C1
  rw [← hf'] at C2
  rw [← hs'] at C3
  rw [← ht'] at C4
  have hpl : p.length ≤ 80 := by rw [hp', List.length_take]; omega
  have hfl : f.length ≤ 80 := by rw [hf', List.length_take]; omega
  have hsl : s.length ≤ 80 := by rw [hs', List.length_take]; omega
  have htl : t.length ≤ 80 := by rw [ht', List.length_take]; omega
  have hftl : (flatL t).length ≤ 1100000 := by have := flatL_len t; omega
  have hffl : (flatL f).length ≤ 1100000 := by have := flatL_len f; omega
  clear hp' hf' hs' ht'
  by_cases h0 : parseC p = 0
  · have CP := Lib.hid (fun W => parse_new (by omega) h0 W)
    have CR := Lib.hid (fun W => refParse_new (by omega) h0 W)
    have hok := parse_ok h0
    have hS := (parse_flat h0).2.2.2
    obtain ⟨L, hL⟩ : ∃ L, L = parseL p := ⟨_, rfl⟩
    rw [← hL] at CP CR hok hS
    have hLn : L ≠ [] := by rintro rfl; exact hS rfl
    obtain ⟨g1, hg1⟩ : ∃ g, g = feedL L [] f := ⟨_, rfl⟩
    have hF1 := (feed_fits f (fits_nil hS)).1
    rw [← hg1] at hF1
    obtain ⟨g2, hg2⟩ : ∃ g, g = feedL L g1 t := ⟨_, rfl⟩
    obtain ⟨hF2, hpre⟩ := feed_fits t hF1
    rw [← hg2] at hF2 hpre
    have hl1 := fits_len hok hF1
    have hl2 := fits_len hok hF2
    have hple := hpre.length_le
    have hext := S_prefix hpre
    have HPY := Lib.hid (fun h => push_yes (L := L) (f := g2) (s := s) h)
    have HPN := Lib.hid (fun h => push_no (L := L) (f := g2) (s := s) hLn h)
    have M1 := fun (W : World) b a1 n1 c1 (hM : MaskAt W (some ⟨b, 0, none⟩) a1 n1 c1 L) => hg1 ▸ mfeed_any hM hok [] f (by simp) (by omega) hffl
    have M2 := fun (W : World) b a1 n1 c1 (hM : MaskAt W (some ⟨b, 0, none⟩) a1 n1 c1 L) => hg2 ▸ mfeed_any hM hok g1 t (by omega) (by omega) hftl
    have M3 := fun (W : World) b a1 n1 c1 (hM : MaskAt W (some ⟨b, 0, none⟩) a1 n1 c1 L) => hF2 ▸ mfits_any hM hok g2 (by omega)
    have M4 := fun (W : World) b a1 n1 c1 (hM : MaskAt W (some ⟨b, 0, none⟩) a1 n1 c1 L) => mpush_any hM hok g2 s (by omega) (by omega)
    have R1 := fun (W : World) a n c (hR : RefAt W a n c L) => hF1 ▸ refFits34_any hR hok hS g1 (by omega)
    have R2 := fun (W : World) a n c (hR : RefAt W a n c L) => hF2 ▸ refFits34_any hR hok hS g2 (by omega)
    have hgs1 := S_size g1
    have hgs2 := S_size g2
    have M1 := Lib.hid M1
    have M2 := Lib.hid M2
    have M3 := Lib.hid M3
    have R1 := Lib.hid R1
    have R2 := Lib.hid R2
    have HOK := Lib.hid hok
    have HS := Lib.hid hS
    have HG2 := Lib.hid hF2
    clear h0 hok hS hL hLn hg1 hg2 hF1 hF2 hpre
    go_enter Try.func8, Try.ntmps8
    go_wp2_with fail
    refine (C1.out _).mono ?_
    rintro e w1 ⟨rfl, rfl⟩
    go_wp2_with fail
    refine (C4.out _).mono ?_
    rintro e w2 ⟨rfl, rfl⟩
    go_wp2_with fail
    refine (C3.out _).mono ?_
    rintro e w3 ⟨rfl, rfl⟩
    go_wp2_with fail
    refine (CR.out _).mono ?_
    rintro e w5 ⟨a, n, c, rfl, hR5, hb5⟩
    obtain ⟨W6, hW6, hcx, hR6, hb6, hs6⟩ := box_new hR5 45
    go_wp2_with fail
    refine (CP.out _).mono ?_
    rintro e W7 ⟨b, a1, n1, c1, rfl, hM, hb7⟩
    have hR := hR6.below hb7
    have hB7 := bnext (bnext hb5 hb6) hb7
    have hc7 := (hb7.cell (p := ⟨w5.heap.size, 0, none⟩) (by show w5.heap.size < _; omega)).trans hcx
    have hlt7 := World.block_lt_of_cell? _ _ hc7
    clear hR5 hR6 hb5 hb6 hb7 hcx
    go_wp2_with (go_at_call 39; refine (awake34_any _).mono ?_; rintro e w8 ⟨rfl, hB8⟩)
    refine (C2.out _).mono ?_
    rintro e w9 ⟨rfl, rfl⟩
    go_wp2_with fail
    refine (M1.out _ _ _ _ _ (hM.below hB8)).mono ?_
    rintro e w9 ⟨rfl, hb9⟩
    have hB9 := bto hB8 hb9 hB8.size
    go_wp2_with fail
    refine (M2.out _ _ _ _ _ (hM.below hB9)).mono ?_
    rintro e w10 ⟨rfl, hb10⟩
    have hB10 := bto hB9 hb10 hB9.size
    have hc10 := (hB10.cell (p := ⟨w5.heap.size, 0, none⟩) hlt7).trans hc7
    go_wp2_with fail
    refine (R1.out _ _ _ _ (hR.below hB10)).mono ?_
    rintro e w11 ⟨rfl, hb11⟩
    have hB11 := bto hB10 hb11 hB10.size
    have hc11 := (hB11.cell (p := ⟨w5.heap.size, 0, none⟩) hlt7).trans hc7
    go_wp2_with fail
    refine (R2.out _ _ _ _ (hR.below hB11)).mono ?_
    rintro e w12 ⟨rfl, hb12⟩
    have hB12 := bto hB11 hb12 hB11.size
    have hc12 := (hB12.cell (p := ⟨w5.heap.size, 0, none⟩) hlt7).trans hc7
    clear hB8 hb9 hB9 hb10 hB10 hb11 hB11 hb12 hc10 hc11
    go_wp2_with fail
    refine (M3.out _ _ _ _ _ (hM.below hB12)).mono ?_
    rintro e w13 ⟨rfl, hb13⟩
    have hB13 := bto hB12 hb13 hB12.size
    have hc13 := (hB13.cell (p := ⟨w5.heap.size, 0, none⟩) hlt7).trans hc7
    have M4x := M4 _ _ _ _ _ (hM.below hB13)
    clear hB12 hb13 hc12
    cases hpu : (pushL L g2 s).2 with
    | false =>
      have e1 : (pushL L g2 s).1 = g2 := HPN.out (by rw [hpu]; simp)
      rw [hpu, e1] at M4x
      have M4x := Lib.hid M4x
      clear hpu e1 M4
      go_wp2_with fail
      refine (M4x.out).mono ?_
      rintro e w14 ⟨rfl, hb14⟩
      go_wp2
      go_ret
      exact ⟨by simp, bnext hB7 (bto hB13 hb14 hB13.size)⟩
    | true =>
      obtain ⟨x, hxc, _, e1, e2, e3, e4, _, _⟩ := HPY.out hpu
      have hxl := hxc.len
      rw [hpu, e1] at M4x
      have M4x := Lib.hid M4x
      obtain ⟨g3, hg3⟩ : ∃ g, g = g2 ++ x := ⟨_, rfl⟩
      have hl3 : g3.length ≤ 1100000 := by rw [hg3, List.length_append]; omega
      rw [← hg3] at M4x e2 e3 e4
      have CN1 := Lib.hid (fun W => refCut_any g3 hl3 W)
      have CN2 := Lib.hid (fun W => refCut_any g2 (by omega) W)
      have R3 := Lib.hid (fun (W : World) hb => e3 ▸ refFits34_any (w := W) (hR.below hb) HOK.out HS.out g3 hl3)
      have M5 := Lib.hid (fun (W : World) hb => e4 ▸ mback_any (w := W) (hM.below hb) HOK.out g3 hl3)
      have hlen : ((cutL g3).length : Int) = ((cutL g2).length : Int) + 1 := by rw [e2, List.length_append]; rfl
      have hcl2 := cutL_len g2
      obtain ⟨D3, hD3⟩ : ∃ D, D = cutL g3 := ⟨_, rfl⟩
      obtain ⟨D2, hD2⟩ : ∃ D, D = cutL g2 := ⟨_, rfl⟩
      rw [← hD3] at CN1 hlen
      rw [← hD2] at CN2 hlen hcl2
      clear hpu e1 e2 e3 e4 M4 hg3 hD3 hD2 hxc hxl hM hR
      go_wp2_with fail
      refine (M4x.out).mono ?_
      rintro e w14 ⟨rfl, hb14⟩
      have hB14 := bto hB13 hb14 hB13.size
      have hc14 := (hB14.cell (p := ⟨w5.heap.size, 0, none⟩) hlt7).trans hc7
      clear hb14 hB13 hc13
      go_wp2_with fail
      refine (R3.out _ hB14).mono ?_
      rintro e w15 ⟨rfl, hb15⟩
      have hB15 := bto hB14 hb15 hB14.size
      go_wp2_with fail
      refine (M5.out _ hB15).mono ?_
      rintro e w16 ⟨rfl, hb16⟩
      have hB16 := bto hB15 hb16 hB15.size
      go_wp2_with fail
      refine (CN1.out _).mono ?_
      rintro e w17 ⟨a17, n17, c17, hn17, hnc17, hcm17, rfl, hrow17, hb17, _⟩
      obtain rfl : n17 = D3.length := hn17
      have hB17 := bto hB16 hb17 hB16.size
      go_wp2_with fail
      refine (CN2.out _).mono ?_
      rintro e w18 ⟨a18, n18, c18, hn18, hnc18, hcm18, rfl, hrow18, hb18, _⟩
      obtain rfl : n18 = D2.length := hn18
      have hB18 := bto hB17 hb18 hB17.size
      go_wp2
      go_ret
      exact ⟨by simp, bnext hB7 hB18⟩
  · have CP := Lib.hid (fun W => parse_bad (by omega) h0 W)
    have CR := Lib.hid (fun W => refParse_bad (f := p) (by omega) W)
    have hz1 : (parseC p == 0) = false := by simp [h0]
    clear h0
    go_enter Try.func8, Try.ntmps8
    go_wp2_with fail
    refine (C1.out _).mono ?_
    rintro e w1 ⟨rfl, rfl⟩
    go_wp2_with fail
    refine (C4.out _).mono ?_
    rintro e w2 ⟨rfl, rfl⟩
    go_wp2_with fail
    refine (C3.out _).mono ?_
    rintro e w3 ⟨rfl, rfl⟩
    go_wp2_with fail
    refine (CR.out _).mono ?_
    rintro e w5 ⟨⟨a, n, c, rfl⟩, hb5⟩
    have hB6 := hb5.alloc hb5.size (.cells #[.slice a n c] 45)
    go_wp2_with fail
    refine (CP.out _).mono ?_
    rintro e w6 ⟨rfl, hb6⟩
    have hB7 := bnext hB6 hb6
    go_wp2_with (go_at_call 39; refine (awake34_any _).mono ?_; rintro e w8 ⟨rfl, hb8⟩)
    go_ret
    exact ⟨rfl, bnext hB7 hb8⟩
end Go.Proofs.Ytmdpmjabjijjiaa
