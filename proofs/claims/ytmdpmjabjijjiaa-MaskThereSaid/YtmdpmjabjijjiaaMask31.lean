/- The law MaskThere. No condition. -/
import Derived.Test.YtmdpmjabjijjiaaMask27
import Derived.Test.YtmdpmjabjijjiaaMask28
import Derived.Test.YtmdpmjabjijjiaaBwAt
namespace Go.Proofs.Ytmdpmjabjijjiaa
set_option linter.unusedVariables false
set_option linter.unusedSimpArgs false
open Go.RowKit Go.Shelf Go.Maps
set_option maxRecDepth 100000 in
set_option maxHeartbeats 2000000 in
theorem other34_any (c : List UInt8) (w : World) : Calls Try.prog 51 #[.string (S c)] w fun e w' => e = .returned (.string (S (otherB c))) ∧ w = w' := by
  have e1 := S_const c [57]
  have e2 := S_const c [97]
  have e3 := S_const c [65]
  obtain ⟨z, hz⟩ : ∃ z, z = otherB c := ⟨_, rfl⟩
  rw [← hz]
  unfold otherB at hz
  by_cases h1 : c = [57]
  all_goals by_cases h2 : c = [97]
  all_goals by_cases h3 : c = [65]
  all_goals first | (exfalso; simp_all; done) | skip
  all_goals first | replace e1 := e1.trans (decide_eq_true h1) | replace e1 := e1.trans (decide_eq_false h1)
  all_goals first | replace e2 := e2.trans (decide_eq_true h2) | replace e2 := e2.trans (decide_eq_false h2)
  all_goals first | replace e3 := e3.trans (decide_eq_true h3) | replace e3 := e3.trans (decide_eq_false h3)
  all_goals simp [h1, h2, h3] at hz
  all_goals (have HZ := Lib.hid hz; clear hz h1 h2 h3)
  all_goals go_enter Try.func51, Try.ntmps51
  all_goals go_wp2
  all_goals go_ret
  all_goals refine ⟨?_, rfl⟩
  all_goals rw [HZ.out]
  all_goals rfl
set_option maxRecDepth 100000 in
set_option maxHeartbeats 8000000 in
theorem maskThere_law (p0 t0 : ByteArray) (w : World) (hp : p0.size ≤ maxLen) (ht : t0.size ≤ maxLen) :
    Calls Try.prog 9 #[.string p0, .string t0] w fun e w' => e = .returned (.bool true) ∧ Below w.heap.size w w' := by
  obtain ⟨p1, rfl⟩ := S_back p0
  obtain ⟨t1, rfl⟩ := S_back t0
  rw [S_size] at hp ht
  have C1 := Lib.hid (fun W => cut34_any p1 80 W hp (by omega))
  have C4 := Lib.hid (fun W => cut34_any t1 80 W ht (by omega))
  obtain ⟨p, hp'⟩ : ∃ p, p = p1.take 80 := ⟨_, rfl⟩
  obtain ⟨t, ht'⟩ : ∃ t, t = t1.take 80 := ⟨_, rfl⟩
  rw [← hp'] at C1
  rw [← ht'] at C4
  have hpl : p.length ≤ 80 := by rw [hp', List.length_take]; omega
  have htl : t.length ≤ 80 := by rw [ht', List.length_take]; omega
  have hftl : (flatL t).length ≤ 1100000 := by have := flatL_len t; omega
  clear hp' ht'
  by_cases h0 : parseC p = 0
  · have CP := Lib.hid (fun W => parse_new (by omega) h0 W)
    have CR := Lib.hid (fun W => refParse_new (by omega) h0 W)
    have hok := parse_ok h0
    have hS := (parse_flat h0).2.2.2
    obtain ⟨L, hL⟩ : ∃ L, L = parseL p := ⟨_, rfl⟩
    rw [← hL] at CP CR hok hS
    have hLn : L ≠ [] := by rintro rfl; exact hS rfl
    obtain ⟨g1, hg1⟩ : ∃ g, g = feedL L [] t := ⟨_, rfl⟩
    have hF1 := (feed_fits t (fits_nil hS)).1
    rw [← hg1] at hF1
    have hl1 := fits_len hok hF1
    have HFL := Lib.hid (fun g h => @fits_len L g hok h)
    have M1 := Lib.hid (fun (W : World) b a1 n1 c1 (hM : MaskAt W (some ⟨b, 0, none⟩) a1 n1 c1 L) => hg1 ▸ mfeed_any hM hok [] t (by simp) (by omega) hftl)
    have R1 := Lib.hid (fun (W : World) a n c (hR : RefAt W a n c L) => refSlots_any hR hok.len)
    have CN1 := Lib.hid (fun W => refCut_any g1 (by omega) W)
    have HF1 := Lib.hid hF1
    have HOK := Lib.hid hok
    have HS := Lib.hid hS
    have HLN := Lib.hid hLn
    have hsl := slotStrs_len L
    have hsl2 := slotsL_len L
    have hLl := hok.len
    have hroom := fits_room hF1
    rw [← hsl] at hroom
    obtain ⟨K, hK⟩ : ∃ K, K = slotStrs L := ⟨_, rfl⟩
    rw [← hK] at R1 hsl hroom
    have HK := Lib.hid hK
    have hKl : K.length ≤ 300 := by omega
    have HPO := Lib.hid (fun g hf hl => @push_other L hok g hf hl)
    have HPY := Lib.hid (fun g s h => @push_yes L g s h)
    have HSL := Lib.hid hsl
    clear h0 hok hS hL hLn hg1 hF1 hK hsl hsl2 hLl
    go_enter Try.func9, Try.ntmps9
    go_wp2_with fail
    refine (C1.out _).mono ?_
    rintro e w1 ⟨rfl, rfl⟩
    go_wp2_with fail
    refine (CR.out _).mono ?_
    rintro e w5 ⟨a, n, c, rfl, hR5, hb5⟩
    obtain ⟨W6, hW6, hcx, hR6, hb6, hs6⟩ := box_new hR5 45
    go_wp2_with fail
    refine (CP.out _).mono ?_
    rintro e W7 ⟨b, a1, n1, c1, rfl, hM, hb7⟩
    have hR := hR6.below hb7
    have hB7 := bnext (bnext hb5 hb6) hb7
    have hc7 := (hb7.cell (p := ⟨w5.heap.size, 0, none⟩) (by show w5.heap.size < _; omega)).trans hcx
    have hlt7 := World.block_lt_of_cell? _ _ hc7
    clear hR5 hR6 hb5 hb6 hb7 hcx
    go_wp2_with (go_at_call 39; refine (awake34_any _).mono ?_; rintro e w8 ⟨rfl, hB8⟩)
    refine (C4.out _).mono ?_
    rintro e w9 ⟨rfl, rfl⟩
    go_wp2_with fail
    refine (M1.out _ _ _ _ _ (hM.below hB8)).mono ?_
    rintro e w9 ⟨rfl, hb9⟩
    have hB9 := bto hB8 hb9 hB8.size
    have hc9 := (hB9.cell (p := ⟨w5.heap.size, 0, none⟩) hlt7).trans hc7
    go_wp2_with fail
    refine (R1.out _ _ _ _ (hR.below hB9)).mono ?_
    rintro e w10 ⟨a10, n10, c10, hn10, hnc10, hcm10, rfl, hrow10, hb10⟩
    obtain rfl : n10 = K.length := hn10
    have hB10 := bto hB9 hb10 hB9.size
    go_wp2_with fail
    refine (CN1.out _).mono ?_
    rintro e w11 ⟨a11, n11, c11, hn11, hnc11, hcm11, rfl, hrow11, hb11, _⟩
    have HN11 := Lib.hid hn11
    have hB11 := bto hB10 hb11 hB10.size
    replace hrow10 := (hrow10.below hb11).more hb11.size
    have hn11' : n11 ≤ K.length := by rw [hn11]; exact hroom
    clear hB8 hb9 hB9 hb10 hB10 hb11 hc9 hn11 hroom
    go_wp2_with fail
    go_loopw [11, 9] (fun i v wr => ∃ (k : Nat) (g : List UInt8), k ≤ K.length ∧ i = .int .i64 (k : Int) ∧ v = .string (S g) ∧ Hid (fitsL L g = true ∧ (cutL g).length = k) ∧ Below w11.heap.size w11 wr)
      (fun i _ _ => K.length - (intOf i).toNat)
    case atStart => exact ⟨n11, g1, hn11', rfl, rfl, Lib.hid ⟨HF1.out, HN11.out.symm⟩, Below.refl _ _⟩
    case round =>
      obtain ⟨k, g, hk, rfl, rfl, hgk, hbr⟩ := hrel
      have hbw := bto hB11 hbr hB11.size
      have hgl := HFL.out g hgk.out.1
      by_cases hlt : k < K.length
      · obtain ⟨b2, o2, rfl, hb2, hx1⟩ := strs_at hrow10 k hlt
        have hx2 := (hbr.cell (p := ⟨b2, o2 + k, none⟩) hb2).trans hx1
        have hpo := HPO.out g hgk.out.1 (by rw [hgk.out.2, ← HSL.out]; exact hlt)
        rw [hgk.out.2, ← HK.out] at hpo
        obtain ⟨x, hx⟩ : ∃ x, x = nth [] K k := ⟨_, rfl⟩
        rw [← hx] at hx2 hpo
        have CO := Lib.hid (fun W => other34_any x W)
        obtain ⟨y, hy, _, e1, e2, e3, _⟩ := HPY.out _ _ hpo
        have hol : (otherB x).length ≤ 1 := by unfold otherB; (repeat' split) <;> simp
        have CPU := mpush_any (hM.below hbw) HOK.out g (otherB x) (by omega) (by omega)
        rw [hpo, e1] at CPU
        have CPU := Lib.hid CPU
        have HNX := Lib.hid (And.intro e3 (by rw [e2, List.length_append, hgk.out.2]; rfl : (cutL (g ++ y)).length = k + 1))
        clear hx hx1 hpo e1 e2 e3 hy hol
        go_wp2_with (first
          | (go_at_call 51; refine (CO.out _).mono ?_; rintro e w12 ⟨rfl, rfl⟩)
          | (go_at_call 49; refine (CPU.out).mono ?_; rintro e w13 ⟨rfl, hb13⟩))
        go_roundw
        case rel => exact ⟨k + 1, g ++ y, hlt, by go_num, rfl, HNX, bto hbr hb13 hbr.size⟩
        case measure => simp [intOf]; omega
      · obtain rfl : k = K.length := by omega
        have hw : wholeL L g = true := whole_of hgk.out.1 (by rw [hgk.out.2, HSL.out])
        have hlt7' := hlt7
        have hMr := hM.below hbw
        have hRr := hR.below hbw
        have hcr := (hbw.cell (p := ⟨w5.heap.size, 0, none⟩) hlt7).trans hc7
        have hltr := World.block_lt_of_cell? _ _ hcr
        obtain ⟨sh, hsh⟩ : ∃ sh, sh = showL L g := ⟨_, rfl⟩
        have hrd := read_show HOK.out HLN.out hw
        have hfd := feed_show HOK.out hw
        have hat := at_whole hw
        rw [← hsh] at hrd hfd
        have hshl : sh.length ≤ 1100000 := by
          obtain ⟨e1, e2⟩ := show_cut HOK.out hgk.out.1
          have h3 : (fillC L (cutL g)).flatten.length ≤ 64 * (fillC L (cutL g)).length := flat_len _ 64 (fun c hc => (fillC_clu L (cutL g) HOK.out.clu (fun c hc => clu_mem hc) c hc).len.2)
          rw [← e2, ← hsh, fillC_len] at h3
          have := HOK.out.len
          omega
        have hshf : (flatL sh).length ≤ 1100000 := by
          obtain ⟨e1, e2⟩ := show_cut HOK.out hgk.out.1
          have hc := fillC_clu L (cutL g) HOK.out.clu (fun c hc => clu_mem hc)
          have : flatL sh = sh := by rw [hsh, e2]; exact flat_clus hc
          rw [this]; exact hshl
        have D1 := Lib.hid (hsh ▸ mshow_any hMr HOK.out g (by omega))
        have D2 := Lib.hid (fun (W : World) hb => hrd ▸ mread_any (w := W) (hMr.below hb) HOK.out sh hshl)
        have E1 := Lib.hid (fun q : BW wr.heap.size wr => hw ▸ mwhole_any (hMr.below q.h) HOK.out g (by omega))
        have E2 := Lib.hid (fun q : BW wr.heap.size wr => hw ▸ refWhole_any (hRr.below q.h) HOK.out HS.out g (by omega))
        have E3 := Lib.hid (fun q : BW wr.heap.size wr => hsh ▸ mshow_any (hMr.below q.h) HOK.out g (by omega))
        have E4 := Lib.hid (fun q : BW wr.heap.size wr => hfd ▸ mfeed_any (hMr.below q.h) HOK.out [] sh (by simp) hshl hshf)
        have E5 := Lib.hid (fun q : BW wr.heap.size wr => hat ▸ mat_any (hMr.below q.h) HOK.out g (by omega))
        have hnL := hR.len
        have KX := fun q : BW wr.heap.size wr => q.cell hltr hcr
        have HNL := Lib.hid hnL
        clear hw hsh hrd hfd hat hMr hRr hM hR hshl hshf hnL
        go_wp2_with fail
        refine (D1.out).mono ?_
        rintro e w12 ⟨rfl, hB12⟩
        go_wp2_with fail
        refine (D2.out _ hB12).mono ?_
        rintro e w13 ⟨rfl, hb13⟩
        have hB13 := bto hB12 hb13 hB12.size
        clear hb13 hB12
        go_wp2_with fail
        refine wp_region_bwFrom wr.heap.size wr hB13 (by kernel_rfl) (lexB_fast (by kernel_rfl)) ?_
        repeat (go_big_quiet_step ((apply Calls.bw_of (Nat.le_refl _); first
          | (go_at_call 54; exact E1.out _)
          | (go_at_call 55; exact E2.out _)
          | (go_at_call 53; exact E3.out _)
          | (go_at_call 46; exact E4.out _)
          | (go_at_call 56; exact E5.out _))))
        refine wpQuiet_nil ?_
        rintro _ ⟨⟨w14, hB14⟩, rfl⟩
        go_wp2_with fail
        go_ret
        exact ⟨by rw [HNL.out]; simp, bnext hB7 (bto hbw hB14 hbw.size)⟩
  · have CP := Lib.hid (fun W => parse_bad (by omega) h0 W)
    have CR := Lib.hid (fun W => refParse_bad (f := p) (by omega) W)
    have hz1 : (parseC p == 0) = false := by simp [h0]
    clear h0
    go_enter Try.func9, Try.ntmps9
    go_wp2_with fail
    refine (C1.out _).mono ?_
    rintro e w1 ⟨rfl, rfl⟩
    go_wp2_with fail
    refine (CR.out _).mono ?_
    rintro e w5 ⟨⟨a, n, c, rfl⟩, hb5⟩
    have hB6 := hb5.alloc hb5.size (.cells #[.slice a n c] 45)
    go_wp2_with fail
    refine (CP.out _).mono ?_
    rintro e w6 ⟨rfl, hb6⟩
    have hB7 := bnext hB6 hb6
    go_wp2_with (go_at_call 39; refine (awake34_any _).mono ?_; rintro e w8 ⟨rfl, hb8⟩)
    go_ret
    exact ⟨rfl, bnext hB7 hb8⟩
end Go.Proofs.Ytmdpmjabjijjiaa
