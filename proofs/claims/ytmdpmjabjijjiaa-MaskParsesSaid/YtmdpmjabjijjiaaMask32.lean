/- The law MaskParses. No condition. -/
import Derived.Test.YtmdpmjabjijjiaaMask28
import Derived.Test.YtmdpmjabjijjiaaMask25
namespace Go.Proofs.Ytmdpmjabjijjiaa
set_option linter.unusedVariables false
set_option linter.unusedSimpArgs false
open Go.RowKit Go.Shelf Go.Maps
theorem rv_take {B : Nat} {w : World} {a : Option Addr} {L : PL} (h : RowAt B w a (RV L)) (k : Nat) : RowAt B w a (RV (L.take k)) := fun j hj => by
  have hl : (RV L).length = L.length * 2 := pair_len _ _ L
  have hl2 : (RV (L.take k)).length = (L.take k).length * 2 := pair_len _ _ _
  have e : RV L = RV (L.take k) ++ RV (L.drop k) := by
    unfold RV
    rw [← List.flatMap_append, List.take_append_drop]
  obtain ⟨b, off, e1, hb, hc⟩ := h j (by rw [e, List.length_append]; omega)
  refine ⟨b, off, e1, hb, ?_⟩
  rw [hc, e]
  unfold nth
  rw [List.getD_eq_getElem?_getD, List.getD_eq_getElem?_getD, List.getElem?_append_left hj]
theorem take_min34 (L : PL) (st : Nat) : L.take st = L.take (min L.length st) := by
  rcases Nat.le_total L.length st with h | h
  · rw [Nat.min_eq_left h, List.take_length, List.take_of_length_le h]
  · rw [Nat.min_eq_right h]
set_option maxRecDepth 100000 in
set_option maxHeartbeats 16000000 in
theorem maskParses_law (p0 : ByteArray) (stop : Int) (w : World) (hp : p0.size ≤ maxLen) (hst : (Lit.int .u8 stop).wf = true) :
    Calls Try.prog 7 #[.string p0, .int .u8 stop] w fun e w' => e = .returned (.bool true) ∧ Below w.heap.size w w' := by
  have hm : 0 ≤ stop ∧ stop ≤ 255 := by simpa [Lit.wf, IntKind.min, IntKind.max, IntKind.signed, IntKind.bits] using hst
  obtain ⟨st, rfl⟩ := Int.eq_ofNat_of_zero_le hm.1
  obtain ⟨p1, rfl⟩ := S_back p0
  rw [S_size] at hp
  have C1 := Lib.hid (fun W => cut34_any p1 300 W hp (by omega))
  obtain ⟨p, hp'⟩ : ∃ p, p = p1.take 300 := ⟨_, rfl⟩
  rw [← hp'] at C1
  have hpl : p.length ≤ 300 := by rw [hp', List.length_take]; omega
  clear hp' hst
  by_cases h0 : parseC p = 0
  · have CP := Lib.hid (fun W => parse_new (by omega) h0 W)
    have CR := Lib.hid (fun W => refParse_new (by omega) h0 W)
    have hok := parse_ok h0
    have hlen := parse_len h0
    have hLp : 0 < (parseL p).length := List.length_pos_iff.2 (fun e => (parse_flat h0).2.2.2 (by rw [e]; rfl))
    obtain ⟨q1, q2, q3⟩ := parse_print h0
    have CQ := (fun W => parse_new (by omega) q1 W)
    rw [q2] at CQ
    have CQ := Lib.hid CQ
    obtain ⟨L, hL⟩ : ∃ L, L = parseL p := ⟨_, rfl⟩
    rw [← hL] at CP CR CQ hok hlen q3 hLp
    obtain ⟨km, hkm⟩ : ∃ km, km = min L.length st := ⟨_, rfl⟩
    have hTK := take_min34 L st
    rw [← hkm] at hTK
    have M1 := (fun (W : World) b a1 n1 c1 (hM : MaskAt W (some ⟨b, 0, none⟩) a1 n1 c1 L) => told34_any hM hok.len 1000 (by omega))
    rw [List.take_of_length_le (by omega : L.length ≤ 1000)] at M1
    have M2 := (fun (W : World) b a1 n1 c1 (hM : MaskAt W (some ⟨b, 0, none⟩) a1 n1 c1 L) => told34_any hM hok.len st (by omega))
    rw [hTK] at M2
    have M3 := Lib.hid (fun (W : World) b a1 n1 c1 (hM : MaskAt W (some ⟨b, 0, none⟩) a1 n1 c1 L) => mprint_any hM hok)
    have M4 := Lib.hid (fun (W : World) b a1 n1 c1 (hM : MaskAt W (some ⟨b, 0, none⟩) a1 n1 c1 L) => mSlots_any hM hok.len)
    have R3 := Lib.hid (fun (W : World) a n c (hR : RefAt W a n c L) => refPrint_any hR hok)
    have R4 := (fun (W : World) a n c (hR : RefAt W a n c L) => refSlots_any hR hok.len)
    have M1 := Lib.hid M1
    have M2 := Lib.hid M2
    have hsl := slotStrs_len L
    have hsl2 := slotsL_len L
    obtain ⟨K, hK⟩ : ∃ K, K = slotStrs L := ⟨_, rfl⟩
    rw [← hK] at hsl R4
    rw [← hsl] at M4
    have R4 := Lib.hid R4
    obtain ⟨pr, hpr⟩ : ∃ pr, pr = printL L := ⟨_, rfl⟩
    rw [← hpr] at M3 R3 CQ
    have CS := Lib.hid (fun W a b n c m d hn hm ha hb => same34_any L a b n c m d W hn hm (by omega) ha hb)
    have CT := Lib.hid (fun W a b n c m d hn hm ha hb => same34_any (L.take km) a b n c m d W hn hm (by rw [List.length_take]; omega) ha hb)
    have hlk : (L.take km).length = km := by rw [List.length_take]; omega
    have hmin : min (L.length : Int) (st : Int) = (km : Int) := by omega
    have hkl : km ≤ L.length := by omega
    have HLK := Lib.hid hlk
    have hKl : K.length ≤ 300 := by omega
    clear h0 hok hL hkm hTK q1 q2 q3 hK hpr hlk hsl hsl2
    go_enter Try.func7, Try.ntmps7
    go_wp2_with fail
    refine (C1.out _).mono ?_
    rintro e w1 ⟨rfl, rfl⟩
    go_wp2_with fail
    refine (CP.out _).mono ?_
    rintro e w4 ⟨b, a1, n1, c1, rfl, hM4, hb4⟩
    go_wp2_with fail
    refine (CR.out _).mono ?_
    rintro e w5 ⟨a, n, c, rfl, hR5, hb5⟩
    obtain ⟨W7, hW7, hcx, hR, hb7, hs7⟩ := box_new hR5 45
    have hM := (hM4.below hb5).below hb7
    have hB7 := bnext (bnext hb4 hb5) hb7
    have hlt7 := World.block_lt_of_cell? _ _ hcx
    have hnc := hR.cap
    have hcm7 : c ≤ 9223372036854775807 := by have := hR.max; unfold maxLen at this; omega
    have hwr : IntKind.i64.wrap (st : Int) = (st : Int) := IntWalk.i64_in _ (by omega)
    obtain ⟨ba, oa, rfl, _, _, _⟩ := rv_at hR.row 0 hLp
    obtain rfl : n = L.length := hR.len
    clear hR5 hM4 hb4 hb5 hb7
    go_wp2_with (go_at_call 39; refine (awake34_any _).mono ?_; rintro e w8 ⟨rfl, hB8⟩)
    refine (M1.out _ _ _ _ _ (hM.below hB8)).mono ?_
    rintro e w9 ⟨a9, n9, c9, hn9, hnc9, hcm9, rfl, hrow9, hb9⟩
    obtain rfl : n9 = L.length := hn9
    have hB9 := bto hB8 hb9 hB8.size
    go_wp2_with fail
    refine (M2.out _ _ _ _ _ (hM.below hB9)).mono ?_
    rintro e w10 ⟨a10, n10, c10, hn10, hnc10, hcm10, rfl, hrow10, hb10⟩
    rw [HLK.out] at hn10
    have hB10 := bto hB9 hb10 hB9.size
    replace hrow9 := (hrow9.below hb10).more hb10.size
    go_wp2_with fail
    refine (M3.out _ _ _ _ _ (hM.below hB10)).mono ?_
    rintro e w11 ⟨rfl, hb11⟩
    have hB11 := bto hB10 hb11 hB10.size
    replace hrow9 := (hrow9.below hb11).more hb11.size
    replace hrow10 := (hrow10.below hb11).more hb11.size
    go_wp2_with fail
    refine (CQ.out _).mono ?_
    rintro e w12 ⟨b2, a2, n2, c2, rfl, hM2, hb12⟩
    have hB12 := bto hB11 hb12 hB11.size
    replace hrow9 := (hrow9.below hb12).more hb12.size
    replace hrow10 := (hrow10.below hb12).more hb12.size
    have hcx12 := (hB12.cell (p := ⟨w5.heap.size, 0, none⟩) hlt7).trans hcx
    clear hB8 hb9 hB9 hb10 hB10 hb11 hB11 hb12
    have hkc : km ≤ c := by omega
    have hkn : (km : Int) ≤ (c : Int) := by omega
    go_wp2_with fail
    have hlt12 := World.block_lt_of_cell? _ _ hcx12
    have hrow9d : RowAt w12.drew.heap.size w12.drew a9 (LV L) := hrow9
    have hRd := (hR.below hB12.drew).row
    go_region_held3 (fun w' => w'.cell? ⟨w5.heap.size, 0, none⟩ = some (.slice (some ⟨ba, oa, none⟩) L.length c)) (first | assumption | go_keep) (first
      | (go_at_call 42; refine (CT.out _ _ _ _ _ _ _ (by rw [HLK.out]; simp) (by rw [HLK.out]; simp) hrow13 (rv_take (hR.below hB13).row km)).mono ?_; rintro e w14 ⟨rfl, hb14⟩; have hB14 := bto hB13 hb14 hB13.size; have hcx14 := (hB14.cell (p := ⟨w5.heap.size, 0, none⟩) hlt7).trans hcx)
      | (go_at_call 42; refine (CS.out _ _ _ _ _ _ _ (by simp) (by simp) hrow9d hRd).mono ?_; rintro e w13 ⟨rfl, hb13⟩; have hB13 : Below W7.heap.size W7 w13 := bto hB12 ⟨hb13.os, hb13.tape, hb13.output, hb13.size, hb13.block⟩ hB12.size; have hcx13 := (hB13.cell (p := ⟨w5.heap.size, 0, none⟩) hlt7).trans hcx; have hrow13 := (hrow10.below (show Below w12.heap.size w12 w13 from ⟨hb13.os, hb13.tape, hb13.output, hb13.size, hb13.block⟩)).more hb13.size; clear hrow9d)
      | (go_at_call 41; refine (M3.out _ _ _ _ _ (hM.below hB14)).mono ?_; rintro e w15 ⟨rfl, hb15⟩; have hB15 := bto hB14 hb15 hB14.size; have hcx15 := (hB15.cell (p := ⟨w5.heap.size, 0, none⟩) hlt7).trans hcx)
      | (go_at_call 43; refine (R3.out _ _ _ _ (hR.below hB15)).mono ?_; rintro e w16 ⟨rfl, hb16⟩; have hB16 := bto hB15 hb16 hB15.size; have hcx16 := (hB16.cell (p := ⟨w5.heap.size, 0, none⟩) hlt7).trans hcx)
      | (go_at_call 44; refine (M4.out _ _ _ _ _ (hM.below hB16)).mono ?_; rintro e w17 ⟨rfl, hb17⟩; have hB17 := bto hB16 hb17 hB16.size; have hcx17 := (hB17.cell (p := ⟨w5.heap.size, 0, none⟩) hlt7).trans hcx)
      | (go_at_call 45; refine (R4.out _ _ _ _ (hR.below hB17)).mono ?_; rintro e w18 ⟨a18, n18, c18, hn18, hnc18, hcm18, rfl, hrow18, hb18⟩; obtain rfl : n18 = K.length := hn18; have hB18 := bto hB17 hb18 hB17.size; have hcx18 := (hB18.cell (p := ⟨w5.heap.size, 0, none⟩) hlt7).trans hcx))
    have hbe : Below w12.heap.size w12 w18 := bnext (bnext (bnext (bnext (bnext (show Below w12.heap.size w12 w13 from ⟨hb13.os, hb13.tape, hb13.output, hb13.size, hb13.block⟩) hb14) hb15) hb16) hb17) hb18
    clear hB12 hB13 hb13 hB14 hb14 hB15 hb15 hB16 hb16 hB17 hb17 hb18 hcx12 hcx13 hcx14 hcx15 hcx16 hcx17 hrow9 hrow10 hrow13
    go_wp2_with fail
    refine (M1.out _ _ _ _ _ (hM2.below hbe)).mono ?_
    rintro e w19 ⟨a19, n19, c19, hn19, hnc19, hcm19, rfl, hrow19, hb19⟩
    obtain rfl : n19 = L.length := hn19
    have hB19 := bto hB18 hb19 hB18.size
    have hcx19 := (hB19.cell (p := ⟨w5.heap.size, 0, none⟩) hlt7).trans hcx
    go_wp2_with fail
    refine (CS.out _ _ _ _ _ _ _ (by simp) (by simp) hrow19 (hR.below hB19).row).mono ?_
    rintro e w20 ⟨rfl, hb20⟩
    go_wp2
    go_ret
    exact ⟨rfl, bnext hB7 (bto hB19 hb20 hB19.size)⟩
  · have CP := Lib.hid (fun W => parse_bad (by omega) h0 W)
    have CR := Lib.hid (fun W => refParse_bad (f := p) (by omega) W)
    have hz1 : (parseC p == 0) = false := by simp [h0]
    clear h0
    go_enter Try.func7, Try.ntmps7
    go_wp2_with fail
    refine (C1.out _).mono ?_
    rintro e w1 ⟨rfl, rfl⟩
    go_wp2_with fail
    refine (CP.out _).mono ?_
    rintro e w5 ⟨rfl, hb5⟩
    go_wp2_with fail
    refine (CR.out _).mono ?_
    rintro e w6 ⟨⟨a, n, c, rfl⟩, hb6⟩
    have hB7 := (bnext hb5 hb6).alloc (bnext hb5 hb6).size (.cells #[.slice a n c] 45)
    go_wp2_with (go_at_call 39; refine (awake34_any _).mono ?_; rintro e w8 ⟨rfl, hb8⟩)
    go_ret
    exact ⟨rfl, bnext hB7 hb8⟩
end Go.Proofs.Ytmdpmjabjijjiaa
