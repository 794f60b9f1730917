/- The reference mask: feed. No condition. -/
import Derived.Test.YtmdpmjabjijjiaaMask24
import Derived.Test.YtmdpmjabjijjiaaMask25
import Derived.Test.YtmdpmjabjijjiaaMask26
namespace Go.Proofs.Ytmdpmjabjijjiaa
set_option linter.unusedVariables false
set_option linter.unusedSimpArgs false
open Go.RowKit Go.Shelf Go.Maps
set_option maxRecDepth 100000 in
set_option maxHeartbeats 8000000 in
theorem refFeed_any {w : World} {a : Option Addr} {n c : Nat} {L : PL} (h : RefAt w a n c L) (hL : PLok L) (hS : slotsL L ≠ []) (f t : List UInt8) (hf : f.length ≤ 1100000) (ht : t.length ≤ 1100000) (hft : (flatL t).length ≤ 1100000) :
    Calls Try.prog 64 #[.agg #[.slice a n c], .string (S f), .string (S t)] w fun e w' => e = .returned (.string (S (feedL L f t))) ∧ Below w.heap.size w w' := by
  obtain ⟨W1, hW1, hcx, hR, hb1, hs1⟩ := box_new h 45
  have CM := (fun W hb => refFits34_any (w := W) (hR.below hb) hL hS f hf)
  have hn : n ≤ 300 := by rw [h.len]; exact hL.len
  have CN := Lib.hid (fun W => refCut_any f hf W)
  have hzl := cutL_len f
  have CB := Lib.hid (fun W hb => refBehind_any (w := W) (hR.below hb) hL.len (cutL f).length (by omega))
  have CF := Lib.hid (fun W => refFlat_any t ht W)
  have CC := Lib.hid (fun W => refCut_any (flatL t) hft W)
  have CP := Lib.hid (fun W hb g x hg hx => refPush_any (w := W) (hR.below hb) hL hS g x hg hx)
  have HPL := Lib.hid (fun g x hg => push_len (L := L) (f := g) (s := x) hL hg)
  have hrow := hR.row
  have HN := Lib.hid h.len
  have hbl := behN_le L (cutL f).length
  have hel := cutL_len (flatL t)
  obtain ⟨Z, hZ⟩ : ∃ Z, Z = feedL L f t := ⟨_, rfl⟩
  rw [← hZ]
  unfold feedL at hZ
  have hLn : L ≠ [] := by rintro rfl; exact hS rfl
  rw [show sameL L f = f by unfold sameL; rw [if_neg hLn]] at hZ
  have HCP := Lib.hid (fun k => @cut_pos (flatL t) k)
  obtain ⟨E, hE⟩ : ∃ E, E = cutL (flatL t) := ⟨_, rfl⟩
  obtain ⟨D, hD⟩ : ∃ D, D = cutL f := ⟨_, rfl⟩
  rw [← hE] at hZ CC HCP hel
  rw [← hD] at hZ CN CB hbl hzl
  obtain ⟨a0, ha0⟩ : ∃ a0, a0 = behN L D.length := ⟨_, rfl⟩
  rw [← ha0] at hZ CB hbl
  have hbn : a0 ≤ n := by rw [HN.out]; exact hbl
  have hel2 : E.length ≤ 1100000 := by omega
  clear h hL hE hD ha0 hbl hR hS hLn
  cases hfit : fitsL L f with
  | false =>
    rw [hfit] at CM hZ
    rw [if_neg (by simp)] at hZ
    subst hZ
    have CM := Lib.hid CM
    clear hfit
    go_enter Try.func64, Try.ntmps64
    go_wp2_with fail
    refine (CM.out _ (Below.refl _ _)).mono ?_
    rintro e w2 ⟨rfl, hb2⟩
    go_wp2
    go_ret
    exact ⟨rfl, bnext hb1 hb2⟩
  | true =>
    rw [hfit] at CM hZ
    rw [if_pos rfl] at hZ
    have CM := Lib.hid CM
    have HZ := Lib.hid hZ
    clear hfit hZ
    go_enter Try.func64, Try.ntmps64
    go_wp2_with fail
    refine (CM.out _ (Below.refl _ _)).mono ?_
    rintro e w2 ⟨rfl, hb2⟩
    have hdx2 := (hb2.cell (p := ⟨w.heap.size, 0, none⟩) (by show w.heap.size < _; omega)).trans hcx
    have hlt2 := World.block_lt_of_cell? _ _ hdx2
    go_wp2
    go_region_held3 (fun w' => w'.cell? ⟨w.heap.size, 0, none⟩ = some (.slice a n c)) (first | assumption | go_keep) (first
      | (go_at_call 22; refine (CN.out _).mono ?_; rintro e w3 ⟨a3, n3, c3, hn3, hnc3, hcm3, rfl, hrow3, hb3, _⟩; obtain rfl : n3 = D.length := hn3; have hdx3 := (hb3.cell (p := ⟨w.heap.size, 0, none⟩) hlt2).trans hdx2; have hB3 : Below W1.heap.size W1 w3 := bnext hb2 ⟨hb3.os, hb3.tape, hb3.output, hb3.size, hb3.block⟩)
      | (go_at_call 108; refine (CB.out _ hB3).mono ?_; rintro e w4 ⟨rfl, hb4⟩; have hB4 := bnext hB3 hb4; have hdx4 := (hb4.cell (p := ⟨w.heap.size, 0, none⟩) (World.block_lt_of_cell? _ _ hdx3)).trans hdx3))
    go_wp2_with (first
      | (go_at_call 20; refine (CF.out _).mono ?_; rintro e w5 ⟨rfl, hb5⟩; have hB5 := bnext hB4 hb5)
      | (go_at_call 22; refine (CC.out _).mono ?_; rintro e w6 ⟨a2, n2, c2, hn2, hnc2, hcm2, rfl, hrow2, hb6, _⟩; obtain rfl : n2 = E.length := hn2; have hB6 := bnext hB5 hb6))
    clear hb2 hb3 hB3 hb4 hB4 hb5 hB5 hb6 hdx2 hdx3 hdx4
    have hBs := hB6.size
    have hdx6 := (hB6.cell (p := ⟨w.heap.size, 0, none⟩) (by show w.heap.size < _; omega)).trans hcx
    have hlt6 := World.block_lt_of_cell? _ _ hdx6
    go_loopw [9, 7, 1] (fun i v s wr => ∃ (k b : Nat) (g : List UInt8), k ≤ E.length ∧ i = .int .i64 (k : Int) ∧ v = .int .i64 (b : Int) ∧ s = .string (S g) ∧ b ≤ n ∧ g.length ≤ 1100000 ∧ Hid (Z = feedR L (E.drop k) g b) ∧ Below w6.heap.size w6 wr)
      (fun i _ _ _ => E.length - (intOf i).toNat)
    case atStart => exact ⟨0, a0, f, Nat.zero_le _, rfl, rfl, rfl, hbn, hf, Lib.hid HZ.out, Below.refl _ _⟩
    case round =>
      obtain ⟨k, b, g, hk, rfl, rfl, rfl, hbn1, hgl, hst, hbr⟩ := hrel
      have hbs := hbr.size
      by_cases hlt : k < E.length
      · obtain ⟨b2, o2, rfl, hb2, hx1⟩ := strs_at hrow2 k hlt
        have hxl := HCP.out k hlt
        have hdr : E.drop k = nth [] E k :: E.drop (k + 1) := by rw [List.drop_eq_getElem_cons hlt, nth_eq _ _ _ hlt]
        obtain ⟨x, hx⟩ : ∃ x, x = nth [] E k := ⟨_, rfl⟩
        rw [← hx] at hx1 hxl hdr
        have HDR := Lib.hid hdr
        clear hx hdr
        have HLT := Lib.hid hlt
        have hkE : k + 1 ≤ E.length := hlt
        have hkI : (k : Int) < (E.length : Int) := by omega
        go_wp2_with fail
        go_loopw [7] (fun v wx => ∃ d : Nat, v = .int .i64 (d : Int) ∧ d ≤ n ∧ Hid (b + skipF (L.drop b) x = d + skipF (L.drop d) x) ∧ Below w6.heap.size w6 wx)
          (fun v _ => n - (intOf v).toNat)
        case atStart => exact ⟨b, rfl, hbn1, Lib.hid rfl, hbr⟩
        case round =>
          obtain ⟨d, rfl, hdn, hsk, hbx⟩ := hrel
          have hbw := bnext hB6 hbx
          have hdx := (hbx.cell (p := ⟨w.heap.size, 0, none⟩) hlt6).trans hdx6
          have hx2 := (hbx.cell (p := ⟨b2, o2 + k, none⟩) hb2).trans hx1
          by_cases hdl : d < n
          · have hdL : d < L.length := by rw [← HN.out]; exact hdl
            obtain ⟨b1, o1, rfl, hb1', hc0, hc1⟩ := rv_at hrow d hdL
            have hd0 := (hbw.cell (p := ⟨b1, o1 + d * 2, none⟩) hb1').trans hc0
            have hd1 := (hbw.cell (p := ⟨b1, o1 + d * 2 + 1, none⟩) hb1').trans hc1
            have hsa := skipF_at (x := x) hdL
            obtain ⟨q, hq⟩ : ∃ q, q = (nth pd L d).1 := ⟨_, rfl⟩
            obtain ⟨s, hs⟩ : ∃ s, s = (nth pd L d).2 := ⟨_, rfl⟩
            rw [← hq] at hd0 hsa
            rw [← hs] at hd1 hsa
            have hse := S_eq s x
            have HQ := Lib.hid hq
            have HSA := Lib.hid hsa
            have HDL := Lib.hid hdL
            clear hc0 hc1 hq hs hsa hdL
            by_cases h0 : q = 0
            · rw [decide_eq_true h0, Bool.not_true] at hd0
              by_cases h1 : s = x
              · rw [decide_eq_true h1] at hse
                have hse2 : ((S s).toList != (S x).toList) = false := by simp [bne, hse]
                have hz2 : Z = feedR L (E.drop (k + 1)) g (d + 1) := by
                  rw [hst.out, HDR.out, feedR_at (d := d) (by rw [hsk.out, HSA.out, if_neg (by simp [h1])]; rfl), if_neg (by have := HDL.out; omega), if_pos (by rw [← HQ.out]; exact h0)]
                have HZ2 := Lib.hid hz2
                clear h0 h1 hz2
                go_wp2
                go_quiet (fail)
                go_wp2
                go_roundw
                case rel => exact ⟨k + 1, d + 1, g, hkE, by go_num, by go_num, rfl, by omega, hgl, Lib.hid HZ2.out, below_drewN hbx nq⟩
                case measure => have := HLT.out; simp [intOf]; omega
              · rw [decide_eq_false h1] at hse
                have hse2 : ((S s).toList != (S x).toList) = true := by simp [bne, hse]
                have hk2 : d + skipF (L.drop d) x = d + 1 + skipF (L.drop (d + 1)) x := by rw [HSA.out, if_pos ⟨h0, h1⟩]; omega
                have HK2 := Lib.hid hk2
                clear h0 h1 hk2
                go_wp2
                go_quiet (fail)
                go_wp2
                go_roundw
                case rel => exact ⟨d + 1, by go_num, by omega, Lib.hid (by rw [hsk.out, HK2.out]), below_drewN hbx nq⟩
                case measure => simp [intOf]; omega
            · rw [decide_eq_false h0, Bool.not_false] at hd0
              have hz1 := feedR_at (L := L) (x := x) (t := E.drop (k + 1)) (g := g) (a := b) (d := d) (by rw [hsk.out, HSA.out, if_neg (by simp [h0])]; rfl)
              rw [if_neg (by have := HDL.out; omega), if_neg (by rw [← HQ.out]; exact h0), ← HDR.out, ← hst.out] at hz1
              have CPx := (fun W hb => CP.out W hb g x hgl (by omega))
              have hpl := HPL.out g x hgl
              obtain ⟨R, hRR⟩ : ∃ R, R = pushL L g x := ⟨_, rfl⟩
              rw [← hRR] at CPx hz1 hpl
              obtain ⟨g', ok⟩ := R
              dsimp only at CPx hz1 hpl
              cases ok with
              | true =>
                rw [if_pos rfl] at hz1
                have CPx := Lib.hid CPx
                have HZ1 := Lib.hid hz1
                clear h0 hz1 hRR hse
                go_wp2
                go_quiet (fail)
                have hbxq := below_drewN hbx nq
                have hdxq := (hbxq.cell (p := ⟨w.heap.size, 0, none⟩) hlt6).trans hdx6
                have hx2q := (hbxq.cell (p := ⟨b2, o2 + k, none⟩) hb2).trans hx1
                go_wp2
                go_region_held3 (fun w' => w'.cell? ⟨w.heap.size, 0, none⟩ = some (.slice (some ⟨b1, o1, none⟩) n c) ∧ w'.cell? ⟨b2, o2 + k, none⟩ = some (.string (S x))) (first | assumption | go_keep) ((go_at_call 61; refine (CPx.out _ (bnext hB6 hbxq).drew).mono ?_; rintro e w8 ⟨rfl, hb8⟩; have hB8 : Below w6.heap.size w6 w8 := bto hbxq ⟨hb8.os, hb8.tape, hb8.output, hb8.size, hb8.block⟩ hbxq.size; have hdx8 := (hB8.cell (p := ⟨w.heap.size, 0, none⟩) hlt6).trans hdx6; have hx28 := (hB8.cell (p := ⟨b2, o2 + k, none⟩) hb2).trans hx1))
                go_wp2
                go_roundw
                case rel => exact ⟨k + 1, d + 1, g', hkE, by go_num, by go_num, rfl, by omega, hpl, Lib.hid HZ1.out, hB8⟩
                case measure => have := HLT.out; simp [intOf]; omega
              | false =>
                rw [if_neg (by simp)] at hz1
                have CPx := Lib.hid CPx
                have HZ1 := Lib.hid hz1
                clear h0 hz1 hRR hse
                go_wp2
                go_quiet (fail)
                have hbxq := below_drewN hbx nq
                have hdxq := (hbxq.cell (p := ⟨w.heap.size, 0, none⟩) hlt6).trans hdx6
                have hx2q := (hbxq.cell (p := ⟨b2, o2 + k, none⟩) hb2).trans hx1
                go_wp2
                go_region_held3 (fun w' => w'.cell? ⟨w.heap.size, 0, none⟩ = some (.slice (some ⟨b1, o1, none⟩) n c) ∧ w'.cell? ⟨b2, o2 + k, none⟩ = some (.string (S x))) (first | assumption | go_keep) ((go_at_call 61; refine (CPx.out _ (bnext hB6 hbxq).drew).mono ?_; rintro e w8 ⟨rfl, hb8⟩; have hB8 : Below w6.heap.size w6 w8 := bto hbxq ⟨hb8.os, hb8.tape, hb8.output, hb8.size, hb8.block⟩ hbxq.size; have hdx8 := (hB8.cell (p := ⟨w.heap.size, 0, none⟩) hlt6).trans hdx6; have hx28 := (hB8.cell (p := ⟨b2, o2 + k, none⟩) hb2).trans hx1))
                go_wp2
                go_roundw
                case rel => exact ⟨k + 1, d, g, hkE, by go_num, rfl, rfl, by omega, hgl, Lib.hid HZ1.out, hB8⟩
                case measure => have := HLT.out; simp [intOf]; omega
          · obtain rfl : d = n := by omega
            have hsz : skipF (L.drop d) x = 0 := by rw [List.drop_of_length_le (by rw [HN.out]; omega)]; rfl
            have hz3 : Z = g := by
              rw [hst.out, HDR.out, feedR_at (d := d) (by rw [hsk.out, hsz]; rfl), if_pos (by rw [HN.out]; omega)]
            subst hz3
            clear hsz
            go_wp2
            go_quiet (fail)
            go_wp2
            go_ret
            exact ⟨rfl, bnext hb1 (bnext hB6 (below_drewN hbx nq))⟩
      · obtain rfl : k = E.length := by omega
        have hz4 : Z = g := by rw [hst.out, List.drop_length]; rfl
        subst hz4
        go_wp2
        go_ret
        exact ⟨rfl, bnext hb1 (bnext hB6 hbr)⟩
end Go.Proofs.Ytmdpmjabjijjiaa
