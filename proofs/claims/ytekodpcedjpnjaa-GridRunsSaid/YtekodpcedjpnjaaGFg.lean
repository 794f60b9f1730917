/- The program's grid: fit, Resize, Fork. No condition. -/
import Derived.Test.YtekodpcedjpnjaaGridE
import Derived.Test.YtekodpcedjpnjaaGrid8
import Derived.Test.YtekodpcedjpnjaaGrid16
import Derived.Test.YtekodpcedjpnjaaRowN
import Derived.Test.YtekodpcedjpnjaaRegT
import Derived.Test.YtekodpcedjpnjaaRegM
import Derived.Deep.CutBlock
namespace Go.Proofs.Ytekodpcedjpnjaa
set_option linter.unusedVariables false
set_option linter.unusedSimpArgs false
open Go.RowKit Go.Shelf Go.Maps
theorem rangeAt_pre {W : World} {b o : Nat} {M : List GC} (h : W.rangeAt b o (flatV M)) (m : Nat) : W.rangeAt b o (flatV (M.take m)) := fun j v hj => by
  refine h j v ?_
  have e : flatV M = flatV (M.take m) ++ flatV (M.drop m) := by rw [← flatV_append, List.take_append_drop]
  have hl := (List.getElem?_eq_some_iff.1 hj).1
  rw [e, List.getElem?_append_left hl]
  exact hj
set_option maxRecDepth 100000 in
set_option maxHeartbeats 4000000 in
theorem gfit_any {W : World} {q so n cap : Nat} {M : List GC} (hr : W.rangeAt q so (flatV M)) (hq : q < W.heap.size) (hM : M.length = n) (hn : 1 ≤ n ∧ n ≤ 500) (w : Nat) (hw : 1 ≤ w ∧ w ≤ 500) :
    Calls Try.prog 93 #[.slice (some ⟨q, so, none⟩) n cap, .int .i64 w] W fun e w' => e = .returned (.slice (some ⟨W.heap.size, 0, none⟩) w w) ∧ GBlk w' W.heap.size (fitL M w) ∧ Below W.heap.size W w' := by
  obtain ⟨m, hm⟩ : ∃ m, m + 1 = min n w := ⟨min n w - 1, by omega⟩
  obtain ⟨k0, hk0⟩ : ∃ k0, k0 = m + 1 := ⟨_, rfl⟩
  obtain ⟨M1, hM1⟩ : ∃ M1, M1 = M.take k0 := ⟨_, rfl⟩
  have hl1 : M1.length = k0 := by rw [hM1, List.length_take]; omega
  have ht : M.take w = M1 := by
    rw [hM1]
    rcases Nat.le_total n w with h | h
    · rw [List.take_of_length_le (by omega), List.take_of_length_le (by omega)]
    · rw [show k0 = w by omega]
  have hfit : fitL M w = (if (nth GC.zero M1 m).w = 2 then M1.set m GC.blank else M1) ++ List.replicate (w - k0) GC.blank := by
    unfold fitL
    rw [ht, hl1, show k0 - 1 = m by omega]
  obtain ⟨C, hC⟩ : ∃ C, C = nth GC.zero M1 m := ⟨_, rfl⟩
  have hCi : M1[m]? = some C := by rw [hC, nth_eq _ _ _ (by omega)]; exact List.getElem?_eq_getElem _
  rw [← hC] at hfit
  have hr1 := rangeAt_pre hr k0
  rw [← hM1] at hr1
  have HR1 := Lib.hid hr1
  have CB := Lib.hid (blanks_any (w : Int) (by omega) (by omega) W)
  have HF := Lib.hid hfit
  have HL1 := Lib.hid hl1
  have HCI := Lib.hid hCi
  have hmw : m < w := by omega
  have hsp : splice (List.replicate w GC.blank) 0 M1 = M1 ++ List.replicate (w - k0) GC.blank := by
    unfold splice
    rw [hl1, List.take_zero, List.nil_append, List.drop_replicate]
    simp
  have HSP := Lib.hid hsp
  have HMN : Hid (k0 = min n w) := Lib.hid (hk0.trans hm)
  have hkm : (k0 : Int) - 1 = (m : Int) := by omega
  have hmk : m < k0 := by omega
  have hkw0 : k0 ≤ w := by omega
  clear hm hk0 hM1 hl1 ht hfit hC hCi hr hr1 hM hsp
  go_enter Try.func93, Try.ntmps93
  go_upto_region 3 with (first
    | (go_at_call 48; refine (CB.out).mono ?_; rintro e w1 ⟨rfl, hb1, hl1⟩; simp only [Int.toNat_natCast] at hb1)
    | (refine wpList_gcopy rfl _ _ rfl _ _ _ _ _ _ rfl rfl W.heap.size (List.replicate w GC.blank) M1 0 hb1 (by rw [HL1.out]; exact HMN.out) (fun _ => ⟨⟨_, rfl, by omega⟩, q, so, rfl, (fun j v hj => (hl1.cell (p := ⟨q, _, none⟩) hq).trans (HR1.out j v hj))⟩) (by rw [HL1.out, List.length_replicate]; omega) ?_; intro w2 b2 o2))
  rw [HSP.out] at b2
  rw [HL1.out]
  have b2w : Below W.heap.size W w2 := hl1.trans (o2.below (by simp) hl1.size)
  have hCi2 : (M1 ++ List.replicate (w - k0) GC.blank)[m]? = some C := by rw [List.getElem?_append_left (by rw [HL1.out]; omega)]; exact HCI.out
  have rC := b2.range1 hCi2
  obtain ⟨_, x1, _⟩ := vals_at rC
  have hx : w2.cell? ⟨W.heap.size, m * 7 + 1, none⟩ = some (.int .i64 C.w) := by rw [show m * 7 = 7 * m by omega]; exact x1
  have hmi : (m : Int) < (w : Int) := by omega
  by_cases hw2 : C.w = 2
  · rw [hw2] at hx
    have HE : Hid ((M1 ++ List.replicate (w - k0) GC.blank).set m GC.blank = fitL M w) := Lib.hid (by rw [HF.out, if_pos hw2, List.set_append_left _ _ (by rw [HL1.out]; omega)])
    have hlen : m < (M1 ++ List.replicate (w - k0) GC.blank).length := by rw [List.length_append, HL1.out]; omega
    clear hw2 rC x1 hl1 hb1
    go_wp2_with (first
      | (go_at_call 87; refine (blank_any _).mono ?_; rintro e w3 ⟨rfl, hb3⟩; have b3 := b2.only (Only.of_below (S := []) hb3) (by simp))
      | (refine wpList_gstore rfl _ _ rfl W.heap.size _ rfl GC.blank rfl _ b3 m (by omega) hlen ?_; intro w4 b4 o4))
    go_ret
    rw [HE.out] at b4
    have bb := bto b2w hb3 b2w.size
    exact ⟨rfl, b4, bb.trans (o4.below (by simp) bb.size)⟩
  · have hwf : (C.w == 2) = false := by simpa using hw2
    have HE : Hid (M1 ++ List.replicate (w - k0) GC.blank = fitL M w) := Lib.hid (by rw [HF.out, if_neg hw2])
    clear hw2 rC x1 hl1 hb1
    go_wp2
    go_ret
    rw [HE.out] at b2
    exact ⟨rfl, b2, b2w⟩
theorem lastN_eq {H h r : Nat} (hr : r < H) : lastN H h r = max (min H h) (r + 1) := by unfold lastN; omega
theorem fillR_len {W H : Nat} {R : List (List GC)} (ok : RowsOk W H R) (w h r k : Nat) (hk : k ≤ h) (hk2 : goneN H h r + k ≤ H) : (fillR H R w h r k).flatten.length = w * h := by
  have hl : ∀ M ∈ fillR H R w h r k, M.length = w := fun M hM => by
    unfold fillR at hM
    rcases List.mem_append.1 hM with h1 | h1
    · obtain ⟨N, _, rfl⟩ := List.mem_map.1 h1; exact fitL_length N w
    · rw [List.eq_of_mem_replicate h1]; simp
  rw [flat_len_of _ hl]
  congr 1
  unfold fillR
  rw [List.length_append, List.length_map, List.length_take, List.length_drop, List.length_replicate, ok.n]
  omega
theorem GridAt.free {W : World} {p q w h : Nat} {L : List GC} (g : GridAt W p q w h L) (j : Nat) : W.frozen? ⟨p, j, none⟩ = false := by
  simp [World.frozen?, g.head]
end Go.Proofs.Ytekodpcedjpnjaa
namespace Go.Proofs.Ytekodpcedjpnjaa
set_option linter.unusedVariables false
set_option linter.unusedSimpArgs false
open Go.RowKit Go.Shelf Go.Maps
set_option maxRecDepth 100000 in
set_option maxHeartbeats 8000000 in
theorem gresize_bad {W : World} {p q w h : Nat} {L : List GC} (g : GridAt W p q w h L) (a b r : Int) (hd : ¬ (1 ≤ a ∧ a ≤ 500 ∧ 1 ≤ b ∧ b ≤ 500)) :
    Calls Try.prog 63 #[.pointer (some ⟨p, 0, none⟩), .int .i64 a, .int .i64 b, .int .i64 r] W fun e w' => e = .returned (.tuple #[.int .i64 0, .int .i64 40]) ∧ W = w' := by
  have CM := Lib.hid (made_any g)
  have CS := size_any a b
  have hd0 : decide (1 ≤ a ∧ a ≤ 500 ∧ 1 ≤ b ∧ b ≤ 500) = false := decide_eq_false hd
  rw [hd0] at CS
  replace CS := Lib.hid CS
  clear hd hd0
  go_enter Try.func63, Try.ntmps63
  go_wp2_with (first
    | (go_at_call 53; refine (CM.out).mono ?_; rintro e w1 ⟨rfl, rfl⟩)
    | (go_at_call 47; refine (CS.out _).mono ?_; rintro e w1 ⟨rfl, rfl⟩))
  go_ret2
  exact ⟨rfl, rfl⟩
set_option maxRecDepth 100000 in
set_option maxHeartbeats 8000000 in
theorem gresize_out {W : World} {p q w h : Nat} {L : List GC} (g : GridAt W p q w h L) (a b r : Int) (hd : 1 ≤ a ∧ a ≤ 500 ∧ 1 ≤ b ∧ b ≤ 500) (hr : ¬ (0 ≤ r ∧ r < h)) :
    Calls Try.prog 63 #[.pointer (some ⟨p, 0, none⟩), .int .i64 a, .int .i64 b, .int .i64 r] W fun e w' => e = .returned (.tuple #[.int .i64 0, .int .i64 5]) ∧ W = w' := by
  have CM := Lib.hid (made_any g)
  have CS := size_any a b
  have hd0 : decide (1 ≤ a ∧ a ≤ 500 ∧ 1 ≤ b ∧ b ≤ 500) = true := decide_eq_true hd
  rw [hd0] at CS
  replace CS := Lib.hid CS
  obtain ⟨c0, c1, c2⟩ := g.cells
  clear hd hd0
  go_enter Try.func63, Try.ntmps63
  go_wp2_with (first
    | (go_at_call 53; refine (CM.out).mono ?_; rintro e w1 ⟨rfl, rfl⟩)
    | (go_at_call 47; refine (CS.out _).mono ?_; rintro e w1 ⟨rfl, rfl⟩))
  all_goals first
    | (exfalso; omega)
    | (go_ret2; exact ⟨rfl, rfl⟩)
set_option maxRecDepth 100000 in
set_option maxHeartbeats 8000000 in
theorem gresize_ok {W : World} {p q w H0 : Nat} {R : List (List GC)} (g : GridAt W p q w H0 R.flatten) (ok : RowsOk w H0 R) (a b r : Nat) (hd : 1 ≤ a ∧ a ≤ 500 ∧ 1 ≤ b ∧ b ≤ 500) (hr : r < H0) :
    Calls Try.prog 63 #[.pointer (some ⟨p, 0, none⟩), .int .i64 a, .int .i64 b, .int .i64 r] W fun e w' => e = .returned (.tuple #[.int .i64 (goneN H0 b r : Nat), .int .i64 0]) ∧ ∃ q', GridAt w' p q' a b (resizeR H0 R a b r).flatten ∧ Only [p] W w' ∧ W.heap.size ≤ q' := by
  have CM := Lib.hid (made_any g)
  have CS := size_any (a : Int) (b : Int)
  have hd0 : decide (1 ≤ (a : Int) ∧ (a : Int) ≤ 500 ∧ 1 ≤ (b : Int) ∧ (b : Int) ≤ 500) = true := decide_eq_true (by omega)
  rw [hd0] at CS
  replace CS := Lib.hid CS
  obtain ⟨c0, c1, c2⟩ := g.cells
  have G := Lib.hid g
  have OK := Lib.hid ok
  obtain ⟨n, hn⟩ : ∃ n, n = a * b := ⟨_, rfl⟩
  have hni : (a : Int) * (b : Int) = (n : Int) := by rw [hn, Int.natCast_mul]
  have hnb : n ≤ 250000 := by rw [hn]; exact Nat.mul_le_mul hd.2.1 hd.2.2.2
  have hwr : IntKind.i64.wrap ((a : Int) * (b : Int)) = (n : Int) := by rw [hni, IntKind.wrap_i64]; omega
  have CB := Lib.hid (fun X => blanks_any (n : Int) (by omega) (by omega) X)
  obtain ⟨last, hlast⟩ : ∃ last, last = lastN H0 b r := ⟨_, rfl⟩
  have hlm := lastN_eq (h := b) hr
  rw [← hlast] at hlm
  obtain ⟨gone, hgone⟩ : ∃ gone, gone = goneN H0 b r := ⟨_, rfl⟩
  have hgl : gone = last - b := by rw [hgone, hlast]; rfl
  rw [← hgone]
  obtain ⟨d1, d2, d3, d4⟩ := hd
  have hlh : last ≤ H0 := by omega
  have hh5 := g.h2
  have hw5 := g.w2
  have hw1 := g.w1
  have HN := Lib.hid hn
  have HG := Lib.hid hgone
  have HLA := Lib.hid hlast
  clear hd0 hni hn g ok hgone hlast
  have hb1 : r + 1 ≤ last := by omega
  have hb2 : b < last → r + 1 = last := by omega
  have hmx0 : max (0 : Int) ((last : Int) - (b : Int)) = (gone : Int) := by omega
  have hgl1 : gone ≤ last := by omega
  have hgl2 : last - gone ≤ b := by omega
  have HEQ : Hid (last = max (min H0 b) (r + 1) ∧ gone = last - b ∧ max (0 : Int) ((last : Int) - (b : Int)) = (gone : Int)) := Lib.hid ⟨hlm, hgl, hmx0⟩
  clear hlm hgl hmx0 hb1 hb2
  have hr0 : ¬ (r : Int) < 0 := by omega
  have hr1 : ¬ (H0 : Int) ≤ (r : Int) := by omega
  have hr2 : ¬ H0 ≤ r := by omega
  go_enter Try.func63, Try.ntmps63
  go_upto_block 1 with (first
    | (go_at_call 53; refine (CM.out).mono ?_; rintro e w1 ⟨rfl, rfl⟩)
    | (go_at_call 47; refine (CS.out _).mono ?_; rintro e w1 ⟨rfl, rfl⟩))
  go_cut [10] (fun v wx => v = .int .i64 last ∧ Below W.heap.size W wx)
  case first =>
    have HBL := Lib.hid (Below.refl W.heap.size W)
    go_wp2
    go_loop [10] (fun v => ∃ k : Nat, last ≤ k ∧ k ≤ H0 ∧ v = .int .i64 k) (fun v => (intOf v).toNat)
    case atStart => exact ⟨H0, hlh, Nat.le_refl _, rfl⟩
    case round =>
      obtain ⟨k, hk1, hk2, rfl⟩ := hrel
      by_cases hkl : k = last
      · subst hkl
        by_cases hkb : (b : Int) < (k : Int)
        · have hkr : ¬ (r : Int) < (k : Int) - 1 := by have := HEQ.out; omega
          go_wp2
          go_meet
          exact ⟨rfl, HBL.out⟩
        · go_wp2
          go_meet
          exact ⟨rfl, HBL.out⟩
      · have hkb : (b : Int) < (k : Int) := by have := HEQ.out; omega
        have hkr : (r : Int) < (k : Int) - 1 := by have := HEQ.out; omega
        go_wp2
        go_round
        case rel => exact ⟨k - 1, by omega, by omega, by go_num⟩
        case measure => simp [intOf]; omega
  case rest =>
    obtain ⟨rfl, bW⟩ := hcut
    go_upto_region 10 with (fail)
    go_cut [11] (fun v wx => v = .int .i64 gone ∧ Below W.heap.size W wx)
    case first =>
      go_wp2
      all_goals (go_meet; exact ⟨congrArg (Value.int _) (by have := HEQ.out; omega), bW⟩)
    case rest =>
    obtain ⟨rfl, bW⟩ := hcut
    refine (‹∀ (a : Act) (w : World), Code.wp Try.prog _ _ a w → _›) _ _ ?_
    go_wp2_with fail
    refine (CB.out _).mono ?_
    rintro e w1 ⟨rfl, hb1', hl0⟩
    have hl1 : Below W.heap.size W w1 := bto bW hl0 bW.size
    obtain ⟨Qb, hQb⟩ : ∃ Qb, Qb = wc.heap.size := ⟨_, rfl⟩
    have hQW : W.heap.size ≤ Qb := by rw [hQb]; exact bW.size
    simp only [Int.toNat_natCast] at hb1'
    have hf0 : GBlk w1 Qb (fillR H0 R a b r 0).flatten := by rw [fillR_zero, ← HN.out, hQb]; exact hb1'
    have HF0 := Lib.hid hf0
    rw [← hQb]
    clear hb1' hf0 c0 c1 c2 hQb
    go_wp2
    go_loopw [13] (fun i wr => ∃ k j : Nat, k ≤ last - gone ∧ i = .int .i64 j ∧ Hid (j = gone + k) ∧ GBlk wr Qb (fillR H0 R a b r k).flatten ∧ Below W.heap.size W wr) (fun i _ => last - (intOf i).toNat)
    case atStart => exact ⟨0, gone, Nat.zero_le _, rfl, Lib.hid rfl, HF0.out, hl1⟩
    case round =>
      obtain ⟨k, j, hk, rfl, hj, hblk, hbw⟩ := hrel
      have hjj := hj.out
      by_cases hlt : k < last - gone
      · have hkb : k < b := by omega
        have hkh : gone + k < H0 := by omega
        have gX := G.out.only (Only.of_below hbw : Only [] W wr) (by simp) (by simp)
        have dB : Below wr.heap.size wr wr.drew := (Below.refl _ _).drew
        have bD := bto hbw dB hbw.size
        have hblkD : GBlk wr.drew Qb (fillR H0 R a b r k).flatten := hblk
        obtain ⟨so, hso⟩ : ∃ so, so = w * j := ⟨_, rfl⟩
        have CL := Lib.hid (line_any (G.out.only (Only.of_below bD : Only [] W wr.drew) (by simp) (by simp)) (j : Int) (by omega) (by omega) so (by rw [Int.toNat_natCast]; exact hso))
        have hML : (nth [] R j).length = w := OK.out.at (by omega)
        have hline : lineL R.flatten w j = nth [] R j := OK.out.line (by omega)
        obtain ⟨M, hM⟩ : ∃ M, M = nth [] R j := ⟨_, rfl⟩
        have HNX := fillR_next OK.out a b r k hkb (by rw [← HG.out]; exact hkh)
        rw [← HG.out, ← hjj, ← hM] at HNX
        rw [← hM] at hML hline
        have HNXH := Lib.hid HNX
        have hkw : (k : Int) * (a : Int) = ((k * a : Nat) : Int) := by rw [Int.natCast_mul]
        have hkan : k * a + a ≤ n := by
          have := place_lt (w := a) (h := b) (r := k) (c := a - 1) hkb (by omega)
          rw [HN.out, Nat.mul_comm k a]; omega
        obtain ⟨ka, hka⟩ : ∃ ka, ka = k * a := ⟨_, rfl⟩
        rw [← hka] at hkw hkan
        have hwk : IntKind.i64.wrap ((k : Int) * (a : Int)) = (ka : Int) := by rw [hkw, IntKind.wrap_i64]; omega
        have hsb : (j : Int) - (gone : Int) = (k : Int) := by omega
        have hws : IntKind.i64.wrap ((j : Int) - (gone : Int)) = (k : Int) := by rw [hsb, IntKind.wrap_i64]; omega
        have hki : (j : Int) < (last : Int) := by omega
        have HKA := Lib.hid hka
        have HLINE := Lib.hid hline
        have HSO := Lib.hid hso
        have hkan2 : ka ≤ n := by omega
        have hkan3 : (ka : Int) ≤ (n : Int) := by omega
        have hkan4 : ¬ ka = n := by omega
        clear HNX hka hM hkw hline hso hsb hjj
        go_wp2_with fail
        refine wp_region_mix2 [(true, 0), (true, 1), (true, 2), (true, 3), (true, 4), (true, 5), (true, 6), (true, 7), (true, 8), (true, 10), (false, 9), (false, 11), (false, 12)] (fun _ => True) (by kernel_rfl) (by kernel_rfl) (by rfl) (by kernel_rfl) (by kernel_rfl) (fun _ _ d _ _ H0 => by cases d <;> exact H0) trivial ?_
        simp only [mixL, List.getElem?_cons_succ, List.getElem?_cons_zero]
        repeat (refine' wpMix2_read (v := _) rfl ?_ ?_; rotate_left 1; (intro w' hw'; go_simp; try with_reducible rfl); try simp only [Act.put, List.setIfInBounds_toArray, List.set_cons_zero, List.set_cons_succ])
        refine wpMix2_act (fun K hK => ?_)
        go_wp2_with fail
        refine (CL.out).mono ?_
        rintro e w3 ⟨rfl, hb3⟩
        have b3 := bto bD hb3 bD.size
        have q3 : GBlk w3 q R.flatten := (G.out.only (Only.of_below b3 : Only [] W w3) (by simp) (by simp)).blk
        have hrg : w3.rangeAt q (so * 7) (flatV M) := by
          have hq := q3.range so w
          rw [show so * 7 = 7 * so by omega, ← HLINE.out]
          rw [HSO.out] at hq ⊢
          exact hq
        have CF := Lib.hid (gfit_any (cap := w * H0 - so) hrg q3.lt hML ⟨hw1, hw5⟩ a ⟨d1, d2⟩)
        go_wp2
        refine hK _ _ trivial ?_
        clear hK K
        refine wpMix2_act (fun K hK => ?_)
        go_wp2_with fail
        refine (CF.out).mono ?_
        rintro e w4 ⟨rfl, b4, hb4⟩
        have bw4 := bto b3 hb4 b3.size
        go_wp2
        refine hK _ _ trivial ?_
        clear hK K
        refine wpMix2_act (fun K hK => ?_)
        have hQ4 : GBlk w4 Qb (fillR H0 R a b r k).flatten := (hblkD.only (Only.of_below hb3 : Only [] _ _) (by simp)).only (Only.of_below hb4 : Only [] _ _) (by simp)
        have hfl := fillR_len OK.out a b r k (Nat.le_of_lt hkb) (by rw [← HG.out]; exact Nat.le_of_lt hkh)
        rw [← HN.out] at hfl
        have hra := b4.range_all
        go_wp2_with (refine wpList_gcopy rfl _ _ rfl _ _ _ _ _ _ rfl rfl Qb (fillR H0 R a b r k).flatten (fitL M a) ka hQ4 (by rw [fitL_length]; show _ = min _ _; omega) (fun _ => ⟨⟨_, rfl, by omega⟩, w3.heap.size, 0, rfl, hra⟩) (by rw [fitL_length, hfl]; exact hkan) ?_; intro w5 b5 o5)
        have e5 : ka = a * k := by rw [HKA.out, Nat.mul_comm]
        rw [e5, HNXH.out] at b5
        have bw5 := bw4.trans (o5.below (by simp; exact hQW) bw4.size)
        refine hK _ _ trivial ?_
        clear hK K e5
        refine wpMix2_nil ?_
        have HJ : Hid (j + 1 = gone + (k + 1)) := Lib.hid (by have := hj.out; omega)
        go_wp2
        go_roundw
        case rel => exact ⟨k + 1, j + 1, hlt, by go_num, HJ, b5, bw5⟩
        case measure => have := hj.out; simp [intOf]; omega
      · have hkl : k = last - gone := by omega
        have hjl : j = last := by omega
        have gX := G.out.only (Only.of_below hbw : Only [] W wr) (by simp) (by simp)
        obtain ⟨c0, c1, c2⟩ := gX.cells
        have fz := gX.free
        have hpl : p < W.heap.size := (Array.getElem?_eq_some_iff.1 G.out.head).1
        have hnj : ¬ (j : Int) < (last : Int) := by omega
        obtain ⟨Y, hY⟩ : ∃ Y, ((wr.setCell ⟨p, 0, none⟩ (.int .i64 a)).setCell ⟨p, 1, none⟩ (.int .i64 b)).setCell ⟨p, 2, none⟩ (.slice (some ⟨Qb, 0, none⟩) n n) = Y := ⟨_, rfl⟩
        have oY : Only [p] wr Y := by
          rw [← hY]
          exact (((Only.refl [p] wr).setCell (.inl (by simp)) _).setCell (.inl (by simp)) _).setCell (.inl (by simp)) _
        have hYp : Y.heap[p]? = some (.cells #[.int .i64 a, .int .i64 b, .slice (some ⟨Qb, 0, none⟩) (a * b) (a * b)] 92 (0, 0)) := by
          rw [← hY, ← HN.out]
          exact set_at (set_at (set_at gX.head 0 (.int .i64 a)) 1 (.int .i64 b)) 2 (.slice (some ⟨Qb, 0, none⟩) n n)
        have hfin : GridAt Y p Qb a b (resizeR H0 R a b r).flatten := by
          have hb9 := hblk.only oY (by simp; omega)
          have hfl := fillR_len OK.out a b r k (by omega) (by rw [← HG.out]; omega)
          rw [show fillR H0 R a b r k = resizeR H0 R a b r by rw [hkl, HLA.out, HG.out]; exact fillR_end H0 R a b r] at hb9 hfl
          exact { head := hYp, blk := hb9, ne := by omega, len := hfl, w1 := d1, w2 := d2, h1 := d3, h2 := d4 }
        have FIN : Hid (GridAt Y p Qb a b (resizeR H0 R a b r).flatten ∧ Only [p] W Y ∧ W.heap.size ≤ Qb) := Lib.hid ⟨hfin, ((Only.of_below hbw : Only [] W wr).mono (by simp)).trans oY, hQW⟩
        have HY := Lib.hid hY
        clear hY hYp hfin oY hblk gX hkl hjl
        go_wp2
        rw [HY.out]
        go_ret2
        exact ⟨rfl, Qb, FIN.out⟩
end Go.Proofs.Ytekodpcedjpnjaa
namespace Go.Proofs.Ytekodpcedjpnjaa
set_option linter.unusedVariables false
set_option linter.unusedSimpArgs false
open Go.RowKit Go.Shelf Go.Maps
set_option maxRecDepth 100000 in
set_option maxHeartbeats 4000000 in
theorem gfork_any {W : World} {p q w h : Nat} {L : List GC} (g : GridAt W p q w h L) :
    Calls Try.prog 11 #[.pointer (some ⟨p, 0, none⟩)] W fun e w' => ∃ p', e = .returned (.pointer (some ⟨p', 0, none⟩)) ∧ GridAt w' p' W.heap.size w h L ∧ W.heap.size ≤ p' ∧ Below W.heap.size W w' := by
  have CM := Lib.hid (made_any g)
  obtain ⟨c0, c1, c2⟩ := g.cells
  obtain ⟨n, hn⟩ : ∃ n, n = w * h := ⟨_, rfl⟩
  have hlen := g.len
  have hnb : n ≤ 250000 := by rw [hn]; exact Nat.mul_le_mul g.w2 g.h2
  rw [← hn] at c2 hlen
  have hmk := run_gmake W n (by omega)
  obtain ⟨Z, hZ⟩ : ∃ Z, Z = List.replicate n GC.zero := ⟨_, rfl⟩
  have hZl : Z.length = n := by rw [hZ]; simp
  rw [← hZ] at hmk
  have o1 : Only [] W (W.alloc (.cells (flatV Z).toArray 70)) := (Only.refl _ _).alloc _
  have b1 : GBlk (W.alloc (.cells (flatV Z).toArray 70)) W.heap.size Z := GBlk.made W Z
  have g1 := g.only o1 (by simp) (by simp)
  generalize hW1 : W.alloc (.cells (flatV Z).toArray 70) = W1 at o1 b1 g1 hmk
  have hsp : splice Z 0 L = L := by unfold splice; simp; omega
  have r1 := g1.blk.range_all
  have HN := Lib.hid hn
  have hp1 : GridAt W p q w h L := g
  have HG1 := Lib.hid g1
  have hs1 : W.heap.size < W1.heap.size := b1.lt
  have hpl : p < W.heap.size := (Array.getElem?_eq_some_iff.1 g.head).1
  clear hn hZ hW1
  go_enter Try.func11, Try.ntmps11
  go_upto_region 5 with (first
    | (go_at_call 53; refine (CM.out).mono ?_; rintro e w1 ⟨rfl, rfl⟩; obtain ⟨d0, d1, d2⟩ := HG1.out.cells; rw [← HN.out] at d2)
    | (refine wpList_gcopy rfl _ _ rfl _ _ _ _ _ _ rfl rfl W.heap.size Z L 0 b1 (by rw [hlen]; show _ = min _ _; omega) (fun _ => ⟨⟨_, rfl, by omega⟩, q, 0, rfl, r1⟩) (by omega) ?_; intro w3 b3 o3))
  rw [hsp] at b3
  have g3 := HG1.out.only o3 (by simp; omega) (by simp; have := HG1.out.blk.lt; have : q < W.heap.size := g.blk.lt; omega)
  have bw3 : Below W.heap.size W w3 := ((o1.mono (S' := [W.heap.size]) (by simp)).trans o3).below (by simp) (Nat.le_refl _)
  have hd3 : w3.heap[p]? = some (.cells #[.int .i64 w, .int .i64 h, .slice (some ⟨q, 0, none⟩) n n] 92 (0, 0)) := by rw [HN.out]; exact g3.head
  clear d0 d1 d2 c0 c1 c2 hmk
  go_wp2_with fail
  refine wp_region_mix2 [(true, 0), (true, 1), (true, 2), (true, 3), (true, 4), (true, 5), (true, 6), (true, 7), (true, 8), (true, 9), (false, 10), (true, 11)] (fun X => X.heap[p]? = some (.cells #[.int .i64 w, .int .i64 h, .slice (some ⟨q, 0, none⟩) n n] 92 (0, 0))) (by kernel_rfl) (by kernel_rfl) (by rfl) (by kernel_rfl) (by kernel_rfl) (fun _ _ d _ _ h => by cases d <;> exact h) hd3 ?_
  simp only [mixL, List.getElem?_cons_succ, List.getElem?_cons_zero]
  repeat (refine' wpMix2_read (v := _) rfl ?_ ?_; rotate_left 1; (intro w' hw'; have k0 : w'.cell? ⟨p, 0, none⟩ = some (.int .i64 w) := (by rw [cell_of_row w' p _ _ _ _ hw']; rfl); have k1 : w'.cell? ⟨p, 1, none⟩ = some (.int .i64 h) := (by rw [cell_of_row w' p _ _ _ _ hw']; rfl); go_simp; try with_reducible rfl); try simp only [Act.put, List.setIfInBounds_toArray, List.set_cons_zero, List.set_cons_succ])
  refine wpMix2_act (fun K hK => ?_)
  have bN : Below w3.drew.heap.size w3.drew (w3.drew.alloc (.cells #[.int .i64 w, .int .i64 h, .slice (some ⟨W.heap.size, 0, none⟩) n n] 92)) := (Below.refl _ _).alloc (Nat.le_refl _) _
  have hdN : (w3.drew.alloc (.cells #[.int .i64 w, .int .i64 h, .slice (some ⟨W.heap.size, 0, none⟩) n n] 92)).heap[p]? = some (.cells #[.int .i64 w, .int .i64 h, .slice (some ⟨q, 0, none⟩) n n] 92 (0, 0)) := (bN.block p (by have h0 : W.heap.size ≤ w3.heap.size := bw3.size; show p < w3.heap.size; omega)).trans hd3
  have hnew := World.alloc_heap_new w3.drew (.cells #[.int .i64 w, .int .i64 h, .slice (some ⟨W.heap.size, 0, none⟩) n n] 92)
  have hbN : GBlk (w3.drew.alloc (.cells #[.int .i64 w, .int .i64 h, .slice (some ⟨W.heap.size, 0, none⟩) n n] 92)) W.heap.size L := (show GBlk w3.drew W.heap.size L from b3).alloc _
  have hlt3 := b3.lt
  have FIN : Hid (GridAt (w3.drew.alloc (.cells #[.int .i64 w, .int .i64 h, .slice (some ⟨W.heap.size, 0, none⟩) n n] 92)) w3.drew.heap.size W.heap.size w h L ∧ Below W.heap.size W (w3.drew.alloc (.cells #[.int .i64 w, .int .i64 h, .slice (some ⟨W.heap.size, 0, none⟩) n n] 92))) := Lib.hid ⟨{ head := (by rw [← HN.out]; exact hnew), blk := hbN, ne := (by have : w3.drew.heap.size = w3.heap.size := rfl; omega), len := g.len, w1 := g.w1, w2 := g.w2, h1 := g.h1, h2 := g.h2 }, bto bw3 ((Below.refl w3.heap.size w3).drew.trans bN) bw3.size⟩
  have HDN := Lib.hid hdN
  clear hdN hnew hbN bN
  go_wp2
  refine hK _ _ HDN.out ?_
  clear hK K
  refine' wpMix2_read (v := _) rfl ?_ ?_
  rotate_left 1
  · intro w' hw'; go_simp; try with_reducible rfl
  try simp only [Act.put, List.setIfInBounds_toArray, List.set_cons_zero, List.set_cons_succ]
  refine wpMix2_nil ?_
  go_wp2
  go_ret
  exact ⟨_, rfl, FIN.out.1, (show W.heap.size ≤ w3.heap.size from bw3.size), FIN.out.2⟩
/-! ### the terminal's struct as one value -/
end Go.Proofs.Ytekodpcedjpnjaa
