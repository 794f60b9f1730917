/- A terminal as plain data: another size. No condition. The program's grid: fit, Resize. No condition. The program's grid: Resize. No condition. The program's terminal: Resize. No condition but that its counter is not at its end. The program's grid and terminal: Fork. No condition. -/
import Derived.Test.YtekodpcedjpnjaaGreatTermP
import Derived.Test.YtekodpcedjpnjaaGreatGridE
import Derived.Test.YtekodpcedjpnjaaGreatGrid8
import Derived.Test.YtekodpcedjpnjaaGreatGrid16
import Derived.Test.YtekodpcedjpnjaaGreatRowN
import Derived.Test.YtekodpcedjpnjaaGreatRegT
import Derived.Deep.CutBlock
import Derived.Test.YtekodpcedjpnjaaGreatTAwake
import Derived.Test.YtekodpcedjpnjaaGreatRegM
import Derived.Test.YtekodpcedjpnjaaGreatRT17
namespace Go.Proofs.YtekodpcedjpnjaaGreat
set_option linter.unusedVariables false
set_option linter.unusedSimpArgs false
open Go.RowKit Go.Maps
def TS.resize (t : TS) (w h : Nat) : TS :=
  { t with W := w, H := h, R := resizeR t.H t.R w h t.row, gone := t.gone + goneN t.H h t.row, row := t.row - goneN t.H h t.row, col := min t.col (w - 1), pend := false, last := false }
theorem gone_row {H h r : Nat} (hr : r < H) (hh : 1 ≤ h) : goneN H h r ≤ r ∧ r - goneN H h r < h := by
  unfold goneN lastN; omega
theorem TOk.resize {t : TS} (k : TOk t) {w h : Nat} (hd : 1 ≤ w ∧ w ≤ 500 ∧ 1 ≤ h ∧ h ≤ 500) : TOk (t.resize w h) := by
  have hg := gone_row k.row hd.2.2.1
  exact { w1 := hd.1, w2 := hd.2.1, h1 := hd.2.2.1, h2 := hd.2.2.2, ok := k.ok.resize w h t.row, ro := k.ro.resize _ _ _ _, row := hg.2, col := (by show min t.col (w - 1) < w; omega), pe := fun e => by cases e }
end Go.Proofs.YtekodpcedjpnjaaGreat
namespace Go.Proofs.YtekodpcedjpnjaaGreat
set_option linter.unusedVariables false
set_option linter.unusedSimpArgs false
open Go.RowKit Go.Shelf Go.Maps
theorem rangeAt_pre {W : World} {b o : Nat} {M : List GC} (h : W.rangeAt b o (flatV M)) (m : Nat) : W.rangeAt b o (flatV (M.take m)) := fun j v hj => by
  refine h j v ?_
  have e : flatV M = flatV (M.take m) ++ flatV (M.drop m) := by rw [← flatV_append, List.take_append_drop]
  have hl := (List.getElem?_eq_some_iff.1 hj).1
  rw [e, List.getElem?_append_left hl]
  exact hj
set_option maxRecDepth 100000 in
set_option maxHeartbeats 4000000 in
theorem gfit_any {W : World} {q so n cap : Nat} {M : List GC} (hr : W.rangeAt q so (flatV M)) (hq : q < W.heap.size) (hM : M.length = n) (hn : 1 ≤ n ∧ n ≤ 500) (w : Nat) (hw : 1 ≤ w ∧ w ≤ 500) :
    Calls Tryz.prog 190 #[.slice (some ⟨q, so, none⟩) n cap, .int .i64 w] W fun e w' => e = .returned (.slice (some ⟨W.heap.size, 0, none⟩) w w) ∧ GBlk w' W.heap.size (fitL M w) ∧ Below W.heap.size W w' := by
  obtain ⟨m, hm⟩ : ∃ m, m + 1 = min n w := ⟨min n w - 1, by omega⟩
  obtain ⟨k0, hk0⟩ : ∃ k0, k0 = m + 1 := ⟨_, rfl⟩
  obtain ⟨M1, hM1⟩ : ∃ M1, M1 = M.take k0 := ⟨_, rfl⟩
  have hl1 : M1.length = k0 := by rw [hM1, List.length_take]; omega
  have ht : M.take w = M1 := by
    rw [hM1]
    rcases Nat.le_total n w with h | h
    · rw [List.take_of_length_le (by omega), List.take_of_length_le (by omega)]
    · rw [show k0 = w by omega]
  have hfit : fitL M w = (if (nth GC.zero M1 m).w = 2 then M1.set m GC.blank else M1) ++ List.replicate (w - k0) GC.blank := by
    unfold fitL
    rw [ht, hl1, show k0 - 1 = m by omega]
  obtain ⟨C, hC⟩ : ∃ C, C = nth GC.zero M1 m := ⟨_, rfl⟩
  have hCi : M1[m]? = some C := by rw [hC, nth_eq _ _ _ (by omega)]; exact List.getElem?_eq_getElem _
  rw [← hC] at hfit
  have hr1 := rangeAt_pre hr k0
  rw [← hM1] at hr1
  have HR1 := Lib.hid hr1
  have CB := Lib.hid (blanks_any (w : Int) (by omega) (by omega) W)
  have HF := Lib.hid hfit
  have HL1 := Lib.hid hl1
  have HCI := Lib.hid hCi
  have hmw : m < w := by omega
  have hsp : splice (List.replicate w GC.blank) 0 M1 = M1 ++ List.replicate (w - k0) GC.blank := by
    unfold splice
    rw [hl1, List.take_zero, List.nil_append, List.drop_replicate]
    simp
  have HSP := Lib.hid hsp
  have HMN : Hid (k0 = min n w) := Lib.hid (hk0.trans hm)
  have hkm : (k0 : Int) - 1 = (m : Int) := by omega
  have hmk : m < k0 := by omega
  have hkw0 : k0 ≤ w := by omega
  clear hm hk0 hM1 hl1 ht hfit hC hCi hr hr1 hM hsp
  go_enter Tryz.func190, Tryz.ntmps190
  go_upto_region 3 with (first
    | (go_at_call 147; refine (CB.out).mono ?_; rintro e w1 ⟨rfl, hb1, hl1⟩; simp only [Int.toNat_natCast] at hb1)
    | (refine wpList_gcopy rfl _ _ rfl _ _ _ _ _ _ rfl rfl W.heap.size (List.replicate w GC.blank) M1 0 hb1 (by rw [HL1.out]; exact HMN.out) (fun _ => ⟨⟨_, rfl, by omega⟩, q, so, rfl, (fun j v hj => (hl1.cell (p := ⟨q, _, none⟩) hq).trans (HR1.out j v hj))⟩) (by rw [HL1.out, List.length_replicate]; omega) ?_; intro w2 b2 o2))
  rw [HSP.out] at b2
  rw [HL1.out]
  have b2w : Below W.heap.size W w2 := hl1.trans (o2.below (by simp) hl1.size)
  have hCi2 : (M1 ++ List.replicate (w - k0) GC.blank)[m]? = some C := by rw [List.getElem?_append_left (by rw [HL1.out]; omega)]; exact HCI.out
  have rC := b2.range1 hCi2
  obtain ⟨_, x1, _⟩ := vals_at rC
  have hx : w2.cell? ⟨W.heap.size, m * 7 + 1, none⟩ = some (.int .i64 C.w) := by rw [show m * 7 = 7 * m by omega]; exact x1
  have hmi : (m : Int) < (w : Int) := by omega
  by_cases hw2 : C.w = 2
  · rw [hw2] at hx
    have HE : Hid ((M1 ++ List.replicate (w - k0) GC.blank).set m GC.blank = fitL M w) := Lib.hid (by rw [HF.out, if_pos hw2, List.set_append_left _ _ (by rw [HL1.out]; omega)])
    have hlen : m < (M1 ++ List.replicate (w - k0) GC.blank).length := by rw [List.length_append, HL1.out]; omega
    clear hw2 rC x1 hl1 hb1
    go_wp2_with (first
      | (go_at_call 198; refine (blank_any _).mono ?_; rintro e w3 ⟨rfl, hb3⟩; have b3 := b2.only (Only.of_below (S := []) hb3) (by simp))
      | (refine wpList_gstore rfl _ _ rfl W.heap.size _ rfl GC.blank rfl _ b3 m (by omega) hlen ?_; intro w4 b4 o4))
    go_ret
    rw [HE.out] at b4
    have bb := bto b2w hb3 b2w.size
    exact ⟨rfl, b4, bb.trans (o4.below (by simp) bb.size)⟩
  · have hwf : (C.w == 2) = false := by simpa using hw2
    have HE : Hid (M1 ++ List.replicate (w - k0) GC.blank = fitL M w) := Lib.hid (by rw [HF.out, if_neg hw2])
    clear hw2 rC x1 hl1 hb1
    go_wp2
    go_ret
    rw [HE.out] at b2
    exact ⟨rfl, b2, b2w⟩
theorem lastN_eq {H h r : Nat} (hr : r < H) : lastN H h r = max (min H h) (r + 1) := by unfold lastN; omega
theorem fillR_len {W H : Nat} {R : List (List GC)} (ok : RowsOk W H R) (w h r k : Nat) (hk : k ≤ h) (hk2 : goneN H h r + k ≤ H) : (fillR H R w h r k).flatten.length = w * h := by
  have hl : ∀ M ∈ fillR H R w h r k, M.length = w := fun M hM => by
    unfold fillR at hM
    rcases List.mem_append.1 hM with h1 | h1
    · obtain ⟨N, _, rfl⟩ := List.mem_map.1 h1; exact fitL_length N w
    · rw [List.eq_of_mem_replicate h1]; simp
  rw [flat_len_of _ hl]
  congr 1
  unfold fillR
  rw [List.length_append, List.length_map, List.length_take, List.length_drop, List.length_replicate, ok.n]
  omega
theorem GridAt.free {W : World} {p q w h : Nat} {L : List GC} (g : GridAt W p q w h L) (j : Nat) : W.frozen? ⟨p, j, none⟩ = false := by
  simp [World.frozen?, g.head]
end Go.Proofs.YtekodpcedjpnjaaGreat
namespace Go.Proofs.YtekodpcedjpnjaaGreat
set_option linter.unusedVariables false
set_option linter.unusedSimpArgs false
open Go.RowKit Go.Shelf Go.Maps
set_option maxRecDepth 100000 in
set_option maxHeartbeats 8000000 in
theorem gresize_bad {W : World} {p q w h : Nat} {L : List GC} (g : GridAt W p q w h L) (a b r : Int) (hd : ¬ (1 ≤ a ∧ a ≤ 500 ∧ 1 ≤ b ∧ b ≤ 500)) :
    Calls Tryz.prog 124 #[.pointer (some ⟨p, 0, none⟩), .int .i64 a, .int .i64 b, .int .i64 r] W fun e w' => e = .returned (.tuple #[.int .i64 0, .int .i64 40]) ∧ W = w' := by
  have CM := Lib.hid (made_any g)
  have CS := size_any a b
  have hd0 : decide (1 ≤ a ∧ a ≤ 500 ∧ 1 ≤ b ∧ b ≤ 500) = false := decide_eq_false hd
  rw [hd0] at CS
  replace CS := Lib.hid CS
  clear hd hd0
  go_enter Tryz.func124, Tryz.ntmps124
  go_wp2_with (first
    | (go_at_call 150; refine (CM.out).mono ?_; rintro e w1 ⟨rfl, rfl⟩)
    | (go_at_call 146; refine (CS.out _).mono ?_; rintro e w1 ⟨rfl, rfl⟩))
  go_ret2
  exact ⟨rfl, rfl⟩
set_option maxRecDepth 100000 in
set_option maxHeartbeats 8000000 in
theorem gresize_ok {W : World} {p q w H0 : Nat} {R : List (List GC)} (g : GridAt W p q w H0 R.flatten) (ok : RowsOk w H0 R) (a b r : Nat) (hd : 1 ≤ a ∧ a ≤ 500 ∧ 1 ≤ b ∧ b ≤ 500) (hr : r < H0) :
    Calls Tryz.prog 124 #[.pointer (some ⟨p, 0, none⟩), .int .i64 a, .int .i64 b, .int .i64 r] W fun e w' => e = .returned (.tuple #[.int .i64 (goneN H0 b r : Nat), .int .i64 0]) ∧ ∃ q', GridAt w' p q' a b (resizeR H0 R a b r).flatten ∧ Only [p] W w' ∧ W.heap.size ≤ q' := by
  have CM := Lib.hid (made_any g)
  have CS := size_any (a : Int) (b : Int)
  have hd0 : decide (1 ≤ (a : Int) ∧ (a : Int) ≤ 500 ∧ 1 ≤ (b : Int) ∧ (b : Int) ≤ 500) = true := decide_eq_true (by omega)
  rw [hd0] at CS
  replace CS := Lib.hid CS
  obtain ⟨c0, c1, c2⟩ := g.cells
  have G := Lib.hid g
  have OK := Lib.hid ok
  obtain ⟨n, hn⟩ : ∃ n, n = a * b := ⟨_, rfl⟩
  have hni : (a : Int) * (b : Int) = (n : Int) := by rw [hn, Int.natCast_mul]
  have hnb : n ≤ 250000 := by rw [hn]; exact Nat.mul_le_mul hd.2.1 hd.2.2.2
  have hwr : IntKind.i64.wrap ((a : Int) * (b : Int)) = (n : Int) := by rw [hni, IntKind.wrap_i64]; omega
  have CB := Lib.hid (fun X => blanks_any (n : Int) (by omega) (by omega) X)
  obtain ⟨last, hlast⟩ : ∃ last, last = lastN H0 b r := ⟨_, rfl⟩
  have hlm := lastN_eq (h := b) hr
  rw [← hlast] at hlm
  obtain ⟨gone, hgone⟩ : ∃ gone, gone = goneN H0 b r := ⟨_, rfl⟩
  have hgl : gone = last - b := by rw [hgone, hlast]; rfl
  rw [← hgone]
  obtain ⟨d1, d2, d3, d4⟩ := hd
  have hlh : last ≤ H0 := by omega
  have hh5 := g.h2
  have hw5 := g.w2
  have hw1 := g.w1
  have HN := Lib.hid hn
  have HG := Lib.hid hgone
  have HLA := Lib.hid hlast
  clear hd0 hni hn g ok hgone hlast
  have hb1 : r + 1 ≤ last := by omega
  have hb2 : b < last → r + 1 = last := by omega
  have hmx0 : max (0 : Int) ((last : Int) - (b : Int)) = (gone : Int) := by omega
  have hgl1 : gone ≤ last := by omega
  have hgl2 : last - gone ≤ b := by omega
  have HEQ : Hid (last = max (min H0 b) (r + 1) ∧ gone = last - b ∧ max (0 : Int) ((last : Int) - (b : Int)) = (gone : Int)) := Lib.hid ⟨hlm, hgl, hmx0⟩
  clear hlm hgl hmx0 hb1 hb2
  have hr0 : ¬ (r : Int) < 0 := by omega
  have hr1 : ¬ (H0 : Int) ≤ (r : Int) := by omega
  have hr2 : ¬ H0 ≤ r := by omega
  go_enter Tryz.func124, Tryz.ntmps124
  go_upto_block 1 with (first
    | (go_at_call 150; refine (CM.out).mono ?_; rintro e w1 ⟨rfl, rfl⟩)
    | (go_at_call 146; refine (CS.out _).mono ?_; rintro e w1 ⟨rfl, rfl⟩))
  go_cut [10] (fun v wx => v = .int .i64 last ∧ Below W.heap.size W wx)
  case first =>
    have HBL := Lib.hid (Below.refl W.heap.size W)
    go_wp2
    go_loop [10] (fun v => ∃ k : Nat, last ≤ k ∧ k ≤ H0 ∧ v = .int .i64 k) (fun v => (intOf v).toNat)
    case atStart => exact ⟨H0, hlh, Nat.le_refl _, rfl⟩
    case round =>
      obtain ⟨k, hk1, hk2, rfl⟩ := hrel
      by_cases hkl : k = last
      · subst hkl
        by_cases hkb : (b : Int) < (k : Int)
        · have hkr : ¬ (r : Int) < (k : Int) - 1 := by have := HEQ.out; omega
          go_wp2
          go_meet
          exact ⟨rfl, HBL.out⟩
        · go_wp2
          go_meet
          exact ⟨rfl, HBL.out⟩
      · have hkb : (b : Int) < (k : Int) := by have := HEQ.out; omega
        have hkr : (r : Int) < (k : Int) - 1 := by have := HEQ.out; omega
        go_wp2
        go_round
        case rel => exact ⟨k - 1, by omega, by omega, by go_num⟩
        case measure => simp [intOf]; omega
  case rest =>
    obtain ⟨rfl, bW⟩ := hcut
    go_upto_region 10 with (fail)
    go_cut [11] (fun v wx => v = .int .i64 gone ∧ Below W.heap.size W wx)
    case first =>
      go_wp2
      all_goals (go_meet; exact ⟨congrArg (Value.int _) (by have := HEQ.out; omega), bW⟩)
    case rest =>
    obtain ⟨rfl, bW⟩ := hcut
    refine (‹∀ (a : Act) (w : World), Code.wp Tryz.prog _ _ a w → _›) _ _ ?_
    go_wp2_with fail
    refine (CB.out _).mono ?_
    rintro e w1 ⟨rfl, hb1', hl0⟩
    have hl1 : Below W.heap.size W w1 := bto bW hl0 bW.size
    obtain ⟨Qb, hQb⟩ : ∃ Qb, Qb = wc.heap.size := ⟨_, rfl⟩
    have hQW : W.heap.size ≤ Qb := by rw [hQb]; exact bW.size
    simp only [Int.toNat_natCast] at hb1'
    have hf0 : GBlk w1 Qb (fillR H0 R a b r 0).flatten := by rw [fillR_zero, ← HN.out, hQb]; exact hb1'
    have HF0 := Lib.hid hf0
    rw [← hQb]
    clear hb1' hf0 c0 c1 c2 hQb
    go_wp2
    go_loopw [13] (fun i wr => ∃ k j : Nat, k ≤ last - gone ∧ i = .int .i64 j ∧ Hid (j = gone + k) ∧ GBlk wr Qb (fillR H0 R a b r k).flatten ∧ Below W.heap.size W wr) (fun i _ => last - (intOf i).toNat)
    case atStart => exact ⟨0, gone, Nat.zero_le _, rfl, Lib.hid rfl, HF0.out, hl1⟩
    case round =>
      obtain ⟨k, j, hk, rfl, hj, hblk, hbw⟩ := hrel
      have hjj := hj.out
      by_cases hlt : k < last - gone
      · have hkb : k < b := by omega
        have hkh : gone + k < H0 := by omega
        have gX := G.out.only (Only.of_below hbw : Only [] W wr) (by simp) (by simp)
        have dB : Below wr.heap.size wr wr.drew := (Below.refl _ _).drew
        have bD := bto hbw dB hbw.size
        have hblkD : GBlk wr.drew Qb (fillR H0 R a b r k).flatten := hblk
        obtain ⟨so, hso⟩ : ∃ so, so = w * j := ⟨_, rfl⟩
        have CL := Lib.hid (line_any (G.out.only (Only.of_below bD : Only [] W wr.drew) (by simp) (by simp)) (j : Int) (by omega) (by omega) so (by rw [Int.toNat_natCast]; exact hso))
        have hML : (nth [] R j).length = w := OK.out.at (by omega)
        have hline : lineL R.flatten w j = nth [] R j := OK.out.line (by omega)
        obtain ⟨M, hM⟩ : ∃ M, M = nth [] R j := ⟨_, rfl⟩
        have HNX := fillR_next OK.out a b r k hkb (by rw [← HG.out]; exact hkh)
        rw [← HG.out, ← hjj, ← hM] at HNX
        rw [← hM] at hML hline
        have HNXH := Lib.hid HNX
        have hkw : (k : Int) * (a : Int) = ((k * a : Nat) : Int) := by rw [Int.natCast_mul]
        have hkan : k * a + a ≤ n := by
          have := place_lt (w := a) (h := b) (r := k) (c := a - 1) hkb (by omega)
          rw [HN.out, Nat.mul_comm k a]; omega
        obtain ⟨ka, hka⟩ : ∃ ka, ka = k * a := ⟨_, rfl⟩
        rw [← hka] at hkw hkan
        have hwk : IntKind.i64.wrap ((k : Int) * (a : Int)) = (ka : Int) := by rw [hkw, IntKind.wrap_i64]; omega
        have hsb : (j : Int) - (gone : Int) = (k : Int) := by omega
        have hws : IntKind.i64.wrap ((j : Int) - (gone : Int)) = (k : Int) := by rw [hsb, IntKind.wrap_i64]; omega
        have hki : (j : Int) < (last : Int) := by omega
        have HKA := Lib.hid hka
        have HLINE := Lib.hid hline
        have HSO := Lib.hid hso
        have hkan2 : ka ≤ n := by omega
        have hkan3 : (ka : Int) ≤ (n : Int) := by omega
        have hkan4 : ¬ ka = n := by omega
        clear HNX hka hM hkw hline hso hsb hjj
        go_wp2_with fail
        refine wp_region_mix2 [(true, 0), (true, 1), (true, 2), (true, 3), (true, 4), (true, 5), (true, 6), (true, 7), (true, 8), (true, 10), (false, 9), (false, 11), (false, 12)] (fun _ => True) (by kernel_rfl) (by kernel_rfl) (by rfl) (by kernel_rfl) (by kernel_rfl) (fun _ _ d _ _ H0 => by cases d <;> exact H0) trivial ?_
        simp only [mixL, List.getElem?_cons_succ, List.getElem?_cons_zero]
        repeat (refine' wpMix2_read (v := _) rfl ?_ ?_; rotate_left 1; (intro w' hw'; go_simp; try with_reducible rfl); try simp only [Act.put, List.setIfInBounds_toArray, List.set_cons_zero, List.set_cons_succ])
        refine wpMix2_act (fun K hK => ?_)
        go_wp2_with fail
        refine (CL.out).mono ?_
        rintro e w3 ⟨rfl, hb3⟩
        have b3 := bto bD hb3 bD.size
        have q3 : GBlk w3 q R.flatten := (G.out.only (Only.of_below b3 : Only [] W w3) (by simp) (by simp)).blk
        have hrg : w3.rangeAt q (so * 7) (flatV M) := by
          have hq := q3.range so w
          rw [show so * 7 = 7 * so by omega, ← HLINE.out]
          rw [HSO.out] at hq ⊢
          exact hq
        have CF := Lib.hid (gfit_any (cap := w * H0 - so) hrg q3.lt hML ⟨hw1, hw5⟩ a ⟨d1, d2⟩)
        go_wp2
        refine hK _ _ trivial ?_
        clear hK K
        refine wpMix2_act (fun K hK => ?_)
        go_wp2_with fail
        refine (CF.out).mono ?_
        rintro e w4 ⟨rfl, b4, hb4⟩
        have bw4 := bto b3 hb4 b3.size
        go_wp2
        refine hK _ _ trivial ?_
        clear hK K
        refine wpMix2_act (fun K hK => ?_)
        have hQ4 : GBlk w4 Qb (fillR H0 R a b r k).flatten := (hblkD.only (Only.of_below hb3 : Only [] _ _) (by simp)).only (Only.of_below hb4 : Only [] _ _) (by simp)
        have hfl := fillR_len OK.out a b r k (Nat.le_of_lt hkb) (by rw [← HG.out]; exact Nat.le_of_lt hkh)
        rw [← HN.out] at hfl
        have hra := b4.range_all
        go_wp2_with (refine wpList_gcopy rfl _ _ rfl _ _ _ _ _ _ rfl rfl Qb (fillR H0 R a b r k).flatten (fitL M a) ka hQ4 (by rw [fitL_length]; show _ = min _ _; omega) (fun _ => ⟨⟨_, rfl, by omega⟩, w3.heap.size, 0, rfl, hra⟩) (by rw [fitL_length, hfl]; exact hkan) ?_; intro w5 b5 o5)
        have e5 : ka = a * k := by rw [HKA.out, Nat.mul_comm]
        rw [e5, HNXH.out] at b5
        have bw5 := bw4.trans (o5.below (by simp; exact hQW) bw4.size)
        refine hK _ _ trivial ?_
        clear hK K e5
        refine wpMix2_nil ?_
        have HJ : Hid (j + 1 = gone + (k + 1)) := Lib.hid (by have := hj.out; omega)
        go_wp2
        go_roundw
        case rel => exact ⟨k + 1, j + 1, hlt, by go_num, HJ, b5, bw5⟩
        case measure => have := hj.out; simp [intOf]; omega
      · have hkl : k = last - gone := by omega
        have hjl : j = last := by omega
        have gX := G.out.only (Only.of_below hbw : Only [] W wr) (by simp) (by simp)
        obtain ⟨c0, c1, c2⟩ := gX.cells
        have fz := gX.free
        have hpl : p < W.heap.size := (Array.getElem?_eq_some_iff.1 G.out.head).1
        have hnj : ¬ (j : Int) < (last : Int) := by omega
        obtain ⟨Y, hY⟩ : ∃ Y, ((wr.setCell ⟨p, 0, none⟩ (.int .i64 a)).setCell ⟨p, 1, none⟩ (.int .i64 b)).setCell ⟨p, 2, none⟩ (.slice (some ⟨Qb, 0, none⟩) n n) = Y := ⟨_, rfl⟩
        have oY : Only [p] wr Y := by
          rw [← hY]
          exact (((Only.refl [p] wr).setCell (.inl (by simp)) _).setCell (.inl (by simp)) _).setCell (.inl (by simp)) _
        have hYp : Y.heap[p]? = some (.cells #[.int .i64 a, .int .i64 b, .slice (some ⟨Qb, 0, none⟩) (a * b) (a * b)] 212 (0, 0)) := by
          rw [← hY, ← HN.out]
          exact set_at (set_at (set_at gX.head 0 (.int .i64 a)) 1 (.int .i64 b)) 2 (.slice (some ⟨Qb, 0, none⟩) n n)
        have hfin : GridAt Y p Qb a b (resizeR H0 R a b r).flatten := by
          have hb9 := hblk.only oY (by simp; omega)
          have hfl := fillR_len OK.out a b r k (by omega) (by rw [← HG.out]; omega)
          rw [show fillR H0 R a b r k = resizeR H0 R a b r by rw [hkl, HLA.out, HG.out]; exact fillR_end H0 R a b r] at hb9 hfl
          exact { head := hYp, blk := hb9, ne := by omega, len := hfl, w1 := d1, w2 := d2, h1 := d3, h2 := d4 }
        have FIN : Hid (GridAt Y p Qb a b (resizeR H0 R a b r).flatten ∧ Only [p] W Y ∧ W.heap.size ≤ Qb) := Lib.hid ⟨hfin, ((Only.of_below hbw : Only [] W wr).mono (by simp)).trans oY, hQW⟩
        have HY := Lib.hid hY
        clear hY hYp hfin oY hblk gX hkl hjl
        go_wp2
        rw [HY.out]
        go_ret2
        exact ⟨rfl, Qb, FIN.out⟩
end Go.Proofs.YtekodpcedjpnjaaGreat
namespace Go.Proofs.YtekodpcedjpnjaaGreat
set_option linter.unusedVariables false
set_option linter.unusedSimpArgs false
open Go.RowKit Go.Shelf Go.Maps
/-- The terminal's block alone. -/
def PBlk0 (W : World) (b p : Nat) (hv : Value) (t : TS) : Prop := W.heap[b]? = some (.cells (pCells hv p t) 185 (0, 0))
theorem PBlk0.cells {W : World} {b p : Nat} {hv : Value} {t : TS} (h : PBlk0 W b p hv t) :
    W.cell? ⟨b, 0, none⟩ = some hv ∧ W.cell? ⟨b, 1, none⟩ = some (.pointer (some ⟨p, 0, none⟩)) ∧ W.cell? ⟨b, 2, none⟩ = some (.int .i64 t.row) ∧ W.cell? ⟨b, 3, none⟩ = some (.int .i64 t.col) := by
  unfold PBlk0 at h
  refine ⟨?_, ?_, ?_, ?_⟩ <;> rw [cell_of_row W b _ _ _ _ h] <;> rfl
set_option maxRecDepth 100000 in
set_option maxHeartbeats 8000000 in
theorem tresize_bad {W : World} {b p q : Nat} {hv : Value} {t : TS} (a : TmAt W b p q hv t) (ok : TO0 t) (w h : Int) (hd : ¬ (1 ≤ w ∧ w ≤ 500 ∧ 1 ≤ h ∧ h ≤ 500)) :
    Calls Tryz.prog 53 #[.pointer (some ⟨b, 0, none⟩), .int .i64 w, .int .i64 h] W fun e w' => e = .returned (.int .i64 50) ∧ Below W.heap.size W w' := by
  have CM := Lib.hid (tmade_any a)
  have CR := Lib.hid (fun (X : World) (hX : Below W.heap.size W X) => gresize_bad (a.below hX).g w h (t.row : Int) hd)
  have hb0 : PBlk0 W b p hv t := a.blk
  have hlt := a.lt.1
  clear a ok hd
  go_enter Tryz.func53, Tryz.ntmps53
  go_wp2_with (go_at_call 110; refine (CM.out).mono ?_; rintro e w1 ⟨rfl, rfl⟩)
  refine wp_region_mix2 [(true, 0), (true, 1), (true, 2), (true, 3), (true, 4), (true, 5), (true, 6), (true, 7), (true, 8), (true, 9), (false, 10), (true, 11), (true, 12), (true, 13), (true, 14), (true, 15)] (fun X => PBlk0 X b p hv t) (by kernel_rfl) (by kernel_rfl) (by rfl) (by kernel_rfl) (by kernel_rfl) (fun _ _ d _ _ h => by cases d <;> exact h) hb0 ?_
  simp only [mixL, List.getElem?_cons_succ, List.getElem?_cons_zero]
  repeat (refine' wpMix2_read (v := _) rfl ?_ ?_; rotate_left 1; (intro w' hw'; obtain ⟨c0, c1, c2, c3⟩ := hw'.cells; go_simp; try with_reducible rfl); try simp only [Act.put, List.setIfInBounds_toArray, List.set_cons_zero, List.set_cons_succ])
  refine wpMix2_act (fun K hK => ?_)
  go_wp2_with fail
  refine (CR.out _ (Below.refl _ _).drew).mono ?_
  rintro e w2 ⟨rfl, rfl⟩
  go_wp2
  refine hK _ _ hb0 ?_
  clear hK K
  repeat (refine' wpMix2_read (v := _) rfl ?_ ?_; rotate_left 1; (intro w' hw'; go_simp; try with_reducible rfl); try simp only [Act.put, List.setIfInBounds_toArray, List.set_cons_zero, List.set_cons_succ])
  refine wpMix2_nil ?_
  go_wp2
  go_ret
  exact ⟨rfl, (Below.refl _ _).drew⟩
set_option maxRecDepth 100000 in
set_option maxHeartbeats 4000000 in
theorem pmoveTo_raw {W : World} {b p q : Nat} {hv : Value} {t : TS} (a : TmAt W b p q hv t) (hd : 1 ≤ t.W ∧ t.W ≤ 500 ∧ 1 ≤ t.H ∧ t.H ≤ 500) (r c : Int) (hr : -1000000 ≤ r ∧ r ≤ 1000000) (hc : -1000000 ≤ c ∧ c ≤ 1000000) :
    Calls Tryz.prog 125 #[.pointer (some ⟨b, 0, none⟩), .int .i64 r, .int .i64 c] W (TmPost b p q hv (t.moved r c) W) := by
  obtain ⟨c0, c1, c2, c3, c4, c5, c6, c7, c8, c9, c10, c11, c12, c13, c14, c15, c16, fz⟩ := a.cells
  have CS := Lib.hid (gsize_any a.g)
  have AA := Lib.hid a
  obtain ⟨hw1, hw2, hh1, hh2⟩ := hd
  clear a
  go_enter Tryz.func125, Tryz.ntmps125
  go_upto_region 1 with (go_at_call 86; refine (CS.out).mono ?_; rintro e X ⟨rfl, hb⟩)
  have aX := AA.out.below hb
  clear c0 c1 c2 c3 c4 c5 c6 c7 c8 c9 c10 c11 c12 c13 c14 c15 c16 fz
  obtain ⟨c0, c1, c2, c3, c4, c5, c6, c7, c8, c9, c10, c11, c12, c13, c14, c15, c16, fz⟩ := aX.cells
  clear AA CS
  go_wp2
  all_goals
    go_end0
    refine ⟨rfl, (moved_at aX r c _ _ ?_ ?_).1, (Only.on hb).trans (moved_at aX r c _ _ ?_ ?_).2.ob⟩ <;> omega
set_option maxRecDepth 100000 in
set_option maxHeartbeats 8000000 in
theorem tresize_ok {W : World} {b p q : Nat} {hv : Value} {t : TS} (a : TmAt W b p q hv t) (ok : TOk t) (hg : t.gone < 4611686018427387904) (w h : Nat) (hd : 1 ≤ w ∧ w ≤ 500 ∧ 1 ≤ h ∧ h ≤ 500) :
    Calls Tryz.prog 53 #[.pointer (some ⟨b, 0, none⟩), .int .i64 w, .int .i64 h] W fun e w' => e = .returned (.int .i64 0) ∧ ∃ q', TmAt w' b p q' hv (t.resize w h) ∧ Only [b, p] W w' ∧ W.heap.size ≤ q' := by
  have CM := Lib.hid (tmade_any a)
  have CR := Lib.hid (fun (X : World) (hX : Below W.heap.size W X) => gresize_ok (a.below hX).g ok.ok w h t.row hd ok.row)
  have hb0 : PBlk0 W b p hv t := a.blk
  have hlt := a.lt
  have hbp := a.bp
  obtain ⟨n, hn⟩ : ∃ n, n = goneN t.H h t.row := ⟨_, rfl⟩
  have hgr := gone_row ok.row hd.2.2.1
  rw [← hn] at CR hgr
  obtain ⟨R', hR'⟩ : ∃ R', R' = resizeR t.H t.R w h t.row := ⟨_, rfl⟩
  rw [← hR'] at CR
  have ok1 : TO0 { t with W := w, H := h, R := R', row := t.row - n, col := min t.col (w - 1), gone := t.gone + n, pend := false } := by
    have k := ok.resize hd
    have := k.toTO0
    unfold TS.resize at this
    rw [← hn, ← hR'] at this
    exact { w1 := this.w1, w2 := this.w2, h1 := this.h1, h2 := this.h2, ok := this.ok, ro := this.ro, row := this.row, col := this.col }
  have HE : Hid (t.resize w h = { t with W := w, H := h, R := R', gone := t.gone + n, row := t.row - n, col := min t.col (w - 1), pend := false, last := false }) := Lib.hid (by unfold TS.resize; rw [← hn, ← hR'])
  have hrow := ok.row
  have hcol := ok.col
  have hh5 := ok.h2
  have hw5 := ok.w2
  obtain ⟨d1, d2, d3, d4⟩ := hd
  have hnb : n ≤ 500 := by omega
  have hni : (n : Int) ≤ 500 := by omega
  have OK1 := Lib.hid ok1
  clear a ok hn hR' ok1
  go_enter Tryz.func53, Tryz.ntmps53
  go_wp2_with (go_at_call 110; refine (CM.out).mono ?_; rintro e w1 ⟨rfl, rfl⟩)
  refine wp_region_mix2 [(true, 0), (true, 1), (true, 2), (true, 3), (true, 4), (true, 5), (true, 6), (true, 7), (true, 8), (true, 9), (false, 10), (true, 11), (true, 12), (true, 13), (true, 14), (true, 15)] (fun X => PBlk0 X b p hv t) (by kernel_rfl) (by kernel_rfl) (by rfl) (by kernel_rfl) (by kernel_rfl) (fun _ _ d _ _ h => by cases d <;> exact h) hb0 ?_
  simp only [mixL, List.getElem?_cons_succ, List.getElem?_cons_zero]
  repeat (refine' wpMix2_read (v := _) rfl ?_ ?_; rotate_left 1; (intro w' hw'; obtain ⟨c0, c1, c2, c3⟩ := hw'.cells; go_simp; try with_reducible rfl); try simp only [Act.put, List.setIfInBounds_toArray, List.set_cons_zero, List.set_cons_succ])
  refine wpMix2_act (fun K hK => ?_)
  go_wp2_with fail
  refine (CR.out _ (Below.refl _ _).drew).mono ?_
  rintro e w2 ⟨rfl, q', g2, o2, hq'⟩
  have hb2 : PBlk0 w2 b p hv t := o2.heap hb0 (by simp; exact hbp)
  have o2' : Only [b, p] W w2 := ((Only.of_below (Below.refl _ _).drew : Only [] W W.drew).mono (by simp)).trans (o2.mono (by simp))
  go_wp2
  refine hK _ _ hb2 ?_
  clear hK K
  repeat (refine' wpMix2_read (v := _) rfl ?_ ?_; rotate_left 1; (intro w' hw'; go_simp; try with_reducible rfl); try simp only [Act.put, List.setIfInBounds_toArray, List.set_cons_zero, List.set_cons_succ])
  refine wpMix2_nil ?_
  have a2 : TmAt w2 b p q' hv { t with W := w, H := h, R := R' } := ⟨hb2, g2, hbp, by have h1 : W.heap.size ≤ q' := hq'; omega⟩
  obtain ⟨c0, c1, c2, c3, c4, c5, c6, c7, c8, c9, c10, c11, c12, c13, c14, c15, c16, fz⟩ := a2.cells
  have a3 := a2.put 13 (.int .i64 ((t.gone + n : Nat) : Int)) hv { t with W := w, H := h, R := R', gone := t.gone + n } rfl rfl rfl rfl
  have o3 := set_only w2 b 13 (.int .i64 ((t.gone + n : Nat) : Int))
  have hgn : ((t.gone + n : Nat) : Int) = (t.gone : Int) + (n : Int) := by omega
  rw [hgn] at a3 o3
  clear c0 c1 c2 c3 c4 c5 c6 c7 c8 c9 c10 c11 c12 c14 c15 c16 hgn
  have hgw : IntKind.i64.wrap ((t.gone : Int) + (n : Int)) = (t.gone : Int) + (n : Int) := by rw [IntKind.wrap_i64]; omega
  go_upto_region 7 with (fail)
  obtain ⟨w3, hw3⟩ : ∃ w3, w2.setCell ⟨b, 13, none⟩ (.int .i64 ((t.gone : Int) + (n : Int))) = w3 := ⟨_, rfl⟩
  rw [hw3] at a3 o3 ⊢
  have o13 : Only [b, p] W w3 := o2'.trans (o3.mono (by simp))
  have hb3 : PBlk0 w3 b p hv { t with W := w, H := h, R := R', gone := t.gone + n } := a3.blk
  have hmw : IntKind.i64.wrap ((t.row : Int) - (n : Int)) = (t.row : Int) - (n : Int) := by rw [IntKind.wrap_i64]; omega
  have CMv := Lib.hid (pmoveTo_raw (a3.below (Below.refl _ _).drew) ⟨d1, d2, d3, d4⟩ ((t.row : Int) - (n : Int)) (t.col : Int) (by omega) (by omega))
  clear fz c13 hw3 hb2 o3 a2
  go_wp2_with fail
  refine wp_region_mixT 14 [(true, 0), (true, 1), (true, 2), (true, 3), (true, 4), (true, 5), (true, 6), (true, 7), (true, 8), (true, 9), (true, 10), (false, 11)] (fun X => PBlk0 X b p hv { t with W := w, H := h, R := R', gone := t.gone + n }) (by kernel_rfl) (by kernel_rfl) (by rfl) (by kernel_rfl) (by kernel_rfl) (fun _ _ d _ _ h => by cases d <;> exact h) hb3 ?_
  simp only [mixL, List.getElem?_cons_succ, List.getElem?_cons_zero]
  repeat (refine' wpMix_read (v := _) rfl ?_ ?_; rotate_left 1; (intro w' hw'; obtain ⟨c0, c1, c2, c3⟩ := hw'.cells; go_simp; try with_reducible rfl); try simp only [Act.put, List.setIfInBounds_toArray, List.set_cons_zero, List.set_cons_succ])
  refine wpMix_act (fun K hK => ?_)
  go_wp2_with fail
  refine (CMv.out).mono ?_
  rintro e w4 ⟨rfl, a4, o4⟩
  go_wp2
  refine hK _ _ (fun h => absurd rfl h) ?_
  clear hK K
  refine wpMix_nil ?_
  obtain ⟨c0, c1, c2, c3, c4, c5, c6, c7, c8, c9, c10, c11, c12, c13, c14, c15, c16, fz⟩ := a4.cells
  have a5 := a4.put 14 (.bool false) hv (t.resize w h) (by
    rw [HE.out]
    unfold TS.moved
    dsimp only
    rw [show (max (0 : Int) (min ((t.row : Int) - (n : Int)) ((h : Int) - 1))).toNat = t.row - n by omega, show (max (0 : Int) (min (t.col : Int) ((w : Int) - 1))).toNat = min t.col (w - 1) by omega]
    rfl) (by rw [HE.out]; rfl) (by rw [HE.out]; rfl) (by rw [HE.out]; rfl)
  have o5 := set_only w4 b 14 (.bool false)
  have hq9 : W.heap.size ≤ q' := hq'
  have o9 : Only [b, p] W (w4.setCell ⟨b, 14, none⟩ (.bool false)) := by
    have h1 := only_chain o13 (Only.of_below (Below.refl _ _).drew : Only [] w3 w3.drew) (fun k hk => by simp at hk)
    have h2 := only_chain h1 o4 (fun k hk => by
      simp only [List.mem_cons, List.not_mem_nil, or_false] at hk
      rcases hk with rfl | rfl
      · exact .inl (by simp)
      · exact .inr hq9)
    exact h2.trans (o5.mono (by simp))
  have A5 := Lib.hid a5
  clear a5 a4 o4 o5 c0 c1 c2 c3 c4 c5 c6 c7 c8 c9 c10 c11 c12 c13 c15 c16
  go_wp2
  go_ret
  exact ⟨rfl, q', A5.out, o9, hq9⟩
end Go.Proofs.YtekodpcedjpnjaaGreat
namespace Go.Proofs.YtekodpcedjpnjaaGreat
set_option linter.unusedVariables false
set_option linter.unusedSimpArgs false
open Go.RowKit Go.Shelf Go.Maps
set_option maxRecDepth 100000 in
set_option maxHeartbeats 4000000 in
theorem gfork_any {W : World} {p q w h : Nat} {L : List GC} (g : GridAt W p q w h L) :
    Calls Tryz.prog 126 #[.pointer (some ⟨p, 0, none⟩)] W fun e w' => ∃ p', e = .returned (.pointer (some ⟨p', 0, none⟩)) ∧ GridAt w' p' W.heap.size w h L ∧ W.heap.size ≤ p' ∧ Below W.heap.size W w' := by
  have CM := Lib.hid (made_any g)
  obtain ⟨c0, c1, c2⟩ := g.cells
  obtain ⟨n, hn⟩ : ∃ n, n = w * h := ⟨_, rfl⟩
  have hlen := g.len
  have hnb : n ≤ 250000 := by rw [hn]; exact Nat.mul_le_mul g.w2 g.h2
  rw [← hn] at c2 hlen
  have hmk := run_gmake W n (by omega)
  obtain ⟨Z, hZ⟩ : ∃ Z, Z = List.replicate n GC.zero := ⟨_, rfl⟩
  have hZl : Z.length = n := by rw [hZ]; simp
  rw [← hZ] at hmk
  have o1 : Only [] W (W.alloc (.cells (flatV Z).toArray 171)) := (Only.refl _ _).alloc _
  have b1 : GBlk (W.alloc (.cells (flatV Z).toArray 171)) W.heap.size Z := GBlk.made W Z
  have g1 := g.only o1 (by simp) (by simp)
  generalize hW1 : W.alloc (.cells (flatV Z).toArray 171) = W1 at o1 b1 g1 hmk
  have hsp : splice Z 0 L = L := by unfold splice; simp; omega
  have r1 := g1.blk.range_all
  have HN := Lib.hid hn
  have hp1 : GridAt W p q w h L := g
  have HG1 := Lib.hid g1
  have hs1 : W.heap.size < W1.heap.size := b1.lt
  have hpl : p < W.heap.size := (Array.getElem?_eq_some_iff.1 g.head).1
  clear hn hZ hW1
  go_enter Tryz.func126, Tryz.ntmps126
  go_upto_region 5 with (first
    | (go_at_call 150; refine (CM.out).mono ?_; rintro e w1 ⟨rfl, rfl⟩; obtain ⟨d0, d1, d2⟩ := HG1.out.cells; rw [← HN.out] at d2)
    | (refine wpList_gcopy rfl _ _ rfl _ _ _ _ _ _ rfl rfl W.heap.size Z L 0 b1 (by rw [hlen]; show _ = min _ _; omega) (fun _ => ⟨⟨_, rfl, by omega⟩, q, 0, rfl, r1⟩) (by omega) ?_; intro w3 b3 o3))
  rw [hsp] at b3
  have g3 := HG1.out.only o3 (by simp; omega) (by simp; have := HG1.out.blk.lt; have : q < W.heap.size := g.blk.lt; omega)
  have bw3 : Below W.heap.size W w3 := ((o1.mono (S' := [W.heap.size]) (by simp)).trans o3).below (by simp) (Nat.le_refl _)
  have hd3 : w3.heap[p]? = some (.cells #[.int .i64 w, .int .i64 h, .slice (some ⟨q, 0, none⟩) n n] 212 (0, 0)) := by rw [HN.out]; exact g3.head
  clear d0 d1 d2 c0 c1 c2 hmk
  go_wp2_with fail
  refine wp_region_mix2 [(true, 0), (true, 1), (true, 2), (true, 3), (true, 4), (true, 5), (true, 6), (true, 7), (true, 8), (true, 9), (false, 10), (true, 11)] (fun X => X.heap[p]? = some (.cells #[.int .i64 w, .int .i64 h, .slice (some ⟨q, 0, none⟩) n n] 212 (0, 0))) (by kernel_rfl) (by kernel_rfl) (by rfl) (by kernel_rfl) (by kernel_rfl) (fun _ _ d _ _ h => by cases d <;> exact h) hd3 ?_
  simp only [mixL, List.getElem?_cons_succ, List.getElem?_cons_zero]
  repeat (refine' wpMix2_read (v := _) rfl ?_ ?_; rotate_left 1; (intro w' hw'; have k0 : w'.cell? ⟨p, 0, none⟩ = some (.int .i64 w) := (by rw [cell_of_row w' p _ _ _ _ hw']; rfl); have k1 : w'.cell? ⟨p, 1, none⟩ = some (.int .i64 h) := (by rw [cell_of_row w' p _ _ _ _ hw']; rfl); go_simp; try with_reducible rfl); try simp only [Act.put, List.setIfInBounds_toArray, List.set_cons_zero, List.set_cons_succ])
  refine wpMix2_act (fun K hK => ?_)
  have bN : Below w3.drew.heap.size w3.drew (w3.drew.alloc (.cells #[.int .i64 w, .int .i64 h, .slice (some ⟨W.heap.size, 0, none⟩) n n] 212)) := (Below.refl _ _).alloc (Nat.le_refl _) _
  have hdN : (w3.drew.alloc (.cells #[.int .i64 w, .int .i64 h, .slice (some ⟨W.heap.size, 0, none⟩) n n] 212)).heap[p]? = some (.cells #[.int .i64 w, .int .i64 h, .slice (some ⟨q, 0, none⟩) n n] 212 (0, 0)) := (bN.block p (by have h0 : W.heap.size ≤ w3.heap.size := bw3.size; show p < w3.heap.size; omega)).trans hd3
  have hnew := World.alloc_heap_new w3.drew (.cells #[.int .i64 w, .int .i64 h, .slice (some ⟨W.heap.size, 0, none⟩) n n] 212)
  have hbN : GBlk (w3.drew.alloc (.cells #[.int .i64 w, .int .i64 h, .slice (some ⟨W.heap.size, 0, none⟩) n n] 212)) W.heap.size L := (show GBlk w3.drew W.heap.size L from b3).alloc _
  have hlt3 := b3.lt
  have FIN : Hid (GridAt (w3.drew.alloc (.cells #[.int .i64 w, .int .i64 h, .slice (some ⟨W.heap.size, 0, none⟩) n n] 212)) w3.drew.heap.size W.heap.size w h L ∧ Below W.heap.size W (w3.drew.alloc (.cells #[.int .i64 w, .int .i64 h, .slice (some ⟨W.heap.size, 0, none⟩) n n] 212))) := Lib.hid ⟨{ head := (by rw [← HN.out]; exact hnew), blk := hbN, ne := (by have : w3.drew.heap.size = w3.heap.size := rfl; omega), len := g.len, w1 := g.w1, w2 := g.w2, h1 := g.h1, h2 := g.h2 }, bto bw3 ((Below.refl w3.heap.size w3).drew.trans bN) bw3.size⟩
  have HDN := Lib.hid hdN
  clear hdN hnew hbN bN
  go_wp2
  refine hK _ _ HDN.out ?_
  clear hK K
  refine' wpMix2_read (v := _) rfl ?_ ?_
  rotate_left 1
  · intro w' hw'; go_simp; try with_reducible rfl
  try simp only [Act.put, List.setIfInBounds_toArray, List.set_cons_zero, List.set_cons_succ]
  refine wpMix2_nil ?_
  go_wp2
  go_ret
  exact ⟨_, rfl, FIN.out.1, (show W.heap.size ≤ w3.heap.size from bw3.size), FIN.out.2⟩
/-! ### the terminal's struct as one value -/
def PRw (W : World) (b : Nat) (cs : Array Value) : Prop := W.heap[b]? = some (.cells cs 185 (0, 0))
theorem PRw.load {W : World} {b : Nat} {cs : Array Value} (h : PRw W b cs) (hs : cs.size = 17) : (loadVar 185 ⟨b, 0, none⟩).run Tryz.prog W = .ok (.agg cs) W :=
  run_loadVar_row (P := Tryz.prog) W b _ 185 cs (0, 0) _ h Tryz.underlying185 rfl (by rw [hs]; kernel_rfl)
theorem wpList_pload {ops : Array Oper} {rest : List Oper} {op : Oper} {a : Act} {w : World} {Q : Exit → Act → World → Prop} (hgd : op.guard = none) (x : Operand) (ho : op.op = .load 185 x)
    (b : Nat) (hx : a.eval x = .pointer (some ⟨b, 0, none⟩)) (cs : Array Value) (hb : PRw w b cs) (hs : cs.size = 17)
    (h : wpList Tryz.prog ops Q rest (a.put op.dst (.agg cs)) w) : wpList Tryz.prog ops Q (op :: rest) a w :=
  wpList_plain hgd fun K hK => by
    have hl := hb.load hs
    unfold Oper.wp execOp
    simp only [ho, hx, Sem.run_bind, Sem.run_pure, Result.andThen_ok, Instr.loadAt, Instr.sureAddr, asAddr, hl]
    exact hK _ _ h
theorem wpList_pstore {ops : Array Oper} {rest : List Oper} {op : Oper} {a : Act} {w : World} {Q : Exit → Act → World → Prop} (hgd : op.guard = none) (x y : Operand) (ho : op.op = .store 185 x y)
    (b : Nat) (hx : a.eval x = .pointer (some ⟨b, 0, none⟩)) (cs : Array Value) (hy : a.eval y = .agg cs) (cur : Array Value) (hb : PRw w b cur) (hs : cs.size = 17) (hc : cur.size = 17) (h1 : ∀ v ∈ cs.toList, v.oneCell' = true)
    (h : ∀ w', PRw w' b cs → Only [b] w w' → wpList Tryz.prog ops Q rest (a.put op.dst undef) w') : wpList Tryz.prog ops Q (op :: rest) a w :=
  wpList_plain hgd fun K hK => by
    have hst := run_storeCells_at Tryz.prog b 0 185 cs.toList 0 cur w hb (by rw [Array.length_toList, hs, hc]; omega) h1
    simp only [Nat.add_zero, List.take_zero, List.nil_append, Array.length_toList, hs, Nat.zero_add] at hst
    rw [List.drop_eq_nil_of_le (by rw [Array.length_toList, hc]; omega), List.append_nil, Array.toArray_toList] at hst
    have hi : (Tryz.prog.info? 185).map (·.size) = some 17 := by kernel_rfl
    have hrun : (Instr.storeAt 185 (.pointer (some ⟨b, 0, none⟩)) (.agg cs)).run Tryz.prog w = .ok () (w.setRow b cs) := by
      cases hq : Tryz.prog.info? 185 with
      | none => rw [hq] at hi; cases hi
      | some t =>
        have ht : t.size = 17 := by rw [hq] at hi; simpa using hi
        simp [Instr.storeAt, Instr.sureAddr, storeVar, sizeOf, typeInfo, hq, Value.cells, ht, hs, hst]
    unfold Oper.wp execOp
    simp only [ho, hx, hy, Sem.run_bind, Sem.run_pure, Result.andThen_ok, hrun]
    exact hK _ _ (h _ (setRow_heap w b _ _ _ _ hb) ((Only.refl [b] w).setRow (.inl (by simp)) _))
theorem pCells_one (hv : Value) (p : Nat) (t : TS) (h : OneV hv) : ∀ v ∈ (pCells hv p t).toList, v.oneCell' = true := by
  intro v hv'
  simp only [pCells, List.mem_cons, List.not_mem_nil, or_false] at hv'
  rcases hv' with h1 | h1 | h1 | h1 | h1 | h1 | h1 | h1 | h1 | h1 | h1 | h1 | h1 | h1 | h1 | h1 | h1 <;> subst h1 <;> first | rfl | exact h
def zP : Array Value := #[.slice none 0 0, .pointer none, .int .i64 0, .int .i64 0, .bool false, .bool false, .bool false, .int .i64 0, .int .i64 0, .bool false, .bool false, .bool false, .int .i64 0, .int .i64 0, .bool false, .int .i64 0, .int .i64 0]
theorem Held.one {W : World} {n₀ : Nat} {hv : Value} {l : List UInt8} (h : Held W n₀ hv l) : OneV hv := by
  obtain ⟨a, c, rfl⟩ := own_slice h
  rfl
theorem Held.base {W : World} {n₀ n₁ : Nat} {hv : Value} {l : List UInt8} (h : Held W n₁ hv l) (hn : n₀ ≤ n₁) : Held W n₀ hv l := by
  rcases h with ⟨h0, h1 | ⟨g, cap, cur, h1, hg, hc, h2, h3, h4, h5⟩⟩
  · exact ⟨h0, .inl h1⟩
  · exact ⟨h0, .inr ⟨g, cap, cur, h1, Nat.le_trans hn hg, hc, h2, h3, h4, h5⟩⟩
/-- The new terminal's struct behind its bytes. -/
def FkSt (W : World) (p : Nat) (t : TS) (l : List UInt8) (wx : World) : Prop :=
  ∃ hv', PRw wx W.heap.size (pCells hv' p t) ∧ Held wx W.heap.size hv' l ∧ hv'.ownBlock ≠ some W.heap.size ∧ Below W.heap.size W wx
set_option maxRecDepth 100000 in
set_option maxHeartbeats 8000000 in
theorem tfork_any {W : World} {b p q n₀ : Nat} {hv : Value} {t : TS} {l : List UInt8} (a : TmAt W b p q hv t) (hh : Held W n₀ hv l) (hn₀ : n₀ ≤ W.heap.size) (hlen : l.length ≤ 100000) :
    Calls Tryz.prog 54 #[.pointer (some ⟨b, 0, none⟩)] W fun e w' => ∃ b' p' q' hv', e = .returned (.pointer (some ⟨b', 0, none⟩)) ∧ TmAt w' b' p' q' hv' t ∧ Held w' n₀ hv' l ∧ (W.heap.size ≤ b' ∧ W.heap.size ≤ p' ∧ W.heap.size ≤ q') ∧ (∀ k, hv'.ownBlock = some k → W.heap.size ≤ k) ∧ Below W.heap.size W w' := by
  obtain ⟨i0, hi, hz0, hz1, hz2⟩ := info_parts infoU8c
  have CM := Lib.hid (tmade_any a)
  have hb0 : PRw W b (pCells hv p t) := a.blk
  have hone := hh.one
  have A := Lib.hid a
  have HH := Lib.hid hh
  have hlt := a.lt
  have CG := Lib.hid (fun (X : World) (hX : Below W.heap.size W X) => gfork_any (a.below hX).g)
  have pn : PRw (W.alloc (.cells zP 185)) W.heap.size zP := World.alloc_heap_new W _
  have bn : Below W.heap.size W (W.alloc (.cells zP 185)) := (Below.refl _ _).alloc (Nat.le_refl _) _
  clear a hh
  go_enter Tryz.func54, Tryz.ntmps54
  go_upto_region 3 with (go_at_call 110; refine (CM.out).mono ?_; rintro e w1 ⟨rfl, rfl⟩)
  go_cut [3] (fun u wx => u = .pointer (some ⟨W.heap.size, 0, none⟩) ∧ PRw wx W.heap.size (pCells hv p t) ∧ Below W.heap.size W wx)
  case first =>
    go_wp2_with (first
    | (refine wpList_pload rfl _ rfl b rfl (pCells hv p t) ?_ rfl ?_; exact hb0)
    | (refine wpList_pstore rfl _ _ rfl W.heap.size rfl (pCells hv p t) rfl zP ?_ rfl rfl (pCells_one _ _ _ hone) ?_; exact pn; intro w3 p3 o3))
    go_meet
    exact ⟨rfl, p3, bn.trans (o3.below (by simp) bn.size)⟩
  case rest =>
  obtain ⟨rfl, p3, b3⟩ := hcut
  obtain ⟨w3, rfl⟩ : ∃ w3 : World, w3 = wc := ⟨_, rfl⟩
  have hs3 : W.heap.size < w3.heap.size := (Array.getElem?_eq_some_iff.1 p3).1
  go_upto_region 4 with (fail)
  go_cut [3] (fun u wx => u = .pointer (some ⟨W.heap.size, 0, none⟩) ∧ FkSt W p t l wx)
  case first =>
    have hm := World.ownsRow_made (base := W.heap.size) (e := 5) (size := 1) w3 #[] 0 (by omega) (by unfold maxLen; omega) rfl
    have bX : Below w3.heap.size w3 (w3.alloc (.cells #[] 5)) := (Below.refl _ _).alloc (Nat.le_refl _) _
    have HM : Hid (Held (w3.alloc (.cells #[] 5)) W.heap.size (.slice (some ⟨w3.heap.size, 0, none⟩) 0 0) []) := Lib.hid hm
    have aX := (A.out.below b3).below bX
    have pX : PRw (w3.alloc (.cells #[] 5)) W.heap.size (pCells hv p t) := (bX.block _ hs3).trans p3
    have c0 := aX.cells.1
    have k0 : (w3.alloc (.cells #[] 5)).cell? ⟨W.heap.size, 0, none⟩ = some hv := by rw [cell_of_row _ _ _ _ _ _ pX]; rfl
    have kf : (w3.alloc (.cells #[] 5)).frozen? ⟨W.heap.size, 0, none⟩ = false := by
      have hh9 : (w3.alloc (.cells #[] 5)).heap[W.heap.size]? = _ := pX
      simp only [World.frozen?, hh9]; rfl
    have PX := Lib.hid pX
    have B3X := Lib.hid (bto b3 bX b3.size)
    have HB := HH.out
    rcases own_shape HB with ⟨rfl, h0⟩ | ⟨g, c, rfl, hnc, _, hgl⟩
    · have hl0 : l = [] := List.eq_nil_of_length_eq_zero h0
      have FIN : Hid (FkSt W p t l ((w3.setCell ⟨W.heap.size, 0, none⟩ (.slice (some ⟨w3.heap.size, 0, none⟩) 0 0)).alloc (.cells #[] 5))) := Lib.hid (by
        obtain ⟨V, hV⟩ : ∃ V, V = w3.setCell ⟨W.heap.size, 0, none⟩ (.slice (some ⟨w3.heap.size, 0, none⟩) 0 0) := ⟨_, rfl⟩
        have hVs : V.heap.size = w3.heap.size := by rw [hV]; simp [World.setCell]
        have hVp : PRw V W.heap.size (pCells (.slice (some ⟨w3.heap.size, 0, none⟩) 0 0) p t) := by rw [hV]; exact set_at p3 0 _
        have hVb : Below W.heap.size W V := by rw [hV]; exact b3.trans ((set_only _ _ _ _).below (by simp) b3.size)
        have hm' := World.ownsRow_made (base := W.heap.size) (e := 5) (size := 1) V #[] 0 (by omega) (by unfold maxLen; omega) rfl
        have bV : Below V.heap.size V (V.alloc (.cells #[] 5)) := (Below.refl _ _).alloc (Nat.le_refl _) _
        rw [← hV]
        refine ⟨.slice (some ⟨w3.heap.size, 0, none⟩) 0 0, (bV.block _ (by omega)).trans hVp, ?_, by simp [Value.ownBlock]; omega, bto hVb bV hVb.size⟩
        rw [hl0, ← hVs]
        exact hm')
      clear HB h0 hl0 aX pX bX hm
      go_wp2_with (at_builtin; refine wpList_append_own_none rfl _ _ 61 rfl W.heap.size 5 i0 1 Tryz.underlying61 hi _ _ _ rfl HM.out rfl ?_)
      go_meet
      exact ⟨rfl, FIN.out⟩
    · obtain ⟨hBy, hln, hnc', hcm⟩ := Held.bys HB
      have hBX := (hBy.below b3).below bX
      have hnews := bys_news hBX
      obtain ⟨n, hn⟩ : ∃ n, n = l.length := ⟨_, rfl⟩
      rw [← hn] at c0 k0
      have HN := Lib.hid hn
      have hn5 : n ≤ 100000 := by omega
      have PXN : Hid (PRw (w3.alloc (.cells #[] 5)) W.heap.size (pCells (.slice (some ⟨g, 0, none⟩) n c) p t)) := Lib.hid (by rw [hn]; exact pX)
      clear HB hBy hln hnc' hBX aX pX bX hm hn PX
      have FINX : Hid (∀ v' w4, w4.ownsRow W.heap.size 5 1 v' (0 + n) ([] ++ u8v l) → (w3.alloc (.cells #[] 5)).grownBy w4 (some w3.heap.size) → (v'.ownBlock = some w3.heap.size ∨ v'.ownBlock = some (w3.alloc (.cells #[] 5)).heap.size) →
          (∃ va vc, v' = .slice va n vc) ∧ PRw w4 W.heap.size (pCells (.slice (some ⟨g, 0, none⟩) n c) p t) ∧ FkSt W p t l (w4.setCell ⟨W.heap.size, 0, none⟩ v')) := Lib.hid (fun v' w4 h1 h2 h3 => by
        rw [Nat.zero_add, List.nil_append] at h1
        have hpw : PRw w4 W.heap.size (pCells (.slice (some ⟨g, 0, none⟩) n c) p t) := (h2.block _ (by simp; omega) (by simp; omega)).trans PXN.out
        have hHd : Held w4 W.heap.size v' l := by unfold Held; rw [← HN.out]; exact h1
        have hown : v'.ownBlock ≠ some W.heap.size := fun e => by
          rcases h3 with h3 | h3
          · rw [e] at h3; simp at h3; omega
          · rw [e] at h3; simp at h3; omega
        have bw4 : Below W.heap.size W w4 := B3X.out.grown h2 (by simp; omega) (fun k e => by cases e; omega)
        refine ⟨own_slice h1, hpw, v', set_at hpw 0 _, hHd.keep (set_only _ _ _ _) (fun k e => by simp; rintro rfl; exact hown e), hown, bw4.trans ((set_only _ _ _ _).below (by simp) bw4.size)⟩)
      go_wp2_with (at_builtin; refine wpList_append_own_at _ rfl _ _ 61 rfl W.heap.size 5 i0 (.int .u8 0) 1 1 Tryz.underlying61 hi hz0 hz1 hz2 rfl (by decide) _ _ _ rfl HM.out _ _ _ (u8v l) rfl (by rw [u8v_len, ← HN.out, Nat.mul_one]) hnews (u8v_one _) (by unfold maxLen; simp; omega) (by simp; omega) (by simp; omega) ?_; intro v' w4 hown' hgrow _ hob; obtain ⟨⟨va, vc, hva⟩, p4, fk4⟩ := FINX.out v' w4 hown' hgrow hob; have k4 : w4.cell? ⟨W.heap.size, 0, none⟩ = some (.slice (some ⟨g, 0, none⟩) n c) := (by rw [cell_of_row _ _ _ _ _ _ p4]; rfl); have f4 : w4.frozen? ⟨W.heap.size, 0, none⟩ = false := (by have h9 : w4.heap[W.heap.size]? = _ := p4; simp only [World.frozen?, h9]; rfl); have FK := Lib.hid fk4; clear hown' hgrow hob fk4 p4; subst hva)
      go_meet
      exact ⟨rfl, FK.out⟩
  case rest =>
    obtain ⟨rfl, hv', p4, h4, hne4, b4⟩ := hcut
    have hs4 : W.heap.size < wc.heap.size := (Array.getElem?_eq_some_iff.1 p4).1
    have c1 := (A.out.below b4).cells.2.1
    have H4 := Lib.hid h4
    refine (‹∀ (a : Act) (w : World), Code.wp Tryz.prog _ _ a w → _›) _ _ ?_
    go_wp2_with fail
    refine (CG.out wc b4).mono ?_
    rintro e w5 ⟨p', rfl, g5, hp5, hb5⟩
    have p5 : PRw w5 W.heap.size (pCells hv' p t) := (hb5.block _ hs4).trans p4
    have b5 := bto b4 hb5 b4.size
    have k1 : w5.cell? ⟨W.heap.size, 1, none⟩ = some (.pointer (some ⟨p, 0, none⟩)) := by rw [cell_of_row _ _ _ _ _ _ p5]; rfl
    have f1 : w5.frozen? ⟨W.heap.size, 1, none⟩ = false := by
      have h9 : w5.heap[W.heap.size]? = _ := p5
      simp only [World.frozen?, h9]; rfl
    have FIN : Hid (TmAt (w5.setCell ⟨W.heap.size, 1, none⟩ (.pointer (some ⟨p', 0, none⟩))) W.heap.size p' wc.heap.size hv' t ∧ Held (w5.setCell ⟨W.heap.size, 1, none⟩ (.pointer (some ⟨p', 0, none⟩))) n₀ hv' l ∧ (W.heap.size ≤ W.heap.size ∧ W.heap.size ≤ p' ∧ W.heap.size ≤ wc.heap.size) ∧ (∀ k, hv'.ownBlock = some k → W.heap.size ≤ k) ∧ Below W.heap.size W (w5.setCell ⟨W.heap.size, 1, none⟩ (.pointer (some ⟨p', 0, none⟩)))) := Lib.hid (by
      refine ⟨⟨set_at p5 1 _, g5.only (set_only _ _ _ _) (by simp; omega) (by simp; omega), by omega, by omega⟩, ?_, ⟨Nat.le_refl _, by omega, b4.size⟩, fun k e => (H4.out.type k e).1, b5.trans ((set_only _ _ _ _).below (by simp) b5.size)⟩
      have h5 : Held w5 W.heap.size hv' l := H4.out.keep (Only.of_below hb5 : Only [] wc w5) (fun k _ => by simp)
      exact (h5.keep (set_only _ _ _ _) (fun k e => by simp; rintro rfl; exact hne4 e)).base hn₀)
    clear p5 p4 h4 c1 b5 g5
    go_wp2
    go_ret
    exact ⟨_, p', wc.heap.size, hv', rfl, FIN.out⟩
end Go.Proofs.YtekodpcedjpnjaaGreat
