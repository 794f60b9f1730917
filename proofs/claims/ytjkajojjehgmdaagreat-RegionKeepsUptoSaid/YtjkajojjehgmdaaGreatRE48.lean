/- The law RegionKeeps. No condition but on the lengths of strings. Printed by gen_rk.py. -/
import Derived.Test.YtjkajojjehgmdaaGreatRE41
import Derived.Test.YtjkajojjehgmdaaGreatRE47
set_option linter.unusedVariables false
set_option linter.unusedSimpArgs false
namespace Go.Proofs.YtjkajojjehgmdaaGreat
open Go.RowKit Go.Shelf Go.Maps
set_option maxRecDepth 100000 in
set_option maxHeartbeats 32000000 in
theorem regionKeeps_any {W : World} (w h rows : Nat) (hw : w ≤ 255) (hh : h ≤ 255) (hrw : rows ≤ 255) {fa : Option Addr} {fn fc : Nat} {bs : List UInt8} (hs : HA W (.slice fa fn fc) bs) (hfn : fn ≤ fc ∧ fc ≤ maxLen) {a : Option Addr} {len cap : Nat} (hF : FrsAt W a len cap) :
    Calls Tryz.prog 3 #[.int .u8 w, .int .u8 h, .int .u8 rows, .slice fa fn fc, .slice a len cap] W fun e w' => e = .returned (.bool true) ∧ Below W.heap.size W w' := by
 obtain ⟨A, hA⟩ : ∃ A, A = 1 + w % 60 := ⟨_, rfl⟩
 obtain ⟨B, hB⟩ : ∃ B, B = 1 + h % 30 := ⟨_, rfl⟩
 obtain ⟨N, hN⟩ : ∃ N, N = 1 + rows % 40 := ⟨_, rfl⟩
 have HVA : Hid (Value.int .i64 (1 + (w : Int) % 60) = .int .i64 A) := Lib.hid (by rw [hA]; congr 1)
 have HVB : Hid (Value.int .i64 (1 + (h : Int) % 30) = .int .i64 B) := Lib.hid (by rw [hB]; congr 1)
 have HVN : Hid (Value.int .i64 (1 + (rows : Int) % 40) = .int .i64 N) := Lib.hid (by rw [hN]; congr 1)
 have hA6 : 1 ≤ A ∧ A ≤ 60 := by omega
 have hB3 : 1 ≤ B ∧ B ≤ 30 := by omega
 have hN4 : 1 ≤ N ∧ N ≤ 40 := by omega
 have hHA := Lib.hid hs
 have hbl := hs.len
 obtain ⟨hF1, hF2, hFs⟩ := hF
 have HFS := Lib.hid hFs
 unfold maxLen at hF2 hfn
 clear hA hB hN hs hFs
 go_enter Tryz.func3, Tryz.ntmps3
 go_upto_region 1 with (fail)
 go_cut [11, 12, 13] (fun u v x wx => u = .int .i64 A ∧ v = .int .i64 B ∧ x = .int .i64 N ∧ wx = W)
 case first =>
  go_wp2
  go_meet
  exact ⟨HVA.out, HVB.out, HVN.out, rfl⟩
 case rest =>
  obtain ⟨rfl, rfl, rfl, rfl⟩ := hcut
  have hsd : sideOk (A : Int) (B : Int) = true := decide_eq_true (by omega)
  have CN := Lib.hid (rgnew_ok A B N hsd (by omega) (by omega) wc)
  have K0 : OkR ⟨[], 0, 0, false, A, B, N, 1⟩ := { w := (by show 1 ≤ A ∧ A ≤ 500; omega), h := (by show 1 ≤ B ∧ B ≤ 500; omega), n := (by show 1 ≤ N ∧ N ≤ 60; omega), ph := ⟨(by decide : 1 ≤ 1), (by decide : 1 ≤ 3)⟩, op := fun h => absurd h (by decide : ¬ ((1 : Nat) = 2)), cl := fun _ => ⟨rfl, rfl, rfl, rfl⟩ }
  clear hsd
  go_upto_region 5 with (go_at_call 6; refine CN.out.mono ?_; rintro e w1 ⟨p, rfl, z1, hp, hb1⟩)
  have i1 : RgI w1 p ⟨[], 0, 0, false, A, B, N, 1⟩ := ⟨none, 0, z1, ⟨rfl, fun i M h => by simp at h⟩, Nat.le_refl _, by unfold maxLen; omega⟩
  have hpl := z1.lt
  obtain ⟨km, hkm⟩ : ∃ k, k = min 400 fn := ⟨_, rfl⟩
  have HKM : Hid (min (fn : Int) 400 = (km : Int)) := Lib.hid (by omega)
  have hkf : km ≤ fc := by omega
  have hk4 : km ≤ 400 := by omega
  have hmin := HKM.out
  have CR := rready_any (F := fun g => w1.heap.size ≤ g) (W := w1) (fun g hg => hg) A B (by omega) (HA.take (hHA.out.below hb1) km (by omega)) (by rw [List.length_take]; omega)
  have hR1 := ready_w A B (bs.take km)
  have hR2 := ready_ok (w := A) (h := B) (by omega) (bs.take km)
  obtain ⟨u0, hu0⟩ : ∃ u, u = readyT A B (bs.take km) := ⟨_, rfl⟩
  rw [← hu0] at CR hR1 hR2
  have hD := ready_dims A B (bs.take km) (by rw [List.length_take]; omega)
  rw [← hu0] at hD
  have HD := Lib.hid hD
  have CR := Lib.hid CR
  clear hkm hu0 z1 hD
  go_upto_region 6 with (first
   | (go_at_call 7; refine CR.out.mono ?_; rintro e w2 ⟨a2, c2, bv2, rfl, g2, hv2, hb2⟩; have pn : TBx (w2.alloc (.cells zCells 34)) w2.heap.size zCells := TBx.new _ _)
   | (refine wpList_tstore rfl _ _ rfl w2.heap.size rfl (tCells a2 c2 u0.1 bv2) rfl zCells ?_ rfl rfl (tCells_one _ _ _ hv2.one) ?_; exact pn; intro w3 p3 o3))
  have bz : Below w2.heap.size w2 (w2.alloc (.cells zCells 34)) := (Below.refl _ _).alloc (Nat.le_refl _) _
  have b23 : Below w2.heap.size w2 w3 := bz.trans (o3.below (by simp) bz.size)
  have b2W := bto hb1 hb2 hb1.size
  have b3W := bto b2W b23 b2W.size
  have h12 := hb2.size
  have i3 := (i1.below hb2).below b23
  have g3 := (g2.mono (F' := fun g => w1.heap.size ≤ g ∧ g < w2.heap.size) (fun g hg hlt => ⟨hg, hlt⟩)).below b23
  have hv3 := (hv2.mono (F' := fun g => w1.heap.size ≤ g ∧ g < w2.heap.size) (fun g hg hlt => ⟨hg, hlt⟩)).below b23
  have hT0 := p3.lt
  obtain ⟨hD1, hD2, hD3, hD4⟩ := HD.out
  obtain ⟨x0, hx0⟩ : ∃ x : RSt, x = ⟨[], 0, 0, false, A, B, N, 1⟩ := ⟨_, rfl⟩
  rw [← hx0] at i1 i3 K0
  have hph1 : x0.ph = 1 := by rw [hx0]
  have hxw : x0.w = A := by rw [hx0]
  have hxh : x0.h = B := by rw [hx0]
  obtain ⟨hs1, Post, hs2, hs3, hs4, hs5⟩ := bnd_start K0 hph1 hR2 (hD1.trans hxw.symm) (hD2.trans hxh.symm)
  have CS := Lib.hid (gstart_ok i3 K0 hph1)
  have hsl := startB_len K0.rows.2.1
  obtain ⟨sb, hsb⟩ : ∃ t, t = startB x0.rows := ⟨_, rfl⟩
  rw [← hsb] at CS hs1 hs2 hs3 hs4 hs5 hsl
  clear i1 CR hsb
  go_upto_region 9 with (go_at_call 8; refine CS.out.mono ?_; rintro e w4 ⟨rfl, o4, i4⟩)
  have hpT0 : p ≠ w2.heap.size := by omega
  have p4 : TBx w4 w2.heap.size (tCells a2 c2 u0.1 bv2) := p3.only o4 (by simpa using hpT0.symm)
  have b4W := b3W.trans (o4.below (by simpa using hp) b3W.size)
  have g4 := g3.keep o4.size (fun g hg hlt => o4.block g hlt (by have := hg.1; simp; omega))
  have hv4 := hv3.keep o4.size (fun g hg hlt => o4.block g hlt (by have := hg.1; simp; omega))
  obtain ⟨k1, W1, hcv1, hcb1, hha1⟩ := bytes_conv3 w4 sb (by unfold maxLen; omega)
  have CW := rwrite_any (W := W1) (F := fun g => w1.heap.size ≤ g) (l := []) (fun g hg => by have := hcb1.size; have := o4.size; omega) (by have := (hv4.mono (F' := fun g => w1.heap.size ≤ g) (fun g hg _ => hg.1)).below hcb1; rw [hR1] at this; exact this) hha1 hR2 (by simp; omega) (by omega) (by omega) ((g4.mono (F' := fun g => w1.heap.size ≤ g) (fun g hg _ => hg.1)).below hcb1)
  rw [List.nil_append] at CW
  obtain ⟨y1, hy1⟩ : ∃ y, y = runT u0.1 sb := ⟨_, rfl⟩
  rw [← hy1] at CW hs1 hs2 hs3 hs4 hs5
  have CW := Lib.hid CW
  have p4' := p4.below hcb1
  have i4' := i4.below hcb1
  have bW1 := bto b4W hcb1 b4W.size
  clear hy1
  go_upto_region 10 with (first
   | (refine wpList_tload rfl _ rfl w2.heap.size rfl (tCells a2 c2 u0.1 bv2) ?_ rfl ?_; exact p4)
   | (go_at_call 9; refine CW.out.mono ?_; rintro e w5 ⟨a5, c5, bv5, rfl, g5, hv5, hb5⟩; have pn5 : TBx (w5.alloc (.cells zCells 34)) w5.heap.size zCells := TBx.new _ _)
   | (refine wpList_tstore rfl _ _ rfl w5.heap.size rfl (tCells a5 c5 y1.1 bv5) rfl zCells ?_ rfl rfl (tCells_one _ _ _ hv5.one) ?_; exact pn5; intro w6 p6 o6))
  have bz5 : Below w5.heap.size w5 (w5.alloc (.cells zCells 34)) := (Below.refl _ _).alloc (Nat.le_refl _) _
  have b56 : Below w5.heap.size w5 w6 := bz5.trans (o6.below (by simp) bz5.size)
  have b5W := bto bW1 hb5 bW1.size
  have b6W := bto b5W b56 b5W.size
  obtain ⟨T1, hT1⟩ : ∃ T, T = w5.heap.size := ⟨_, rfl⟩
  rw [← hT1] at p6 ⊢
  rw [hs1] at hv5
  have hsz5 : w4.heap.size ≤ w5.heap.size := by have := hcb1.size; have := hb5.size; omega
  have h24 : w2.heap.size < w4.heap.size := by have := o4.size; omega
  have hT01 : w2.heap.size ≠ T1 := by omega
  have hpT1 : p ≠ T1 := by omega
  have q6 : TBx w6 w2.heap.size (tCells a2 c2 u0.1 bv2) := (p4'.below hb5).below b56
  have g6 : RG (fun g => g ≠ T1 ∧ g ≠ p) w6 a2 c2 u0.1.W u0.1.H u0.1.R := (((g4.mono (F' := fun g => g ≠ T1 ∧ g ≠ p) (fun g hg _ => by omega)).below hcb1).below hb5).below b56
  have tm6 : TmK p T1 w6 y1.1 := ⟨a5, c5, bv5, p6, (g5.mono (F' := fun g => g ≠ T1 ∧ g ≠ p) (fun g hg hlt => by omega)).below b56, (hv5.mono (F' := fun g => g ≠ T1 ∧ g ≠ p) (fun g hg hlt => by omega)).below b56⟩
  have r6 : RgF (fun g => g ≠ T1) w6 p x0.blank := by
   obtain ⟨av, cp, z, hA, hc⟩ := i4
   have hne : ∀ M ∈ x0.blank.A, M ≠ [] := blankM_ne (by omega)
   exact RgF.below (F := fun g => g ≠ T1) (W := w4) (b := p) (x := x0.blank) ⟨av, cp, z, (hA.toF hne).mono (F' := fun g => g ≠ T1) (fun g hg _ => by omega), hc⟩ (bto (bto hcb1 hb5 hcb1.size) b56 (by omega))
  obtain ⟨Pre, hPre⟩ : ∃ P, P = (u0.1.R.take u0.1.row).drop (u0.1.row + x0.rows - u0.1.H) := ⟨_, rfl⟩
  rw [← hPre] at hs2
  have HPRE := Lib.hid hPre
  have KB := K0.blank
  have HS3 := Lib.hid hs3
  have hgy : y1.1.gone ≤ 2000100 := by have := K0.rows.2.1; have := hR2.row; omega
  have hbe : y1.1.bells ≤ 2000000 := by omega
  have hyH : y1.1.H = B := hs4.trans hD2
  have HCS := Lib.hid (And.intro hR2 (And.intro hD1 (And.intro hD2 hD3)))
  have HK0 := Lib.hid K0
  have HXF := Lib.hid (And.intro hph1 (And.intro hxw hxh))
  have hWw6 := b6W.size
  have hWp : wc.heap.size ≤ p := hp
  have hWT0 : wc.heap.size ≤ w2.heap.size := b2W.size
  have hWT1 : wc.heap.size ≤ T1 := by omega
  have HT1 := Lib.hid hT1
  clear hT1 CN CS CW hPre hs1 hs3 hs4 hs5 hv5 g5 hR1 hR2 hD1 hD2 hD3 hD4 hx0 hph1 hxw hxh g3 hv3 g4 hv4 i3 i4 i4' p3 p4 p4' p6 pn pn5 g2 hv2 hsl K0
  go_wp2
  go_loopw [17, 20] (fun v iv wr => ∃ (j : Nat) (x : RSt) (T : TS), j ≤ len ∧ j ≤ 8 ∧ iv = .int .i64 j ∧ TBx wr w2.heap.size (tCells a2 c2 u0.1 bv2) ∧ RG (fun g => g ≠ T1 ∧ g ≠ p) wr a2 c2 u0.1.W u0.1.H u0.1.R ∧ TmK p T1 wr T ∧ RgF (fun g => g ≠ T1) wr p x ∧ OkR x ∧ x.ph = 2 ∧ x.w = A ∧ Bnd x Pre Post T ∧ T.gone = y1.1.gone ∧ T.H = B ∧ T.bells ≤ 2000000 ∧ Below wc.heap.size wc wr ∧ T1 < wr.heap.size) (fun _ iv _ => 8 - (intOf iv).toNat)
  case atStart => exact ⟨0, x0.blank, y1.1, Nat.zero_le _, Nat.zero_le _, rfl, q6, g6, tm6, r6, KB, rfl, HXF.out.2.1, hs2, rfl, hyH, hbe, b6W, by have := tm6.ex; obtain ⟨_, _, _, h, _⟩ := this; exact h.lt⟩
  case round =>
   obtain ⟨j, x, T, hj, hj8, rfl, q, g0, tm, rg, kx, hph, hxA, bnd, hgone, hTH, hbel, hb, hT1l⟩ := hrel
   go_upto_region 11 with (fail)
   go_cut [74] (fun u wx => u = .bool (decide (j < len ∧ j < 8)) ∧ wr = wx)
   case first =>
    by_cases h1 : (j : Int) < (len : Int)
    ·by_cases h2 : (j : Int) < 8
     ·have e : decide (j < len ∧ j < 8) = true := decide_eq_true (by omega)
      go_wp2
      go_meet
      exact ⟨by rw [e], rfl⟩
     ·have e : decide (j < len ∧ j < 8) = false := decide_eq_false (by omega)
      go_wp2
      go_meet
      exact ⟨by rw [e], rfl⟩
    ·have e : decide (j < len ∧ j < 8) = false := decide_eq_false (by omega)
     go_wp2
     go_meet
     exact ⟨by rw [e], rfl⟩
   case rest =>
   obtain ⟨hu, hwx⟩ := hcut
   subst hwx
   by_cases hlt : j < len ∧ j < 8
   ·rw [decide_eq_true hlt] at hu
    subst hu
    obtain ⟨hlt, hlt8⟩ := hlt
    have hji : (j : Int) < (len : Int) := by omega
    have hj3 : (j : Int) < 8 := by omega
    obtain ⟨g, off, xa, xn, xc, r, c, s, BB, rfl, hg, hro, hRB, ⟨hxc1, hxc2⟩, hsB⟩ := HFS.out j hlt
    have hro1 : wr.rangeAt g (off + j * 4) [.slice xa xn xc, .int .i64 r, .int .i64 c, .bool s] := fun i v hv => (hb.cell (p := ⟨g, _, none⟩) hg).trans (hro i v hv)
    have CFr := Lib.hid (frame11_any (hRB.below hb) hxc1 hxc2 r c s)
    have CDr := Lib.hid (fun (Z : World) (hZ : Below wr.heap.size wr Z) (a1 : Option Addr) (c1 : Nat) (hRR : RowsF (fun b => wr.heap.size ≤ b) Z a1 (frG BB).length (frG BB)) => drawK (F := fun g => g ≠ T1) (W := Z) (cap := c1) (fun g hg => by have := hZ.size; omega) (rg.below hZ) kx hRR.at (by have := frG_len BB; unfold maxLen; omega) (fun M hM c hc => by
     unfold frG at hM
     obtain ⟨N', hN', rfl⟩ := List.mem_map.1 hM
     exact hsB N' (List.mem_of_mem_take hN') c (List.mem_of_mem_take hc)) r c s)
    obtain ⟨e1, e2, e3, e4, e5⟩ := bnd.draw kx hph (frG BB) r c s
    have hyl := drawF_len kx (frG BB) r c s
    have hyp : (drawF x (frG BB) r c s).2.2.ph = 2 ∧ (drawF x (frG BB) r c s).2.2.w = A := by
     unfold drawF
     rw [if_pos hph]
     split
     ·exact ⟨hph, hxA⟩
     ·exact ⟨hph, hxA⟩
    obtain ⟨y, hy⟩ : ∃ y, y = drawF x (frG BB) r c s := ⟨_, rfl⟩
    simp only [← hy] at CDr e1 e2 e3 e4 e5 hyl hyp
    obtain ⟨tT, hT⟩ : ∃ t, t = runT T y.1 := ⟨_, rfl⟩
    rw [← hT] at e1 e2 e3 e4 e5
    have HT := Lib.hid hT
    clear hy hro hT
    go_upto_region 14 with (first
     | (refine wpList_load_mid rfl _ _ rfl g _ rfl [.slice xa xn xc, .int .i64 r, .int .i64 c, .bool s] _ hro1 Tryz.underlying42 rfl (by kernel_rfl) ?_)
     | (go_at_call 11; refine CFr.out.mono ?_; rintro e w7 ⟨a7, c7, rfl, hR7, hc7, hb7⟩)
     | (go_at_call 10; refine (CDr.out _ hb7 _ _ hR7).mono ?_; rintro e w8 ⟨rfl, o8, rg8, kx8⟩))
    have hT1p : T1 ≠ p := by omega
    have tm8 := (tm.below hb7).only o8 hT1p
    have q8 : TBx w8 w2.heap.size (tCells a2 c2 u0.1 bv2) := (q.below hb7).only o8 (by simp; omega)
    have g8 := (g0.below hb7).keep o8.size (fun g hg hlt => o8.block g hlt (by simpa using hg.2))
    have hb8 : Below wc.heap.size wc w8 := (bto hb hb7 hb.size).trans (o8.below (by simpa using hWp) (bto hb hb7 hb.size).size)
    obtain ⟨ta, tc, tbv, tb1, tb2, tb3⟩ := tm8.ex
    obtain ⟨k2, W2, hcv2, hcb2, hha2⟩ := bytes_conv3 w8 y.1 (by unfold maxLen; omega)
    have CW2 := rwrite_any (W := W2) (F := fun g => g ≠ T1 ∧ g ≠ p) (l := []) (fun g hg => by have := hcb2.size; have := o8.size; have := hb7.size; have := rg.lt; omega) (tb3.below hcb2) hha2 bnd.k (by simp; omega) (by omega) (by omega) (tb2.below hcb2)
    rw [List.nil_append, ← HT.out] at CW2
    have CW2 := Lib.hid CW2
    have tb1' := tb1.below hcb2
    have bW2 := bto hb8 hcb2 hb8.size
    go_wp2_with (first
     | (refine wpList_tload rfl _ rfl T1 rfl (tCells ta tc T tbv) ?_ rfl ?_; exact tb1)
     | (go_at_call 9; refine CW2.out.mono ?_; rintro e w9 ⟨a9, c9, bv9, rfl, g9, hv9, hb9⟩; have p9 := tb1'.below hb9)
     | (refine wpList_tstore rfl _ _ rfl T1 rfl (tCells a9 c9 tT.1 bv9) rfl (tCells ta tc T tbv) ?_ rfl rfl (tCells_one _ _ _ hv9.one) ?_; exact p9; intro w10 p10 o10))
    rw [e1] at hv9
    have b9W := bto bW2 hb9 bW2.size
    have b89 := bto hcb2 hb9 hcb2.size
    go_roundw
    case rel => exact ⟨j + 1, y.2.2, tT.1, hlt, hlt8, by go_num, ((q8.below b89).only o10 (by simpa using hT01)), ((g8.below b89).keep o10.size (fun g hg hlt => o10.block g hlt (by simpa using hg.1))), ⟨a9, c9, bv9, p10, g9.keep o10.size (fun g hg hlt => o10.block g hlt (by simpa using hg.1)), hv9.keep o10.size (fun g hg hlt => o10.block g hlt (by simpa using hg.1))⟩, (rg8.below b89).only o10 hpT1 (fun g hg => hg), kx8, hyp.1, hyp.2, e2, e3.trans hgone, e4.trans hTH, by rw [e5]; exact hbel, b9W.trans (o10.below (by simpa using hWT1) b9W.size), by have := b89.size; have := o10.size; have := o8.size; have := hb7.size; omega⟩
    case measure => simp [intOf]; omega
   ·rw [decide_eq_false hlt] at hu
    subst hu
    have CE := gend_ok (cap := 0) rg.rgi kx hph (StrsAt.nil wr none) kx.rows.1 (fun l hl => by cases hl)
    rw [show ([] : List (List UInt8)).map (clsF x.w) = [] from rfl] at CE
    obtain ⟨e1, e2, e3, e4, e5, e6⟩ := bnd_end kx hph bnd
    have hel := endedB_len x.r.toNat
    obtain ⟨eb, heb⟩ : ∃ t, t = endedB x.r.toNat [] := ⟨_, rfl⟩
    rw [← heb] at CE e1 e2 e3 e4 e5 e6 hel
    obtain ⟨tT, hT⟩ : ∃ t, t = runT T eb := ⟨_, rfl⟩
    rw [← hT] at e1 e2 e3 e4 e5 e6
    have HT := Lib.hid hT
    have CE := Lib.hid CE
    have hT1p : T1 ≠ p := by omega
    have hTok : TOk tT.1 := by rw [hT]; exact bnd.k.run eb
    have HTOK := Lib.hid hTok
    clear heb hT hlt hj8 hTok
    go_upto_region 16 with (go_at_call 12; refine CE.out.mono ?_; rintro e w8 ⟨rfl, o8, _⟩)
    have tm8 := tm.only o8 hT1p
    have q8 : TBx w8 w2.heap.size (tCells a2 c2 u0.1 bv2) := q.only o8 (by simp; omega)
    have g8 := g0.keep o8.size (fun g hg hlt => o8.block g hlt (by simpa using hg.2))
    have hb8 : Below wc.heap.size wc w8 := hb.trans (o8.below (by simpa using hWp) hb.size)
    obtain ⟨ta, tc, tbv, tb1, tb2, tb3⟩ := tm8.ex
    obtain ⟨k2, W2, hcv2, hcb2, hha2⟩ := bytes_conv3 w8 eb (by unfold maxLen; omega)
    have CW2 := rwrite_any (W := W2) (F := fun g => g ≠ T1 ∧ g ≠ p) (l := []) (fun g hg => by have := hcb2.size; have := o8.size; have := rg.lt; omega) (tb3.below hcb2) hha2 bnd.k (by simp; omega) (by omega) (by omega) (tb2.below hcb2)
    rw [List.nil_append, ← HT.out] at CW2
    have CW2 := Lib.hid CW2
    have tb1' := tb1.below hcb2
    have bW2 := bto hb8 hcb2 hb8.size
    go_upto_region 17 with (first
     | (refine wpList_tload rfl _ rfl T1 rfl (tCells ta tc T tbv) ?_ rfl ?_; exact tb1)
     | (go_at_call 9; refine CW2.out.mono ?_; rintro e w9 ⟨a9, c9, bv9, rfl, g9, hv9, hb9⟩; have p9 := tb1'.below hb9)
     | (refine wpList_tstore rfl _ _ rfl T1 rfl (tCells a9 c9 tT.1 bv9) rfl (tCells ta tc T tbv) ?_ rfl rfl (tCells_one _ _ _ hv9.one) ?_; exact p9; intro w10 p10 o10))
    have b9W := bto bW2 hb9 bW2.size
    have b89 := bto hcb2 hb9 hcb2.size
    have q10 := (q8.below b89).only o10 (by simpa using hT01)
    have g10 := (g8.below b89).keep o10.size (fun g hg hlt => o10.block g hlt (by simpa using hg.1))
    have tg10 := g9.keep o10.size (fun g hg hlt => o10.block g hlt (by simpa using hg.1))
    have b10W : Below wc.heap.size wc w10 := b9W.trans (o10.below (by simpa using hWT1) b9W.size)
    obtain ⟨f1, f2, f3, f4⟩ := HCS.out
    have hkr := HK0.out.rows
    have hkh : x0.rows ≤ B := by have := HXF.out.2.2; unfold RSt.rows; omega
    have hu0r := f1.row
    obtain ⟨GG, hGG⟩ : ∃ n, n = u0.1.row + x0.rows - u0.1.H := ⟨_, rfl⟩
    have hPl : Pre.length + GG = u0.1.row := by
     have h1 := HPRE.out
     rw [← hGG] at h1
     rw [h1, List.length_drop, take_len f1 hu0r]
     omega
    have hGa : tT.1.gone = u0.1.gone + GG := by rw [e4, hgone, HS3.out, hGG]
    have hRowEq : ∀ i, i < Pre.length → nth [] Pre i = nth [] u0.1.R (i + GG) := fun i hi => by
     have h1 := HPRE.out
     rw [← hGG] at h1
     rw [h1]
     unfold nth
     rw [List.getD_eq_getElem?_getD, List.getD_eq_getElem?_getD, List.getElem?_drop, List.getElem?_take, if_pos (by omega), Nat.add_comm]
    obtain ⟨s0, s1, s2, s3, _, _, _, _, _, _, _, _, _, _, s14, _⟩ := p10.tc
    obtain ⟨r0, r1, r2, r3, _, _, _, _, _, _, _, _, _, _, r14, _⟩ := q10.tc
    rw [e6, hxA] at s0
    rw [e5, hTH] at s1 s2
    rw [e3] at s3
    rw [f2] at r0
    rw [f3] at r1 r2
    rw [e6, hxA, e5, hTH] at tg10
    rw [f2, f3] at g10
    obtain ⟨G1, hG1⟩ : ∃ n, n = tT.1.gone := ⟨_, rfl⟩
    obtain ⟨G0, hG0⟩ : ∃ n, n = u0.1.gone := ⟨_, rfl⟩
    obtain ⟨R1, hR1⟩ : ∃ n, n = Pre.length := ⟨_, rfl⟩
    obtain ⟨R0, hR0⟩ : ∃ n, n = u0.1.row := ⟨_, rfl⟩
    rw [← hG1] at s14 hGa
    rw [← hG0] at r14 hGa
    rw [← hR1] at s3 hPl
    rw [← hR0] at r3 hPl
    have hsub : (G1 : Int) - (G0 : Int) = (GG : Int) := by omega
    have hrs : (R1 : Int) + (GG : Int) = (R0 : Int) := by omega
    have hR0B : R0 < B := by omega
    have hG1b : G1 ≤ 4000000 := by omega
    have hG0b : G0 ≤ 4000000 := by omega
    have HR := Lib.hid e2
    have hTB : T.H = B := hTH
    have HRT := Lib.hid hRowEq
    have HR1 := Lib.hid hR1
    have HC1 := Lib.hid (fun (Y : World) (hY : Below w10.heap.size w10 Y) => (⟨(hY.cell (p := ⟨T1, 0, none⟩) p10.lt).trans s0, (hY.cell (p := ⟨T1, 1, none⟩) p10.lt).trans s1, (hY.cell (p := ⟨T1, 2, none⟩) p10.lt).trans s2, (hY.cell (p := ⟨T1, 3, none⟩) p10.lt).trans s3⟩ : Y.cell? ⟨T1, 0, none⟩ = some (.int .i64 A) ∧ Y.cell? ⟨T1, 1, none⟩ = some (.int .i64 B) ∧ Y.cell? ⟨T1, 2, none⟩ = some (.slice a9 B c9) ∧ Y.cell? ⟨T1, 3, none⟩ = some (.int .i64 R1)))
    have HC0 := Lib.hid (fun (Y : World) (hY : Below w10.heap.size w10 Y) => (⟨(hY.cell (p := ⟨w2.heap.size, 0, none⟩) q10.lt).trans r0, (hY.cell (p := ⟨w2.heap.size, 1, none⟩) q10.lt).trans r1, (hY.cell (p := ⟨w2.heap.size, 2, none⟩) q10.lt).trans r2⟩ : Y.cell? ⟨w2.heap.size, 0, none⟩ = some (.int .i64 A) ∧ Y.cell? ⟨w2.heap.size, 1, none⟩ = some (.int .i64 B) ∧ Y.cell? ⟨w2.heap.size, 2, none⟩ = some (.slice a2 B c2)))
    clear hGG hPl hGa hRowEq hG1 hG0 hR1 hR0 e2 e3 e4 e5 e6 f1 f2 f3 f4 hu0r
    go_wp2
    try clear hHA
    try clear HFS
    try clear hbl
    try clear hF1
    try clear hF2
    try clear hfn
    try clear hw
    try clear hh
    try clear hrw
    try clear HVA
    try clear HVB
    try clear HVN
    try clear HD
    try clear KB
    try clear HK0
    try clear HXF
    try clear HCS
    try clear HS3
    try clear HPRE
    try clear hbe
    try clear hyH
    try clear hgy
    try clear r6
    try clear tm6
    try clear g6
    try clear q6
    try clear hs2
    try clear b6W
    try clear b5W
    try clear b56
    try clear bz5
    try clear bW1
    try clear hcb1
    try clear hha1
    try clear hcv1
    try clear b4W
    try clear o4
    try clear b3W
    try clear b2W
    try clear b23
    try clear bz
    try clear hb1
    try clear hb2
    try clear hb5
    try clear h12
    try clear hT0
    try clear hsz5
    try clear h24
    try clear hWw6
    try clear hWp
    try clear hWT0
    try clear hWT1
    try clear hpT0
    try clear hpT1
    try clear hT01
    try clear hT1p
    try clear HT1
    try clear o3
    try clear o6
    try clear rg
    try clear kx
    try clear hph
    try clear hxA
    try clear bnd
    try clear hgone
    try clear hTH
    try clear hbel
    try clear hb
    try clear q
    try clear g0
    try clear tm
    try clear CE
    try clear HT
    try clear tm8
    try clear q8
    try clear g8
    try clear hb8
    try clear tb1
    try clear tb2
    try clear tb3
    try clear hcv2
    try clear hcb2
    try clear hha2
    try clear CW2
    try clear tb1'
    try clear bW2
    try clear b9W
    try clear b89
    try clear p9
    try clear g9
    try clear hv9
    try clear hb9
    try clear o8
    try clear o10
    try clear p10
    try clear q10
    try clear s0
    try clear s1
    try clear s2
    try clear s3
    try clear s14
    try clear r0
    try clear r1
    try clear r2
    try clear r3
    try clear r14
    try clear hkr
    try clear hkh
    try clear hT1l
    try clear hel
    try clear hj
    try clear hpl
    try clear HKM
    try clear hmin
    try clear hk4
    try clear hkf
    try clear hG1b
    try clear hG0b
    try clear hni
    try clear hji
    go_loopw [22] (fun iv wi => ∃ i : Nat, i ≤ B ∧ iv = .int .i64 i ∧ Below w10.heap.size w10 wi) (fun iv _ => B - (intOf iv).toNat)
    case atStart => exact ⟨0, Nat.zero_le _, rfl, Below.refl _ _⟩
    case round =>
     obtain ⟨i, hi, rfl, hbi⟩ := hrel
     obtain ⟨wi, hwi⟩ : ∃ x, x = wr := ⟨_, rfl⟩
     subst hwi
     obtain ⟨s0, s1, s2, s3⟩ := HC1.out _ hbi
     by_cases hiB : i < B
     ·have hiBi : (i : Int) < (B : Int) := by omega
      by_cases hiR : i < R1
      ·have hiRi : (i : Int) < (R1 : Int) := by omega
       have hnge : ¬ (R1 : Int) ≤ (i : Int) := by omega
       have hdg : decide ((R1 : Int) ≤ (i : Int)) = false := decide_eq_false hnge
       have CC1 := Lib.hid (fun (Y : World) (hY : Below wi.heap.size wi Y) => rcells_ok (tg10.below (bto hbi hY hbi.size)) (i : Int) (by omega) (by omega))
       have CC0 := Lib.hid (fun (Y : World) (hY : Below wi.heap.size wi Y) => rcells_ok (g10.below (bto hbi hY hbi.size)) ((i : Int) + (GG : Int)) (by omega) (by omega))
       have HEQ : Hid (nth [] tT.1.R ((i : Int)).toNat = nth [] u0.1.R ((i : Int) + (GG : Int)).toNat) := Lib.hid (by
        have h1 := HRT.out i (by have := HR1.out; omega)
        rw [show ((i : Int)).toNat = i by omega, show ((i : Int) + (GG : Int)).toNat = i + GG by omega, ← h1, HR.out]
        unfold nth
        rw [List.getD_eq_getElem?_getD, List.getD_eq_getElem?_getD, List.getElem?_append_left (by have := HR1.out; omega)])
       have hwr : IntKind.i64.wrap ((i : Int) + (GG : Int)) = (i : Int) + (GG : Int) := IntWalk.i64_in _ (by omega)
       go_upto_region 23 with (fail)
       refine wp_region_mix2 [(true, 0), (true, 1), (true, 2), (true, 3), (true, 4), (true, 5), (true, 6), (true, 7), (true, 9), (true, 10), (true, 11), (true, 12), (true, 13), (false, 8), (false, 14), (false, 15), (true, 16), (true, 17), (true, 18), (true, 19), (true, 20), (true, 21), (true, 22), (true, 23), (true, 24), (true, 25), (true, 26), (false, 27), (true, 28), (true, 29), (true, 30)] (fun Y => Below wi.heap.size wi Y) (by kernel_rfl) (by kernel_rfl) (by rfl) (by kernel_rfl) (by kernel_rfl) (fun _ _ d _ _ h => by cases d <;> exact h) ((Below.refl _ _).drew) ?_
       simp only [mixL, List.getElem?_cons_succ, List.getElem?_cons_zero]
       obtain ⟨q0, hq0⟩ : ∃ q, wi.drew = q := ⟨_, rfl⟩
       have Bq0 : Below wi.heap.size wi q0 := by rw [← hq0]; exact (Below.refl _ _).drew
       rw [hq0]
       clear hq0
       iterate 12 (first | (refine wpMix2_skip rfl ?_; try simp only [Act.put, List.setIfInBounds_toArray, List.set_cons_zero, List.set_cons_succ]) | (refine' wpMix2_read (v := _) rfl ?_ ?_; rotate_left 1; (intro w' hw'; obtain ⟨a0, a1, a2', a3⟩ := HC1.out w' (bto hbi hw' hbi.size); obtain ⟨b0, b1', b2'⟩ := HC0.out w' (bto hbi hw' hbi.size); go_simp; try with_reducible rfl); try simp only [Act.put, List.setIfInBounds_toArray, List.set_cons_zero, List.set_cons_succ]))
       refine' wpMix2_read (v := .int .i64 ((i : Int) + (GG : Int))) rfl ?_ ?_
       ·intro w' hw'; go_simp; first | done | (rw [hwr]) | (simp [hwr]) | trace_state
       try simp only [Act.put, List.setIfInBounds_toArray, List.set_cons_zero, List.set_cons_succ]
       refine wpMix2_act (fun K hK => ?_)
       go_wp2_with fail
       refine (CC1.out _ Bq0).mono ?_
       rintro e q1 ⟨ca, cc, rfl, hM1, _, hq1⟩
       have Bq1 : Below wi.heap.size wi q1 := bto Bq0 hq1 Bq0.size
       go_wp2
       refine hK _ _ Bq1 ?_
       clear hK K
       refine wpMix2_act (fun K hK => ?_)
       go_wp2_with fail
       refine (CC0.out _ Bq1).mono ?_
       rintro e q2 ⟨da, dc, rfl, hM2, _, hq2⟩
       have Bq2 : Below wi.heap.size wi q2 := bto Bq1 hq2 Bq1.size
       go_wp2
       refine hK _ _ Bq2 ?_
       clear hK K
       have CSm := Lib.hid (by
        have h := sameCells_any (W := q2) (c1 := cc) (c2 := dc) (hM1.below hq2) hM2 (by omega) (by omega)
        rw [HEQ.out, eqL_self] at h
        exact h)
       refine wpMix2_act (fun K hK => ?_)
       go_wp2_with fail
       refine (CSm.out).mono ?_
       rintro e q3 ⟨rfl, hq3⟩
       have Bq3 : Below wi.heap.size wi q3 := bto Bq2 hq3 Bq2.size
       go_wp2
       refine hK _ _ Bq3 ?_
       clear hK K
       iterate 6 (first | (refine wpMix2_skip rfl ?_; try simp only [Act.put, List.setIfInBounds_toArray, List.set_cons_zero, List.set_cons_succ]) | (refine' wpMix2_read (v := _) rfl ?_ ?_; rotate_left 1; (intro w' hw'; obtain ⟨a0, a1, a2', a3⟩ := HC1.out w' (bto hbi hw' hbi.size); obtain ⟨b0, b1', b2'⟩ := HC0.out w' (bto hbi hw' hbi.size); go_simp; try with_reducible rfl); try simp only [Act.put, List.setIfInBounds_toArray, List.set_cons_zero, List.set_cons_succ]))
       refine' wpMix2_read (v := .bool false) rfl ?_ ?_
       ·intro w' hw'; go_simp; first | done | (rw [hdg]) | (simp [hdg]) | (simp; omega) | trace_state
       try simp only [Act.put, List.setIfInBounds_toArray, List.set_cons_zero, List.set_cons_succ]
       iterate 4 (first | (refine wpMix2_skip rfl ?_; try simp only [Act.put, List.setIfInBounds_toArray, List.set_cons_zero, List.set_cons_succ]) | (refine' wpMix2_read (v := _) rfl ?_ ?_; rotate_left 1; (intro w' hw'; obtain ⟨a0, a1, a2', a3⟩ := HC1.out w' (bto hbi hw' hbi.size); obtain ⟨b0, b1', b2'⟩ := HC0.out w' (bto hbi hw' hbi.size); go_simp; try with_reducible rfl); try simp only [Act.put, List.setIfInBounds_toArray, List.set_cons_zero, List.set_cons_succ]))
       refine wpMix2_act (fun K hK => ?_)
       go_wp2
       refine hK _ _ Bq3 ?_
       clear hK K
       iterate 3 (first | (refine wpMix2_skip rfl ?_; try simp only [Act.put, List.setIfInBounds_toArray, List.set_cons_zero, List.set_cons_succ]) | (refine' wpMix2_read (v := _) rfl ?_ ?_; rotate_left 1; (intro w' hw'; obtain ⟨a0, a1, a2', a3⟩ := HC1.out w' (bto hbi hw' hbi.size); obtain ⟨b0, b1', b2'⟩ := HC0.out w' (bto hbi hw' hbi.size); go_simp; try with_reducible rfl); try simp only [Act.put, List.setIfInBounds_toArray, List.set_cons_zero, List.set_cons_succ]))
       refine wpMix2_nil ?_
       go_wp2
       go_roundw
       case rel => exact ⟨i + 1, hiB, by go_num, bto hbi Bq3 hbi.size⟩
       case measure => simp [intOf]; omega
      ·have hiRi : ¬ (i : Int) < (R1 : Int) := by omega
       have hge : (R1 : Int) ≤ (i : Int) := by omega
       have HTX : Hid (S (trimL (textL (nth [] tT.1.R ((i : Int)).toNat))) = (⟨#[]⟩ : ByteArray)) := Lib.hid (by
        have h1 := HR1.out
        have e : nth [] tT.1.R ((i : Int)).toNat = blR x.w := by
         rw [show ((i : Int)).toNat = i by omega, HR.out]
         unfold nth
         rw [List.getD_eq_getElem?_getD, List.getElem?_append_right (by omega), List.getElem?_replicate, if_pos (by omega)]
         rfl
        rw [e, trim_blank]
        rfl)
       have CT1 := Lib.hid (fun (Y : World) (hY : Below wi.heap.size wi Y) => (by
        have h := rtext_ok (tg10.below (bto hbi hY hbi.size)) HTOK.out.ro (by omega) (i : Int) (by omega) (by omega)
        rw [HTX.out] at h
        exact h : Calls Tryz.prog 15 #[.agg #[.int .i64 A, .int .i64 B, .slice a9 B c9], .int .i64 i] Y fun e w' => e = .returned (.string ⟨#[]⟩) ∧ Below Y.heap.size Y w'))
       go_upto_region 23 with (fail)
       refine wp_region_mix2 [(true, 0), (true, 1), (true, 2), (true, 3), (true, 4), (true, 5), (true, 6), (true, 7), (true, 9), (true, 10), (true, 11), (true, 12), (true, 13), (false, 8), (false, 14), (false, 15), (true, 16), (true, 17), (true, 18), (true, 19), (true, 20), (true, 21), (true, 22), (true, 23), (true, 24), (true, 25), (true, 26), (false, 27), (true, 28), (true, 29), (true, 30)] (fun Y => Below wi.heap.size wi Y) (by kernel_rfl) (by kernel_rfl) (by rfl) (by kernel_rfl) (by kernel_rfl) (fun _ _ d _ _ h => by cases d <;> exact h) ((Below.refl _ _).drew) ?_
       simp only [mixL, List.getElem?_cons_succ, List.getElem?_cons_zero]
       obtain ⟨q0, hq0⟩ : ∃ q, wi.drew = q := ⟨_, rfl⟩
       have Bq0 : Below wi.heap.size wi q0 := by rw [← hq0]; exact (Below.refl _ _).drew
       rw [hq0]
       clear hq0
       iterate 13 (first | (refine wpMix2_skip rfl ?_; try simp only [Act.put, List.setIfInBounds_toArray, List.set_cons_zero, List.set_cons_succ]) | (refine' wpMix2_read (v := _) rfl ?_ ?_; rotate_left 1; (intro w' hw'; obtain ⟨a0, a1, a2', a3⟩ := HC1.out w' (bto hbi hw' hbi.size); obtain ⟨b0, b1', b2'⟩ := HC0.out w' (bto hbi hw' hbi.size); go_simp; try with_reducible rfl); try simp only [Act.put, List.setIfInBounds_toArray, List.set_cons_zero, List.set_cons_succ]))
       refine wpMix2_act (fun K hK => ?_)
       go_wp2
       refine hK _ _ Bq0 ?_
       clear hK K
       refine wpMix2_act (fun K hK => ?_)
       go_wp2
       refine hK _ _ Bq0 ?_
       clear hK K
       refine wpMix2_act (fun K hK => ?_)
       go_wp2
       refine hK _ _ Bq0 ?_
       clear hK K
       iterate 11 (first | (refine wpMix2_skip rfl ?_; try simp only [Act.put, List.setIfInBounds_toArray, List.set_cons_zero, List.set_cons_succ]) | (refine' wpMix2_read (v := _) rfl ?_ ?_; rotate_left 1; (intro w' hw'; obtain ⟨a0, a1, a2', a3⟩ := HC1.out w' (bto hbi hw' hbi.size); obtain ⟨b0, b1', b2'⟩ := HC0.out w' (bto hbi hw' hbi.size); go_simp; try with_reducible rfl); try simp only [Act.put, List.setIfInBounds_toArray, List.set_cons_zero, List.set_cons_succ]))
       refine wpMix2_act (fun K hK => ?_)
       go_wp2_with fail
       refine (CT1.out _ Bq0).mono ?_
       rintro e q1 ⟨rfl, hq1⟩
       have Bq1 : Below wi.heap.size wi q1 := bto Bq0 hq1 Bq0.size
       go_wp2
       refine hK _ _ Bq1 ?_
       clear hK K
       iterate 3 (first | (refine wpMix2_skip rfl ?_; try simp only [Act.put, List.setIfInBounds_toArray, List.set_cons_zero, List.set_cons_succ]) | (refine' wpMix2_read (v := _) rfl ?_ ?_; rotate_left 1; (intro w' hw'; obtain ⟨a0, a1, a2', a3⟩ := HC1.out w' (bto hbi hw' hbi.size); obtain ⟨b0, b1', b2'⟩ := HC0.out w' (bto hbi hw' hbi.size); go_simp; try with_reducible rfl); try simp only [Act.put, List.setIfInBounds_toArray, List.set_cons_zero, List.set_cons_succ]))
       refine wpMix2_nil ?_
       go_wp2
       go_roundw
       case rel => exact ⟨i + 1, hiB, by go_num, bto hbi Bq1 hbi.size⟩
       case measure => simp [intOf]; omega
     ·obtain rfl : i = B := by omega
      have bfin := bto b10W hbi b10W.size
      go_wp2_with (go_at_call 16; refine (awake11_any _).mono ?_; rintro e w18 ⟨rfl, hb18⟩)
      go_ret
      exact ⟨rfl, bto bfin hb18 bfin.size⟩
end Go.Proofs.YtjkajojjehgmdaaGreat
