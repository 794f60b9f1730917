/- The law TermPlain: the clusters of a text that fits into a row stand in its cells. No condition. -/
import Derived.Test.YtekodpcedjpnjaaTAwake
import Derived.Test.YtekodpcedjpnjaaTermC
import Derived.Test.YtekodpcedjpnjaaRClus3
import Derived.Test.YtekodpcedjpnjaaQuietBelow
namespace Go.Proofs.Ytekodpcedjpnjaa
set_option linter.unusedVariables false
set_option linter.unusedSimpArgs false
open Go.RowKit Go.Shelf Go.Maps
set_option maxRecDepth 100000 in
set_option maxHeartbeats 4000000 in
theorem tcell_any {W : World} {b p q : Nat} {hv : Value} {t : TS} (a : TmAt W b p q hv t) (r c : Nat) (hr : r < t.H) (hc : c < t.W) : Calls Try.prog 31 #[.pointer (some ⟨b, 0, none⟩), .int .i64 (r : Int), .int .i64 (c : Int)] W fun e w' =>
    e = .returned (.tuple #[(nth GC.zero t.R.flatten (t.W * r + c)).v, .bool true]) ∧ Below W.heap.size W w' := by
  have g1 : GBlk (W.alloc (.cells #[.string ⟨#[]⟩, .int .i64 0, .bool false, .bool false, .bool false, .int .i64 0, .int .i64 0] 70)) W.heap.size [GC.zero] := GBlk.made W [GC.zero]
  have b1 : Below W.heap.size W (W.alloc (.cells #[.string ⟨#[]⟩, .int .i64 0, .bool false, .bool false, .bool false, .int .i64 0, .int .i64 0] 70)) := (Below.refl _ _).alloc (Nat.le_refl _) _
  have a1 := a.below b1
  obtain ⟨W1, hW1⟩ : ∃ W1, W.alloc (.cells #[.string ⟨#[]⟩, .int .i64 0, .bool false, .bool false, .bool false, .int .i64 0, .int .i64 0] 70) = W1 := ⟨_, rfl⟩
  rw [hW1] at g1 b1 a1
  have hs : W.heap.size < W1.heap.size := g1.lt
  have HW1 := Lib.hid hW1
  have CM := Lib.hid (tmade_any a1)
  have CG := Lib.hid (cell_ok a1.g (r : Int) (c : Int) (by omega) (by omega) (by omega) (by omega))
  simp only [Int.toNat_natCast] at CG
  obtain ⟨C, hC⟩ : ∃ C, C = nth GC.zero t.R.flatten (t.W * r + c) := ⟨_, rfl⟩
  rw [← hC] at CG ⊢
  obtain ⟨c0, c1, c2, c3, c4, c5, c6, c7, c8, c9, c10, c11, c12, c13, c14, c15, c16, fz⟩ := a1.cells
  clear a a1 hW1 hC
  go_enter Try.func31, Try.ntmps31
  go_upto_region 1 with (fail)
  rw [HW1.out]
  go_wp2_with (first
    | (go_at_call 78; refine (CM.out).mono ?_; rintro e X ⟨rfl, rfl⟩)
    | (refine (CG.out).mono ?_; rintro e X2 ⟨rfl, hb2⟩; have g2 := g1.only (Only.of_below hb2 : Only [] _ _) (by simp))
    | (refine wpList_gstore rfl _ _ rfl W.heap.size _ rfl C rfl _ g2 0 (by omega) (by simp) ?_; intro w3 b3 o3))
  (try simp only [Exit.inBlock, Exit.then])
  refine bodyPost_ret (results_gcell rfl _ _ W.heap.size 70 _ (0, 0) rfl b3 rfl) rfl ?_
  exact ⟨rfl, (b1.trans (hb2.mono (by omega))).trans (o3.below (by simp) (by have := hb2.size; omega))⟩
/-- The cell in which a cluster begins. -/
theorem RowTxt.cell {x : Nat} {C : List (List UInt8)} {t : TS} (r : RowTxt x C t) (hC : ∀ c ∈ C, Clu c) {i : Nat} (hi : i < C.length) : nth GC.zero t.R.flatten (t.W * 0 + (sumC (C.take i)).toNat) = ⟨S (nth [] C i), colsL (nth [] C i), Sy.zero⟩ := by
  have hct : ∀ c ∈ C.take i, Clu c := fun c hc => hC c (List.mem_of_mem_take hc)
  have hl := cellsOf_len Sy.zero (C.take i) hct
  have hx : Clu (nth [] C i) := hC _ (by rw [nth_eq _ _ _ hi]; exact List.getElem_mem hi)
  have hcols := hx.cols
  have hsp : cellsOf Sy.zero C = cellsOf Sy.zero (C.take i) ++ (cellOf Sy.zero (nth [] C i) ++ cellsOf Sy.zero (C.drop (i + 1))) := by
    have : C = C.take i ++ nth [] C i :: C.drop (i + 1) := by rw [nth_eq _ _ _ hi, List.getElem_cons_drop, List.take_append_drop]
    conv => lhs; rw [this]
    simp [cellsOf]
  have hh : ∃ T, cellOf Sy.zero (nth [] C i) = ⟨S (nth [] C i), colsL (nth [] C i), Sy.zero⟩ :: T := by
    unfold cellOf
    split
    · rename_i h2; rw [h2]; exact ⟨_, rfl⟩
    · rename_i h2; rw [show colsL (nth [] C i) = 1 by omega]; exact ⟨_, rfl⟩
  obtain ⟨T, hT⟩ := hh
  rw [r.R, hsp, hT]
  simp only [List.flatten_cons, List.flatten_nil, List.append_nil, List.append_assoc, List.cons_append]
  exact nth_midF _ _ _ _ (by omega)
theorem sumC_in (C : List (List UInt8)) (hC : ∀ c ∈ C, Clu c) {i : Nat} (hi : i < C.length) : sumC (C.take i) + 1 ≤ sumC C ∧ sumC (C.take (i + 1)) = sumC (C.take i) + colsL (nth [] C i) ∧ 0 ≤ sumC (C.take i) := by
  have h1 := sumC_take C i hi
  have h2 : sumC C = sumC (C.take (i + 1)) + sumC (C.drop (i + 1)) := by rw [← sumC_append, List.take_append_drop]
  have h3 := sumC_bd (C.drop (i + 1))
  have h4 := sumC_bd (C.take i)
  have h5 := (hC (nth [] C i) (by rw [nth_eq _ _ _ hi]; exact List.getElem_mem hi)).cols
  omega
theorem fit_le : ∀ (L : List (List UInt8)) (n : Int), sumC (L.take (fitK L n)) ≤ max 0 n
  | [], n => by simp [fitK, sumC]; omega
  | c :: L, n => by
    unfold fitK
    split
    · simp [sumC]; omega
    · rename_i h
      have := fit_le L (n - colsL c)
      have hc := colsL_bd c
      rw [List.take_succ_cons, sumC_cons]
      omega
theorem S_sub (l : List UInt8) (a b : Nat) : (S l).extract a b = S ((l.drop a).take (b - a)) := by
  unfold S
  apply ByteArray.ext
  rw [ByteArray.data_extract]
  apply Array.ext'
  simp [List.extract]
/-- One part in a new block. -/
theorem parts_one {X : World} {b q g : Nat} {s : List UInt8} {n c : Nat} (hB : Bys X g 0 s) (hn : s.length = n) (hb : b < g) (hq : q < g) :
    PartsAt (X.alloc (.cells #[.slice (some ⟨g, 0, none⟩) n c] 67)) b q (.slice none 0 0) (some ⟨X.heap.size, 0, none⟩) 1 [s] := by
  have hno : ∀ k, (Value.slice none 0 0).ownBlock ≠ some k := fun k => by simp [Value.ownBlock]
  have hl := hB.lt
  refine ⟨rfl, fun i z hz => ?_⟩
  match i, hz with
  | 0, hz =>
    simp only [List.getElem?_cons_zero, Option.some.injEq] at hz
    subst hz
    exact ⟨_, _, _, rfl, by simp, ⟨by omega, by omega, hno _⟩, (cell_new_l X _ _).1, .inr ⟨g, 0, n, c, rfl, hn, hB.below ((Below.refl _ _).alloc (Nat.le_refl _) _), ⟨by omega, by omega, hno _⟩⟩⟩
  | i + 1, hz => simp at hz
set_option maxRecDepth 100000 in
set_option maxHeartbeats 8000000 in
theorem termPlain_law (w0 : Int) (s0 : ByteArray) (W : World) (hw0 : (Lit.int .u8 w0).wf = true) (hs0 : s0.size ≤ maxLen) :
    Calls Try.prog 5 #[.int .u8 w0, .string s0] W fun e w' => e = .returned (.bool true) ∧ Below W.heap.size W w' := by
  have hw : 0 ≤ w0 ∧ w0 ≤ 255 := by simpa [Lit.wf, IntKind.min, IntKind.max, IntKind.signed, IntKind.bits] using hw0
  obtain ⟨wn, rfl⟩ := Int.eq_ofNat_of_zero_le hw.1
  obtain ⟨l, rfl⟩ := S_back s0
  rw [S_size] at hs0
  unfold maxLen at hs0
  have hs := S_size l
  obtain ⟨k, hk⟩ : ∃ k, k = min l.length 300 := ⟨_, rfl⟩
  have hmin : min (l.length : Int) 300 = (k : Int) := by omega
  have hkl : k ≤ l.length := by omega
  have hext : (S l).extract 0 k = S (l.take 300) := by
    rw [S_sub, List.drop_zero, Nat.sub_zero]
    congr 1
    rcases Nat.le_total l.length 300 with h | h
    · rw [List.take_of_length_le (by omega), List.take_of_length_le h]
    · rw [show k = 300 by omega]
  have hki : (k : Int) ≤ (l.length : Int) := by omega
  have hl3 : (l.take 300).length ≤ 300 := by rw [List.length_take]; omega
  obtain ⟨l3, hl3e⟩ : ∃ x, x = l.take 300 := ⟨_, rfl⟩
  rw [← hl3e] at hext hl3
  have HX := Lib.hid hext
  obtain ⟨x, hx⟩ : ∃ x, x = 1 + wn % 60 := ⟨_, rfl⟩
  have hx1 : 1 ≤ x ∧ x ≤ 60 := by omega
  have hwn : (wn : Int) ≤ 255 := by omega
  have hen : 1 + (wn : Int) % 60 = (x : Int) := by omega
  have HEN := Lib.hid hen
  have CF := refFit_any l3 (x : Int) (by omega) (by omega)
  have hbd := fit_le (cutL l3) (x : Int)
  have hCL : ∀ c ∈ (cutL l3).take (fitK (cutL l3) (x : Int)), Clu c := fun c hc => clu_mem (List.mem_of_mem_take hc)
  have hfT : fitT l3 (x : Int) = ((cutL l3).take (fitK (cutL l3) (x : Int))).flatten := rfl
  have hfN : fitN l3 (x : Int) = sumC ((cutL l3).take (fitK (cutL l3) (x : Int))) := rfl
  have hlen3 := cutL_len l3
  have hCl : ((cutL l3).take (fitK (cutL l3) (x : Int))).length ≤ 300 := by rw [List.length_take]; omega
  obtain ⟨C, hC⟩ : ∃ C, C = (cutL l3).take (fitK (cutL l3) (x : Int)) := ⟨_, rfl⟩
  rw [← hC] at hbd hCL hfT hfN hCl
  rw [hfT, hfN] at CF
  have hz := sumC_bd C
  have hfit : sumC C ≤ x := by omega
  have hfl : C.flatten.length ≤ 64 * C.length := flat_len C 64 (fun c hc => (hCL c hc).len.2)
  have hT := run_text hx1.1 (by omega) C hCL hfit
  have hTok : TOk (runT (TS.new x 2) C.flatten).1 := (TOk.new hx1.1 (by omega) (by omega) (by omega)).run _
  have CU := fun X => refCut_any C.flatten (by omega) X
  rw [cutL_flat hCL] at CU
  obtain ⟨hTe, hTx⟩ := hT
  obtain ⟨y, hy⟩ : ∃ y, y = runT (TS.new x 2) C.flatten := ⟨_, rfl⟩
  rw [← hy] at hTe hTx hTok
  have hcell := fun i hi => hTx.cell hCL (i := i) hi
  have hsum := fun i hi => sumC_in C hCL (i := i) hi
  have hclu : ∀ i, i < C.length → Clu (nth [] C i) := fun i hi => hCL _ (by rw [nth_eq _ _ _ hi]; exact List.getElem_mem hi)
  obtain ⟨N, hN⟩ : ∃ N : Nat, sumC C = (N : Int) := ⟨(sumC C).toNat, by omega⟩
  have hcol := hTx.col
  have hpe := hTx.pend
  have hgo := hTx.gone
  have hro := hTx.row
  have hTW := hTx.W
  have hTH := hTx.H
  rw [hN] at CF hcol hpe hfit
  have CF := Lib.hid CF
  have CU := Lib.hid CU
  have CN := Lib.hid (fun X => tnew_ok x 2 (by omega) X)
  have HTX := Lib.hid (And.intro hTe (And.intro hTok (And.intro hcol (And.intro hpe (And.intro hgo (And.intro hro (And.intro hTW hTH)))))))
  have HCELL := Lib.hid hcell
  have HSUM := Lib.hid hsum
  have HCLU := Lib.hid hclu
  have HN := Lib.hid hN
  have HY := Lib.hid hy
  obtain ⟨T, hTT⟩ : ∃ T, T = C.flatten := ⟨_, rfl⟩
  have hTl : T.length ≤ 19200 := by rw [hTT]; omega
  rw [← hTT] at CF CU HY
  obtain ⟨M, hM⟩ : ∃ M, M = C.length := ⟨_, rfl⟩
  have HM := Lib.hid hM
  have hMl : M ≤ 300 := by rw [hM]; exact hCl
  have OK0 : Hid (TOk (TS.new x 2)) := Lib.hid (TOk.new hx1.1 (by omega) (by omega) (by omega))
  clear hTT hM hy hTe hTx hTok hcell hsum hclu hN hcol hpe hgo hro hTW hTH hfl hz hCl hC hbd hCL hfT hfN hlen3 hk hext hl3e hx hw hw0 hs0 hen
  go_enter Try.func5, Try.ntmps5
  go_wp2_with fail
  simp only [HEN.out, HX.out]
  refine (CF.out _).mono ?_
  rintro e w1 ⟨rfl, hb1⟩
  go_wp2_with fail
  refine (CN.out _).mono ?_
  rintro e w2 ⟨b, p, q, rfl, a2, hz2, hb2⟩
  have B2 : Below W.heap.size W w2 := bnext hb1 hb2
  obtain ⟨cap, w3, hconv, hb3, hs3, hB3, hcap3, _⟩ := bytes_conv w2 T
  have hl2 := a2.lt
  obtain ⟨n3, hn3⟩ : ∃ n3, n3 = T.length := ⟨_, rfl⟩
  rw [← hn3] at hconv hcap3
  have HN3 := Lib.hid hn3
  have HB3 := Lib.hid (And.intro hB3 hs3)
  clear hn3 hB3 hs3
  go_wp2_with fail
  obtain ⟨hB3', hs3⟩ := HB3.out
  have P1 := parts_one (c := cap) hB3' HN3.out.symm (b := b) (q := q) hl2.1 hl2.2.2
  obtain ⟨w4, hw4⟩ : ∃ w4, w3.alloc (.cells #[.slice (some ⟨w2.heap.size, 0, none⟩) n3 cap] 67) = w4 := ⟨_, rfl⟩
  have hb4 : Below w3.heap.size w3 w4 := by rw [← hw4]; exact (Below.refl _ _).alloc (Nat.le_refl _) _
  rw [hw4] at P1 ⊢
  have hb24 : Below w2.heap.size w2 w4 := bnext hb3 hb4
  have a4 := a2.below hb24
  have hh4 : Held w4 W.heap.size (.slice none 0 0) [] := World.ownsRow_nil _ _ _ _
  have B4 : Below W.heap.size W w4 := bto B2 hb24 B2.size
  have cw := pwrite_any (np := 1) (pc := 1) a4 hh4 OK0.out B4.size P1 (by simp; omega) (by show 0 + 100000 < _; omega) (by show 0 + 100000 < _; omega) (by omega)
  have e1 : [T].foldl runP (TS.new x 2, []) = y := by rw [HY.out]; rfl
  rw [e1] at cw
  refine cw.mono ?_
  rintro e w5 ⟨rfl, hv5, a5, _, o5, _⟩
  have hz1 := hb1.size
  have B5 : Below W.heap.size W w5 := B4.trans (o5.below (by simp [Value.ownBlock]; omega) B4.size)
  clear cw hh4 P1 hB3' o5 e1 a2 a4 hconv hb3 hb4 hb24 hw4
  go_wp2_with fail
  refine (CU.out _).mono ?_
  rintro e w6 ⟨sa, sn, sc, hsn, hsc1, hsc2, rfl, hrow, hb6, sg, hsg, hsgn⟩
  have HSN : Hid (sn = C.length) := Lib.hid hsn
  have hMs : M = sn := by rw [HM.out]; exact hsn.symm
  clear hsn
  have a6 := a5.below hb6
  have B6 := bto B5 hb6 B5.size
  obtain ⟨hTe, hTok, hcol, hpe, hgo, hro, hTW, hTH⟩ := HTX.out
  have HG := Lib.hid hsgn
  have HROW := Lib.hid hrow
  unfold maxLen at hsc2
  have hsn3 : sn ≤ 300 := by rw [← hMs]; exact hMl
  clear hsgn hrow hMs
  go_wp2
  go_loopw [11, 12] (fun at' i wr => ∃ k A : Nat, k ≤ sn ∧ i = .int .i64 k ∧ at' = .int .i64 A ∧ Hid (sumC (C.take k) = (A : Int)) ∧ Below w6.heap.size w6 wr) (fun _ i _ => sn - (intOf i).toNat)
  case atStart => exact ⟨0, 0, Nat.zero_le _, rfl, rfl, Lib.hid rfl, Below.refl _ _⟩
  case round =>
    obtain ⟨k, A, hk, rfl, rfl, hA, hb⟩ := hrel
    have aV := a6.below hb
    have BV := bto B6 hb B6.size
    by_cases hlt : k < sn
    · have hkC : k < C.length := by rw [← HSN.out]; exact hlt
      obtain ⟨g1, g2, g3⟩ := HSUM.out k hkC
      have hcl := HCLU.out k hkC
      have hce := HCELL.out k hkC
      have hrw := HROW.out k (by simp [strV]; exact hkC)
      obtain ⟨rfl, _⟩ := HG.out (by omega)
      obtain ⟨b', o', e', _, hcc⟩ := hrw
      simp only [Option.some.injEq, Addr.mk.injEq] at e'
      obtain ⟨rfl, rfl, _⟩ := e'
      unfold strV at hcc
      rw [nth_map _ [] _ _ hkC] at hcc
      have hsgl : sg < w6.heap.size := by
        rcases Nat.lt_or_ge sg w6.heap.size with h | h
        · exact h
        · simp [World.cell?, Array.getElem?_eq_none h] at hcc
      have hwd := widthL_clu hcl
      have hcb := hcl.cols
      have hcln := hcl.len
      obtain ⟨cc, hcce⟩ : ∃ cc, cc = nth [] C k := ⟨_, rfl⟩
      rw [← hcce] at g2 hce hcc hwd hcb hcln
      obtain ⟨cw, hcw⟩ : ∃ cw, cw = colsL cc := ⟨_, rfl⟩
      rw [← hcw] at g2 hce hwd hcb
      rw [hA.out] at g1 g2 hce
      rw [HN.out] at g1
      simp only [Int.toNat_natCast] at hce
      have CC := tcell_any aV 0 A (by omega) (by omega)
      rw [hce] at CC
      have CWd := (fun X => refWidth_any cc (by omega) X)
      rw [hwd] at CWd
      obtain ⟨cs, hcs⟩ : ∃ cs, cs = S cc := ⟨_, rfl⟩
      rw [← hcs] at hcc CC CWd
      replace CC := Lib.hid CC
      replace CWd := Lib.hid CWd
      have HA2 : Hid (sumC (C.take (k + 1)) = ((A + cw.toNat : Nat) : Int)) := Lib.hid (by rw [g2]; omega)
      have hAN : A + 1 ≤ N := by omega
      have hcellr : wr.cell? ⟨sg, k, none⟩ = some (.string cs) := (hb.cell (p := ⟨sg, k, none⟩) hsgl).trans (by simpa using hcc)
      have hsglr : sg < wr.heap.size := Nat.lt_of_lt_of_le hsgl hb.size
      have hkN : (k : Int) < (sn : Int) := by omega
      have hNx : N ≤ 60 := by omega
      have hcww : ((cw.toNat : Nat) : Int) = cw := by omega
      clear g1 g2 g3 hcl hce hcc hwd hcln hcce hcw hcs hkC aV
      go_upto_region 13 with (first
        | (go_at_call 31; refine (CC.out).mono ?_; rintro e w7 ⟨rfl, hb7⟩)
        | (refine wpList_gstore rfl _ _ rfl w7.heap.size _ rfl ⟨cs, cw, Sy.zero⟩ rfl [GC.zero] (GBlk.made w7 [GC.zero]) 0 (by omega) (by simp) ?_; intro w8 g8 o8))
      have hb8 : Below wr.heap.size wr w8 := (hb7.alloc hb7.size _).trans (o8.below (by simp; exact hb7.size) (by have := hb7.size; simp; omega))
      have hr8 := g8.range1 (i := 0) (c := ⟨cs, cw, Sy.zero⟩) rfl
      rw [Nat.mul_zero] at hr8
      obtain ⟨y0, y1, _⟩ := vals_at hr8
      simp only [Nat.zero_add] at y1
      have hs8 := g8.lt
      have hc8 := (hb8.cell (p := ⟨sg, k, none⟩) hsglr).trans hcellr
      have hsg8 : sg < w8.heap.size := Nat.lt_of_lt_of_le hsglr hb8.size
      have K0 := fun p : BW w8.heap.size w8 => p.cell (by exact hs8) y0
      have K1 := fun p : BW w8.heap.size w8 => p.cell (by exact hs8) y1
      have K2 := fun p : BW w8.heap.size w8 => p.cell (by exact hsg8) hc8
      go_wp2_with fail
      refine wp_region_bw w8.heap.size (by kernel_rfl) (by kernel_rfl) ?_
      repeat (quiet_step ((apply Calls.bw_of (Nat.le_refl _); go_at_call 32; exact CWd.out _)))
      refine wpQuiet_nil ?_
      intro wq hw'
      have hwq : Below w8.heap.size w8 wq := by obtain ⟨p, rfl⟩ := hw'; exact p.h
      have z1 := (hwq.cell (p := ⟨w7.heap.size, 1, none⟩) hs8).trans y1
      have hrq : Below w6.heap.size w6 wq := bto hb (bto hb8 hwq hb8.size) hb.size
      clear hw' K0 K1 K2 CC CWd
      have hsum : (A : Int) + cw ≤ 1000 := by omega
      go_wp2
      go_roundw
      case rel => exact ⟨k + 1, A + cw.toNat, hlt, by go_num, congrArg (Value.int _) (by omega), HA2, hrq⟩
      case measure => simp [intOf]; omega
    · obtain rfl : k = sn := by omega
      have hAN : A = N := by
        have h1 := hA.out
        rw [List.take_of_length_le (by rw [← HSN.out]; exact Nat.le_refl _), HN.out] at h1
        omega
      subst hAN
      have CCu := tcursor_any aV
      rw [hro, hcol] at CCu
      replace CCu := Lib.hid CCu
      have CPe := fun (X : World) (hX : Below wr.heap.size wr X) => tpending_any (aV.below hX)
      rw [hpe] at CPe
      have CGo := fun (X : World) (hX : Below wr.heap.size wr X) => tgone_any (aV.below hX)
      rw [hgo] at CGo
      replace CPe := Lib.hid CPe
      replace CGo := Lib.hid CGo
      have hx2 : (1 : Int) ≤ (x : Int) ∧ (x : Int) ≤ 60 := by omega
      by_cases hNx : (A : Int) = (x : Int)
      all_goals
        have hd : decide ((A : Int) = (x : Int)) = ((A : Int) == (x : Int)) := by rw [Bool.eq_iff_iff]; simp
        have hv : ((A : Int) == (x : Int)) = decide ((A : Int) = (x : Int)) := hd.symm
        simp only [hNx, decide_true, decide_false] at hv
        clear hd hA HSN HSUM HCELL HCLU HTX hcol hpe hgo hro aV a6 a5
        go_wp2_with (first
          | (go_at_call 33; refine (CCu.out).mono ?_; rintro e z1 ⟨rfl, hz1'⟩)
          | (go_at_call 34; refine (CPe.out _ hz1').mono ?_; rintro e z2 ⟨rfl, rfl⟩)
          | (go_at_call 35; refine (CGo.out _ hz1').mono ?_; rintro e z3 ⟨rfl, rfl⟩)
          | (go_at_call 36; refine (awake05_any _).mono ?_; rintro e z4 ⟨rfl, hz4⟩))
        go_ret
        exact ⟨rfl, bto BV (bto hz1' hz4 hz1'.size) BV.size⟩
end Go.Proofs.Ytekodpcedjpnjaa
