/- The program's terminal: move, eraseRows, eraseAll, eraseLine. No condition but that the counters are not at their ends. The program's terminal: move. No condition. -/
import Derived.Test.YtekodpcedjpnjaaPT4
import Derived.Test.YtekodpcedjpnjaaRegM
namespace Go.Proofs.Ytekodpcedjpnjaa
set_option linter.unusedVariables false
set_option linter.unusedSimpArgs false
open Go.RowKit Go.Maps
theorem TmPost.trans {b p q : Nat} {hv : Value} {t t' : TS} {W X : World} (o : Only [b, q] W X) {e : Ending} {w' : World} (h : TmPost b p q hv t' X e w') : TmPost b p q hv t' W e w' := ⟨h.1, h.2.1, o.trans h.2.2⟩
set_option maxRecDepth 100000 in
set_option maxHeartbeats 4000000 in
theorem peraseRows_any {W : World} {b p q : Nat} {hv : Value} {t : TS} (a : TmAt W b p q hv t) (ok : TO0 t) (i m : Nat) (hm : m ≤ t.H) :
    Calls Try.prog 169 #[.pointer (some ⟨b, 0, none⟩), .int .i64 i, .int .i64 m] W (TmPost b p q hv { t with R := eraseRowsR t.W t.H i (m - i) t.R } W) := by
  obtain ⟨c0, c1, c2, c3, c4, c5, c6, c7, c8, c9, c10, c11, c12, c13, c14, c15, c16, fz⟩ := a.cells
  have CS := Lib.hid (gsize_any a.g)
  have AA := Lib.hid a
  have OK := Lib.hid ok
  have hh2 := ok.h2
  have hw2 := ok.w2
  obtain ⟨F, hF⟩ : ∃ F, F = eraseRowsR t.W t.H i (m - i) t.R := ⟨_, rfl⟩
  rw [← hF]
  have HF := Lib.hid hF
  clear hF
  clear a ok
  go_enter Try.func169, Try.ntmps169
  go_upto_region 1 with (go_at_call 66; refine (CS.out).mono ?_; rintro e X ⟨rfl, hb⟩)
  have aX := AA.out.below hb
  clear c0 c1 c2 c3 c4 c5 c6 c7 c8 c9 c10 c11 c12 c13 c14 c15 c16 fz AA CS
  go_wp2
  go_loopw [8] (fun x wr => ∃ (k : Nat) (R : List (List GC)), x = .int .i64 k ∧ (k ≤ m ∨ k = i) ∧ Hid (F = eraseRowsR t.W t.H k (m - k) R) ∧ Hid (RowsOk t.W t.H R) ∧ TmAt wr b p q hv { t with R := R } ∧ Only [b, q] W wr) (fun x _ => m - (intOf x).toNat)
  case atStart => exact ⟨i, t.R, rfl, .inr rfl, HF, Lib.hid OK.out.ok, aX, Only.on hb⟩
  case round =>
    obtain ⟨k, R, rfl, hk, hf, hr, ar, o⟩ := hrel
    by_cases hlt : k < m
    · obtain ⟨c0, c1, c2, c3, c4, c5, c6, c7, c8, c9, c10, c11, c12, c13, c14, c15, c16, fz⟩ := ar.cells
      have CE := Lib.hid (erase_any ar.g (k : Int) 0 (t.W : Int))
      have HF2 : Hid (F = eraseRowsR t.W t.H (k + 1) (m - (k + 1)) (eraseR t.W t.H R k 0 t.W)) := Lib.hid (by
        rw [hf.out, show m - k = (m - (k + 1)) + 1 by omega]; rfl)
      go_wp2_with fail
      refine (CE.out).mono ?_
      rintro e Y ⟨rfl, gY, oY⟩
      try dsimp only at gY
      rw [← hr.out.erase_flat] at gY
      have aY := ar.grid oY _ gY
      go_wp2
      go_roundw
      case rel => exact ⟨k + 1, _, by go_num, .inl hlt, HF2, Lib.hid (hr.out.erase _ _ _), aY, o.trans oY.oq⟩
      case measure => simp [intOf]; omega
    · have HR : Hid (F = R) := Lib.hid (by rw [hf.out, show m - k = 0 by omega]; rfl)
      go_wp2
      go_end0
      exact ⟨rfl, by rw [HR.out]; exact ar, o⟩
set_option maxRecDepth 100000 in
set_option maxHeartbeats 4000000 in
theorem peraseAll0 {W : World} {b p q : Nat} {hv : Value} {t : TS} (a : TmAt W b p q hv t) (ok : TO0 t) :
    Calls Try.prog 160 #[.pointer (some ⟨b, 0, none⟩), .int .i64 0] W (TmPost b p q hv (t.erased 0 false) W) := by
  obtain ⟨c0, c1, c2, c3, c4, c5, c6, c7, c8, c9, c10, c11, c12, c13, c14, c15, c16, fz⟩ := a.cells
  have CS := Lib.hid (gsize_any a.g)
  have AA := Lib.hid a
  have OK := Lib.hid ok
  have hh2 := ok.h2
  have hh1 := ok.h1
  have hw1 := ok.w1
  have hw2 := ok.w2
  have hrow := ok.row
  have hcol := ok.col
  clear a ok
  go_enter Try.func160, Try.ntmps160
  go_upto_region 1 with (go_at_call 66; refine (CS.out).mono ?_; rintro e X ⟨rfl, hb⟩)
  have aX := AA.out.below hb
  clear c0 c1 c2 c3 c4 c5 c6 c7 c8 c9 c10 c11 c12 c13 c14 c15 c16 fz CS AA
  obtain ⟨c0, c1, c2, c3, c4, c5, c6, c7, c8, c9, c10, c11, c12, c13, c14, c15, c16, fz⟩ := aX.cells
  have hbl : PBk X b (pCells hv p t) := aX.blk
  have dB : Below X.heap.size X X.drew := (Below.refl _ _).drew
  go_wp2_with fail
  refine wp_region_mix2 [(true, 0), (true, 1), (true, 2), (true, 3), (true, 4), (true, 5), (true, 6), (true, 7), (true, 8), (true, 9), (true, 10), (true, 11), (true, 12), (false, 13)] (fun w' => PBk w' b (pCells hv p t)) (by kernel_rfl) (by kernel_rfl) (by rfl) (by kernel_rfl) (by kernel_rfl) (fun _ _ d _ _ h => by cases d <;> exact h) (hbl.below dB) ?_
  simp only [mixL, List.getElem?_cons_succ, List.getElem?_cons_zero]
  repeat (refine' wpMix2_read (v := _) rfl ?_ ?_; rotate_left 1; (intro w' hw'; obtain ⟨c0, c1, c2, c3, c4, c5, c6, c7, c8, c9, c10, c11, c12, c13, c14, c15, c16, fz⟩ := hw'.cells; go_simp; try with_reducible rfl); try simp only [Act.put, List.setIfInBounds_toArray, List.set_cons_zero, List.set_cons_succ])
  refine wpMix2_act (fun K hK => ?_)
  have aD := aX.below dB
  have CE := Lib.hid (erase_any aD.g (t.row : Int) (t.col : Int) (t.W : Int))
  go_wp2_with fail
  refine (CE.out).mono ?_
  rintro e Y ⟨rfl, gY, oY⟩
  try dsimp only at gY
  rw [← (OK.out.ok).erase_flat] at gY
  have aY := aD.grid oY _ gY
  go_wp2
  refine hK _ _ aY.blk ?_
  clear hK K
  refine wpMix2_nil ?_
  have okY : TO0 { t with R := eraseR t.W t.H t.R t.row t.col t.W } := ⟨OK.out.w1, OK.out.w2, OK.out.h1, OK.out.h2, OK.out.ok.erase _ _ _, OK.out.ro.erase OK.out.ok _ _ _, OK.out.row, OK.out.col⟩
  have cr := peraseRows_any aY okY (t.row + 1) t.H (Nat.le_refl _)
  rw [show ((t.row + 1 : Nat) : Int) = (t.row : Int) + 1 by omega] at cr
  have CR := Lib.hid cr
  clear c0 c1 c2 c3 c4 c5 c6 c7 c8 c9 c10 c11 c12 c13 c14 c15 c16 fz cr
  obtain ⟨c0, c1, c2, c3, c4, c5, c6, c7, c8, c9, c10, c11, c12, c13, c14, c15, c16, fz⟩ := aY.cells
  go_wp2_with (go_at_call 169; refine (CR.out).mono ?_; rintro e Z ⟨rfl, aZ, oZ⟩)
  go_end0
  exact ⟨rfl, aZ, (Only.on hb).trans ((Only.on dB).trans (oY.oq.trans oZ))⟩
set_option maxRecDepth 100000 in
set_option maxHeartbeats 4000000 in
theorem peraseAll1 {W : World} {b p q : Nat} {hv : Value} {t : TS} (a : TmAt W b p q hv t) (ok : TO0 t) :
    Calls Try.prog 160 #[.pointer (some ⟨b, 0, none⟩), .int .i64 1] W (TmPost b p q hv (t.erased 1 false) W) := by
  obtain ⟨c0, c1, c2, c3, c4, c5, c6, c7, c8, c9, c10, c11, c12, c13, c14, c15, c16, fz⟩ := a.cells
  have CS := Lib.hid (gsize_any a.g)
  have AA := Lib.hid a
  have OK := Lib.hid ok
  have hh2 := ok.h2
  have hh1 := ok.h1
  have hw1 := ok.w1
  have hw2 := ok.w2
  have hrow := ok.row
  have hcol := ok.col
  clear a ok
  go_enter Try.func160, Try.ntmps160
  go_upto_region 1 with (go_at_call 66; refine (CS.out).mono ?_; rintro e X ⟨rfl, hb⟩)
  have aX := AA.out.below hb
  clear c0 c1 c2 c3 c4 c5 c6 c7 c8 c9 c10 c11 c12 c13 c14 c15 c16 fz CS AA
  obtain ⟨c0, c1, c2, c3, c4, c5, c6, c7, c8, c9, c10, c11, c12, c13, c14, c15, c16, fz⟩ := aX.cells
  have CR := Lib.hid (peraseRows_any aX OK.out 0 t.row (by omega))
  go_wp2_with (go_at_call 169; refine (CR.out).mono ?_; rintro e X2 ⟨rfl, aX2, oX2⟩)
  rw [Nat.sub_zero] at aX2
  clear c0 c1 c2 c3 c4 c5 c6 c7 c8 c9 c10 c11 c12 c13 c14 c15 c16 fz
  obtain ⟨c0, c1, c2, c3, c4, c5, c6, c7, c8, c9, c10, c11, c12, c13, c14, c15, c16, fz⟩ := aX2.cells
  have hrs : RowsOk t.W t.H (eraseRowsR t.W t.H 0 t.row t.R) := OK.out.ok.eraseRows _ _ _
  have HRS := Lib.hid hrs
  clear hrs
  have hbl : PBk X2 b (pCells hv p t) := aX2.blk
  have dB : Below X2.heap.size X2 X2.drew := (Below.refl _ _).drew
  go_wp2_with fail
  refine wp_region_mix2 [(true, 0), (true, 1), (true, 2), (true, 3), (true, 4), (true, 5), (true, 6), (true, 7), (true, 8), (true, 9), (true, 10), (true, 11), (true, 12), (false, 13)] (fun w' => PBk w' b (pCells hv p t)) (by kernel_rfl) (by kernel_rfl) (by rfl) (by kernel_rfl) (by kernel_rfl) (fun _ _ d _ _ h => by cases d <;> exact h) (hbl.below dB) ?_
  simp only [mixL, List.getElem?_cons_succ, List.getElem?_cons_zero]
  repeat (refine' wpMix2_read (v := _) rfl ?_ ?_; rotate_left 1; (intro w' hw'; obtain ⟨c0, c1, c2, c3, c4, c5, c6, c7, c8, c9, c10, c11, c12, c13, c14, c15, c16, fz⟩ := hw'.cells; go_simp; try with_reducible rfl); try simp only [Act.put, List.setIfInBounds_toArray, List.set_cons_zero, List.set_cons_succ])
  refine wpMix2_act (fun K hK => ?_)
  have aD := aX2.below dB
  have CE := Lib.hid (erase_any aD.g (t.row : Int) 0 ((t.col : Int) + 1))
  go_wp2_with fail
  refine (CE.out).mono ?_
  rintro e Y ⟨rfl, gY, oY⟩
  try dsimp only at gY
  rw [← (HRS.out).erase_flat] at gY
  have aY := aD.grid oY _ gY
  go_wp2
  refine hK _ _ aY.blk ?_
  clear hK K
  refine wpMix2_nil ?_
  go_wp2
  go_end0
  exact ⟨rfl, aY, (Only.on hb).trans (oX2.trans ((Only.on dB).trans oY.oq))⟩
set_option maxRecDepth 100000 in
set_option maxHeartbeats 4000000 in
theorem peraseAll2 {W : World} {b p q : Nat} {hv : Value} {t : TS} (a : TmAt W b p q hv t) (ok : TO0 t) :
    Calls Try.prog 160 #[.pointer (some ⟨b, 0, none⟩), .int .i64 2] W (TmPost b p q hv (t.erased 2 false) W) := by
  obtain ⟨c0, c1, c2, c3, c4, c5, c6, c7, c8, c9, c10, c11, c12, c13, c14, c15, c16, fz⟩ := a.cells
  have CS := Lib.hid (gsize_any a.g)
  have AA := Lib.hid a
  have OK := Lib.hid ok
  have hh2 := ok.h2
  have hh1 := ok.h1
  have hw1 := ok.w1
  have hw2 := ok.w2
  have hrow := ok.row
  have hcol := ok.col
  clear a ok
  go_enter Try.func160, Try.ntmps160
  go_upto_region 1 with (go_at_call 66; refine (CS.out).mono ?_; rintro e X ⟨rfl, hb⟩)
  have aX := AA.out.below hb
  clear c0 c1 c2 c3 c4 c5 c6 c7 c8 c9 c10 c11 c12 c13 c14 c15 c16 fz CS AA
  obtain ⟨c0, c1, c2, c3, c4, c5, c6, c7, c8, c9, c10, c11, c12, c13, c14, c15, c16, fz⟩ := aX.cells
  have CR := Lib.hid (peraseRows_any aX OK.out 0 t.H (Nat.le_refl _))
  go_wp2_with (go_at_call 169; refine (CR.out).mono ?_; rintro e X2 ⟨rfl, aX2, oX2⟩)
  go_end0
  exact ⟨rfl, aX2, (Only.on hb).trans oX2⟩
set_option maxRecDepth 100000 in
set_option maxHeartbeats 4000000 in
theorem peraseAllN {W : World} {b p q : Nat} {hv : Value} {t : TS} (a : TmAt W b p q hv t) (ok : TO0 t) (n : Nat) (hn : n ≤ 9999) (k0 : ((n : Int) == 0) = false) (k1 : ((n : Int) == 1) = false) (k2 : ((n : Int) == 2) = false) :
    Calls Try.prog 160 #[.pointer (some ⟨b, 0, none⟩), .int .i64 (n : Int)] W (TmPost b p q hv t W) := by
  obtain ⟨c0, c1, c2, c3, c4, c5, c6, c7, c8, c9, c10, c11, c12, c13, c14, c15, c16, fz⟩ := a.cells
  have CS := Lib.hid (gsize_any a.g)
  have AA := Lib.hid a
  have OK := Lib.hid ok
  have hh2 := ok.h2
  have hh1 := ok.h1
  have hw1 := ok.w1
  have hw2 := ok.w2
  have hrow := ok.row
  have hcol := ok.col
  clear a ok
  go_enter Try.func160, Try.ntmps160
  go_upto_region 1 with (go_at_call 66; refine (CS.out).mono ?_; rintro e X ⟨rfl, hb⟩)
  have aX := AA.out.below hb
  clear c0 c1 c2 c3 c4 c5 c6 c7 c8 c9 c10 c11 c12 c13 c14 c15 c16 fz CS AA
  obtain ⟨c0, c1, c2, c3, c4, c5, c6, c7, c8, c9, c10, c11, c12, c13, c14, c15, c16, fz⟩ := aX.cells
  go_wp2
  go_end0
  exact ⟨rfl, aX, Only.on hb⟩
theorem peraseAll_any {W : World} {b p q : Nat} {hv : Value} {t : TS} (a : TmAt W b p q hv t) (ok : TO0 t) (n : Nat) (hn : n ≤ 9999) :
    Calls Try.prog 160 #[.pointer (some ⟨b, 0, none⟩), .int .i64 (n : Int)] W (TmPost b p q hv (t.erased n false) W) := by
  by_cases h0 : n = 0
  · subst h0; exact peraseAll0 a ok
  by_cases h1 : n = 1
  · subst h1; exact peraseAll1 a ok
  by_cases h2 : n = 2
  · subst h2; exact peraseAll2 a ok
  have e : t.erased n false = t := by unfold TS.erased; rw [if_neg h0, if_neg h1, if_neg h2]
  rw [e]
  exact peraseAllN a ok n hn (by simpa using h0) (by simp; omega) (by simp; omega)
set_option maxRecDepth 100000 in
set_option maxHeartbeats 4000000 in
theorem peraseLine0 {W : World} {b p q : Nat} {hv : Value} {t : TS} (a : TmAt W b p q hv t) (ok : TO0 t) :
    Calls Try.prog 161 #[.pointer (some ⟨b, 0, none⟩), .int .i64 0] W (TmPost b p q hv (t.erased 0 true) W) := by
  obtain ⟨c0, c1, c2, c3, c4, c5, c6, c7, c8, c9, c10, c11, c12, c13, c14, c15, c16, fz⟩ := a.cells
  have CS := Lib.hid (gsize_any a.g)
  have AA := Lib.hid a
  have OK := Lib.hid ok
  have hh2 := ok.h2
  have hh1 := ok.h1
  have hw1 := ok.w1
  have hw2 := ok.w2
  have hrow := ok.row
  have hcol := ok.col
  clear a ok
  go_enter Try.func161, Try.ntmps161
  go_upto_region 1 with (go_at_call 66; refine (CS.out).mono ?_; rintro e X ⟨rfl, hb⟩)
  have aX := AA.out.below hb
  clear c0 c1 c2 c3 c4 c5 c6 c7 c8 c9 c10 c11 c12 c13 c14 c15 c16 fz CS AA
  obtain ⟨c0, c1, c2, c3, c4, c5, c6, c7, c8, c9, c10, c11, c12, c13, c14, c15, c16, fz⟩ := aX.cells
  have hbl : PBk X b (pCells hv p t) := aX.blk
  have dB : Below X.heap.size X X.drew := (Below.refl _ _).drew
  go_wp2_with fail
  refine wp_region_mix2 [(true, 0), (true, 1), (true, 2), (true, 3), (true, 4), (true, 5), (true, 6), (true, 7), (true, 8), (true, 9), (true, 10), (true, 11), (true, 12), (false, 13)] (fun w' => PBk w' b (pCells hv p t)) (by kernel_rfl) (by kernel_rfl) (by rfl) (by kernel_rfl) (by kernel_rfl) (fun _ _ d _ _ h => by cases d <;> exact h) (hbl.below dB) ?_
  simp only [mixL, List.getElem?_cons_succ, List.getElem?_cons_zero]
  repeat (refine' wpMix2_read (v := _) rfl ?_ ?_; rotate_left 1; (intro w' hw'; obtain ⟨c0, c1, c2, c3, c4, c5, c6, c7, c8, c9, c10, c11, c12, c13, c14, c15, c16, fz⟩ := hw'.cells; go_simp; try with_reducible rfl); try simp only [Act.put, List.setIfInBounds_toArray, List.set_cons_zero, List.set_cons_succ])
  refine wpMix2_act (fun K hK => ?_)
  have aD := aX.below dB
  have CE := Lib.hid (erase_any aD.g (t.row : Int) (t.col : Int) (t.W : Int))
  go_wp2_with fail
  refine (CE.out).mono ?_
  rintro e Y ⟨rfl, gY, oY⟩
  try dsimp only at gY
  rw [← (OK.out.ok).erase_flat] at gY
  have aY := aD.grid oY _ gY
  go_wp2
  refine hK _ _ aY.blk ?_
  clear hK K
  refine wpMix2_nil ?_
  go_wp2
  go_end0
  exact ⟨rfl, aY, (Only.on hb).trans ((Only.on dB).trans oY.oq)⟩
set_option maxRecDepth 100000 in
set_option maxHeartbeats 4000000 in
theorem peraseLine1 {W : World} {b p q : Nat} {hv : Value} {t : TS} (a : TmAt W b p q hv t) (ok : TO0 t) :
    Calls Try.prog 161 #[.pointer (some ⟨b, 0, none⟩), .int .i64 1] W (TmPost b p q hv (t.erased 1 true) W) := by
  obtain ⟨c0, c1, c2, c3, c4, c5, c6, c7, c8, c9, c10, c11, c12, c13, c14, c15, c16, fz⟩ := a.cells
  have CS := Lib.hid (gsize_any a.g)
  have AA := Lib.hid a
  have OK := Lib.hid ok
  have hh2 := ok.h2
  have hh1 := ok.h1
  have hw1 := ok.w1
  have hw2 := ok.w2
  have hrow := ok.row
  have hcol := ok.col
  clear a ok
  go_enter Try.func161, Try.ntmps161
  go_upto_region 1 with (go_at_call 66; refine (CS.out).mono ?_; rintro e X ⟨rfl, hb⟩)
  have aX := AA.out.below hb
  clear c0 c1 c2 c3 c4 c5 c6 c7 c8 c9 c10 c11 c12 c13 c14 c15 c16 fz CS AA
  obtain ⟨c0, c1, c2, c3, c4, c5, c6, c7, c8, c9, c10, c11, c12, c13, c14, c15, c16, fz⟩ := aX.cells
  have hbl : PBk X b (pCells hv p t) := aX.blk
  have dB : Below X.heap.size X X.drew := (Below.refl _ _).drew
  go_wp2_with fail
  refine wp_region_mix2 [(true, 0), (true, 1), (true, 2), (true, 3), (true, 4), (true, 5), (true, 6), (true, 7), (true, 8), (true, 9), (true, 10), (true, 11), (true, 12), (false, 13)] (fun w' => PBk w' b (pCells hv p t)) (by kernel_rfl) (by kernel_rfl) (by rfl) (by kernel_rfl) (by kernel_rfl) (fun _ _ d _ _ h => by cases d <;> exact h) (hbl.below dB) ?_
  simp only [mixL, List.getElem?_cons_succ, List.getElem?_cons_zero]
  repeat (refine' wpMix2_read (v := _) rfl ?_ ?_; rotate_left 1; (intro w' hw'; obtain ⟨c0, c1, c2, c3, c4, c5, c6, c7, c8, c9, c10, c11, c12, c13, c14, c15, c16, fz⟩ := hw'.cells; go_simp; try with_reducible rfl); try simp only [Act.put, List.setIfInBounds_toArray, List.set_cons_zero, List.set_cons_succ])
  refine wpMix2_act (fun K hK => ?_)
  have aD := aX.below dB
  have CE := Lib.hid (erase_any aD.g (t.row : Int) 0 ((t.col : Int) + 1))
  go_wp2_with fail
  refine (CE.out).mono ?_
  rintro e Y ⟨rfl, gY, oY⟩
  try dsimp only at gY
  rw [← (OK.out.ok).erase_flat] at gY
  have aY := aD.grid oY _ gY
  go_wp2
  refine hK _ _ aY.blk ?_
  clear hK K
  refine wpMix2_nil ?_
  go_wp2
  go_end0
  exact ⟨rfl, aY, (Only.on hb).trans ((Only.on dB).trans oY.oq)⟩
set_option maxRecDepth 100000 in
set_option maxHeartbeats 4000000 in
theorem peraseLine2 {W : World} {b p q : Nat} {hv : Value} {t : TS} (a : TmAt W b p q hv t) (ok : TO0 t) :
    Calls Try.prog 161 #[.pointer (some ⟨b, 0, none⟩), .int .i64 2] W (TmPost b p q hv (t.erased 2 true) W) := by
  obtain ⟨c0, c1, c2, c3, c4, c5, c6, c7, c8, c9, c10, c11, c12, c13, c14, c15, c16, fz⟩ := a.cells
  have CS := Lib.hid (gsize_any a.g)
  have AA := Lib.hid a
  have OK := Lib.hid ok
  have hh2 := ok.h2
  have hh1 := ok.h1
  have hw1 := ok.w1
  have hw2 := ok.w2
  have hrow := ok.row
  have hcol := ok.col
  clear a ok
  go_enter Try.func161, Try.ntmps161
  go_upto_region 1 with (go_at_call 66; refine (CS.out).mono ?_; rintro e X ⟨rfl, hb⟩)
  have aX := AA.out.below hb
  clear c0 c1 c2 c3 c4 c5 c6 c7 c8 c9 c10 c11 c12 c13 c14 c15 c16 fz CS AA
  obtain ⟨c0, c1, c2, c3, c4, c5, c6, c7, c8, c9, c10, c11, c12, c13, c14, c15, c16, fz⟩ := aX.cells
  have hbl : PBk X b (pCells hv p t) := aX.blk
  have dB : Below X.heap.size X X.drew := (Below.refl _ _).drew
  go_wp2_with fail
  refine wp_region_mix2 [(true, 0), (true, 1), (true, 2), (true, 3), (true, 4), (true, 5), (true, 6), (true, 7), (true, 8), (false, 9)] (fun w' => PBk w' b (pCells hv p t)) (by kernel_rfl) (by kernel_rfl) (by rfl) (by kernel_rfl) (by kernel_rfl) (fun _ _ d _ _ h => by cases d <;> exact h) (hbl.below dB) ?_
  simp only [mixL, List.getElem?_cons_succ, List.getElem?_cons_zero]
  repeat (refine' wpMix2_read (v := _) rfl ?_ ?_; rotate_left 1; (intro w' hw'; obtain ⟨c0, c1, c2, c3, c4, c5, c6, c7, c8, c9, c10, c11, c12, c13, c14, c15, c16, fz⟩ := hw'.cells; go_simp; try with_reducible rfl); try simp only [Act.put, List.setIfInBounds_toArray, List.set_cons_zero, List.set_cons_succ])
  refine wpMix2_act (fun K hK => ?_)
  have aD := aX.below dB
  have CE := Lib.hid (erase_any aD.g (t.row : Int) 0 (t.W : Int))
  go_wp2_with fail
  refine (CE.out).mono ?_
  rintro e Y ⟨rfl, gY, oY⟩
  try dsimp only at gY
  rw [← (OK.out.ok).erase_flat] at gY
  have aY := aD.grid oY _ gY
  go_wp2
  refine hK _ _ aY.blk ?_
  clear hK K
  refine wpMix2_nil ?_
  go_wp2
  go_end0
  exact ⟨rfl, aY, (Only.on hb).trans ((Only.on dB).trans oY.oq)⟩
set_option maxRecDepth 100000 in
set_option maxHeartbeats 4000000 in
theorem peraseLineN {W : World} {b p q : Nat} {hv : Value} {t : TS} (a : TmAt W b p q hv t) (ok : TO0 t) (n : Nat) (hn : n ≤ 9999) (k0 : ((n : Int) == 0) = false) (k1 : ((n : Int) == 1) = false) (k2 : ((n : Int) == 2) = false) :
    Calls Try.prog 161 #[.pointer (some ⟨b, 0, none⟩), .int .i64 (n : Int)] W (TmPost b p q hv t W) := by
  obtain ⟨c0, c1, c2, c3, c4, c5, c6, c7, c8, c9, c10, c11, c12, c13, c14, c15, c16, fz⟩ := a.cells
  have CS := Lib.hid (gsize_any a.g)
  have AA := Lib.hid a
  have OK := Lib.hid ok
  have hh2 := ok.h2
  have hh1 := ok.h1
  have hw1 := ok.w1
  have hw2 := ok.w2
  have hrow := ok.row
  have hcol := ok.col
  clear a ok
  go_enter Try.func161, Try.ntmps161
  go_upto_region 1 with (go_at_call 66; refine (CS.out).mono ?_; rintro e X ⟨rfl, hb⟩)
  have aX := AA.out.below hb
  clear c0 c1 c2 c3 c4 c5 c6 c7 c8 c9 c10 c11 c12 c13 c14 c15 c16 fz CS AA
  obtain ⟨c0, c1, c2, c3, c4, c5, c6, c7, c8, c9, c10, c11, c12, c13, c14, c15, c16, fz⟩ := aX.cells
  go_wp2
  go_end0
  exact ⟨rfl, aX, Only.on hb⟩
theorem peraseLine_any {W : World} {b p q : Nat} {hv : Value} {t : TS} (a : TmAt W b p q hv t) (ok : TO0 t) (n : Nat) (hn : n ≤ 9999) :
    Calls Try.prog 161 #[.pointer (some ⟨b, 0, none⟩), .int .i64 (n : Int)] W (TmPost b p q hv (t.erased n true) W) := by
  by_cases h0 : n = 0
  · subst h0; exact peraseLine0 a ok
  by_cases h1 : n = 1
  · subst h1; exact peraseLine1 a ok
  by_cases h2 : n = 2
  · subst h2; exact peraseLine2 a ok
  have e : t.erased n true = t := by unfold TS.erased; rw [if_neg h0, if_neg h1, if_neg h2]
  rw [e]
  exact peraseLineN a ok n hn (by simpa using h0) (by simp; omega) (by simp; omega)
end Go.Proofs.Ytekodpcedjpnjaa
namespace Go.Proofs.Ytekodpcedjpnjaa
set_option linter.unusedVariables false
set_option linter.unusedSimpArgs false
open Go.RowKit Go.Maps
/-- A move of the cursor. -/
def TS.mv (t : TS) (n m : Nat) (e : Nat) : TS :=
  if e = 65 then t.moved (t.row - max 1 (n : Int)) t.col
  else if e = 66 then t.moved (t.row + max 1 (n : Int)) t.col
  else if e = 67 then t.moved t.row (t.col + max 1 (n : Int))
  else if e = 68 then t.moved t.row (t.col - max 1 (n : Int))
  else if e = 71 then t.moved t.row (max 1 (n : Int) - 1)
  else if e = 72 then t.moved (max 1 (n : Int) - 1) (max 1 (m : Int) - 1)
  else t
set_option maxRecDepth 100000 in
set_option maxHeartbeats 4000000 in
theorem pmove65 {W : World} {b p q : Nat} {hv : Value} {t : TS} (a : TmAt W b p q hv t) (ok : TO0 t) (n m : Int) (hn : 0 ≤ n ∧ n ≤ 9999) (hm : 0 ≤ m ∧ m ≤ 9999) (N M : Int) (hN : N = max 1 n) (hM : M = max 1 m) :
    Calls Try.prog 159 #[.pointer (some ⟨b, 0, none⟩), .int .i64 n, .int .i64 m, .int .u8 65] W (TmPost b p q hv (t.moved ((t.row : Int) - N) (t.col : Int)) W) := by
  have hN2 : 1 ≤ N ∧ N ≤ 9999 := by omega
  have hM2 : 1 ≤ M ∧ M ≤ 9999 := by omega
  have HN := Lib.hid hN
  have HM := Lib.hid hM
  clear hM
  replace hN := hN.symm
  obtain ⟨c0, c1, c2, c3, c4, c5, c6, c7, c8, c9, c10, c11, c12, c13, c14, c15, c16, fz⟩ := a.cells
  have CS := Lib.hid (gsize_any a.g)
  have AA := Lib.hid a
  have OK := Lib.hid ok
  have hh2 := ok.h2
  have hh1 := ok.h1
  have hw1 := ok.w1
  have hw2 := ok.w2
  have hrow := ok.row
  have hcol := ok.col
  clear a ok
  go_enter Try.func159, Try.ntmps159
  have dB : Below W.heap.size W W.drew := (Below.refl _ _).drew
  have aD := AA.out.below dB
  have hbl : PBk W b (pCells hv p t) := AA.out.blk
  have CM := Lib.hid (pmoveTo_any aD OK.out ((t.row : Int) - N) (t.col : Int) (by omega) (by omega))
  go_wp2_with fail
  refine wp_region_mixT 8 [(true, 0), (true, 1), (true, 2), (true, 3), (true, 4), (true, 5), (true, 6), (true, 7), (true, 8), (true, 9), (true, 10), (false, 11)] (fun w' => PBk w' b (pCells hv p t)) (by kernel_rfl) (by kernel_rfl) (by rfl) (by kernel_rfl) (by kernel_rfl) (fun _ _ d _ _ h => by cases d <;> exact h) (hbl.below dB) ?_
  simp only [mixL, List.getElem?_cons_succ, List.getElem?_cons_zero]
  repeat (refine' wpMix_read (v := _) rfl ?_ ?_; rotate_left 1; (intro w' hw'; obtain ⟨c0, c1, c2, c3, c4, c5, c6, c7, c8, c9, c10, c11, c12, c13, c14, c15, c16, fz⟩ := hw'.cells; go_simp; try with_reducible rfl); try simp only [Act.put, List.setIfInBounds_toArray, List.set_cons_zero, List.set_cons_succ])
  refine wpMix_act (fun K hK => ?_)
  go_wp2_with fail
  refine (CM.out).mono ?_
  rintro e Y ⟨rfl, aY, oY⟩
  go_wp2
  refine hK _ _ (fun h => absurd rfl h) ?_
  clear hK K
  refine wpMix_nil ?_
  go_wp2
  go_end0
  exact ⟨rfl, aY, (Only.on dB).trans oY⟩
set_option maxRecDepth 100000 in
set_option maxHeartbeats 4000000 in
theorem pmove66 {W : World} {b p q : Nat} {hv : Value} {t : TS} (a : TmAt W b p q hv t) (ok : TO0 t) (n m : Int) (hn : 0 ≤ n ∧ n ≤ 9999) (hm : 0 ≤ m ∧ m ≤ 9999) (N M : Int) (hN : N = max 1 n) (hM : M = max 1 m) :
    Calls Try.prog 159 #[.pointer (some ⟨b, 0, none⟩), .int .i64 n, .int .i64 m, .int .u8 66] W (TmPost b p q hv (t.moved ((t.row : Int) + N) (t.col : Int)) W) := by
  have hN2 : 1 ≤ N ∧ N ≤ 9999 := by omega
  have hM2 : 1 ≤ M ∧ M ≤ 9999 := by omega
  have HN := Lib.hid hN
  have HM := Lib.hid hM
  clear hM
  replace hN := hN.symm
  obtain ⟨c0, c1, c2, c3, c4, c5, c6, c7, c8, c9, c10, c11, c12, c13, c14, c15, c16, fz⟩ := a.cells
  have CS := Lib.hid (gsize_any a.g)
  have AA := Lib.hid a
  have OK := Lib.hid ok
  have hh2 := ok.h2
  have hh1 := ok.h1
  have hw1 := ok.w1
  have hw2 := ok.w2
  have hrow := ok.row
  have hcol := ok.col
  clear a ok
  go_enter Try.func159, Try.ntmps159
  have dB : Below W.heap.size W W.drew := (Below.refl _ _).drew
  have aD := AA.out.below dB
  have hbl : PBk W b (pCells hv p t) := AA.out.blk
  have CM := Lib.hid (pmoveTo_any aD OK.out ((t.row : Int) + N) (t.col : Int) (by omega) (by omega))
  go_wp2_with fail
  refine wp_region_mixT 8 [(true, 0), (true, 1), (true, 2), (true, 3), (true, 4), (true, 5), (true, 6), (true, 7), (true, 8), (true, 9), (true, 10), (false, 11)] (fun w' => PBk w' b (pCells hv p t)) (by kernel_rfl) (by kernel_rfl) (by rfl) (by kernel_rfl) (by kernel_rfl) (fun _ _ d _ _ h => by cases d <;> exact h) (hbl.below dB) ?_
  simp only [mixL, List.getElem?_cons_succ, List.getElem?_cons_zero]
  repeat (refine' wpMix_read (v := _) rfl ?_ ?_; rotate_left 1; (intro w' hw'; obtain ⟨c0, c1, c2, c3, c4, c5, c6, c7, c8, c9, c10, c11, c12, c13, c14, c15, c16, fz⟩ := hw'.cells; go_simp; try with_reducible rfl); try simp only [Act.put, List.setIfInBounds_toArray, List.set_cons_zero, List.set_cons_succ])
  refine wpMix_act (fun K hK => ?_)
  go_wp2_with fail
  refine (CM.out).mono ?_
  rintro e Y ⟨rfl, aY, oY⟩
  go_wp2
  refine hK _ _ (fun h => absurd rfl h) ?_
  clear hK K
  refine wpMix_nil ?_
  go_wp2
  go_end0
  exact ⟨rfl, aY, (Only.on dB).trans oY⟩
set_option maxRecDepth 100000 in
set_option maxHeartbeats 4000000 in
theorem pmove67 {W : World} {b p q : Nat} {hv : Value} {t : TS} (a : TmAt W b p q hv t) (ok : TO0 t) (n m : Int) (hn : 0 ≤ n ∧ n ≤ 9999) (hm : 0 ≤ m ∧ m ≤ 9999) (N M : Int) (hN : N = max 1 n) (hM : M = max 1 m) :
    Calls Try.prog 159 #[.pointer (some ⟨b, 0, none⟩), .int .i64 n, .int .i64 m, .int .u8 67] W (TmPost b p q hv (t.moved (t.row : Int) ((t.col : Int) + N)) W) := by
  have hN2 : 1 ≤ N ∧ N ≤ 9999 := by omega
  have hM2 : 1 ≤ M ∧ M ≤ 9999 := by omega
  have HN := Lib.hid hN
  have HM := Lib.hid hM
  clear hM
  replace hN := hN.symm
  obtain ⟨c0, c1, c2, c3, c4, c5, c6, c7, c8, c9, c10, c11, c12, c13, c14, c15, c16, fz⟩ := a.cells
  have CS := Lib.hid (gsize_any a.g)
  have AA := Lib.hid a
  have OK := Lib.hid ok
  have hh2 := ok.h2
  have hh1 := ok.h1
  have hw1 := ok.w1
  have hw2 := ok.w2
  have hrow := ok.row
  have hcol := ok.col
  clear a ok
  go_enter Try.func159, Try.ntmps159
  have dB : Below W.heap.size W W.drew := (Below.refl _ _).drew
  have aD := AA.out.below dB
  have hbl : PBk W b (pCells hv p t) := AA.out.blk
  have CM := Lib.hid (pmoveTo_any aD OK.out (t.row : Int) ((t.col : Int) + N) (by omega) (by omega))
  go_wp2_with fail
  refine wp_region_mixT 8 [(true, 0), (true, 1), (true, 2), (true, 3), (true, 4), (true, 5), (true, 6), (true, 7), (true, 8), (true, 9), (true, 10), (false, 11)] (fun w' => PBk w' b (pCells hv p t)) (by kernel_rfl) (by kernel_rfl) (by rfl) (by kernel_rfl) (by kernel_rfl) (fun _ _ d _ _ h => by cases d <;> exact h) (hbl.below dB) ?_
  simp only [mixL, List.getElem?_cons_succ, List.getElem?_cons_zero]
  repeat (refine' wpMix_read (v := _) rfl ?_ ?_; rotate_left 1; (intro w' hw'; obtain ⟨c0, c1, c2, c3, c4, c5, c6, c7, c8, c9, c10, c11, c12, c13, c14, c15, c16, fz⟩ := hw'.cells; go_simp; try with_reducible rfl); try simp only [Act.put, List.setIfInBounds_toArray, List.set_cons_zero, List.set_cons_succ])
  refine wpMix_act (fun K hK => ?_)
  go_wp2_with fail
  refine (CM.out).mono ?_
  rintro e Y ⟨rfl, aY, oY⟩
  go_wp2
  refine hK _ _ (fun h => absurd rfl h) ?_
  clear hK K
  refine wpMix_nil ?_
  go_wp2
  go_end0
  exact ⟨rfl, aY, (Only.on dB).trans oY⟩
set_option maxRecDepth 100000 in
set_option maxHeartbeats 4000000 in
theorem pmove68 {W : World} {b p q : Nat} {hv : Value} {t : TS} (a : TmAt W b p q hv t) (ok : TO0 t) (n m : Int) (hn : 0 ≤ n ∧ n ≤ 9999) (hm : 0 ≤ m ∧ m ≤ 9999) (N M : Int) (hN : N = max 1 n) (hM : M = max 1 m) :
    Calls Try.prog 159 #[.pointer (some ⟨b, 0, none⟩), .int .i64 n, .int .i64 m, .int .u8 68] W (TmPost b p q hv (t.moved (t.row : Int) ((t.col : Int) - N)) W) := by
  have hN2 : 1 ≤ N ∧ N ≤ 9999 := by omega
  have hM2 : 1 ≤ M ∧ M ≤ 9999 := by omega
  have HN := Lib.hid hN
  have HM := Lib.hid hM
  clear hM
  replace hN := hN.symm
  obtain ⟨c0, c1, c2, c3, c4, c5, c6, c7, c8, c9, c10, c11, c12, c13, c14, c15, c16, fz⟩ := a.cells
  have CS := Lib.hid (gsize_any a.g)
  have AA := Lib.hid a
  have OK := Lib.hid ok
  have hh2 := ok.h2
  have hh1 := ok.h1
  have hw1 := ok.w1
  have hw2 := ok.w2
  have hrow := ok.row
  have hcol := ok.col
  clear a ok
  go_enter Try.func159, Try.ntmps159
  have dB : Below W.heap.size W W.drew := (Below.refl _ _).drew
  have aD := AA.out.below dB
  have hbl : PBk W b (pCells hv p t) := AA.out.blk
  have CM := Lib.hid (pmoveTo_any aD OK.out (t.row : Int) ((t.col : Int) - N) (by omega) (by omega))
  go_wp2_with fail
  refine wp_region_mixT 8 [(true, 0), (true, 1), (true, 2), (true, 3), (true, 4), (true, 5), (true, 6), (true, 7), (true, 8), (true, 9), (true, 10), (false, 11)] (fun w' => PBk w' b (pCells hv p t)) (by kernel_rfl) (by kernel_rfl) (by rfl) (by kernel_rfl) (by kernel_rfl) (fun _ _ d _ _ h => by cases d <;> exact h) (hbl.below dB) ?_
  simp only [mixL, List.getElem?_cons_succ, List.getElem?_cons_zero]
  repeat (refine' wpMix_read (v := _) rfl ?_ ?_; rotate_left 1; (intro w' hw'; obtain ⟨c0, c1, c2, c3, c4, c5, c6, c7, c8, c9, c10, c11, c12, c13, c14, c15, c16, fz⟩ := hw'.cells; go_simp; try with_reducible rfl); try simp only [Act.put, List.setIfInBounds_toArray, List.set_cons_zero, List.set_cons_succ])
  refine wpMix_act (fun K hK => ?_)
  go_wp2_with fail
  refine (CM.out).mono ?_
  rintro e Y ⟨rfl, aY, oY⟩
  go_wp2
  refine hK _ _ (fun h => absurd rfl h) ?_
  clear hK K
  refine wpMix_nil ?_
  go_wp2
  go_end0
  exact ⟨rfl, aY, (Only.on dB).trans oY⟩
set_option maxRecDepth 100000 in
set_option maxHeartbeats 4000000 in
theorem pmove71 {W : World} {b p q : Nat} {hv : Value} {t : TS} (a : TmAt W b p q hv t) (ok : TO0 t) (n m : Int) (hn : 0 ≤ n ∧ n ≤ 9999) (hm : 0 ≤ m ∧ m ≤ 9999) (N M : Int) (hN : N = max 1 n) (hM : M = max 1 m) :
    Calls Try.prog 159 #[.pointer (some ⟨b, 0, none⟩), .int .i64 n, .int .i64 m, .int .u8 71] W (TmPost b p q hv (t.moved (t.row : Int) (N - 1)) W) := by
  have hN2 : 1 ≤ N ∧ N ≤ 9999 := by omega
  have hM2 : 1 ≤ M ∧ M ≤ 9999 := by omega
  have HN := Lib.hid hN
  have HM := Lib.hid hM
  clear hM
  replace hN := hN.symm
  obtain ⟨c0, c1, c2, c3, c4, c5, c6, c7, c8, c9, c10, c11, c12, c13, c14, c15, c16, fz⟩ := a.cells
  have CS := Lib.hid (gsize_any a.g)
  have AA := Lib.hid a
  have OK := Lib.hid ok
  have hh2 := ok.h2
  have hh1 := ok.h1
  have hw1 := ok.w1
  have hw2 := ok.w2
  have hrow := ok.row
  have hcol := ok.col
  clear a ok
  go_enter Try.func159, Try.ntmps159
  have CM := Lib.hid (pmoveTo_any AA.out OK.out (t.row : Int) (N - 1) (by omega) (by omega))
  go_wp2_with (go_at_call 86; refine (CM.out).mono ?_; rintro e Y ⟨rfl, aY, oY⟩)
  go_end0
  exact ⟨rfl, aY, oY⟩
set_option maxRecDepth 100000 in
set_option maxHeartbeats 4000000 in
theorem pmove72 {W : World} {b p q : Nat} {hv : Value} {t : TS} (a : TmAt W b p q hv t) (ok : TO0 t) (n m : Int) (hn : 0 ≤ n ∧ n ≤ 9999) (hm : 0 ≤ m ∧ m ≤ 9999) (N M : Int) (hN : N = max 1 n) (hM : M = max 1 m) :
    Calls Try.prog 159 #[.pointer (some ⟨b, 0, none⟩), .int .i64 n, .int .i64 m, .int .u8 72] W (TmPost b p q hv (t.moved (N - 1) (M - 1)) W) := by
  have hN2 : 1 ≤ N ∧ N ≤ 9999 := by omega
  have hM2 : 1 ≤ M ∧ M ≤ 9999 := by omega
  have HN := Lib.hid hN
  have HM := Lib.hid hM
  clear hM
  replace hN := hN.symm
  have hM := HM.out.symm
  obtain ⟨c0, c1, c2, c3, c4, c5, c6, c7, c8, c9, c10, c11, c12, c13, c14, c15, c16, fz⟩ := a.cells
  have CS := Lib.hid (gsize_any a.g)
  have AA := Lib.hid a
  have OK := Lib.hid ok
  have hh2 := ok.h2
  have hh1 := ok.h1
  have hw1 := ok.w1
  have hw2 := ok.w2
  have hrow := ok.row
  have hcol := ok.col
  clear a ok
  go_enter Try.func159, Try.ntmps159
  have CM := Lib.hid (pmoveTo_any AA.out OK.out (N - 1) (M - 1) (by omega) (by omega))
  go_wp2_with (go_at_call 86; refine (CM.out).mono ?_; rintro e Y ⟨rfl, aY, oY⟩)
  go_end0
  exact ⟨rfl, aY, oY⟩
set_option maxRecDepth 100000 in
set_option maxHeartbeats 4000000 in
theorem pmoveN {W : World} {b p q : Nat} {hv : Value} {t : TS} (a : TmAt W b p q hv t) (ok : TO0 t) (n m : Int) (hn : 0 ≤ n ∧ n ≤ 9999) (hm : 0 ≤ m ∧ m ≤ 9999) (e : Nat) (he : e < 256) (k65 : ((e : Int) == 65) = false) (k66 : ((e : Int) == 66) = false) (k67 : ((e : Int) == 67) = false) (k68 : ((e : Int) == 68) = false) (k71 : ((e : Int) == 71) = false) (k72 : ((e : Int) == 72) = false) :
    Calls Try.prog 159 #[.pointer (some ⟨b, 0, none⟩), .int .i64 n, .int .i64 m, .int .u8 (e : Int)] W (TmPost b p q hv t W) := by
  obtain ⟨c0, c1, c2, c3, c4, c5, c6, c7, c8, c9, c10, c11, c12, c13, c14, c15, c16, fz⟩ := a.cells
  have CS := Lib.hid (gsize_any a.g)
  have AA := Lib.hid a
  have OK := Lib.hid ok
  have hh2 := ok.h2
  have hh1 := ok.h1
  have hw1 := ok.w1
  have hw2 := ok.w2
  have hrow := ok.row
  have hcol := ok.col
  clear a ok
  go_enter Try.func159, Try.ntmps159
  go_wp2
  go_end0
  exact ⟨rfl, AA.out, Only.refl _ _⟩
theorem pmove_any {W : World} {b p q : Nat} {hv : Value} {t : TS} (a : TmAt W b p q hv t) (ok : TO0 t) (n m : Nat) (hn : n ≤ 9999) (hm : m ≤ 9999) (e : Nat) (he : e < 256) :
    Calls Try.prog 159 #[.pointer (some ⟨b, 0, none⟩), .int .i64 (n : Int), .int .i64 (m : Int), .int .u8 (e : Int)] W (TmPost b p q hv (t.mv n m e) W) := by
  unfold TS.mv
  by_cases h65 : e = 65
  · subst h65; rw [if_pos rfl]; exact pmove65 a ok n m (by omega) (by omega) _ _ rfl rfl
  rw [if_neg h65]
  by_cases h66 : e = 66
  · subst h66; rw [if_pos rfl]; exact pmove66 a ok n m (by omega) (by omega) _ _ rfl rfl
  rw [if_neg h66]
  by_cases h67 : e = 67
  · subst h67; rw [if_pos rfl]; exact pmove67 a ok n m (by omega) (by omega) _ _ rfl rfl
  rw [if_neg h67]
  by_cases h68 : e = 68
  · subst h68; rw [if_pos rfl]; exact pmove68 a ok n m (by omega) (by omega) _ _ rfl rfl
  rw [if_neg h68]
  by_cases h71 : e = 71
  · subst h71; rw [if_pos rfl]; exact pmove71 a ok n m (by omega) (by omega) _ _ rfl rfl
  rw [if_neg h71]
  by_cases h72 : e = 72
  · subst h72; rw [if_pos rfl]; exact pmove72 a ok n m (by omega) (by omega) _ _ rfl rfl
  rw [if_neg h72]
  exact pmoveN a ok n m (by omega) (by omega) e he (by simp; omega) (by simp; omega) (by simp; omega) (by simp; omega) (by simp; omega) (by simp; omega)
end Go.Proofs.Ytekodpcedjpnjaa
