/- The program's terminal: control. No condition but that the counters are not at their ends. -/
import Derived.Test.YtekodpcedjpnjaaPT1
namespace Go.Proofs.Ytekodpcedjpnjaa
set_option linter.unusedVariables false
set_option linter.unusedSimpArgs false
open Go.RowKit Go.Maps
theorem col_at {X : World} {b p q : Nat} {hv : Value} {t : TS} (a : TmAt X b p q hv t) (c' : Nat) (x : Int) (hx : x = (c' : Int)) :
    TmAt ((X.setCell ⟨b, 3, none⟩ (.int .i64 x)).setCell ⟨b, 9, none⟩ (.bool false)) b p q hv { t with col := c', pend := false } ∧ Only [b] X ((X.setCell ⟨b, 3, none⟩ (.int .i64 x)).setCell ⟨b, 9, none⟩ (.bool false)) := by
  subst hx
  exact ⟨(a.put 3 _ hv { t with col := c' } rfl rfl rfl rfl).put 9 _ hv { t with col := c', pend := false } rfl rfl rfl rfl, (set_only _ _ _ _).trans (set_only _ _ _ _)⟩
set_option maxRecDepth 100000 in
set_option maxHeartbeats 4000000 in
theorem pctl7 {W : World} {b p q : Nat} {hv : Value} {t : TS} (a : TmAt W b p q hv t) (ok : TO0 t) (hg : t.gone < 4611686018427387904) (hbl : t.bells < 4611686018427387904) :
    Calls Try.prog 107 #[.pointer (some ⟨b, 0, none⟩), .int .u8 7] W (TmPost b p q hv ({ t with last := false, bells := t.bells + 1 }) W) := by
  obtain ⟨c0, c1, c2, c3, c4, c5, c6, c7, c8, c9, c10, c11, c12, c13, c14, c15, c16, fz⟩ := a.cells
  have a1 := a.put 14 (.bool false) hv { t with last := false } rfl rfl rfl rfl
  have o1 := set_only W b 14 (.bool false)
  have CS := Lib.hid (gsize_any a1.g)
  have OK := Lib.hid ok
  have hw2 := ok.w2
  have hh2 := ok.h2
  have hw1 := ok.w1
  have hh1 := ok.h1
  have hcol := ok.col
  clear ok a
  go_enter Try.func107, Try.ntmps107
  go_upto_region 2 with (go_at_call 66; refine (CS.out).mono ?_; rintro e X ⟨rfl, hb⟩)
  have aX := a1.below hb
  have oX : Only [b, q] W X := (o1.ob (q := q)).trans (Only.on hb)
  clear c0 c1 c2 c3 c4 c5 c6 c7 c8 c9 c10 c11 c12 c13 c14 c15 c16 fz CS a1
  obtain ⟨c0, c1, c2, c3, c4, c5, c6, c7, c8, c9, c10, c11, c12, c13, c14, c15, c16, fz⟩ := aX.cells
  dsimp only at c1 c2 c3 c4 c5 c6 c7 c8 c9 c10 c11 c12 c13 c14 c15 c16 fz
  have hbi : (t.bells : Int) + 1 < 9223372036854775807 := by omega
  go_wp2
  go_end0
  have e1 : ((t.bells : Int) + 1) = ((t.bells + 1 : Nat) : Int) := by omega
  rw [e1]
  exact ⟨rfl, aX.put 12 _ hv { t with last := false, bells := t.bells + 1 } rfl rfl rfl rfl, oX.trans (set_only _ _ _ _).ob⟩
set_option maxRecDepth 100000 in
set_option maxHeartbeats 4000000 in
theorem pctl8 {W : World} {b p q : Nat} {hv : Value} {t : TS} (a : TmAt W b p q hv t) (ok : TO0 t) (hg : t.gone < 4611686018427387904) (hbl : t.bells < 4611686018427387904) (C' : Nat) (hC' : (C' : Int) = max 0 ((t.col : Int) - 1)) :
    Calls Try.prog 107 #[.pointer (some ⟨b, 0, none⟩), .int .u8 8] W (TmPost b p q hv ({ t with last := false, col := C', pend := false }) W) := by
  obtain ⟨c0, c1, c2, c3, c4, c5, c6, c7, c8, c9, c10, c11, c12, c13, c14, c15, c16, fz⟩ := a.cells
  have a1 := a.put 14 (.bool false) hv { t with last := false } rfl rfl rfl rfl
  have o1 := set_only W b 14 (.bool false)
  have CS := Lib.hid (gsize_any a1.g)
  have OK := Lib.hid ok
  have hw2 := ok.w2
  have hh2 := ok.h2
  have hw1 := ok.w1
  have hh1 := ok.h1
  have hcol := ok.col
  have HC := Lib.hid hC'
  clear ok a hC'
  go_enter Try.func107, Try.ntmps107
  go_upto_region 2 with (go_at_call 66; refine (CS.out).mono ?_; rintro e X ⟨rfl, hb⟩)
  have aX := a1.below hb
  have oX : Only [b, q] W X := (o1.ob (q := q)).trans (Only.on hb)
  clear c0 c1 c2 c3 c4 c5 c6 c7 c8 c9 c10 c11 c12 c13 c14 c15 c16 fz CS a1
  obtain ⟨c0, c1, c2, c3, c4, c5, c6, c7, c8, c9, c10, c11, c12, c13, c14, c15, c16, fz⟩ := aX.cells
  dsimp only at c1 c2 c3 c4 c5 c6 c7 c8 c9 c10 c11 c12 c13 c14 c15 c16 fz
  go_wp2
  all_goals
    go_end0
    refine ⟨rfl, (col_at aX C' _ ?_).1, oX.trans (col_at aX C' _ ?_).2.ob⟩ <;> (have := HC.out; omega)
set_option maxRecDepth 100000 in
set_option maxHeartbeats 4000000 in
theorem pctl9 {W : World} {b p q : Nat} {hv : Value} {t : TS} (a : TmAt W b p q hv t) (ok : TO0 t) (hg : t.gone < 4611686018427387904) (hbl : t.bells < 4611686018427387904) (C' : Nat) (hC' : (C' : Int) = min ((t.W : Int) - 1) ((t.col : Int) / 8 * 8 + 8)) :
    Calls Try.prog 107 #[.pointer (some ⟨b, 0, none⟩), .int .u8 9] W (TmPost b p q hv ({ t with last := false, col := C', pend := false }) W) := by
  obtain ⟨c0, c1, c2, c3, c4, c5, c6, c7, c8, c9, c10, c11, c12, c13, c14, c15, c16, fz⟩ := a.cells
  have a1 := a.put 14 (.bool false) hv { t with last := false } rfl rfl rfl rfl
  have o1 := set_only W b 14 (.bool false)
  have CS := Lib.hid (gsize_any a1.g)
  have OK := Lib.hid ok
  have hw2 := ok.w2
  have hh2 := ok.h2
  have hw1 := ok.w1
  have hh1 := ok.h1
  have hcol := ok.col
  have HC := Lib.hid hC'
  have hq : 0 ≤ (t.col : Int) := by omega
  clear ok a hC'
  go_enter Try.func107, Try.ntmps107
  go_upto_region 2 with (go_at_call 66; refine (CS.out).mono ?_; rintro e X ⟨rfl, hb⟩)
  have aX := a1.below hb
  have oX : Only [b, q] W X := (o1.ob (q := q)).trans (Only.on hb)
  clear c0 c1 c2 c3 c4 c5 c6 c7 c8 c9 c10 c11 c12 c13 c14 c15 c16 fz CS a1
  obtain ⟨c0, c1, c2, c3, c4, c5, c6, c7, c8, c9, c10, c11, c12, c13, c14, c15, c16, fz⟩ := aX.cells
  dsimp only at c1 c2 c3 c4 c5 c6 c7 c8 c9 c10 c11 c12 c13 c14 c15 c16 fz
  go_wp2
  all_goals
    go_end0
    refine ⟨rfl, (col_at aX C' _ ?_).1, oX.trans (col_at aX C' _ ?_).2.ob⟩ <;> (have := HC.out; omega)
set_option maxRecDepth 100000 in
set_option maxHeartbeats 4000000 in
theorem pctl10 {W : World} {b p q : Nat} {hv : Value} {t : TS} (a : TmAt W b p q hv t) (ok : TO0 t) (hg : t.gone < 4611686018427387904) (hbl : t.bells < 4611686018427387904) :
    Calls Try.prog 107 #[.pointer (some ⟨b, 0, none⟩), .int .u8 10] W (TmPost b p q hv (t.off.feed) W) := by
  obtain ⟨c0, c1, c2, c3, c4, c5, c6, c7, c8, c9, c10, c11, c12, c13, c14, c15, c16, fz⟩ := a.cells
  have a1 := a.put 14 (.bool false) hv { t with last := false } rfl rfl rfl rfl
  have o1 := set_only W b 14 (.bool false)
  have CS := Lib.hid (gsize_any a1.g)
  have OK := Lib.hid ok
  have hw2 := ok.w2
  have hh2 := ok.h2
  have hw1 := ok.w1
  have hh1 := ok.h1
  have hcol := ok.col
  clear ok a
  go_enter Try.func107, Try.ntmps107
  go_upto_region 2 with (go_at_call 66; refine (CS.out).mono ?_; rintro e X ⟨rfl, hb⟩)
  have aX := a1.below hb
  have oX : Only [b, q] W X := (o1.ob (q := q)).trans (Only.on hb)
  clear c0 c1 c2 c3 c4 c5 c6 c7 c8 c9 c10 c11 c12 c13 c14 c15 c16 fz CS a1
  obtain ⟨c0, c1, c2, c3, c4, c5, c6, c7, c8, c9, c10, c11, c12, c13, c14, c15, c16, fz⟩ := aX.cells
  dsimp only at c1 c2 c3 c4 c5 c6 c7 c8 c9 c10 c11 c12 c13 c14 c15 c16 fz
  have okX : TO0 { t with last := false } := ⟨OK.out.w1, OK.out.w2, OK.out.h1, OK.out.h2, OK.out.ok, OK.out.ro, OK.out.row, OK.out.col⟩
  have CF := Lib.hid (pfeed_any aX okX hg)
  go_wp2_with (go_at_call 124; refine (CF.out).mono ?_; rintro e Y ⟨rfl, aY, oY⟩)
  go_end0
  exact ⟨rfl, aY, oX.trans oY⟩
set_option maxRecDepth 100000 in
set_option maxHeartbeats 4000000 in
theorem pctl13 {W : World} {b p q : Nat} {hv : Value} {t : TS} (a : TmAt W b p q hv t) (ok : TO0 t) (hg : t.gone < 4611686018427387904) (hbl : t.bells < 4611686018427387904) :
    Calls Try.prog 107 #[.pointer (some ⟨b, 0, none⟩), .int .u8 13] W (TmPost b p q hv ({ t with last := false, col := 0, pend := false }) W) := by
  obtain ⟨c0, c1, c2, c3, c4, c5, c6, c7, c8, c9, c10, c11, c12, c13, c14, c15, c16, fz⟩ := a.cells
  have a1 := a.put 14 (.bool false) hv { t with last := false } rfl rfl rfl rfl
  have o1 := set_only W b 14 (.bool false)
  have CS := Lib.hid (gsize_any a1.g)
  have OK := Lib.hid ok
  have hw2 := ok.w2
  have hh2 := ok.h2
  have hw1 := ok.w1
  have hh1 := ok.h1
  have hcol := ok.col
  clear ok a
  go_enter Try.func107, Try.ntmps107
  go_upto_region 2 with (go_at_call 66; refine (CS.out).mono ?_; rintro e X ⟨rfl, hb⟩)
  have aX := a1.below hb
  have oX : Only [b, q] W X := (o1.ob (q := q)).trans (Only.on hb)
  clear c0 c1 c2 c3 c4 c5 c6 c7 c8 c9 c10 c11 c12 c13 c14 c15 c16 fz CS a1
  obtain ⟨c0, c1, c2, c3, c4, c5, c6, c7, c8, c9, c10, c11, c12, c13, c14, c15, c16, fz⟩ := aX.cells
  dsimp only at c1 c2 c3 c4 c5 c6 c7 c8 c9 c10 c11 c12 c13 c14 c15 c16 fz
  go_wp2
  go_end0
  exact ⟨rfl, (col_at aX 0 0 rfl).1, oX.trans (col_at aX 0 0 rfl).2.ob⟩
set_option maxRecDepth 100000 in
set_option maxHeartbeats 4000000 in
theorem pctl0 {W : World} {b p q : Nat} {hv : Value} {t : TS} (a : TmAt W b p q hv t) (ok : TO0 t) (hg : t.gone < 4611686018427387904) (hbl : t.bells < 4611686018427387904) (n : Nat) (hn : n < 256) (k7 : ((n : Int) == 7) = false) (k8 : ((n : Int) == 8) = false) (k9 : ((n : Int) == 9) = false) (k10 : ((n : Int) == 10) = false) (k13 : ((n : Int) == 13) = false) :
    Calls Try.prog 107 #[.pointer (some ⟨b, 0, none⟩), .int .u8 (n : Int)] W (TmPost b p q hv ({ t with last := false }) W) := by
  obtain ⟨c0, c1, c2, c3, c4, c5, c6, c7, c8, c9, c10, c11, c12, c13, c14, c15, c16, fz⟩ := a.cells
  have a1 := a.put 14 (.bool false) hv { t with last := false } rfl rfl rfl rfl
  have o1 := set_only W b 14 (.bool false)
  have CS := Lib.hid (gsize_any a1.g)
  have OK := Lib.hid ok
  have hw2 := ok.w2
  have hh2 := ok.h2
  have hw1 := ok.w1
  have hh1 := ok.h1
  have hcol := ok.col
  clear ok a
  go_enter Try.func107, Try.ntmps107
  go_upto_region 2 with (go_at_call 66; refine (CS.out).mono ?_; rintro e X ⟨rfl, hb⟩)
  have aX := a1.below hb
  have oX : Only [b, q] W X := (o1.ob (q := q)).trans (Only.on hb)
  clear c0 c1 c2 c3 c4 c5 c6 c7 c8 c9 c10 c11 c12 c13 c14 c15 c16 fz CS a1
  obtain ⟨c0, c1, c2, c3, c4, c5, c6, c7, c8, c9, c10, c11, c12, c13, c14, c15, c16, fz⟩ := aX.cells
  dsimp only at c1 c2 c3 c4 c5 c6 c7 c8 c9 c10 c11 c12 c13 c14 c15 c16 fz
  go_wp2
  go_end0
  exact ⟨rfl, aX, oX⟩
theorem pcontrol_any {W : World} {b p q : Nat} {hv : Value} {t : TS} (a : TmAt W b p q hv t) (ok : TO0 t) (hg : t.gone < 4611686018427387904) (hbl : t.bells < 4611686018427387904) (n : Nat) (hn : n < 256) :
    Calls Try.prog 107 #[.pointer (some ⟨b, 0, none⟩), .int .u8 (n : Int)] W (TmPost b p q hv (t.control n) W) := by
  unfold TS.control
  by_cases h7 : n = 7
  · subst h7; rw [if_pos rfl]; exact pctl7 (t := t) a ok hg hbl
  rw [if_neg h7]
  by_cases h8 : n = 8
  · subst h8; rw [if_pos rfl]; exact pctl8 (t := t) a ok hg hbl _ (by omega)
  rw [if_neg h8]
  by_cases h9 : n = 9
  · subst h9; rw [if_pos rfl]; exact pctl9 (t := t) a ok hg hbl _ (by have := ok.w1; omega)
  rw [if_neg h9]
  by_cases h10 : n = 10
  · subst h10; rw [if_pos rfl]; exact pctl10 a ok hg hbl
  rw [if_neg h10]
  by_cases h13 : n = 13
  · subst h13; rw [if_pos rfl]; exact pctl13 (t := t) a ok hg hbl
  rw [if_neg h13]
  exact pctl0 (t := t) a ok hg hbl n hn (by simpa using by omega) (by simpa using by omega) (by simpa using by omega) (by simpa using by omega) (by simpa using by omega)
end Go.Proofs.Ytekodpcedjpnjaa
