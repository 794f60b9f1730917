/- The program's terminal: New, and what it tells of itself. No condition. -/
import Derived.Test.YtekodpcedjpnjaaPT17
import Derived.Test.YtekodpcedjpnjaaGrid9
import Derived.Test.YtekodpcedjpnjaaGridE
namespace Go.Proofs.Ytekodpcedjpnjaa
set_option linter.unusedVariables false
set_option linter.unusedSimpArgs false
open Go.RowKit Go.Shelf Go.Maps
set_option maxRecDepth 100000 in
set_option maxHeartbeats 4000000 in
theorem tnew_ok (w h : Nat) (hd : 1 ≤ w ∧ w ≤ 500 ∧ 1 ≤ h ∧ h ≤ 500) (W : World) : Calls Try.prog 28 #[.int .i64 w, .int .i64 h] W fun e w' =>
    ∃ b p q, e = .returned (.tuple #[.pointer (some ⟨b, 0, none⟩), .int .i64 0]) ∧ TmAt w' b p q (.slice none 0 0) (TS.new w h) ∧ (W.heap.size ≤ b ∧ W.heap.size ≤ p ∧ W.heap.size ≤ q) ∧ Below W.heap.size W w' := by
  have CN := Lib.hid (new_ok (w : Int) (h : Int) (by omega) W)
  obtain ⟨h1, h2, h3, h4⟩ := hd
  go_enter Try.func28, Try.ntmps28
  go_wp2_with fail
  refine (CN.out).mono ?_
  rintro e X ⟨p, rfl, hp, g, hb⟩
  simp only [Int.toNat_natCast] at g
  have hpl : p < X.heap.size := (Array.getElem?_eq_some_iff.1 g.head).1
  have hql := g.blk.lt
  have hbs := hb.size
  have b1 : Below X.heap.size X (X.alloc (.cells (pCells (.slice none 0 0) p (TS.new w h)) 83)) := (Below.refl _ _).alloc (Nat.le_refl _) _
  have aN : TmAt (X.alloc (.cells (pCells (.slice none 0 0) p (TS.new w h)) 83)) X.heap.size p W.heap.size (.slice none 0 0) (TS.new w h) := by
    refine ⟨World.alloc_heap_new X _, ?_, by omega, by omega⟩
    have g2 := g.only (Only.of_below b1 : Only [] X _) (by simp) (by simp)
    have e1 : (TS.new w h).R.flatten = List.replicate (w * h) GC.blank := blank_flat w h
    rw [e1]
    exact g2
  have HAN := Lib.hid aN
  have HB := Lib.hid (bto hb b1 hbs)
  clear aN b1 CN
  go_wp2
  go_ret2
  exact ⟨_, _, _, rfl, HAN.out, ⟨hbs, hp, Nat.le_refl _⟩, HB.out⟩
set_option maxRecDepth 100000 in
set_option maxHeartbeats 4000000 in
theorem tnew_bad (w h : Int) (hd : ¬ (1 ≤ w ∧ w ≤ 500 ∧ 1 ≤ h ∧ h ≤ 500)) (W : World) : Calls Try.prog 28 #[.int .i64 w, .int .i64 h] W fun e w' => e = .returned (.tuple #[.pointer none, .int .i64 50]) ∧ W = w' := by
  by_cases h1 : w < 1
  · clear hd
    go_enter Try.func28, Try.ntmps28
    go_wp2
    go_ret2
    exact ⟨rfl, rfl⟩
  by_cases h2 : 500 < w
  · clear hd
    go_enter Try.func28, Try.ntmps28
    go_wp2
    go_ret2
    exact ⟨rfl, rfl⟩
  by_cases h3 : h < 1
  · clear hd
    go_enter Try.func28, Try.ntmps28
    go_wp2
    go_ret2
    exact ⟨rfl, rfl⟩
  have h4 : 500 < h := by omega
  clear hd
  go_enter Try.func28, Try.ntmps28
  go_wp2
  go_ret2
  exact ⟨rfl, rfl⟩
set_option maxRecDepth 100000 in
set_option maxHeartbeats 4000000 in
theorem tpending_any {W : World} {b p q : Nat} {hv : Value} {t : TS} (a : TmAt W b p q hv t) : Calls Try.prog 34 #[.pointer (some ⟨b, 0, none⟩)] W fun e w' => e = .returned (.bool t.pend) ∧ W = w' := by
  have CM := Lib.hid (tmade_any a)
  obtain ⟨c0, c1, c2, c3, c4, c5, c6, c7, c8, c9, c10, c11, c12, c13, c14, c15, c16, fz⟩ := a.cells
  clear a
  go_enter Try.func34, Try.ntmps34
  go_wp2_with (go_at_call 78; refine (CM.out).mono ?_; rintro e w1 ⟨rfl, rfl⟩)
  go_ret
  exact ⟨rfl, rfl⟩
set_option maxRecDepth 100000 in
set_option maxHeartbeats 4000000 in
theorem tmarked_any {W : World} {b p q : Nat} {hv : Value} {t : TS} (a : TmAt W b p q hv t) : Calls Try.prog 44 #[.pointer (some ⟨b, 0, none⟩)] W fun e w' => e = .returned (.bool t.marked) ∧ W = w' := by
  have CM := Lib.hid (tmade_any a)
  obtain ⟨c0, c1, c2, c3, c4, c5, c6, c7, c8, c9, c10, c11, c12, c13, c14, c15, c16, fz⟩ := a.cells
  clear a
  go_enter Try.func44, Try.ntmps44
  go_wp2_with (go_at_call 78; refine (CM.out).mono ?_; rintro e w1 ⟨rfl, rfl⟩)
  go_ret
  exact ⟨rfl, rfl⟩
set_option maxRecDepth 100000 in
set_option maxHeartbeats 4000000 in
theorem tbells_any {W : World} {b p q : Nat} {hv : Value} {t : TS} (a : TmAt W b p q hv t) : Calls Try.prog 41 #[.pointer (some ⟨b, 0, none⟩)] W fun e w' => e = .returned (.int .i64 (t.bells : Int)) ∧ W = w' := by
  have CM := Lib.hid (tmade_any a)
  obtain ⟨c0, c1, c2, c3, c4, c5, c6, c7, c8, c9, c10, c11, c12, c13, c14, c15, c16, fz⟩ := a.cells
  clear a
  go_enter Try.func41, Try.ntmps41
  go_wp2_with (go_at_call 78; refine (CM.out).mono ?_; rintro e w1 ⟨rfl, rfl⟩)
  go_ret
  exact ⟨rfl, rfl⟩
set_option maxRecDepth 100000 in
set_option maxHeartbeats 4000000 in
theorem tgone_any {W : World} {b p q : Nat} {hv : Value} {t : TS} (a : TmAt W b p q hv t) : Calls Try.prog 35 #[.pointer (some ⟨b, 0, none⟩)] W fun e w' => e = .returned (.int .i64 (t.gone : Int)) ∧ W = w' := by
  have CM := Lib.hid (tmade_any a)
  obtain ⟨c0, c1, c2, c3, c4, c5, c6, c7, c8, c9, c10, c11, c12, c13, c14, c15, c16, fz⟩ := a.cells
  clear a
  go_enter Try.func35, Try.ntmps35
  go_wp2_with (go_at_call 78; refine (CM.out).mono ?_; rintro e w1 ⟨rfl, rfl⟩)
  go_ret
  exact ⟨rfl, rfl⟩
set_option maxRecDepth 100000 in
set_option maxHeartbeats 4000000 in
theorem tseen_any {W : World} {b p q : Nat} {hv : Value} {t : TS} (a : TmAt W b p q hv t) : Calls Try.prog 43 #[.pointer (some ⟨b, 0, none⟩)] W fun e w' => e = .returned (.bool t.seen) ∧ W = w' := by
  have CM := Lib.hid (tmade_any a)
  obtain ⟨c0, c1, c2, c3, c4, c5, c6, c7, c8, c9, c10, c11, c12, c13, c14, c15, c16, fz⟩ := a.cells
  clear a
  go_enter Try.func43, Try.ntmps43
  go_wp2_with (go_at_call 78; refine (CM.out).mono ?_; rintro e w1 ⟨rfl, rfl⟩)
  go_ret
  exact ⟨ret_bool (by simp), rfl⟩
set_option maxRecDepth 100000 in
set_option maxHeartbeats 4000000 in
theorem twaits_any {n₀ : Nat} {l : List UInt8} {W : World} {b p q : Nat} {hv : Value} {t : TS} (a : TmAt W b p q hv t) (hh : Held W n₀ hv l) : Calls Try.prog 42 #[.pointer (some ⟨b, 0, none⟩)] W fun e w' => e = .returned (.int .i64 (l.length : Nat)) ∧ W = w' := by
  have CM := Lib.hid (tmade_any a)
  obtain ⟨c0, c1, c2, c3, c4, c5, c6, c7, c8, c9, c10, c11, c12, c13, c14, c15, c16, fz⟩ := a.cells
  obtain ⟨n, hn⟩ : ∃ n, n = l.length := ⟨_, rfl⟩
  obtain ⟨va, vc, hva⟩ := own_slice hh
  rw [← hn] at hva ⊢
  rw [hva] at c0
  clear a hh hn hva
  go_enter Try.func42, Try.ntmps42
  go_wp2_with (go_at_call 78; refine (CM.out).mono ?_; rintro e w1 ⟨rfl, rfl⟩)
  go_ret
  exact ⟨rfl, rfl⟩
set_option maxRecDepth 100000 in
set_option maxHeartbeats 4000000 in
theorem tcursor_any {W : World} {b p q : Nat} {hv : Value} {t : TS} (a : TmAt W b p q hv t) : Calls Try.prog 33 #[.pointer (some ⟨b, 0, none⟩)] W fun e w' => e = .returned (.tuple #[.int .i64 (t.row : Int), .int .i64 (t.col : Int)]) ∧ Below W.heap.size W w' := by
  have CM := Lib.hid (tmade_any a)
  obtain ⟨c0, c1, c2, c3, c4, c5, c6, c7, c8, c9, c10, c11, c12, c13, c14, c15, c16, fz⟩ := a.cells
  clear a
  go_enter Try.func33, Try.ntmps33
  go_wp2_with (go_at_call 78; refine (CM.out).mono ?_; rintro e w1 ⟨rfl, rfl⟩)
  refine wp_region_still_lit (by kernel_rfl) (by kernel_rfl) ?_
  repeat still_step
  refine wpStill_nil ?_
  go_wp2
  go_ret2
  exact ⟨rfl, (Below.refl _ _).drew⟩
set_option maxRecDepth 100000 in
set_option maxHeartbeats 4000000 in
theorem tsize_any {W : World} {b p q : Nat} {hv : Value} {t : TS} (a : TmAt W b p q hv t)  : Calls Try.prog 37 #[.pointer (some ⟨b, 0, none⟩)] W fun e w' => e = .returned (.tuple #[.int .i64 (t.W : Int), .int .i64 (t.H : Int)]) ∧ Below W.heap.size W w' := by
  have CM := Lib.hid (tmade_any a)
  have CG := Lib.hid (gsize_any a.g)
  obtain ⟨c0, c1, c2, c3, c4, c5, c6, c7, c8, c9, c10, c11, c12, c13, c14, c15, c16, fz⟩ := a.cells
  clear a
  go_enter Try.func37, Try.ntmps37
  go_wp2_with (first
    | (go_at_call 78; refine (CM.out).mono ?_; rintro e w1 ⟨rfl, rfl⟩)
    | (refine (CG.out).mono ?_; rintro e w2 ⟨rfl, hb⟩))
  go_ret2
  exact ⟨rfl, hb⟩
set_option maxRecDepth 100000 in
set_option maxHeartbeats 4000000 in
theorem ttext_any {W : World} {b p q : Nat} {hv : Value} {t : TS} (a : TmAt W b p q hv t) (ok : TO0 t) (r : Nat) (hr : r < t.H) : Calls Try.prog 40 #[.pointer (some ⟨b, 0, none⟩), .int .i64 (r : Int)] W fun e w' => e = .returned (.string (S (trimL (textL (lineL t.R.flatten t.W r))))) ∧ Below W.heap.size W w' := by
  have CM := Lib.hid (tmade_any a)
  have CG := Lib.hid (gtext_ok a.g (fun c hc => ok.ro.flat c hc) (r : Int) (by omega) (by omega))
  obtain ⟨c0, c1, c2, c3, c4, c5, c6, c7, c8, c9, c10, c11, c12, c13, c14, c15, c16, fz⟩ := a.cells
  clear a
  go_enter Try.func40, Try.ntmps40
  go_wp2_with (first
    | (go_at_call 78; refine (CM.out).mono ?_; rintro e w1 ⟨rfl, rfl⟩)
    | (refine (CG.out).mono ?_; rintro e w2 ⟨rfl, hb⟩))
  go_ret
  exact ⟨rfl, hb⟩
set_option maxRecDepth 100000 in
set_option maxHeartbeats 4000000 in
theorem trow_any {W : World} {b p q : Nat} {hv : Value} {t : TS} (a : TmAt W b p q hv t) (r : Nat) (hr : r < t.H) : Calls Try.prog 39 #[.pointer (some ⟨b, 0, none⟩), .int .i64 (r : Int)] W fun e w' => e = .returned (.slice (some ⟨W.heap.size, 0, none⟩) t.W t.W) ∧ GBlk w' W.heap.size (lineL t.R.flatten t.W r) ∧ Below W.heap.size W w' := by
  have CM := Lib.hid (tmade_any a)
  have CG := Lib.hid (row_ok a.g (r : Int) (by omega) (by omega))
  obtain ⟨c0, c1, c2, c3, c4, c5, c6, c7, c8, c9, c10, c11, c12, c13, c14, c15, c16, fz⟩ := a.cells
  clear a
  go_enter Try.func39, Try.ntmps39
  go_wp2_with (first
    | (go_at_call 78; refine (CM.out).mono ?_; rintro e w1 ⟨rfl, rfl⟩)
    | (refine (CG.out).mono ?_; rintro e w2 ⟨rfl, g2, hb⟩))
  go_ret
  exact ⟨rfl, g2, hb⟩
end Go.Proofs.Ytekodpcedjpnjaa
