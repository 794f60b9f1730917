/- The program's region: Start, Resize; what a region that nobody made does. No condition. Printed by gen_rn2.py. -/
import Derived.Test.YtekodpcedjpnjaaGreatRN37
set_option linter.unusedVariables false
set_option linter.unusedSimpArgs false
namespace Go.Proofs.YtekodpcedjpnjaaGreat
open Go.RowKit Go.Shelf Go.Maps
set_option maxRecDepth 100000 in
theorem gStart_no {W : World} {v : Value} (h : NoR W v) : Calls Tryz.prog 61 #[v] W fun e w' => e = .returned (.tuple #[.string ⟨#[]⟩, .int .i64 4]) ∧ Below W.heap.size W w' := by
  have CM := Lib.hid (fun (X : World) (hX : Below W.heap.size W X) => gmade_no (h.below hX))
  obtain ⟨x, rfl⟩ := h.ptr
  clear h
  go_enter Tryz.func61, Tryz.ntmps61
  go_wp2_with (go_at_call 128; refine (CM.out _ (Below.refl _ _)).mono ?_; rintro e X ⟨rfl, rfl⟩)
  go_ret2
  exact ⟨rfl, Below.refl _ _⟩
set_option maxRecDepth 100000 in
theorem gResize_no {W : World} {v : Value} (h : NoR W v) (a d : Int) : Calls Tryz.prog 80 #[v, .int .i64 a, .int .i64 d] W fun e w' => e = .returned (.tuple #[.string ⟨#[]⟩, .int .i64 4]) ∧ Below W.heap.size W w' := by
  have CM := Lib.hid (fun (X : World) (hX : Below W.heap.size W X) => gmade_no (h.below hX))
  obtain ⟨x, rfl⟩ := h.ptr
  clear h
  go_enter Tryz.func80, Tryz.ntmps80
  go_wp2_with (go_at_call 128; refine (CM.out _ (Below.refl _ _)).mono ?_; rintro e X ⟨rfl, rfl⟩)
  go_ret2
  exact ⟨rfl, Below.refl _ _⟩
set_option maxRecDepth 100000 in
theorem gAbove_no {W : World} {v : Value} (h : NoR W v) (a : Option Addr) (n c : Nat) : Calls Tryz.prog 81 #[v, .slice a n c] W fun e w' => e = .returned (.tuple #[.string ⟨#[]⟩, .int .i64 4]) ∧ Below W.heap.size W w' := by
  have CM := Lib.hid (fun (X : World) (hX : Below W.heap.size W X) => gmade_no (h.below hX))
  obtain ⟨x, rfl⟩ := h.ptr
  clear h
  go_enter Tryz.func81, Tryz.ntmps81
  go_wp2_with (go_at_call 128; refine (CM.out _ (Below.refl _ _)).mono ?_; rintro e X ⟨rfl, rfl⟩)
  go_ret2
  exact ⟨rfl, Below.refl _ _⟩
set_option maxRecDepth 100000 in
theorem gEnd_no {W : World} {v : Value} (h : NoR W v) (a : Option Addr) (n c : Nat) : Calls Tryz.prog 64 #[v, .slice a n c] W fun e w' => e = .returned (.tuple #[.string ⟨#[]⟩, .int .i64 4]) ∧ Below W.heap.size W w' := by
  have CM := Lib.hid (fun (X : World) (hX : Below W.heap.size W X) => gmade_no (h.below hX))
  obtain ⟨x, rfl⟩ := h.ptr
  clear h
  go_enter Tryz.func64, Tryz.ntmps64
  go_wp2_with (go_at_call 128; refine (CM.out _ (Below.refl _ _)).mono ?_; rintro e X ⟨rfl, rfl⟩)
  go_ret2
  exact ⟨rfl, Below.refl _ _⟩
set_option maxRecDepth 100000 in
theorem gDraw_no {W : World} {v : Value} (h : NoR W v) (u : Value) (r c : Int) (s : Bool) : Calls Tryz.prog 62 #[v, .agg #[u, .int .i64 r, .int .i64 c, .bool s]] W fun e w' => e = .returned (.tuple #[.string ⟨#[]⟩, .int .i64 4]) ∧ Below W.heap.size W w' := by
  have CM := Lib.hid (fun (X : World) (hX : Below W.heap.size W X) => gmade_no (h.below hX))
  obtain ⟨x, rfl⟩ := h.ptr
  clear h
  go_enter Tryz.func62, Tryz.ntmps62
  go_wp2_with (go_at_call 128; refine (CM.out _ ((Below.refl _ _).alloc (Nat.le_refl _) _)).mono ?_; rintro e X ⟨rfl, rfl⟩)
  go_ret2
  exact ⟨rfl, ((Below.refl _ _).alloc (Nat.le_refl _) _)⟩
theorem pasteB_mode (on : Bool) : modeL [50, 48, 48, 52] on = pasteB on := by cases on <;> rfl
theorem seen_B (on : Bool) (w : World) : Calls Tryz.prog 131 #[.bool on] w fun r w' => r = .returned (.string (S (seenB on))) ∧ w = w' := by
  have := seen_any on w
  rw [seenB_mode] at this
  exact this
theorem paste_B (on : Bool) (w : World) : Calls Tryz.prog 132 #[.bool on] w fun r w' => r = .returned (.string (S (pasteB on))) ∧ w = w' := by
  have := paste_any on w
  rw [pasteB_mode] at this
  exact this
theorem reserveB_len {n : Nat} (h : n ≤ 60) : (reserveB n).length ≤ 75 := by
  unfold reserveB belowB
  have := byL_len ((n : Int) - 1) 65
  simp only [List.length_append, List.length_cons, List.length_nil, List.length_replicate]
  omega
structure OkR (x : RSt) : Prop where
  w : 1 ≤ x.w ∧ x.w ≤ 500
  h : 1 ≤ x.h ∧ x.h ≤ 500
  n : 1 ≤ x.want ∧ x.want ≤ 60
  ph : 1 ≤ x.ph ∧ x.ph ≤ 3
  op : x.ph = 2 → okF x.A x.r x.c = true ∧ x.A.length = min x.want x.h ∧ (nth [] x.A 0).length = x.w
  cl : x.ph ≠ 2 → x.A = [] ∧ x.r = 0 ∧ x.c = 0 ∧ x.s = false
def RSt.rows (x : RSt) : Nat := min x.want x.h
theorem OkR.rows {x : RSt} (k : OkR x) : 1 ≤ x.rows ∧ x.rows ≤ 60 ∧ (min (x.want : Int) (x.h : Int) = (x.rows : Int)) := by
  have h1 := k.h
  have h2 := k.n
  unfold RSt.rows
  refine ⟨by omega, by omega, by omega⟩
def RSt.blank (x : RSt) : RSt := { x with A := blankM x.w x.rows, r := 0, c := 0, s := true, ph := 2 }
set_option maxRecDepth 100000 in
set_option maxHeartbeats 4000000 in
theorem gstart_ok {W : World} {b : Nat} {x : RSt} (z : RgI W b x) (k : OkR x) (hp : x.ph = 1) : Calls Tryz.prog 61 #[.pointer (some ⟨b, 0, none⟩)] W fun e w' => e = .returned (.tuple #[.string (S (startB x.rows)), .int .i64 0]) ∧ Only [b] W w' ∧ RgI w' b x.blank := by
  obtain ⟨av, cap, zB, hA, hc1, hc2⟩ := z
  obtain ⟨n1, n2, n3⟩ := k.rows
  obtain ⟨c0, c1, c2, c3, c4, c5, c6, c7⟩ := zB.cells
  have CM := Lib.hid (gmade_any zB (by omega))
  have CB := Lib.hid (gblank_any zB hA n3 n1 n2 k.w)
  have CR := Lib.hid (fun (Y : World) (av' : Option Addr) (cap' : Nat) (zY : RgB Y b (.slice av' (blankM x.w x.rows).length cap') 0 0 true x.w x.h x.want 2) => greserve_any zY n3 n1 n2)
  have hl := S_le (reserveB x.rows) 75 (reserveB_len n2)
  have hl2 := S_le (seenB true) 10 (by decide)
  have hl3 := S_le (pasteB true) 10 (by decide)
  have hl4 : ((S (reserveB x.rows)).size : Int) ≤ 75 := by omega
  have hpi : (x.ph : Int) = 1 := by omega
  rw [hpi] at c7
  clear zB hA
  go_enter Tryz.func61, Tryz.ntmps61
  go_wp2_with (first
    | (go_at_call 128; refine CM.out.mono ?_; rintro e X ⟨rfl, rfl⟩)
    | (go_at_call 129; refine CB.out.mono ?_; rintro e w1 ⟨rfl, o1, av', cap', z1, hR1, hcap1⟩)
    | (go_at_call 130; refine (CR.out _ _ _ z1).mono ?_; rintro e w2 ⟨rfl, hb2⟩)
    | (go_at_call 131; refine (seen_B true _).mono ?_; rintro e w3 ⟨rfl, rfl⟩)
    | (go_at_call 132; refine (paste_B true _).mono ?_; rintro e w4 ⟨rfl, rfl⟩))
  go_ret2
  refine ⟨?_, o1.trans (Only.of_below hb2), av', cap', z1.below hb2, hR1.below hb2, hcap1⟩
  have e1 : S [27, 91, 48, 109] ++ S (reserveB x.rows) ++ S (seenB true) ++ S (pasteB true) = S (startB x.rows) := by
    rw [S_append, S_append, S_append]
    unfold startB usualB
    simp only [List.append_assoc]
  rw [← e1]
  rfl
set_option maxRecDepth 100000 in
theorem gstart_badB {W : World} {b : Nat} {v : Value} {r c : Int} {s : Bool} {w h want ph : Int} (z : RgB W b v r c s w h want ph) (h0 : ph ≠ 0) (hp : ¬ (ph = 1)) : Calls Tryz.prog 61 #[.pointer (some ⟨b, 0, none⟩)] W fun e w' => e = .returned (.tuple #[.string ⟨#[]⟩, .int .i64 110]) ∧ W = w' := by
  obtain ⟨c0, c1, c2, c3, c4, c5, c6, c7⟩ := z.cells
  have CM := Lib.hid (gmade_any z h0)
  clear z
  go_enter Tryz.func61, Tryz.ntmps61
  go_wp2_with (go_at_call 128; refine CM.out.mono ?_; rintro e X ⟨rfl, rfl⟩)
  go_ret2
  exact ⟨rfl, rfl⟩
def RSt.size (x : RSt) (w h : Nat) : RSt := { x with w := w, h := h }
set_option maxRecDepth 100000 in
theorem gShown_no {W : World} {v : Value} (h : NoR W v) : Calls Tryz.prog 79 #[v] W fun e w' => e = .returned (.agg #[.slice none 0 0, .int .i64 0, .int .i64 0, .bool false]) ∧ Below W.heap.size W w' := by
  have CM := Lib.hid (fun (X : World) (hX : Below W.heap.size W X) => gOpen_no (h.below hX))
  obtain ⟨x, rfl⟩ := h.ptr
  clear h
  obtain ⟨X0, hX0⟩ : ∃ X, W.alloc (.cells #[.slice none 0 0, .int .i64 0, .int .i64 0, .bool false] 52) = X := ⟨_, rfl⟩
  have z0 : FBI X0 W.heap.size (.slice none 0 0) 0 0 false := by rw [← hX0]; exact World.alloc_heap_new W _
  have b0 : Below W.heap.size W X0 := by rw [← hX0]; exact (Below.refl _ _).alloc (Nat.le_refl _) _
  obtain ⟨Y, hY⟩ : ∃ Y, (((X0.setCell ⟨W.heap.size, 0, none⟩ (.slice none 0 0)).setCell ⟨W.heap.size, 1, none⟩ (.int .i64 0)).setCell ⟨W.heap.size, 2, none⟩ (.int .i64 0)).setCell ⟨W.heap.size, 3, none⟩ (.bool false) = Y := ⟨_, rfl⟩
  obtain ⟨zY, oY⟩ := z0.fill (.slice none 0 0) 0 0 false Y hY
  obtain ⟨u0, u1, u2, u3⟩ := z0.cells
  have f0 := z0.froz 0
  have f1 := z0.froz 1
  have f2 := z0.froz 2
  have f3 := z0.froz 3
  have HY := Lib.hid hY
  clear hY
  go_enter Tryz.func79, Tryz.ntmps79
  go_wp2_with (go_at_call 71; refine (CM.out _ b0).mono ?_; rintro e X ⟨rfl, rfl⟩)
  try rw [HY.out]
  refine bodyPost_ret (results_cell_row rfl _ _ W.heap.size 52 _ (0, 0) _ rfl zY Tryz.underlying52 rfl (by kernel_rfl)) rfl ?_
  exact ⟨rfl, b0.trans (oY.below (by simp) b0.size)⟩
end Go.Proofs.YtekodpcedjpnjaaGreat
