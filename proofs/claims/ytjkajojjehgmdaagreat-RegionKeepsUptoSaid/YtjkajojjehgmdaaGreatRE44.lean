/- The program's region: Above, End. No condition but on the lengths. Printed by gen_rn4.py. -/
import Derived.Test.YtjkajojjehgmdaaGreatRE43
set_option linter.unusedVariables false
set_option linter.unusedSimpArgs false
namespace Go.Proofs.YtjkajojjehgmdaaGreat
open Go.RowKit Go.Shelf Go.Maps
set_option maxRecDepth 100000 in
theorem gabove_many {W : World} {b : Nat} {x : RSt} (z : RgI W b x) (hp : x.ph = 2) (a : Option Addr) (n cap : Nat) (hn : 60 < n) : Calls Tryz.prog 47 #[.pointer (some ⟨b, 0, none⟩), .slice a n cap] W fun e w' => e = .returned (.tuple #[.string ⟨#[]⟩, .int .i64 3]) ∧ W = w' := by
 obtain ⟨av, cp, zB, hA, hc1, hc2⟩ := z
 obtain ⟨c0, c1, c2, c3, c4, c5, c6, c7⟩ := zB.cells
 have CM := Lib.hid (gmade_any zB (by omega))
 have hpi : (x.ph : Int) = 2 := by omega
 rw [hpi] at c7
 have hni : (60 : Int) < (n : Int) := by omega
 clear zB hA
 go_enter Tryz.func47, Tryz.ntmps47
 go_wp2_with (go_at_call 31; refine CM.out.mono ?_; rintro e X ⟨rfl, rfl⟩)
 go_ret2
 exact ⟨rfl, rfl⟩
set_option maxRecDepth 100000 in
theorem gend_many {W : World} {b : Nat} {x : RSt} (z : RgI W b x) (k : OkR x) (hp : x.ph = 2) (a : Option Addr) (n cap : Nat) (hn : x.rows ≤ n) : Calls Tryz.prog 12 #[.pointer (some ⟨b, 0, none⟩), .slice a n cap] W fun e w' => e = .returned (.tuple #[.string ⟨#[]⟩, .int .i64 3]) ∧ Below W.heap.size W w' := by
 obtain ⟨av, cp, zB, hA, hc1, hc2⟩ := z
 obtain ⟨n1, n2, n3⟩ := k.rows
 obtain ⟨c0, c1, c2, c3, c4, c5, c6, c7⟩ := zB.cells
 have CM := Lib.hid (gmade_any zB (by omega))
 have CR := grows_any zB
 rw [n3] at CR
 have CR := Lib.hid CR
 have hpi : (x.ph : Int) = 2 := by omega
 rw [hpi] at c7
 obtain ⟨q, hq⟩ : ∃ q, q = x.rows := ⟨_, rfl⟩
 rw [← hq] at CR hn
 have hni : (q : Int) ≤ (n : Int) := by omega
 clear zB hA
 go_enter Tryz.func12, Tryz.ntmps12
 go_wp2_with (first
  | (go_at_call 31; refine CM.out.mono ?_; rintro e X ⟨rfl, rfl⟩)
  | (go_at_call 38; refine CR.out.mono ?_; rintro e X ⟨rfl, hbX⟩))
 go_ret2
 exact ⟨rfl, hbX⟩
set_option maxRecDepth 100000 in
set_option maxHeartbeats 8000000 in
theorem gabove_ok {W : World} {b : Nat} {x : RSt} (z : RgI W b x) (k : OkR x) (hp : x.ph = 2) {a : Option Addr} {n cap : Nat} {L : List (List UInt8)} (hL : StrsAt W a n L) (hn : n ≤ 60) (hl : ∀ l ∈ L, l.length ≤ 10000) :
    Calls Tryz.prog 47 #[.pointer (some ⟨b, 0, none⟩), .slice a n cap] W fun e w' => e = .returned (.tuple #[.string (S (laidB x.r.toNat (L.map (clsF x.w)) x.rows)), .int .i64 0]) ∧ Only [b] W w' ∧ RgI w' b x.blank := by
 obtain ⟨av, cp, zB, hA, hc1, hc2⟩ := z
 obtain ⟨h1, h2, h3⟩ := k.op hp
 obtain ⟨p1, p2, p3, p4, p5, p6, p7, p8, p9⟩ := okF_pos h1
 obtain ⟨n1, n2, n3⟩ := k.rows
 obtain ⟨c0, c1, c2, c3, c4, c5, c6, c7⟩ := zB.cells
 have hkw := k.w
 have CM := Lib.hid (gmade_any zB (by omega))
 have CF := Lib.hid (fun (Y : World) (hY : Below W.heap.size W Y) => gfirst_any (zB.below hY) p5 (by omega))
 have CL := Lib.hid (fun (Y : World) (hY : Below W.heap.size W Y) => glaid_any (cap := cap) (zB.below hY) hkw.2 (hL.below hY) (by omega) hl)
 have CR := Lib.hid (fun (Y : World) (hY : Below W.heap.size W Y) => greserve_any (zB.below hY) n3 n1 n2)
 have CB := Lib.hid (fun (Y : World) (hY : Below W.heap.size W Y) => gblank_any (zB.below hY) (hA.below hY) n3 n1 n2 hkw)
 have hz1 := S_le (reserveB x.rows) 75 (reserveB_len n2)
 have hz2 := S_le (seenB true) 10 (by decide)
 have hz3 := S_le (byL x.r 65 ++ [13]) 10 (by have := byL_len x.r 65; simp; omega)
 have hLl := hL.len
 have hz4 := S_le (linesB (L.map (clsF x.w))) 2000000 (by have := linesB_len x.w hkw.2 L; omega)
 have hz5 := S_le [27, 91, 74] 10 (by decide)
 have hpi : (x.ph : Int) = 2 := by omega
 have hni : ¬ (60 : Int) < (n : Int) := by omega
 rw [hpi] at c7
 have P5 := Lib.hid p5
 clear zB hA hL p1 p2 p3 p4 p5 p6 p7 p8 p9 h1 h2 h3
 go_enter Tryz.func47, Tryz.ntmps47
 go_wp2_with (first
  | (go_at_call 31; refine CM.out.mono ?_; rintro e X ⟨rfl, rfl⟩)
  | (go_at_call 41; refine (CF.out _ (Below.refl _ _)).mono ?_; rintro e w1 ⟨rfl, hb1⟩)
  | (go_at_call 42; refine (eraseBelow_any _).mono ?_; rintro e w2 ⟨rfl, rfl⟩)
  | (go_at_call 43; refine (CL.out _ hb1).mono ?_; rintro e w3 ⟨rfl, hb3'⟩; have hb3 := bto hb1 hb3' hb1.size)
  | (go_at_call 33; refine (CR.out _ hb3).mono ?_; rintro e w4 ⟨rfl, hb4'⟩; have hb4 := bto hb3 hb4' hb3.size)
  | (go_at_call 34; refine (seen_B true _).mono ?_; rintro e w5 ⟨rfl, rfl⟩)
  | (go_at_call 32; refine (CB.out _ hb4).mono ?_; rintro e w6 ⟨rfl, o6, av', cap', z6, hR6, hcap6⟩))
 go_ret2
 refine ⟨?_, (Only.of_below hb4).trans o6, av', cap', z6, hR6, hcap6⟩
 have e1 : S (byL x.r 65 ++ [13]) ++ S [27, 91, 74] ++ S (linesB (L.map (clsF x.w))) ++ S (reserveB x.rows) ++ S (seenB true) = S (laidB x.r.toNat (L.map (clsF x.w)) x.rows) := by
  rw [S_append, S_append, S_append, S_append]
  unfold laidB belowB
  have := P5.out
  rw [show ((x.r.toNat : Nat) : Int) = x.r by omega]
  simp only [List.append_assoc]
 rw [← e1]
 rfl
def RSt.over (x : RSt) : RSt := { x with A := [], r := 0, c := 0, s := false, ph := 3 }
theorem OkR.over {x : RSt} (k : OkR x) : OkR x.over :=
 { w := k.w, h := k.h, n := k.n, ph := ⟨(by decide : 1 ≤ 3), (by decide : 3 ≤ 3)⟩, op := fun h => absurd h (by decide : ¬ ((3 : Nat) = 2)), cl := fun _ => ⟨rfl, rfl, rfl, rfl⟩ }
set_option maxRecDepth 100000 in
set_option maxHeartbeats 8000000 in
theorem gend_ok {W : World} {b : Nat} {x : RSt} (z : RgI W b x) (k : OkR x) (hp : x.ph = 2) {a : Option Addr} {n cap : Nat} {L : List (List UInt8)} (hL : StrsAt W a n L) (hn : n < x.rows) (hl : ∀ l ∈ L, l.length ≤ 10000) :
    Calls Tryz.prog 12 #[.pointer (some ⟨b, 0, none⟩), .slice a n cap] W fun e w' => e = .returned (.tuple #[.string (S (endedB x.r.toNat (L.map (clsF x.w)))), .int .i64 0]) ∧ Only [b] W w' ∧ RgI w' b x.over := by
 obtain ⟨av, cp, zB, hA, hc1, hc2⟩ := z
 obtain ⟨h1, h2, h3⟩ := k.op hp
 obtain ⟨p1, p2, p3, p4, p5, p6, p7, p8, p9⟩ := okF_pos h1
 obtain ⟨n1, n2, n3⟩ := k.rows
 obtain ⟨c0, c1, c2, c3, c4, c5, c6, c7⟩ := zB.cells
 have hkw := k.w
 have CM := Lib.hid (gmade_any zB (by omega))
 have CF := Lib.hid (fun (Y : World) (hY : Below W.heap.size W Y) => gfirst_any (zB.below hY) p5 (by omega))
 have CL := Lib.hid (fun (Y : World) (hY : Below W.heap.size W Y) => glaid_any (cap := cap) (zB.below hY) hkw.2 (hL.below hY) (by omega) hl)
 have CR := grows_any zB
 rw [n3] at CR
 have CR := Lib.hid CR
 have hz2 := S_le (seenB true) 10 (by decide)
 have hz6 := S_le (pasteB false) 10 (by decide)
 have hz3 := S_le (byL x.r 65 ++ [13]) 10 (by have := byL_len x.r 65; simp; omega)
 have hLl := hL.len
 have hz4 := S_le (linesB (L.map (clsF x.w))) 2000000 (by have := linesB_len x.w hkw.2 L; omega)
 have hz5 := S_le [27, 91, 74] 10 (by decide)
 have hpi : (x.ph : Int) = 2 := by omega
 obtain ⟨q, hq⟩ : ∃ q, q = x.rows := ⟨_, rfl⟩
 rw [← hq] at CR hn
 have hni : ¬ (q : Int) ≤ (n : Int) := by omega
 rw [hpi] at c7
 have P5 := Lib.hid p5
 have ZB := Lib.hid zB
 clear zB hA hL p1 p2 p3 p4 p5 p6 p7 p8 p9 h1 h2 h3
 go_enter Tryz.func12, Tryz.ntmps12
 go_upto_region 8 with (first
  | (go_at_call 31; refine CM.out.mono ?_; rintro e X ⟨rfl, rfl⟩)
  | (go_at_call 38; refine CR.out.mono ?_; rintro e w0 ⟨rfl, hb0⟩)
  | (go_at_call 41; refine (CF.out _ hb0).mono ?_; rintro e w1 ⟨rfl, hb1'⟩; have hb1 := bto hb0 hb1' hb0.size)
  | (go_at_call 42; refine (eraseBelow_any _).mono ?_; rintro e w2 ⟨rfl, rfl⟩)
  | (go_at_call 43; refine (CL.out _ hb1).mono ?_; rintro e w3 ⟨rfl, hb3'⟩; have hb3 := bto hb1 hb3' hb1.size)
  | (go_at_call 34; refine (seen_B true _).mono ?_; rintro e w5 ⟨rfl, rfl⟩)
  | (go_at_call 35; refine (paste_B false _).mono ?_; rintro e w5 ⟨rfl, rfl⟩))
 have z3 := ZB.out.below hb3
 clear c0 c1 c2 c3 c4 c5 c6 c7
 obtain ⟨c0, c1, c2, c3, c4, c5, c6, c7⟩ := z3.cells
 have f0 := z3.froz 0
 have f1 := z3.froz 1
 have f2 := z3.froz 2
 have f3 := z3.froz 3
 obtain ⟨Y, hY⟩ : ∃ Y, (((w3.setCell ⟨b, 0, none⟩ (.slice none 0 0)).setCell ⟨b, 1, none⟩ (.int .i64 0)).setCell ⟨b, 2, none⟩ (.int .i64 0)).setCell ⟨b, 3, none⟩ (.bool false) = Y := ⟨_, rfl⟩
 obtain ⟨zY, oY⟩ := z3.fill (.slice none 0 0) 0 0 false Y hY
 obtain ⟨Y2, hY2⟩ : ∃ Y2, Y.setCell ⟨b, 7, none⟩ (.int .i64 3) = Y2 := ⟨_, rfl⟩
 obtain ⟨zY2, oY2⟩ := zY.phase 3 Y2 hY2
 have f7 := zY.froz 7
 have HY := Lib.hid hY
 have HY2 := Lib.hid hY2
 clear hY hY2
 go_upto_region 9 with (fail)
 try rw [HY.out]
 clear c0 c1 c2 c3 c4 c5 c6 c7 f0 f1 f2 f3
 obtain ⟨c0, c1, c2, c3, c4, c5, c6, c7⟩ := zY.cells
 go_wp2
 try rw [HY2.out]
 go_ret2
 refine ⟨?_, ((Only.of_below hb3).trans oY).trans oY2, none, 0, zY2, ⟨rfl, fun i M h => by simp [RSt.over] at h⟩, Nat.le_refl _, Nat.zero_le _⟩
 have e1 : S (byL x.r 65 ++ [13]) ++ S [27, 91, 74] ++ S (linesB (L.map (clsF x.w))) ++ S (seenB true) ++ S (pasteB false) = S (endedB x.r.toNat (L.map (clsF x.w))) := by
  rw [S_append, S_append, S_append, S_append]
  unfold endedB belowB
  have := P5.out
  rw [show ((x.r.toNat : Nat) : Int) = x.r by omega]
  simp only [List.append_assoc]
 rw [← e1]
 rfl
end Go.Proofs.YtjkajojjehgmdaaGreat
