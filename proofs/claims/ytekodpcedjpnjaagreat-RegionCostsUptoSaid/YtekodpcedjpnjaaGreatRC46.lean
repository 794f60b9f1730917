/- The program's region: Above, End. No condition but on the lengths. Printed by gen_rn4.py. The law's do: a call of the program's region. No condition but that the strings are not too long for a cut. Printed by gen_rn9.py. -/
import Derived.Test.YtekodpcedjpnjaaGreatRC41
import Derived.Test.YtekodpcedjpnjaaGreatRC42
import Derived.Test.YtekodpcedjpnjaaGreatRC45
set_option linter.unusedVariables false
set_option linter.unusedSimpArgs false
namespace Go.Proofs.YtekodpcedjpnjaaGreat
open Go.RowKit Go.Shelf Go.Maps
set_option maxRecDepth 100000 in
theorem gabove_bad {W : World} {b : Nat} {x : RSt} (z : RgI W b x) (h0 : x.ph ≠ 0) (hp : x.ph ≠ 2) (a : Option Addr) (n cap : Nat) : Calls Tryz.prog 81 #[.pointer (some ⟨b, 0, none⟩), .slice a n cap] W fun e w' => e = .returned (.tuple #[.string ⟨#[]⟩, .int .i64 110]) ∧ W = w' := by
  obtain ⟨av, cp, zB, hA, hc1, hc2⟩ := z
  obtain ⟨c0, c1, c2, c3, c4, c5, c6, c7⟩ := zB.cells
  have CM := Lib.hid (gmade_any zB (by omega))
  have hpi : ¬ ((x.ph : Int) = 2) := by omega
  clear zB hA
  go_enter Tryz.func81, Tryz.ntmps81
  go_wp2_with (go_at_call 128; refine CM.out.mono ?_; rintro e X ⟨rfl, rfl⟩)
  go_ret2
  exact ⟨rfl, rfl⟩
set_option maxRecDepth 100000 in
theorem gend_bad {W : World} {b : Nat} {x : RSt} (z : RgI W b x) (h0 : x.ph ≠ 0) (hp : x.ph ≠ 2) (a : Option Addr) (n cap : Nat) : Calls Tryz.prog 64 #[.pointer (some ⟨b, 0, none⟩), .slice a n cap] W fun e w' => e = .returned (.tuple #[.string ⟨#[]⟩, .int .i64 110]) ∧ W = w' := by
  obtain ⟨av, cp, zB, hA, hc1, hc2⟩ := z
  obtain ⟨c0, c1, c2, c3, c4, c5, c6, c7⟩ := zB.cells
  have CM := Lib.hid (gmade_any zB (by omega))
  have hpi : ¬ ((x.ph : Int) = 2) := by omega
  clear zB hA
  go_enter Tryz.func64, Tryz.ntmps64
  go_wp2_with (go_at_call 128; refine CM.out.mono ?_; rintro e X ⟨rfl, rfl⟩)
  go_ret2
  exact ⟨rfl, rfl⟩
set_option maxRecDepth 100000 in
theorem gabove_many {W : World} {b : Nat} {x : RSt} (z : RgI W b x) (hp : x.ph = 2) (a : Option Addr) (n cap : Nat) (hn : 60 < n) : Calls Tryz.prog 81 #[.pointer (some ⟨b, 0, none⟩), .slice a n cap] W fun e w' => e = .returned (.tuple #[.string ⟨#[]⟩, .int .i64 3]) ∧ W = w' := by
  obtain ⟨av, cp, zB, hA, hc1, hc2⟩ := z
  obtain ⟨c0, c1, c2, c3, c4, c5, c6, c7⟩ := zB.cells
  have CM := Lib.hid (gmade_any zB (by omega))
  have hpi : (x.ph : Int) = 2 := by omega
  rw [hpi] at c7
  have hni : (60 : Int) < (n : Int) := by omega
  clear zB hA
  go_enter Tryz.func81, Tryz.ntmps81
  go_wp2_with (go_at_call 128; refine CM.out.mono ?_; rintro e X ⟨rfl, rfl⟩)
  go_ret2
  exact ⟨rfl, rfl⟩
set_option maxRecDepth 100000 in
theorem gend_many {W : World} {b : Nat} {x : RSt} (z : RgI W b x) (k : OkR x) (hp : x.ph = 2) (a : Option Addr) (n cap : Nat) (hn : x.rows ≤ n) : Calls Tryz.prog 64 #[.pointer (some ⟨b, 0, none⟩), .slice a n cap] W fun e w' => e = .returned (.tuple #[.string ⟨#[]⟩, .int .i64 3]) ∧ Below W.heap.size W w' := by
  obtain ⟨av, cp, zB, hA, hc1, hc2⟩ := z
  obtain ⟨n1, n2, n3⟩ := k.rows
  obtain ⟨c0, c1, c2, c3, c4, c5, c6, c7⟩ := zB.cells
  have CM := Lib.hid (gmade_any zB (by omega))
  have CR := grows_any zB
  rw [n3] at CR
  have CR := Lib.hid CR
  have hpi : (x.ph : Int) = 2 := by omega
  rw [hpi] at c7
  obtain ⟨q, hq⟩ : ∃ q, q = x.rows := ⟨_, rfl⟩
  rw [← hq] at CR hn
  have hni : (q : Int) ≤ (n : Int) := by omega
  clear zB hA
  go_enter Tryz.func64, Tryz.ntmps64
  go_wp2_with (first
    | (go_at_call 128; refine CM.out.mono ?_; rintro e X ⟨rfl, rfl⟩)
    | (go_at_call 133; refine CR.out.mono ?_; rintro e X ⟨rfl, hbX⟩))
  go_ret2
  exact ⟨rfl, hbX⟩
set_option maxRecDepth 100000 in
set_option maxHeartbeats 8000000 in
theorem gabove_ok {W : World} {b : Nat} {x : RSt} (z : RgI W b x) (k : OkR x) (hp : x.ph = 2) {a : Option Addr} {n cap : Nat} {L : List (List UInt8)} (hL : StrsAt W a n L) (hn : n ≤ 60) (hl : ∀ l ∈ L, l.length ≤ 10000) :
    Calls Tryz.prog 81 #[.pointer (some ⟨b, 0, none⟩), .slice a n cap] W fun e w' => e = .returned (.tuple #[.string (S (laidB x.r.toNat (L.map (clsF x.w)) x.rows)), .int .i64 0]) ∧ Only [b] W w' ∧ RgI w' b x.blank := by
  obtain ⟨av, cp, zB, hA, hc1, hc2⟩ := z
  obtain ⟨h1, h2, h3⟩ := k.op hp
  obtain ⟨p1, p2, p3, p4, p5, p6, p7, p8, p9⟩ := okF_pos h1
  obtain ⟨n1, n2, n3⟩ := k.rows
  obtain ⟨c0, c1, c2, c3, c4, c5, c6, c7⟩ := zB.cells
  have hkw := k.w
  have CM := Lib.hid (gmade_any zB (by omega))
  have CF := Lib.hid (fun (Y : World) (hY : Below W.heap.size W Y) => gfirst_any (zB.below hY) p5 (by omega))
  have CL := Lib.hid (fun (Y : World) (hY : Below W.heap.size W Y) => glaid_any (cap := cap) (zB.below hY) hkw.2 (hL.below hY) (by omega) hl)
  have CR := Lib.hid (fun (Y : World) (hY : Below W.heap.size W Y) => greserve_any (zB.below hY) n3 n1 n2)
  have CB := Lib.hid (fun (Y : World) (hY : Below W.heap.size W Y) => gblank_any (zB.below hY) (hA.below hY) n3 n1 n2 hkw)
  have hz1 := S_le (reserveB x.rows) 75 (reserveB_len n2)
  have hz2 := S_le (seenB true) 10 (by decide)
  have hz3 := S_le (byL x.r 65 ++ [13]) 10 (by have := byL_len x.r 65; simp; omega)
  have hLl := hL.len
  have hz4 := S_le (linesB (L.map (clsF x.w))) 2000000 (by have := linesB_len x.w hkw.2 L; omega)
  have hz5 := S_le [27, 91, 74] 10 (by decide)
  have hpi : (x.ph : Int) = 2 := by omega
  have hni : ¬ (60 : Int) < (n : Int) := by omega
  rw [hpi] at c7
  have P5 := Lib.hid p5
  clear zB hA hL p1 p2 p3 p4 p5 p6 p7 p8 p9 h1 h2 h3
  go_enter Tryz.func81, Tryz.ntmps81
  go_wp2_with (first
    | (go_at_call 128; refine CM.out.mono ?_; rintro e X ⟨rfl, rfl⟩)
    | (go_at_call 135; refine (CF.out _ (Below.refl _ _)).mono ?_; rintro e w1 ⟨rfl, hb1⟩)
    | (go_at_call 136; refine (eraseBelow_any _).mono ?_; rintro e w2 ⟨rfl, rfl⟩)
    | (go_at_call 137; refine (CL.out _ hb1).mono ?_; rintro e w3 ⟨rfl, hb3'⟩; have hb3 := bto hb1 hb3' hb1.size)
    | (go_at_call 130; refine (CR.out _ hb3).mono ?_; rintro e w4 ⟨rfl, hb4'⟩; have hb4 := bto hb3 hb4' hb3.size)
    | (go_at_call 131; refine (seen_B true _).mono ?_; rintro e w5 ⟨rfl, rfl⟩)
    | (go_at_call 129; refine (CB.out _ hb4).mono ?_; rintro e w6 ⟨rfl, o6, av', cap', z6, hR6, hcap6⟩))
  go_ret2
  refine ⟨?_, (Only.of_below hb4).trans o6, av', cap', z6, hR6, hcap6⟩
  have e1 : S (byL x.r 65 ++ [13]) ++ S [27, 91, 74] ++ S (linesB (L.map (clsF x.w))) ++ S (reserveB x.rows) ++ S (seenB true) = S (laidB x.r.toNat (L.map (clsF x.w)) x.rows) := by
    rw [S_append, S_append, S_append, S_append]
    unfold laidB belowB
    have := P5.out
    rw [show ((x.r.toNat : Nat) : Int) = x.r by omega]
    simp only [List.append_assoc]
  rw [← e1]
  rfl
def RSt.over (x : RSt) : RSt := { x with A := [], r := 0, c := 0, s := false, ph := 3 }
theorem OkR.over {x : RSt} (k : OkR x) : OkR x.over :=
  { w := k.w, h := k.h, n := k.n, ph := ⟨(by decide : 1 ≤ 3), (by decide : 3 ≤ 3)⟩, op := fun h => absurd h (by decide : ¬ ((3 : Nat) = 2)), cl := fun _ => ⟨rfl, rfl, rfl, rfl⟩ }
set_option maxRecDepth 100000 in
set_option maxHeartbeats 8000000 in
theorem gend_ok {W : World} {b : Nat} {x : RSt} (z : RgI W b x) (k : OkR x) (hp : x.ph = 2) {a : Option Addr} {n cap : Nat} {L : List (List UInt8)} (hL : StrsAt W a n L) (hn : n < x.rows) (hl : ∀ l ∈ L, l.length ≤ 10000) :
    Calls Tryz.prog 64 #[.pointer (some ⟨b, 0, none⟩), .slice a n cap] W fun e w' => e = .returned (.tuple #[.string (S (endedB x.r.toNat (L.map (clsF x.w)))), .int .i64 0]) ∧ Only [b] W w' ∧ RgI w' b x.over := by
  obtain ⟨av, cp, zB, hA, hc1, hc2⟩ := z
  obtain ⟨h1, h2, h3⟩ := k.op hp
  obtain ⟨p1, p2, p3, p4, p5, p6, p7, p8, p9⟩ := okF_pos h1
  obtain ⟨n1, n2, n3⟩ := k.rows
  obtain ⟨c0, c1, c2, c3, c4, c5, c6, c7⟩ := zB.cells
  have hkw := k.w
  have CM := Lib.hid (gmade_any zB (by omega))
  have CF := Lib.hid (fun (Y : World) (hY : Below W.heap.size W Y) => gfirst_any (zB.below hY) p5 (by omega))
  have CL := Lib.hid (fun (Y : World) (hY : Below W.heap.size W Y) => glaid_any (cap := cap) (zB.below hY) hkw.2 (hL.below hY) (by omega) hl)
  have CR := grows_any zB
  rw [n3] at CR
  have CR := Lib.hid CR
  have hz2 := S_le (seenB true) 10 (by decide)
  have hz6 := S_le (pasteB false) 10 (by decide)
  have hz3 := S_le (byL x.r 65 ++ [13]) 10 (by have := byL_len x.r 65; simp; omega)
  have hLl := hL.len
  have hz4 := S_le (linesB (L.map (clsF x.w))) 2000000 (by have := linesB_len x.w hkw.2 L; omega)
  have hz5 := S_le [27, 91, 74] 10 (by decide)
  have hpi : (x.ph : Int) = 2 := by omega
  obtain ⟨q, hq⟩ : ∃ q, q = x.rows := ⟨_, rfl⟩
  rw [← hq] at CR hn
  have hni : ¬ (q : Int) ≤ (n : Int) := by omega
  rw [hpi] at c7
  have P5 := Lib.hid p5
  have ZB := Lib.hid zB
  clear zB hA hL p1 p2 p3 p4 p5 p6 p7 p8 p9 h1 h2 h3
  go_enter Tryz.func64, Tryz.ntmps64
  go_upto_region 8 with (first
    | (go_at_call 128; refine CM.out.mono ?_; rintro e X ⟨rfl, rfl⟩)
    | (go_at_call 133; refine CR.out.mono ?_; rintro e w0 ⟨rfl, hb0⟩)
    | (go_at_call 135; refine (CF.out _ hb0).mono ?_; rintro e w1 ⟨rfl, hb1'⟩; have hb1 := bto hb0 hb1' hb0.size)
    | (go_at_call 136; refine (eraseBelow_any _).mono ?_; rintro e w2 ⟨rfl, rfl⟩)
    | (go_at_call 137; refine (CL.out _ hb1).mono ?_; rintro e w3 ⟨rfl, hb3'⟩; have hb3 := bto hb1 hb3' hb1.size)
    | (go_at_call 131; refine (seen_B true _).mono ?_; rintro e w5 ⟨rfl, rfl⟩)
    | (go_at_call 132; refine (paste_B false _).mono ?_; rintro e w5 ⟨rfl, rfl⟩))
  have z3 := ZB.out.below hb3
  clear c0 c1 c2 c3 c4 c5 c6 c7
  obtain ⟨c0, c1, c2, c3, c4, c5, c6, c7⟩ := z3.cells
  have f0 := z3.froz 0
  have f1 := z3.froz 1
  have f2 := z3.froz 2
  have f3 := z3.froz 3
  obtain ⟨Y, hY⟩ : ∃ Y, (((w3.setCell ⟨b, 0, none⟩ (.slice none 0 0)).setCell ⟨b, 1, none⟩ (.int .i64 0)).setCell ⟨b, 2, none⟩ (.int .i64 0)).setCell ⟨b, 3, none⟩ (.bool false) = Y := ⟨_, rfl⟩
  obtain ⟨zY, oY⟩ := z3.fill (.slice none 0 0) 0 0 false Y hY
  obtain ⟨Y2, hY2⟩ : ∃ Y2, Y.setCell ⟨b, 7, none⟩ (.int .i64 3) = Y2 := ⟨_, rfl⟩
  obtain ⟨zY2, oY2⟩ := zY.phase 3 Y2 hY2
  have f7 := zY.froz 7
  have HY := Lib.hid hY
  have HY2 := Lib.hid hY2
  clear hY hY2
  go_upto_region 9 with (fail)
  try rw [HY.out]
  clear c0 c1 c2 c3 c4 c5 c6 c7 f0 f1 f2 f3
  obtain ⟨c0, c1, c2, c3, c4, c5, c6, c7⟩ := zY.cells
  go_wp2
  try rw [HY2.out]
  go_ret2
  refine ⟨?_, ((Only.of_below hb3).trans oY).trans oY2, none, 0, zY2, ⟨rfl, fun i M h => by simp [RSt.over] at h⟩, Nat.le_refl _, Nat.zero_le _⟩
  have e1 : S (byL x.r 65 ++ [13]) ++ S [27, 91, 74] ++ S (linesB (L.map (clsF x.w))) ++ S (seenB true) ++ S (pasteB false) = S (endedB x.r.toNat (L.map (clsF x.w))) := by
    rw [S_append, S_append, S_append, S_append]
    unfold endedB belowB
    have := P5.out
    rw [show ((x.r.toNat : Nat) : Int) = x.r by omega]
    simp only [List.append_assoc]
  rw [← e1]
  rfl
end Go.Proofs.YtekodpcedjpnjaaGreat
namespace Go.Proofs.YtekodpcedjpnjaaGreat
open Go.RowKit Go.Shelf Go.Maps
abbrev Ans := List UInt8 × Int × RSt
def startF (x : RSt) : Ans := if x.ph = 1 then (startB x.rows, 0, x.blank) else ([], 110, x)
def sizeF (x : RSt) (w h : Int) : Ans := if sideOk w h = true then (if x.ph = 2 then (sizedB x.r.toNat (x.size w.toNat h.toNat).rows, 0, (x.size w.toNat h.toNat).blank) else ([], 110, x)) else ([], 1, x)
def aboveF (x : RSt) (L : List (List UInt8)) : Ans := if x.ph = 2 then (if L.length ≤ 60 then (laidB x.r.toNat (L.map (clsF x.w)) x.rows, 0, x.blank) else ([], 3, x)) else ([], 110, x)
def endF (x : RSt) (L : List (List UInt8)) : Ans := if x.ph = 2 then (if L.length < x.rows then (endedB x.r.toNat (L.map (clsF x.w)), 0, x.over) else ([], 3, x)) else ([], 110, x)
def drawF (x : RSt) (B : List (List GC)) (r c : Int) (s : Bool) : Ans := if x.ph = 2 then (if mayD x B r c = true then (paintE x.A x.r x.c x.s B r c s false, 0, x.drawn B r c s) else ([], 90, x)) else ([], 110, x)
def DoP (b : Nat) (W : World) (y : Ans) (e : Ending) (w' : World) : Prop := e = .returned (.tuple #[.string (S y.1), .int .i64 y.2.1]) ∧ Only [b] W w' ∧ RgI w' b y.2.2 ∧ OkR y.2.2
theorem DoP.same {b : Nat} {W : World} {x : RSt} {er : Int} (z : RgI W b x) (k : OkR x) {e : Ending} {w' : World} (h : e = .returned (.tuple #[.string ⟨#[]⟩, .int .i64 er])) (hb : Below W.heap.size W w') : DoP b W ([], er, x) e w' :=
  ⟨h, Only.of_below hb, z.below hb, k⟩
theorem OkR.size {x : RSt} (k : OkR x) {w h : Nat} (hw : 1 ≤ w ∧ w ≤ 500) (hh : 1 ≤ h ∧ h ≤ 500) : OkR (x.size w h).blank := by
  have hn : 1 ≤ (x.size w h).rows ∧ (x.size w h).rows ≤ 60 := by
    have := k.n
    unfold RSt.rows RSt.size
    dsimp only
    omega
  exact
  { w := hw, h := hh, n := k.n, ph := ⟨(by decide : 1 ≤ 2), (by decide : 2 ≤ 3)⟩
    op := fun _ => ⟨blankM_ok hw hn, by show (blankM w (x.size w h).rows).length = _; unfold blankM; rw [List.length_replicate]; rfl, by show (nth [] (blankM w (x.size w h).rows) 0).length = w; rw [blankM_nth hn.1, List.length_replicate]⟩
    cl := fun h => absurd rfl h }
theorem startU {W : World} {b : Nat} {x : RSt} (z : RgI W b x) (k : OkR x) : Calls Tryz.prog 61 #[.pointer (some ⟨b, 0, none⟩)] W (DoP b W (startF x)) := by
  unfold startF
  by_cases hp : x.ph = 1
  · rw [if_pos hp]
    exact (gstart_ok z k hp).mono fun e w' ⟨h1, h2, h3⟩ => ⟨h1, h2, h3, k.blank⟩
  · rw [if_neg hp]
    exact (gstart_bad z (by have := k.ph; omega) hp).mono fun e w' ⟨h1, h2⟩ => by subst h2; exact DoP.same z k h1 (Below.refl _ _)
theorem sizeU {W : World} {b : Nat} {x : RSt} (z : RgI W b x) (k : OkR x) (m n : Int) : Calls Tryz.prog 80 #[.pointer (some ⟨b, 0, none⟩), .int .i64 m, .int .i64 n] W (DoP b W (sizeF x m n)) := by
  have hph := k.ph
  unfold sizeF
  cases hs : sideOk m n with
  | false =>
    rw [if_neg (by decide)]
    exact (gresize_arg z (by omega) m n hs).mono fun e w' ⟨h1, h2⟩ => by subst h2; exact DoP.same z k h1 (Below.refl _ _)
  | true =>
    rw [if_pos rfl]
    by_cases hp : x.ph = 2
    · rw [if_pos hp]
      have hd : 1 ≤ m ∧ m ≤ 500 ∧ 1 ≤ n ∧ n ≤ 500 := of_decide_eq_true hs
      obtain ⟨m', rfl⟩ := Int.eq_ofNat_of_zero_le (by omega : 0 ≤ m)
      obtain ⟨n', rfl⟩ := Int.eq_ofNat_of_zero_le (by omega : 0 ≤ n)
      exact (gresize_ok z k hp m' n' (by omega) (by omega)).mono fun e w' ⟨h1, h2, h3⟩ => ⟨h1, h2, h3, k.size (by show 1 ≤ m' ∧ m' ≤ 500; omega) (by show 1 ≤ n' ∧ n' ≤ 500; omega)⟩
    · rw [if_neg hp]
      exact (gresize_bad z (by omega) hp m n hs).mono fun e w' ⟨h1, h2⟩ => by subst h2; exact DoP.same z k h1 (Below.refl _ _)
theorem aboveU {W : World} {b : Nat} {x : RSt} (z : RgI W b x) (k : OkR x) {a : Option Addr} {n cap : Nat} {L : List (List UInt8)} (hL : StrsAt W a n L) (hl : ∀ l ∈ L, l.length ≤ 10000) : Calls Tryz.prog 81 #[.pointer (some ⟨b, 0, none⟩), .slice a n cap] W (DoP b W (aboveF x L)) := by
  have hph := k.ph
  have hLl := hL.len
  unfold aboveF
  by_cases hp : x.ph = 2
  · rw [if_pos hp]
    by_cases hn : L.length ≤ 60
    · rw [if_pos hn]
      exact (gabove_ok z k hp hL (by omega) hl).mono fun e w' ⟨h1, h2, h3⟩ => ⟨h1, h2, h3, k.blank⟩
    · rw [if_neg hn]
      exact (gabove_many z hp a n cap (by omega)).mono fun e w' ⟨h1, h2⟩ => by subst h2; exact DoP.same z k h1 (Below.refl _ _)
  · rw [if_neg hp]
    exact (gabove_bad z (by omega) hp a n cap).mono fun e w' ⟨h1, h2⟩ => by subst h2; exact DoP.same z k h1 (Below.refl _ _)
theorem endU {W : World} {b : Nat} {x : RSt} (z : RgI W b x) (k : OkR x) {a : Option Addr} {n cap : Nat} {L : List (List UInt8)} (hL : StrsAt W a n L) (hl : ∀ l ∈ L, l.length ≤ 10000) : Calls Tryz.prog 64 #[.pointer (some ⟨b, 0, none⟩), .slice a n cap] W (DoP b W (endF x L)) := by
  have hph := k.ph
  have hLl := hL.len
  unfold endF
  by_cases hp : x.ph = 2
  · rw [if_pos hp]
    by_cases hn : L.length < x.rows
    · rw [if_pos hn]
      exact (gend_ok z k hp hL (by omega) hl).mono fun e w' ⟨h1, h2, h3⟩ => ⟨h1, h2, h3, k.over⟩
    · rw [if_neg hn]
      exact (gend_many z k hp a n cap (by omega)).mono fun e w' ⟨h1, h2⟩ => DoP.same z k h1 h2
  · rw [if_neg hp]
    exact (gend_bad z (by omega) hp a n cap).mono fun e w' ⟨h1, h2⟩ => by subst h2; exact DoP.same z k h1 (Below.refl _ _)
theorem drawU {W : World} {b : Nat} {x : RSt} (z : RgI W b x) (k : OkR x) {a : Option Addr} {n cap : Nat} {B : List (List GC)} (hR : RowsAt W a n B) (hn : n ≤ maxLen) (hs : ∀ M ∈ B, ∀ c ∈ M, c.s.size ≤ 1100000) (r c : Int) (s : Bool) : Calls Tryz.prog 62 #[.pointer (some ⟨b, 0, none⟩), .agg #[.slice a n cap, .int .i64 r, .int .i64 c, .bool s]] W (DoP b W (drawF x B r c s)) := by
  have hph := k.ph
  unfold drawF
  by_cases hp : x.ph = 2
  · rw [if_pos hp]
    cases hd : mayD x B r c with
    | true =>
      rw [if_pos rfl]
      exact (gdraw_ok z k hp hR hn hs r c s hd).mono fun e w' ⟨h1, h2, h3⟩ => ⟨h1, h2, h3.rgi, k.drawn hp s hd⟩
    | false =>
      rw [if_neg (by decide)]
      exact (gdraw_frame z k hp hR hn hs r c s hd).mono fun e w' ⟨h1, h2⟩ => DoP.same z k h1 h2
  · rw [if_neg hp]
    exact (gdraw_bad z (by omega) hp a n cap r c s).mono fun e w' ⟨h1, h2⟩ => DoP.same z k h1 h2
def doF (x : RSt) (kd : Int) (w h : Int) (L : List (List UInt8)) (B : List (List GC)) (r c : Int) (s : Bool) : Ans :=
  if kd % 8 = 0 then startF x else if kd % 8 = 5 then sizeF x w h else if kd % 8 = 6 then aboveF x (fewL L) else if kd % 8 = 7 then endF x (fewL L) else drawF x B r c s
set_option maxRecDepth 100000 in
set_option maxHeartbeats 16000000 in
theorem do11_any {W : World} {b : Nat} {x : RSt} (z : RgI W b x) (k : OkR x) (kd : Int) (hkd : 0 ≤ kd ∧ kd ≤ 255) (ov : Value) (or oc : Int) (os : Bool) (w h : Int) {la : Option Addr} {ln lc : Nat} {L : List (List UInt8)} (hL : StrsAt W la ln L) (hln : ln ≤ maxLen) (hl : ∀ l ∈ L, l.length ≤ maxLen)
    {a : Option Addr} {n cap : Nat} {B : List (List GC)} (hR : RowsAt W a n B) (hn : n ≤ maxLen) (hs : ∀ M ∈ B, ∀ c ∈ M, c.s.size ≤ 1100000) (r c : Int) (s : Bool) :
    Calls Tryz.prog 72 #[.pointer (some ⟨b, 0, none⟩), .agg #[.int .u8 kd, ov, .int .i64 or, .int .i64 oc, .bool os, .int .i64 w, .int .i64 h, .slice la ln lc], .agg #[.slice a n cap, .int .i64 r, .int .i64 c, .bool s]] W (DoP b W (doF x kd w h L B r c s)) := by
  obtain ⟨X1, hX1⟩ : ∃ X, W.alloc (.cells #[.int .u8 kd, ov, .int .i64 or, .int .i64 oc, .bool os, .int .i64 w, .int .i64 h, .slice la ln lc] 118) = X := ⟨_, rfl⟩
  have b1 : Below W.heap.size W X1 := by rw [← hX1]; exact (Below.refl _ _).alloc (Nat.le_refl _) _
  have s1 : X1.heap.size = W.heap.size + 1 := by rw [← hX1]; simp
  have y1 : X1.heap[W.heap.size]? = some (.cells #[.int .u8 kd, ov, .int .i64 or, .int .i64 oc, .bool os, .int .i64 w, .int .i64 h, .slice la ln lc] 118 (0, 0)) := by rw [← hX1]; exact World.alloc_heap_new W _
  obtain ⟨X, hX⟩ : ∃ X, X1.alloc (.cells #[.slice a n cap, .int .i64 r, .int .i64 c, .bool s] 52) = X := ⟨_, rfl⟩
  have b2 : Below X1.heap.size X1 X := by rw [← hX]; exact (Below.refl _ _).alloc (Nat.le_refl _) _
  have zf : FBI X (W.heap.size + 1) (.slice a n cap) r c s := by rw [← hX, ← s1]; exact World.alloc_heap_new X1 _
  have y2 := (b2.block W.heap.size (by omega)).trans y1
  have bW := bto b1 b2 b1.size
  have zX := z.below bW
  have hLX := hL.below bW
  have hRX := hR.below bW
  have o0 : X.cell? ⟨W.heap.size, 0, none⟩ = some (.int .u8 kd) := by rw [cell_of_row X _ 0 _ _ _ y2]; rfl
  have o5 : X.cell? ⟨W.heap.size, 5, none⟩ = some (.int .i64 w) := by rw [cell_of_row X _ 5 _ _ _ y2]; rfl
  have o6 : X.cell? ⟨W.heap.size, 6, none⟩ = some (.int .i64 h) := by rw [cell_of_row X _ 6 _ _ _ y2]; rfl
  have o7 : X.cell? ⟨W.heap.size, 7, none⟩ = some (.slice la ln lc) := by rw [cell_of_row X _ 7 _ _ _ y2]; rfl
  obtain ⟨u0, u1, u2, u3⟩ := zf.cells
  have CFw := few11_any (cap := lc) hLX hln hl
  unfold FewP at CFw
  have CFw := Lib.hid CFw
  have HX1 := Lib.hid hX1
  have HX2 := Lib.hid hX
  rw [← hX1] at hX
  have HXX := Lib.hid hX
  have hc : kd % 8 = 0 ∨ kd % 8 = 5 ∨ kd % 8 = 6 ∨ kd % 8 = 7 ∨ (¬ kd % 8 = 0 ∧ ¬ kd % 8 = 5 ∧ ¬ kd % 8 = 6 ∧ ¬ kd % 8 = 7) := by omega
  unfold doF
  clear hX1 y1 y2 b1 b2 hL hR z
  rcases hc with hk | hk | hk | hk | ⟨h0, h5, h6, h7⟩
  · skip
    rw [if_pos hk]
    have C := Lib.hid (startU zX k)
    go_enter Tryz.func72, Tryz.ntmps72
    go_upto_region 1 with (fail)
    try rw [HX1.out]
    try rw [HX2.out]
    go_wp2_with (go_at_call 61; refine (C.out).mono ?_; rintro e w2 ⟨rfl, o2, i2, k2⟩)
    go_ret2
    exact ⟨rfl, (Only.of_below bW).trans o2, i2, k2⟩
  · skip
    rw [if_neg (by omega), if_pos hk]
    have C := Lib.hid (sizeU zX k w h)
    go_enter Tryz.func72, Tryz.ntmps72
    go_upto_region 1 with (fail)
    try rw [HX1.out]
    try rw [HX2.out]
    go_wp2_with (go_at_call 80; refine (C.out).mono ?_; rintro e w2 ⟨rfl, o2, i2, k2⟩)
    go_ret2
    exact ⟨rfl, (Only.of_below bW).trans o2, i2, k2⟩
  · skip
    rw [if_neg (by omega), if_neg (by omega), if_pos hk]
    have FW := fewL_short L -- few
    have C := Lib.hid (fun (Y : World) a' c' (hY : Below X.heap.size X Y) (h : StrsAt Y a' (fewL L).length (fewL L)) => aboveU (cap := c') (zX.below hY) k h (fun l hl => Nat.le_trans (fewL_short L l hl) (by omega)))
    go_enter Tryz.func72, Tryz.ntmps72
    go_upto_region 1 with (fail)
    try rw [HX1.out]
    try rw [HX2.out]
    go_wp2_with ((first | (go_at_call 69; refine CFw.out.mono ?_; rintro e w1 ⟨av, cv, rfl, hL1, hb1⟩) | (go_at_call 81; refine (C.out _ _ _ hb1 hL1).mono ?_; rintro e w2 ⟨rfl, o2, i2, k2⟩)))
    go_ret2
    exact ⟨rfl, (Only.of_below (bto bW hb1 bW.size)).trans o2, i2, k2⟩
  · skip
    rw [if_neg (by omega), if_neg (by omega), if_neg (by omega), if_pos hk]
    have FW := fewL_short L -- few
    have C := Lib.hid (fun (Y : World) a' c' (hY : Below X.heap.size X Y) (h : StrsAt Y a' (fewL L).length (fewL L)) => endU (cap := c') (zX.below hY) k h (fun l hl => Nat.le_trans (fewL_short L l hl) (by omega)))
    go_enter Tryz.func72, Tryz.ntmps72
    go_upto_region 1 with (fail)
    try rw [HX1.out]
    try rw [HX2.out]
    go_wp2_with ((first | (go_at_call 69; refine CFw.out.mono ?_; rintro e w1 ⟨av, cv, rfl, hL1, hb1⟩) | (go_at_call 64; refine (C.out _ _ _ hb1 hL1).mono ?_; rintro e w2 ⟨rfl, o2, i2, k2⟩)))
    go_ret2
    exact ⟨rfl, (Only.of_below (bto bW hb1 bW.size)).trans o2, i2, k2⟩
  · skip
    rw [if_neg h0, if_neg h5, if_neg h6, if_neg h7]
    have f0 : (kd % 8 == 0) = false := by simpa using h0
    have f5 : (kd % 8 == 5) = false := by simpa using h5
    have f6 : (kd % 8 == 6) = false := by simpa using h6
    have f7 : (kd % 8 == 7) = false := by simpa using h7
    have C := Lib.hid (drawU (cap := cap) zX k hRX hn hs r c s)
    go_enter Tryz.func72, Tryz.ntmps72
    go_upto_region 1 with (fail)
    try rw [HX1.out]
    try rw [HX2.out]
    go_wp2_with (go_at_call 62; refine (C.out).mono ?_; rintro e w2 ⟨rfl, o2, i2, k2⟩)
    go_ret2
    exact ⟨rfl, (Only.of_below bW).trans o2, i2, k2⟩
end Go.Proofs.YtekodpcedjpnjaaGreat
