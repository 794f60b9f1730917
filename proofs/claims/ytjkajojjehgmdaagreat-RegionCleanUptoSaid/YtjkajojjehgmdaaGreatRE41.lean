/- The program's region: Start, Resize; what a region that nobody made does. No condition. Printed by gen_rn2.py. The law's example. No condition. -/
import Derived.Lib.SlBytesConst
import Derived.Test.YtjkajojjehgmdaaGreatRE38
import Derived.Test.YtjkajojjehgmdaaGreatRE39
import Derived.Test.YtjkajojjehgmdaaGreatRE40
set_option linter.unusedVariables false
set_option linter.unusedSimpArgs false
namespace Go.Proofs.YtjkajojjehgmdaaGreat
open Go.RowKit Go.Shelf Go.Maps
theorem pasteB_mode (on : Bool) : modeL [50, 48, 48, 52] on = pasteB on := by cases on <;> rfl
theorem seen_B (on : Bool) (w : World) : Calls Tryz.prog 34 #[.bool on] w fun r w' => r = .returned (.string (S (seenB on))) ∧ w = w' := by
 have := seen_any on w
 rw [seenB_mode] at this
 exact this
theorem paste_B (on : Bool) (w : World) : Calls Tryz.prog 35 #[.bool on] w fun r w' => r = .returned (.string (S (pasteB on))) ∧ w = w' := by
 have := paste_any on w
 rw [pasteB_mode] at this
 exact this
theorem reserveB_len {n : Nat} (h : n ≤ 60) : (reserveB n).length ≤ 75 := by
 unfold reserveB belowB
 have := byL_len ((n : Int) - 1) 65
 simp only [List.length_append, List.length_cons, List.length_nil, List.length_replicate]
 omega
structure OkR (x : RSt) : Prop where
 w : 1 ≤ x.w ∧ x.w ≤ 500
 h : 1 ≤ x.h ∧ x.h ≤ 500
 n : 1 ≤ x.want ∧ x.want ≤ 60
 ph : 1 ≤ x.ph ∧ x.ph ≤ 3
 op : x.ph = 2 → okF x.A x.r x.c = true ∧ x.A.length = min x.want x.h ∧ (nth [] x.A 0).length = x.w
 cl : x.ph ≠ 2 → x.A = [] ∧ x.r = 0 ∧ x.c = 0 ∧ x.s = false
def RSt.rows (x : RSt) : Nat := min x.want x.h
theorem OkR.rows {x : RSt} (k : OkR x) : 1 ≤ x.rows ∧ x.rows ≤ 60 ∧ (min (x.want : Int) (x.h : Int) = (x.rows : Int)) := by
 have h1 := k.h
 have h2 := k.n
 unfold RSt.rows
 refine ⟨by omega, by omega, by omega⟩
def RSt.blank (x : RSt) : RSt := { x with A := blankM x.w x.rows, r := 0, c := 0, s := true, ph := 2 }
theorem blankM_nth {w n : Nat} (hn : 1 ≤ n) : nth [] (blankM w n) 0 = List.replicate w GC.blank := by
 unfold blankM nth
 obtain ⟨k, rfl⟩ : ∃ k, n = k + 1 := ⟨n - 1, by omega⟩
 rw [List.replicate_succ]
 rfl
theorem OkR.blank {x : RSt} (k : OkR x) : OkR x.blank :=
 { w := k.w, h := k.h, n := k.n, ph := ⟨(by decide : 1 ≤ 2), (by decide : 2 ≤ 3)⟩
   op := fun _ => ⟨blankM_ok k.w ⟨k.rows.1, k.rows.2.1⟩, by show (blankM x.w x.rows).length = _; unfold blankM; rw [List.length_replicate]; rfl, by show (nth [] (blankM x.w x.rows) 0).length = x.w; rw [blankM_nth k.rows.1, List.length_replicate]⟩
   cl := fun h => absurd rfl h }
set_option maxRecDepth 100000 in
set_option maxHeartbeats 4000000 in
theorem gstart_ok {W : World} {b : Nat} {x : RSt} (z : RgI W b x) (k : OkR x) (hp : x.ph = 1) : Calls Tryz.prog 8 #[.pointer (some ⟨b, 0, none⟩)] W fun e w' => e = .returned (.tuple #[.string (S (startB x.rows)), .int .i64 0]) ∧ Only [b] W w' ∧ RgI w' b x.blank := by
 obtain ⟨av, cap, zB, hA, hc1, hc2⟩ := z
 obtain ⟨n1, n2, n3⟩ := k.rows
 obtain ⟨c0, c1, c2, c3, c4, c5, c6, c7⟩ := zB.cells
 have CM := Lib.hid (gmade_any zB (by omega))
 have CB := Lib.hid (gblank_any zB hA n3 n1 n2 k.w)
 have CR := Lib.hid (fun (Y : World) (av' : Option Addr) (cap' : Nat) (zY : RgB Y b (.slice av' (blankM x.w x.rows).length cap') 0 0 true x.w x.h x.want 2) => greserve_any zY n3 n1 n2)
 have hl := S_le (reserveB x.rows) 75 (reserveB_len n2)
 have hl2 := S_le (seenB true) 10 (by decide)
 have hl3 := S_le (pasteB true) 10 (by decide)
 have hl4 : ((S (reserveB x.rows)).size : Int) ≤ 75 := by omega
 have hpi : (x.ph : Int) = 1 := by omega
 rw [hpi] at c7
 clear zB hA
 go_enter Tryz.func8, Tryz.ntmps8
 go_wp2_with (first
  | (go_at_call 31; refine CM.out.mono ?_; rintro e X ⟨rfl, rfl⟩)
  | (go_at_call 32; refine CB.out.mono ?_; rintro e w1 ⟨rfl, o1, av', cap', z1, hR1, hcap1⟩)
  | (go_at_call 33; refine (CR.out _ _ _ z1).mono ?_; rintro e w2 ⟨rfl, hb2⟩)
  | (go_at_call 34; refine (seen_B true _).mono ?_; rintro e w3 ⟨rfl, rfl⟩)
  | (go_at_call 35; refine (paste_B true _).mono ?_; rintro e w4 ⟨rfl, rfl⟩))
 go_ret2
 refine ⟨?_, o1.trans (Only.of_below hb2), av', cap', z1.below hb2, hR1.below hb2, hcap1⟩
 have e1 : S [27, 91, 48, 109] ++ S (reserveB x.rows) ++ S (seenB true) ++ S (pasteB true) = S (startB x.rows) := by
  rw [S_append, S_append, S_append]
  unfold startB usualB
  simp only [List.append_assoc]
 rw [← e1]
 rfl
set_option maxRecDepth 100000 in
theorem gstart_badB {W : World} {b : Nat} {v : Value} {r c : Int} {s : Bool} {w h want ph : Int} (z : RgB W b v r c s w h want ph) (h0 : ph ≠ 0) (hp : ¬ (ph = 1)) : Calls Tryz.prog 8 #[.pointer (some ⟨b, 0, none⟩)] W fun e w' => e = .returned (.tuple #[.string ⟨#[]⟩, .int .i64 110]) ∧ W = w' := by
 obtain ⟨c0, c1, c2, c3, c4, c5, c6, c7⟩ := z.cells
 have CM := Lib.hid (gmade_any z h0)
 clear z
 go_enter Tryz.func8, Tryz.ntmps8
 go_wp2_with (go_at_call 31; refine CM.out.mono ?_; rintro e X ⟨rfl, rfl⟩)
 go_ret2
 exact ⟨rfl, rfl⟩
def RSt.size (x : RSt) (w h : Nat) : RSt := { x with w := w, h := h }
theorem okF_ne {R : List (List GC)} {r c : Int} (h : okF R r c = true) : ∀ M ∈ R, M ≠ [] := fun M hM e => by
 obtain ⟨_, _, p3, _, _, _, _, _, p9⟩ := okF_pos h
 have := (p9 M hM).1
 rw [e] at this
 simp at this
 omega
theorem bytes_conv3 (w : World) (l : List UInt8) (hl : l.length ≤ maxLen) : ∃ cap W1, (convert 9 22 (.string (S l))).run Tryz.prog w = .ok (.slice (some ⟨w.heap.size, 0, none⟩) l.length cap) W1 ∧ Below w.heap.size w W1 ∧ HA W1 (.slice (some ⟨w.heap.size, 0, none⟩) l.length cap) l := by
 obtain ⟨cap, W1, h1, h2, _, h3, h4, _⟩ := bytes_conv w l
 refine ⟨cap, W1, h1, h2, .inl (.inr ⟨w.heap.size, 0, l.length, cap, rfl, rfl, ⟨h4, ?_⟩, h3, trivial⟩)⟩
 have h := run_bytes_of_string (P := Tryz.prog) w 9 22 5 (S l) Tryz.underlying9 Tryz.underlying22 Tryz.underlying5
 rw [h1] at h
 injection h with h5
 injection h5 with _ _ h6
 rw [h6]
 exact grownCap_le_maxLen _ _ _ _ (by rw [S_size]; exact hl)
def awR : RSt := ⟨[], 0, 0, false, 4, 2, 2, 1⟩
theorem awR_ok : OkR awR := { w := ⟨(by decide : 1 ≤ 4), (by decide : 4 ≤ 500)⟩, h := ⟨(by decide : 1 ≤ 2), (by decide : 2 ≤ 500)⟩, n := ⟨(by decide : 1 ≤ 2), (by decide : 2 ≤ 60)⟩, ph := ⟨(by decide : 1 ≤ 1), (by decide : 1 ≤ 3)⟩, op := fun h => absurd h (by decide : ¬ ((1 : Nat) = 2)), cl := fun _ => ⟨rfl, rfl, rfl, rfl⟩ }
theorem startB_len {n : Nat} (h : n ≤ 60) : (startB n).length ≤ 100 := by
 unfold startB usualB seenB pasteB
 have := reserveB_len h
 simp only [List.length_append, List.length_cons, List.length_nil]
 omega
set_option maxRecDepth 100000 in
set_option maxHeartbeats 16000000 in
theorem awake11_any (W : World) : Calls Tryz.prog 16 #[] W fun e w' => e = .returned (.bool true) ∧ Below W.heap.size W w' := by
 have kc := fun (w : World) (C : Array Value) (n c : Nat) => Lib.run_convert_bytes_const (P := Tryz.prog) w 22 5 C n c Tryz.underlying22 Tryz.underlying5
 have CN := Lib.hid (rgnew_ok 4 2 2 rfl (by decide) (by decide) W)
 go_enter Tryz.func16, Tryz.ntmps16
 go_upto_region 4 with (go_at_call 6; refine CN.out.mono ?_; rintro e w1 ⟨p, rfl, z1, hp, hb1⟩)
 have i1 : RgI w1 p awR := ⟨none, 0, z1, ⟨rfl, fun i M h => by simp [awR] at h⟩, Nat.le_refl _, by unfold maxLen; omega⟩
 have bB : Below w1.heap.size w1 (w1.alloc (.cells #[.int .u8 97, .int .u8 13, .int .u8 10, .int .u8 98] 5 (4, 5))) := (Below.refl _ _).alloc (Nat.le_refl _) _
 have hBy : Bys (w1.alloc (.cells #[.int .u8 97, .int .u8 13, .int .u8 10, .int .u8 98] 5 (4, 5))) w1.heap.size 0 [97, 13, 10, 98] := ⟨by simp, fun j hj => by
  rw [cell_of_row _ _ _ _ _ _ (World.alloc_heap_new w1 _), Nat.zero_add]
  have : j = 0 ∨ j = 1 ∨ j = 2 ∨ j = 3 := by simp at hj; omega
  rcases this with rfl | rfl | rfl | rfl <;> rfl⟩
 obtain ⟨X, hX⟩ : ∃ X, w1.alloc (.cells #[.int .u8 97, .int .u8 13, .int .u8 10, .int .u8 98] 5 (4, 5)) = X := ⟨_, rfl⟩
 rw [hX] at bB hBy
 have hHA : HA X (.slice (some ⟨w1.heap.size, 0, none⟩) 4 4) [97, 13, 10, 98] := .inl (.inr ⟨w1.heap.size, 0, 4, 4, rfl, rfl, ⟨Nat.le_refl _, by unfold maxLen; omega⟩, hBy, trivial⟩)
 have CR := rready_any (F := fun b => X.heap.size ≤ b) (W := X) (fun b hb => hb) 4 2 (by decide) hHA (by decide)
 have eR : readyT 4 2 [97, 13, 10, 98] = (aw11, []) := by rw [← aw11_w]; rfl
 rw [eR] at CR
 have CR := Lib.hid CR
 have b1X := bto hb1 bB hb1.size
 clear z1 hBy hHA
 go_upto_region 5 with (first
  | (go_at_call 7; refine CR.out.mono ?_; rintro e w2 ⟨a2, c2, bv2, rfl, g2, hv2, hb2⟩; have pn : TBx (w2.alloc (.cells zCells 34)) w2.heap.size zCells := TBx.new _ _)
  | (refine wpList_tstore rfl _ _ rfl w2.heap.size rfl (tCells a2 c2 aw11 bv2) rfl zCells ?_ rfl rfl (tCells_one _ _ _ hv2.one) ?_; exact pn; intro w3 p3 o3))
 have bz : Below w2.heap.size w2 (w2.alloc (.cells zCells 34)) := (Below.refl _ _).alloc (Nat.le_refl _) _
 have b23 : Below w2.heap.size w2 w3 := bz.trans (o3.below (by simp) bz.size)
 have b2W := bto b1X hb2 b1X.size
 have b3W := bto b2W b23 b2W.size
 have i3 := ((i1.below bB).below hb2).below b23
 have g3 := (g2.mono (F' := fun b => X.heap.size ≤ b ∧ b ≠ w2.heap.size) (fun b hb hlt => ⟨hb, by omega⟩)).below b23
 have hv3 := (hv2.mono (F' := fun b => X.heap.size ≤ b ∧ b ≠ w2.heap.size) (fun b hb hlt => ⟨hb, by omega⟩)).below b23
 have CS := gstart_ok i3 awR_ok rfl
 rw [show awR.rows = 2 from rfl] at CS
 have CS := Lib.hid CS
 have hpw : p ≠ w2.heap.size := by
  obtain ⟨_, _, z, _⟩ := ((i1.below bB).below hb2)
  have := z.lt
  omega
 clear i3 CR CN
 go_upto_region 6 with (go_at_call 8; refine CS.out.mono ?_; rintro e w4 ⟨rfl, o4, i4⟩)
 have p4 : TBx w4 w2.heap.size (tCells a2 c2 aw11 bv2) := p3.only o4 (by simp; omega)
 have b4W := b3W.trans (o4.below (by simp; omega) b3W.size)
 have hpX : p < X.heap.size := by
  obtain ⟨_, _, z, _⟩ := i1.below bB
  exact z.lt
 have g4 := g3.keep o4.size (fun b hb hlt => o4.block b hlt (by have := hb.1; simp; omega))
 have hv4 := hv3.keep o4.size (fun b hb hlt => o4.block b hlt (by have := hb.1; simp; omega))
 obtain ⟨k1, W1, hcv1, hcb1, hha1⟩ := bytes_conv3 w4 (startB 2) (by have := startB_len (n := 2) (by decide); unfold maxLen; omega)
 have ko : TOk aw11 := ((TOk.new (w := 4) (h := 2) (by decide) (by decide) (by decide) (by decide)).run _).run _
 have hgn := aw11_f
 have CW := rwrite_any (W := W1) (F := fun b => b ≠ w2.heap.size) (l := []) (fun b hb => by have := hcb1.size; have := o4.size; have := b23.size; have := p3.lt; omega) ((hv4.mono (fun b hb _ => hb.2)).below hcb1) hha1 ko (by have := startB_len (n := 2) (by decide); simp; omega) (by omega) (by omega) ((g4.mono (fun b hb _ => hb.2)).below hcb1)
 have eS : runT aw11 ([] ++ startB 2) = (aw11s, []) := Prod.ext rfl aw11s_w
 rw [eS] at CW
 have CW := Lib.hid CW
 have p4' := p4.below hcb1
 have i4' := i4.below hcb1
 have bW1 := bto b4W hcb1 b4W.size
 clear g3 hv3 g4 hv4 eS i4
 go_upto_region 7 with (first
  | (refine wpList_tload rfl _ rfl w2.heap.size rfl (tCells a2 c2 aw11 bv2) ?_ rfl ?_; exact p4)
  | (go_at_call 9; refine CW.out.mono ?_; rintro e w5 ⟨a5, c5, bv5, rfl, g5, hv5, hb5⟩; have p5 := p4'.below hb5)
  | (refine wpList_tstore rfl _ _ rfl w2.heap.size rfl (tCells a5 c5 aw11s bv5) rfl (tCells a2 c2 aw11 bv2) ?_ rfl rfl (tCells_one _ _ _ hv5.one) ?_; exact p5; intro w6 p6 o6))
 have g6 := g5.keep o6.size (fun b hb hlt => o6.block b hlt (by simpa using hb))
 have b5W := bto bW1 hb5 bW1.size
 have b6W := b5W.trans (o6.below (by simp; have := b2W.size; omega) b5W.size)
 obtain ⟨av, cap, z5, _, _⟩ := i4'.below hb5
 have z6 := z5.only o6 (by simpa using hpw)
 obtain ⟨f1, f2, f3, f4, f5, f6⟩ := aw11s_f
 have CS2 := Lib.hid (gstart_badB z6 (by decide) (by decide))
 have CO := Lib.hid (gOpen_any z6 (by decide))
 have rok : ROk aw11s.R := ((ko.run (startB 2)).ro : ROk (runT aw11 (startB 2)).1.R)
 rw [f1, f2] at g6
 have CT := rtext_ok g6 rok (by decide) 0 (by decide) (by decide)
 rw [show (0 : Int).toNat = 0 from rfl, f6, show S [] = (⟨#[]⟩ : ByteArray) from rfl] at CT
 have CT := Lib.hid CT
 obtain ⟨t0, t1, t2, t3, t4, t5, t6, t7, t8, t9, t10, t11, t12, t13, t14, t15, t16, t17, t18, t19⟩ := p6.tc
 rw [f1] at t0
 rw [f2] at t1 t2
 rw [f3] at t14
 rw [f4] at t3
 rw [f5] at t12
 go_wp2_with (first
  | (go_at_call 8; refine CS2.out.mono ?_; rintro e w7 ⟨rfl, rfl⟩)
  | (go_at_call 19; refine CO.out.mono ?_; rintro e w7 ⟨rfl, rfl⟩)
  | (go_at_call 15; refine CT.out.mono ?_; rintro e w8 ⟨rfl, hb8⟩; have t3' := (hb8.cell (p := ⟨w2.heap.size, 3, none⟩) p6.lt).trans t3; have t12' := (hb8.cell (p := ⟨w2.heap.size, 12, none⟩) p6.lt).trans t12))
 go_ret
 exact ⟨rfl, bto b6W hb8 b6W.size⟩
end Go.Proofs.YtjkajojjehgmdaaGreat
