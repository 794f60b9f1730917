/- The reference's Ready. No condition but that the bytes are not too many. The law's example in plain data. No condition. The law's example. No condition. -/
import Derived.Lib.SlBytesConst
import Derived.Test.YtekodpcedjpnjaaGreatRC38
import Derived.Test.YtekodpcedjpnjaaGreatRC40
import Derived.Test.YtekodpcedjpnjaaGreatRC45
import Derived.Test.YtekodpcedjpnjaaGreatRC49
set_option linter.unusedVariables false
set_option linter.unusedSimpArgs false
namespace Go.Proofs.YtekodpcedjpnjaaGreat
open Go.RowKit Go.Shelf Go.Maps
def readyT (w h : Nat) (s : List UInt8) : TS × List UInt8 := runT (runT (TS.new w h) s).1 ((runT (TS.new w h) s).2 ++ [24])
theorem runF_cntG : ∀ (n : Nat) (t : TS) (b : List UInt8), (runF n t b).1.bells ≤ t.bells + n ∧ (runF n t b).1.gone ≤ t.gone + n
  | 0, _, _ => ⟨Nat.le_refl _, Nat.le_refl _⟩
  | n + 1, t, b => by
    unfold runF
    split
    · exact ⟨by show t.bells ≤ _; omega, by show t.gone ≤ _; omega⟩
    · have h1 := runF_cntG n (t.first b).1 (b.drop (t.first b).2)
      have h2 := TS.first_cnt t b
      omega
theorem runT_cntG (t : TS) (b : List UInt8) : (runT t b).1.bells ≤ t.bells + b.length ∧ (runT t b).1.gone ≤ t.gone + b.length := runF_cntG _ _ _
set_option maxRecDepth 100000 in
set_option maxHeartbeats 8000000 in
theorem rready_any {F : Nat → Prop} {W : World} (hF : ∀ b, W.heap.size ≤ b → F b) (w h : Nat) (hd : 1 ≤ w ∧ w ≤ 500 ∧ 1 ≤ h ∧ h ≤ 500) {v : Value} {s : List UInt8} (hs : HA W v s) (hl : s.length ≤ 1000000) :
    Calls Tryz.prog 60 #[.int .i64 w, .int .i64 h, v] W (WPost F (readyT w h s) W) := by
  have CN := Lib.hid (fun (X : World) (bX : Below W.heap.size W X) (_ : W.heap.size < X.heap.size) => rtnew_ok (F := fun b => F b ∧ b ≠ W.heap.size) (W := X) (fun b hb => ⟨hF b (by have := bX.size; omega), by omega⟩) w h hd)
  have k0 : Hid (TOk (TS.new w h)) := Lib.hid (TOk.new hd.1 hd.2.1 hd.2.2.1 hd.2.2.2)
  have hn1 : OneV (.slice none 0 0) := rfl
  obtain ⟨av, cv, rfl⟩ := hs.slice
  have HS := Lib.hid hs
  clear hd hs
  go_enter Tryz.func60, Tryz.ntmps60
  go_upto_region 0 with (fail)
  go_cut [6] (fun u wx => u = .pointer (some ⟨W.heap.size, 0, none⟩) ∧ TBx wx W.heap.size zCells ∧ Below W.heap.size W wx)
  case first =>
    have FIN : Hid (TBx (W.alloc (.cells zCells 63)) W.heap.size zCells ∧ Below W.heap.size W (W.alloc (.cells zCells 63))) := Lib.hid ⟨TBx.new _ _, (Below.refl _ _).alloc (Nat.le_refl _) _⟩
    go_wp2
    go_meet
    exact ⟨rfl, FIN.out⟩
  case rest =>
    obtain ⟨rfl, p1, bX⟩ := hcut
    go_wp2_with fail
    refine (CN.out _ bX p1.lt).mono ?_
    rintro e w2 ⟨a2, c2, rfl, g2, hb2⟩
    have p2 := p1.below hb2
    have b2 := bto bX hb2 bX.size
    have pn : TBx (w2.alloc (.cells zCells 63)) w2.heap.size zCells := TBx.new _ _
    have bz : Below w2.heap.size w2 (w2.alloc (.cells zCells 63)) := (Below.refl _ _).alloc (Nat.le_refl _) _
    have hlt := p2.lt
    dsimp only at g2
    go_upto_region 2 with (refine wpList_tstore rfl _ _ rfl w2.heap.size rfl (tCells a2 c2 (TS.new w h) (.slice none 0 0)) rfl zCells ?_ rfl rfl (tCells_one _ _ _ hn1) ?_; exact pn; intro V p6 o6)
    have bV : Below w2.heap.size w2 V := bz.trans (o6.below (by simp) bz.size)
    have gV := (g2.mono (F' := fun b => F b ∧ b ≠ W.heap.size ∧ b ≠ w2.heap.size) (fun b hb hlt => ⟨hb.1, hb.2, by omega⟩)).below bV
    have p4 := p2.below bV
    have hvs := bV.size
    have bWV := bto b2 bV b2.size
    have hp6 := p6.lt
    have CW := rwrite_any (W := V) (F := fun b => F b ∧ b ≠ W.heap.size ∧ b ≠ w2.heap.size) (fun b hb => ⟨hF b (by have := bWV.size; omega), by omega, by omega⟩) (bv := .slice none 0 0) (l := []) (.inl ⟨rfl, rfl⟩) (HS.out.below bWV) k0.out (by simp; omega) (by show 0 + 10000000 < _; omega) (by show 0 + 10000000 < _; omega) gV
    rw [List.nil_append] at CW
    have k1 := k0.out.run s
    obtain ⟨n1, n2⟩ := runT_cntG (TS.new w h) s
    have n3 := run_waits s.length (TS.new w h) s (Nat.le_refl _)
    have HRD : Hid (readyT w h s = runT (runT (TS.new w h) s).1 ((runT (TS.new w h) s).2 ++ [24])) := Lib.hid rfl
    obtain ⟨x, hx⟩ : ∃ x, x = runT (TS.new w h) s := ⟨_, rfl⟩
    rw [← hx] at CW k1 n1 n2 n3 HRD
    have n1' : x.1.bells ≤ 1000000 := Nat.le_trans n1 (by show 0 + s.length ≤ _; omega)
    have n2' : x.1.gone ≤ 1000000 := Nat.le_trans n2 (by show 0 + s.length ≤ _; omega)
    have CW := Lib.hid CW
    have K1 := Lib.hid k1
    clear CN gV g2 p1 p2 pn hx n1 n2 k1
    go_upto_region 3 with (first
      | (refine wpList_tload rfl _ rfl w2.heap.size rfl (tCells a2 c2 (TS.new w h) (.slice none 0 0)) ?_ rfl ?_; exact p6)
      | (go_at_call 32; refine (CW.out).mono ?_; rintro e w7 ⟨a7, c7, bv, rfl, g7, hb7, hbb7⟩; have p7 := p6.below hbb7)
      | (refine wpList_tstore rfl _ _ rfl w2.heap.size rfl (tCells a7 c7 x.1 bv) rfl (tCells a2 c2 (TS.new w h) (.slice none 0 0)) ?_ rfl rfl (tCells_one _ _ _ hb7.one) ?_; exact p7; intro w8 p8 o8))
    have g8 := g7.keep o8.size (fun b hb hlt => o8.block b hlt (by simpa using hb.2.2))
    have hb8 := hb7.keep o8.size (fun b hb hlt => o8.block b hlt (by simpa using hb.2.2))
    have p48 : TBx w8 W.heap.size zCells := (p4.below hbb7).only o8 (by simp; omega)
    have b7 := bto bWV hbb7 bWV.size
    have b8 := b7.trans (o8.below (by simp; omega) b7.size)
    have bB : Below w8.heap.size w8 (w8.alloc (.cells #[.int .u8 24] 5)) := (Below.refl _ _).alloc (Nat.le_refl _) _
    have hBy : Bys (w8.alloc (.cells #[.int .u8 24] 5)) w8.heap.size 0 [24] := ⟨by simp, fun j hj => by
      obtain rfl : j = 0 := by simpa using hj
      rw [cell_of_row _ _ _ _ _ _ (World.alloc_heap_new w8 _)]
      rfl⟩
    obtain ⟨X, hX⟩ : ∃ X, w8.alloc (.cells #[.int .u8 24] 5) = X := ⟨_, rfl⟩
    rw [hX] at bB hBy
    have pX := p8.below bB
    have p4X := p48.below bB
    have bWX := bto b8 bB b8.size
    have hFX : ∀ b, X.heap.size ≤ b → F b ∧ b ≠ W.heap.size := fun b hb => ⟨hF b (by have := bWX.size; omega), by have := bWX.size; have := bB.size; have := p48.lt; omega⟩
    have hHA : HA X (.slice (some ⟨w8.heap.size, 0, none⟩) 1 1) [24] := .inl (.inr ⟨w8.heap.size, 0, 1, 1, rfl, rfl, ⟨Nat.le_refl _, by unfold maxLen; omega⟩, hBy, trivial⟩)
    have CW2 := rwrite_any hFX (bv := bv) (l := x.2) ((hb8.mono (F' := fun b => F b ∧ b ≠ W.heap.size) (fun b hb _ => ⟨hb.1, hb.2.1⟩)).below bB) hHA K1.out (by simp; omega) (by omega) (by omega) ((g8.mono (F' := fun b => F b ∧ b ≠ W.heap.size) (fun b hb _ => ⟨hb.1, hb.2.1⟩)).below bB)
    rw [← HRD.out] at CW2
    have CW2 := Lib.hid CW2
    clear g8 hb8 g7 hBy hHA p48 p4
    go_wp2_with (first
      | (refine wpList_tload rfl _ rfl w2.heap.size rfl (tCells a7 c7 x.1 bv) ?_ rfl ?_; exact p8)
      | (refine wpList_tload rfl _ rfl w2.heap.size rfl (tCells a7 c7 x.1 bv) ?_ rfl ?_; exact pX)
      | (go_at_call 32; refine (CW2.out).mono ?_; rintro e w9 ⟨a9, c9, bv9, rfl, g9, hb9, hbb9⟩; have p9 := p4X.below hbb9)
      | (refine wpList_tstore rfl _ _ rfl W.heap.size rfl (tCells a9 c9 (readyT w h s).1 bv9) rfl zCells ?_ rfl rfl (tCells_one _ _ _ hb9.one) ?_; exact p9; intro w10 p10 o10))
    refine tret rfl rfl p10 rfl ?_
    have b9 := bto bWX hbb9 bWX.size
    exact ⟨a9, c9, bv9, rfl, (g9.keep o10.size (fun b hb hlt => o10.block b hlt (by simpa using hb.2))).mono (fun b hb _ => hb.1), (hb9.keep o10.size (fun b hb hlt => o10.block b hlt (by simpa using hb.2))).mono (fun b hb _ => hb.1), b9.trans (o10.below (by simp) b9.size)⟩
end Go.Proofs.YtekodpcedjpnjaaGreat
namespace Go.Proofs.YtekodpcedjpnjaaGreat
open Go.RowKit Go.Shelf Go.Maps
def aw11 : TS := (readyT 4 2 [97, 13, 10, 98]).1
theorem aw11_w : (readyT 4 2 [97, 13, 10, 98]).2 = [] := by kernel_rfl
theorem aw11_f : aw11.gone = 0 ∧ aw11.bells = 0 := ⟨by kernel_rfl, by kernel_rfl⟩
def aw11s : TS := (runT aw11 (startB 2)).1
theorem aw11s_w : (runT aw11 (startB 2)).2 = [] := by kernel_rfl
theorem aw11s_f : aw11s.W = 4 ∧ aw11s.H = 2 ∧ aw11s.gone = 1 ∧ aw11s.row = 0 ∧ aw11s.marked = true ∧ S (trimL (textL (nth [] aw11s.R 0))) = S [] := ⟨by kernel_rfl, by kernel_rfl, by kernel_rfl, by kernel_rfl, by kernel_rfl, by kernel_rfl⟩
end Go.Proofs.YtekodpcedjpnjaaGreat
namespace Go.Proofs.YtekodpcedjpnjaaGreat
open Go.RowKit Go.Shelf Go.Maps
theorem bytes_conv3 (w : World) (l : List UInt8) (hl : l.length ≤ maxLen) : ∃ cap W1, (convert 9 61 (.string (S l))).run Tryz.prog w = .ok (.slice (some ⟨w.heap.size, 0, none⟩) l.length cap) W1 ∧ Below w.heap.size w W1 ∧ HA W1 (.slice (some ⟨w.heap.size, 0, none⟩) l.length cap) l := by
  obtain ⟨cap, W1, h1, h2, _, h3, h4, _⟩ := bytes_conv w l
  refine ⟨cap, W1, h1, h2, .inl (.inr ⟨w.heap.size, 0, l.length, cap, rfl, rfl, ⟨h4, ?_⟩, h3, trivial⟩)⟩
  have h := run_bytes_of_string (P := Tryz.prog) w 9 61 5 (S l) Tryz.underlying9 Tryz.underlying61 Tryz.underlying5
  rw [h1] at h
  injection h with h5
  injection h5 with _ _ h6
  rw [h6]
  exact grownCap_le_maxLen _ _ _ _ (by rw [S_size]; exact hl)
def awR : RSt := ⟨[], 0, 0, false, 4, 2, 2, 1⟩
theorem awR_ok : OkR awR := { w := ⟨(by decide : 1 ≤ 4), (by decide : 4 ≤ 500)⟩, h := ⟨(by decide : 1 ≤ 2), (by decide : 2 ≤ 500)⟩, n := ⟨(by decide : 1 ≤ 2), (by decide : 2 ≤ 60)⟩, ph := ⟨(by decide : 1 ≤ 1), (by decide : 1 ≤ 3)⟩, op := fun h => absurd h (by decide : ¬ ((1 : Nat) = 2)), cl := fun _ => ⟨rfl, rfl, rfl, rfl⟩ }
theorem startB_len {n : Nat} (h : n ≤ 60) : (startB n).length ≤ 100 := by
  unfold startB usualB seenB pasteB
  have := reserveB_len h
  simp only [List.length_append, List.length_cons, List.length_nil]
  omega
set_option maxRecDepth 100000 in
set_option maxHeartbeats 16000000 in
theorem awake11_any (W : World) : Calls Tryz.prog 68 #[] W fun e w' => e = .returned (.bool true) ∧ Below W.heap.size W w' := by
  have kc := fun (w : World) (C : Array Value) (n c : Nat) => Lib.run_convert_bytes_const (P := Tryz.prog) w 61 5 C n c Tryz.underlying61 Tryz.underlying5
  have CN := Lib.hid (rgnew_ok 4 2 2 rfl (by decide) (by decide) W)
  go_enter Tryz.func68, Tryz.ntmps68
  go_upto_region 4 with (go_at_call 59; refine CN.out.mono ?_; rintro e w1 ⟨p, rfl, z1, hp, hb1⟩)
  have i1 : RgI w1 p awR := ⟨none, 0, z1, ⟨rfl, fun i M h => by simp [awR] at h⟩, Nat.le_refl _, by unfold maxLen; omega⟩
  have bB : Below w1.heap.size w1 (w1.alloc (.cells #[.int .u8 97, .int .u8 13, .int .u8 10, .int .u8 98] 5 (4, 5))) := (Below.refl _ _).alloc (Nat.le_refl _) _
  have hBy : Bys (w1.alloc (.cells #[.int .u8 97, .int .u8 13, .int .u8 10, .int .u8 98] 5 (4, 5))) w1.heap.size 0 [97, 13, 10, 98] := ⟨by simp, fun j hj => by
    rw [cell_of_row _ _ _ _ _ _ (World.alloc_heap_new w1 _), Nat.zero_add]
    have : j = 0 ∨ j = 1 ∨ j = 2 ∨ j = 3 := by simp at hj; omega
    rcases this with rfl | rfl | rfl | rfl <;> rfl⟩
  obtain ⟨X, hX⟩ : ∃ X, w1.alloc (.cells #[.int .u8 97, .int .u8 13, .int .u8 10, .int .u8 98] 5 (4, 5)) = X := ⟨_, rfl⟩
  rw [hX] at bB hBy
  have hHA : HA X (.slice (some ⟨w1.heap.size, 0, none⟩) 4 4) [97, 13, 10, 98] := .inl (.inr ⟨w1.heap.size, 0, 4, 4, rfl, rfl, ⟨Nat.le_refl _, by unfold maxLen; omega⟩, hBy, trivial⟩)
  have CR := rready_any (F := fun b => X.heap.size ≤ b) (W := X) (fun b hb => hb) 4 2 (by decide) hHA (by decide)
  have eR : readyT 4 2 [97, 13, 10, 98] = (aw11, []) := by rw [← aw11_w]; rfl
  rw [eR] at CR
  have CR := Lib.hid CR
  have b1X := bto hb1 bB hb1.size
  clear z1 hBy hHA
  go_upto_region 5 with (first
    | (go_at_call 60; refine CR.out.mono ?_; rintro e w2 ⟨a2, c2, bv2, rfl, g2, hv2, hb2⟩; have pn : TBx (w2.alloc (.cells zCells 63)) w2.heap.size zCells := TBx.new _ _)
    | (refine wpList_tstore rfl _ _ rfl w2.heap.size rfl (tCells a2 c2 aw11 bv2) rfl zCells ?_ rfl rfl (tCells_one _ _ _ hv2.one) ?_; exact pn; intro w3 p3 o3))
  have bz : Below w2.heap.size w2 (w2.alloc (.cells zCells 63)) := (Below.refl _ _).alloc (Nat.le_refl _) _
  have b23 : Below w2.heap.size w2 w3 := bz.trans (o3.below (by simp) bz.size)
  have b2W := bto b1X hb2 b1X.size
  have b3W := bto b2W b23 b2W.size
  have i3 := ((i1.below bB).below hb2).below b23
  have g3 := (g2.mono (F' := fun b => X.heap.size ≤ b ∧ b ≠ w2.heap.size) (fun b hb hlt => ⟨hb, by omega⟩)).below b23
  have hv3 := (hv2.mono (F' := fun b => X.heap.size ≤ b ∧ b ≠ w2.heap.size) (fun b hb hlt => ⟨hb, by omega⟩)).below b23
  have CS := gstart_ok i3 awR_ok rfl
  rw [show awR.rows = 2 from rfl] at CS
  have CS := Lib.hid CS
  have hpw : p ≠ w2.heap.size := by
    obtain ⟨_, _, z, _⟩ := ((i1.below bB).below hb2)
    have := z.lt
    omega
  clear i3 CR CN
  go_upto_region 6 with (go_at_call 61; refine CS.out.mono ?_; rintro e w4 ⟨rfl, o4, i4⟩)
  have p4 : TBx w4 w2.heap.size (tCells a2 c2 aw11 bv2) := p3.only o4 (by simp; omega)
  have b4W := b3W.trans (o4.below (by simp; omega) b3W.size)
  have hpX : p < X.heap.size := by
    obtain ⟨_, _, z, _⟩ := i1.below bB
    exact z.lt
  have g4 := g3.keep o4.size (fun b hb hlt => o4.block b hlt (by have := hb.1; simp; omega))
  have hv4 := hv3.keep o4.size (fun b hb hlt => o4.block b hlt (by have := hb.1; simp; omega))
  obtain ⟨k1, W1, hcv1, hcb1, hha1⟩ := bytes_conv3 w4 (startB 2) (by have := startB_len (n := 2) (by decide); unfold maxLen; omega)
  have ko : TOk aw11 := ((TOk.new (w := 4) (h := 2) (by decide) (by decide) (by decide) (by decide)).run _).run _
  have hgn := aw11_f
  have CW := rwrite_any (W := W1) (F := fun b => b ≠ w2.heap.size) (l := []) (fun b hb => by have := hcb1.size; have := o4.size; have := b23.size; have := p3.lt; omega) ((hv4.mono (fun b hb _ => hb.2)).below hcb1) hha1 ko (by have := startB_len (n := 2) (by decide); simp; omega) (by omega) (by omega) ((g4.mono (fun b hb _ => hb.2)).below hcb1)
  have eS : runT aw11 ([] ++ startB 2) = (aw11s, []) := Prod.ext rfl aw11s_w
  rw [eS] at CW
  have CW := Lib.hid CW
  have p4' := p4.below hcb1
  have i4' := i4.below hcb1
  have bW1 := bto b4W hcb1 b4W.size
  clear g3 hv3 g4 hv4 eS i4
  go_upto_region 7 with (first
    | (refine wpList_tload rfl _ rfl w2.heap.size rfl (tCells a2 c2 aw11 bv2) ?_ rfl ?_; exact p4)
    | (go_at_call 32; refine CW.out.mono ?_; rintro e w5 ⟨a5, c5, bv5, rfl, g5, hv5, hb5⟩; have p5 := p4'.below hb5)
    | (refine wpList_tstore rfl _ _ rfl w2.heap.size rfl (tCells a5 c5 aw11s bv5) rfl (tCells a2 c2 aw11 bv2) ?_ rfl rfl (tCells_one _ _ _ hv5.one) ?_; exact p5; intro w6 p6 o6))
  have g6 := g5.keep o6.size (fun b hb hlt => o6.block b hlt (by simpa using hb))
  have b5W := bto bW1 hb5 bW1.size
  have b6W := b5W.trans (o6.below (by simp; have := b2W.size; omega) b5W.size)
  obtain ⟨av, cap, z5, _, _⟩ := i4'.below hb5
  have z6 := z5.only o6 (by simpa using hpw)
  obtain ⟨f1, f2, f3, f4, f5, f6⟩ := aw11s_f
  have CS2 := Lib.hid (gstart_badB z6 (by decide) (by decide))
  have CO := Lib.hid (gOpen_any z6 (by decide))
  have rok : ROk aw11s.R := ((ko.run (startB 2)).ro : ROk (runT aw11 (startB 2)).1.R)
  rw [f1, f2] at g6
  have CT := rtext_ok g6 rok (by decide) 0 (by decide) (by decide)
  rw [show (0 : Int).toNat = 0 from rfl, f6, show S [] = (⟨#[]⟩ : ByteArray) from rfl] at CT
  have CT := Lib.hid CT
  obtain ⟨t0, t1, t2, t3, t4, t5, t6, t7, t8, t9, t10, t11, t12, t13, t14, t15, t16, t17, t18, t19⟩ := p6.tc
  rw [f1] at t0
  rw [f2] at t1 t2
  rw [f3] at t14
  rw [f4] at t3
  rw [f5] at t12
  go_wp2_with (first
    | (go_at_call 61; refine CS2.out.mono ?_; rintro e w7 ⟨rfl, rfl⟩)
    | (go_at_call 71; refine CO.out.mono ?_; rintro e w7 ⟨rfl, rfl⟩)
    | (go_at_call 67; refine CT.out.mono ?_; rintro e w8 ⟨rfl, hb8⟩; have t3' := (hb8.cell (p := ⟨w2.heap.size, 3, none⟩) p6.lt).trans t3; have t12' := (hb8.cell (p := ⟨w2.heap.size, 12, none⟩) p6.lt).trans t12))
  go_ret
  exact ⟨rfl, bto b6W hb8 b6W.size⟩
end Go.Proofs.YtekodpcedjpnjaaGreat
