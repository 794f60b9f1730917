/- A terminal behind End of any lines: it stands as its rows ahead of the band say. Plain. No condition. Terminals in boxes apart from blocks; a region's rows apart from another region; a part of strings. No condition. The law RegionClean. No condition but on the lengths of strings. Printed by gen_rc.py. The law RegionClean, as its statement hands it what it reads. No condition but on the lengths of strings. -/
import Derived.Test.YtjkajojjehgmdaaGreatRE39
import Derived.Test.YtjkajojjehgmdaaGreatRE41
import Derived.Test.YtjkajojjehgmdaaGreatRE47
import Derived.Test.YtjkajojjehgmdaaGreatRE51
set_option linter.unusedVariables false
set_option linter.unusedSimpArgs false
namespace Go.Proofs.YtjkajojjehgmdaaGreat
open Go.RowKit Go.Shelf Go.Maps
def endT (w h bells gone : Nat) (Pre : List (List GC)) (L : List (List (List UInt8))) : TS :=
 { W := w, H := h, R := Pre ++ (L.map (txtR w) ++ List.replicate (h - (Pre.length + L.length)) (blR w)), row := Pre.length + L.length, col := 0, y := Sy.zero, pend := false, seen := true, marked := false, last := false, bells := bells, gone := gone, lrow := 0, lcol := 0 }
theorem Bnd.fits {x : RSt} {Pre Post : List (List GC)} {T : TS} (b : Bnd x Pre Post T) : Pre.length + x.A.length ≤ T.H := by
 have h1 := b.k.ok.n
 rw [b.R] at h1
 simp only [List.length_append] at h1
 omega
theorem bnd_endL {x : RSt} (k : OkR x) (hp : x.ph = 2) {Pre Post : List (List GC)} {T : TS} (b : Bnd x Pre Post T) (L : List (List UInt8)) (hL : L.length < x.rows) :
    (runT T (endedB x.r.toNat (L.map (clsF x.w)))).2 = [] ∧ (runT T (endedB x.r.toNat (L.map (clsF x.w)))).1.core = endT x.w T.H T.bells T.gone Pre (L.map (clsF x.w)) := by
 have he : ∀ u : TS, runT u [] = (u, []) := fun _ => rfl
 obtain ⟨h1, h2, h3⟩ := k.op hp
 obtain ⟨p1, p2, p3, p4, p5, p6, p7, p8, p9⟩ := okF_pos h1
 have hrow := b.row
 have hr := b.k.row
 have hft := b.fits
 have hrw : x.rows = min x.want x.h := rfl
 have htop : T.row - x.r.toNat = Pre.length := by omega
 have hll : (L.map (clsF x.w)).length = L.length := List.length_map _
 have hlm : ((L.map (clsF x.w)).map (txtR T.W)).length = L.length := by rw [List.length_map, hll]
 obtain ⟨u, u1, u2⟩ := run_ended b.k b.y (fr := x.r.toNat) (by omega) (L.map (clsF x.w)) (fun C hC => by
  obtain ⟨l, _, rfl⟩ := List.mem_map.1 hC
  rw [b.W]
  exact clsF_ok x.w l) (by rw [hll]; omega)
 have e0 := u1 []
 rw [List.append_nil] at e0
 rw [e0, he]
 refine ⟨rfl, u2.trans ?_⟩
 obtain ⟨t, ht⟩ : ∃ t, t = T.row - x.r.toNat := ⟨_, rfl⟩
 rw [← ht] at htop ⊢
 unfold layT
 rw [hlm]
 have hl : t + L.length + 0 - T.H = 0 := by omega
 rw [hl]
 have eR : T.R.take Pre.length = Pre := by rw [b.R, List.take_append_of_le_length (Nat.le_refl _), List.take_length]
 unfold TS.core endT
 simp only [List.replicate_zero, List.append_nil, List.drop_zero, Nat.sub_zero, Nat.add_zero, htop, eR, b.W, hll, List.append_assoc]
structure TmS (S : List Nat) (T1 : Nat) (X : World) (T : TS) : Prop where
 ex : ∃ a c bv, TBx X T1 (tCells a c T bv) ∧ RG (fun g => g ∉ S) X a c T.W T.H T.R ∧ HB (fun g => g ∉ S) X bv []
theorem TmS.below {S : List Nat} {T1 : Nat} {X Y : World} {T : TS} (h : TmS S T1 X T) (hb : Below X.heap.size X Y) : TmS S T1 Y T := by
 obtain ⟨a, c, bv, h1, h2, h3⟩ := h.ex
 exact ⟨a, c, bv, h1.below hb, h2.below hb, h3.below hb⟩
theorem TmS.only {S : List Nat} {p T1 : Nat} {X Y : World} {T : TS} (h : TmS S T1 X T) (ho : Only [p] X Y) (hS : p ∈ S) (hp : T1 ≠ p) : TmS S T1 Y T := by
 obtain ⟨a, c, bv, h1, h2, h3⟩ := h.ex
 have hk : ∀ g, g ∉ S → g < X.heap.size → Y.heap[g]? = X.heap[g]? := fun g hg hlt => ho.block g hlt (by simp; exact fun e => hg (e ▸ hS))
 exact ⟨a, c, bv, h1.only ho (by simpa using hp), h2.keep ho.size hk, h3.keep ho.size hk⟩
theorem TmS.lt {S : List Nat} {T1 : Nat} {X : World} {T : TS} (h : TmS S T1 X T) : T1 < X.heap.size := by
 obtain ⟨a, c, bv, h1, _⟩ := h.ex
 exact h1.lt
theorem RowsAt.notReg {W : World} {a : Option Addr} {n : Nat} {R : List (List GC)} (hR : RowsAt W a n R) {b : Nat} {av : Option Addr} {k cp : Nat} {r c : Int} {s : Bool} {w h want ph : Int} (z : RgB W b (.slice av k cp) r c s w h want ph) {A : List (List GC)} (hA : RowsAt W av k A) (hne : ∀ M ∈ R, M ≠ []) : RowsF (fun g => g < W.heap.size ∧ g ≠ b) W a n R :=
 ⟨hR.len, fun i M hi => by
  obtain ⟨g, off, a2, c2, h1, h2, h3, h4, h5⟩ := hR.at_ i M hi
  have hM := hne M (List.mem_of_getElem? hi)
  have hx : ∃ x, M[0]? = some x := ⟨_, List.getElem?_eq_getElem (by cases M with | nil => exact absurd rfl hM | cons _ _ => simp)⟩
  obtain ⟨x, hx⟩ := hx
  obtain ⟨g2, o2, e2, e3, e4⟩ := h5.at_ 0 x hx
  have hs := e4 0 (.string x.s) rfl
  have hgb : g ≠ b := fun e => by
   subst e
   rcases z.at_ h3 with h | h | h | h | h | h | h | h
   ·simp only [Value.slice.injEq] at h
    obtain ⟨q1, q2, _⟩ := h
    have hl := hA.len
    have hk : 1 ≤ k := by
     rw [← q2]
     cases M with
     | nil => exact absurd rfl hM
     | cons _ _ => simp
    obtain ⟨N, hN⟩ : ∃ N, A[0]? = some N := ⟨_, List.getElem?_eq_getElem (by omega)⟩
    obtain ⟨g5, o5, a5, c5, k1, _, k3, _⟩ := hA.at_ 0 N hN
    rw [← q1, e2] at k1
    simp only [Option.some.injEq, Addr.mk.injEq, and_true] at k1
    obtain ⟨rfl, rfl⟩ := k1
    simp only [Nat.zero_mul, Nat.add_zero] at hs k3
    rw [k3] at hs
    cases hs
   all_goals cases h
  refine ⟨g, off, a2, c2, h1, ⟨h2, h2, hgb⟩, h3, h4, h5, fun b2 o2' e => ?_⟩
  rw [e2] at e
  simp only [Option.some.injEq, Addr.mk.injEq, and_true] at e
  obtain ⟨rfl, rfl⟩ := e
  refine ⟨e3, e3, fun e => ?_⟩
  subst e
  rcases z.at_ hs with h | h | h | h | h | h | h | h <;> cases h⟩
theorem StrsAt.take {W : World} {a : Option Addr} {n : Nat} {L : List (List UInt8)} (h : StrsAt W a n L) {k : Nat} (hk : k ≤ n) : StrsAt W a k (L.take k) :=
 ⟨by rw [List.length_take, h.len]; omega, fun i l hl => by
  rw [List.getElem?_take] at hl
  split at hl
  ·exact h.at_ i l hl
  ·cases hl⟩
theorem StrsAt.reg {W X : World} {a : Option Addr} {n : Nat} {L : List (List UInt8)} (h : StrsAt W a n L) {b : Nat} {av : Option Addr} {k cp : Nat} {r c : Int} {s : Bool} {w h' want ph : Int} (z : RgB W b (.slice av k cp) r c s w h' want ph) (ho : Only [b] W X) : StrsAt X a n L :=
 ⟨h.len, fun i l hl => by
  obtain ⟨g, off, h1, h2, h3⟩ := h.at_ i l hl
  have hgb : g ≠ b := fun e => by
   subst e
   rcases z.at_ h3 with h | h | h | h | h | h | h | h <;> cases h
  exact ⟨g, off, h1, Nat.lt_of_lt_of_le h2 ho.size, (cellB (ho.block g h2 (by simp; exact hgb))).trans h3⟩⟩
theorem bnd_drawM {x : RSt} (k : OkR x) (hp : x.ph = 2) {Pre Post : List (List GC)} {T : TS} (b : Bnd x Pre Post T) (B : List (List GC)) (r c : Int) (s : Bool) : (runT T (drawF x B r c s).1).1.marked = T.marked := by
 have he : ∀ u : TS, runT u [] = (u, []) := fun _ => rfl
 unfold drawF
 rw [if_pos hp]
 split
 ·rename_i hd
  obtain ⟨d1, d2, d3⟩ := mayD_pos hd
  obtain ⟨u, u1, u2⟩ := run_drawn (s2 := s) (k.fit hp hd) b.k (by rw [b.W, d3]) b.R b.row b.col b.pend b.y b.seen
  have h1 := u1 []
  rw [List.append_nil] at h1
  dsimp only
  rw [h1, he]
  exact (core_eq u2).2.2.2.2.2.2.2.2.1
 ·rfl
theorem endedL_len (fr : Nat) {w : Nat} (hw : w ≤ 500) (L : List (List UInt8)) : (endedB fr (L.map (clsF w))).length ≤ 100 + 32002 * L.length := by
 have h1 := byL_len (fr : Int) 65
 have h2 := linesB_len w hw L
 unfold endedB belowB seenB pasteB
 simp only [List.length_append, List.length_cons, List.length_nil]
 omega
theorem wpList_tloadH {ops : Array Oper} {rest : List Oper} {op : Oper} {a : Act} {w : World} {Q : Exit → Act → World → Prop} (hgd : Region.wanted op (yielded ops a.tmps) = true) (x : Operand) (ho : op.op = .load 34 x)
    (b : Nat) (hx : a.eval x = .pointer (some ⟨b, 0, none⟩)) (cs : Array Value) (hb : TBx w b cs) (hs : cs.size = 19)
    (h : wpList Tryz.prog ops Q rest (a.put op.dst (.agg cs)) w) : wpList Tryz.prog ops Q (op :: rest) a w :=
 wpList_step fun K hK => by
  rw [if_pos hgd]
  have hl := hb.load hs
  unfold Oper.wp execOp
  simp only [ho, hx, Sem.run_bind, Sem.run_pure, Result.andThen_ok, Instr.loadAt, Instr.sureAddr, asAddr, hl]
  exact hK _ _ h
set_option maxRecDepth 100000 in
set_option maxHeartbeats 32000000 in
theorem regionClean_any {W : World} (w h rows : Nat) (hw : w ≤ 255) (hh : h ≤ 255) (hrw : rows ≤ 255) {fa : Option Addr} {fn fc : Nat} {bs : List UInt8} (hs : HA W (.slice fa fn fc) bs) (hfn : fn ≤ fc ∧ fc ≤ maxLen) {a : Option Addr} {len cap : Nat} (hF : FrsAt W a len cap)
    {la : Option Addr} {ln lc : Nat} {L : List (List UInt8)} (hL : StrsAt W la ln L) (hln : ln ≤ maxLen) (hlL : ∀ l ∈ L, l.length ≤ maxLen) :
    Calls Tryz.prog 4 #[.int .u8 w, .int .u8 h, .int .u8 rows, .slice fa fn fc, .slice a len cap, .slice la ln lc] W fun e w' => e = .returned (.bool true) ∧ Below W.heap.size W w' := by
 obtain ⟨A, hA⟩ : ∃ A, A = 1 + w % 60 := ⟨_, rfl⟩
 obtain ⟨B, hB⟩ : ∃ B, B = 1 + h % 30 := ⟨_, rfl⟩
 obtain ⟨N, hN⟩ : ∃ N, N = 1 + rows % 40 := ⟨_, rfl⟩
 have HVA : Hid (Value.int .i64 (1 + (w : Int) % 60) = .int .i64 A) := Lib.hid (by rw [hA]; congr 1)
 have HVB : Hid (Value.int .i64 (1 + (h : Int) % 30) = .int .i64 B) := Lib.hid (by rw [hB]; congr 1)
 have HVN : Hid (Value.int .i64 (1 + (rows : Int) % 40) = .int .i64 N) := Lib.hid (by rw [hN]; congr 1)
 have hA6 : 1 ≤ A ∧ A ≤ 60 := by omega
 have hB3 : 1 ≤ B ∧ B ≤ 30 := by omega
 have hN4 : 1 ≤ N ∧ N ≤ 40 := by omega
 have hHA := Lib.hid hs
 have hbl := hs.len
 have HLL := Lib.hid (And.intro hL (And.intro hln hlL))
 obtain ⟨hF1, hF2, hFs⟩ := hF
 have HFS := Lib.hid hFs
 unfold maxLen at hF2 hfn
 clear hA hB hN hs hFs hL hln hlL
 go_enter Tryz.func4, Tryz.ntmps4
 go_upto_region 1 with (fail)
 go_cut [13, 14, 15] (fun u v x wx => u = .int .i64 A ∧ v = .int .i64 B ∧ x = .int .i64 N ∧ wx = W)
 case first =>
  go_wp2
  go_meet
  exact ⟨HVA.out, HVB.out, HVN.out, rfl⟩
 case rest =>
  obtain ⟨rfl, rfl, rfl, rfl⟩ := hcut
  clear hw hh hrw HVA HVB HVN
  have hsd : sideOk (A : Int) (B : Int) = true := decide_eq_true (by omega)
  have CN := Lib.hid (fun (X : World) => rgnew_ok A B N hsd (by omega) (by omega) X)
  obtain ⟨x0, hx0⟩ : ∃ x : RSt, x = ⟨[], 0, 0, false, A, B, N, 1⟩ := ⟨_, rfl⟩
  have K0 : OkR x0 := by rw [hx0]; exact { w := (by show 1 ≤ A ∧ A ≤ 500; omega), h := (by show 1 ≤ B ∧ B ≤ 500; omega), n := (by show 1 ≤ N ∧ N ≤ 60; omega), ph := ⟨(by decide : 1 ≤ 1), (by decide : 1 ≤ 3)⟩, op := fun h => absurd h (by decide : ¬ ((1 : Nat) = 2)), cl := fun _ => ⟨rfl, rfl, rfl, rfl⟩ }
  clear hsd
  go_upto_region 3 with (go_at_call 6; refine (CN.out _).mono ?_; rintro e w1 ⟨p, rfl, z1, hp, hb1⟩)
  go_upto_region 6 with (go_at_call 6; refine (CN.out _).mono ?_; rintro e w2 ⟨p2, rfl, z2, hp2, hb2⟩)
  have hpl := z1.lt
  have hp2l := z2.lt
  have hpp : p ≠ p2 := by omega
  have hpp2 : p2 ≠ p := by omega
  have hnil : ∀ X : World, RowsAt X none 0 [] := fun X => ⟨rfl, fun i M h => by simp at h⟩
  have i1 : RgI w2 p x0 := by rw [hx0]; exact ⟨none, 0, z1.below hb2, hnil _, Nat.le_refl _, by unfold maxLen; omega⟩
  have hph1 : x0.ph = 1 := by rw [hx0]
  have hxw : x0.w = A := by rw [hx0]
  have hxh : x0.h = B := by rw [hx0]
  have hxr : x0.rows = min N B := by rw [hx0]; rfl
  have CS1 := Lib.hid (gstart_ok i1 K0 hph1)
  have hsl := startB_len K0.rows.2.1
  obtain ⟨sb, hsb⟩ : ∃ t, t = startB x0.rows := ⟨_, rfl⟩
  rw [← hsb] at CS1 hsl
  have HSB := Lib.hid hsb
  have HX0 := Lib.hid hx0
  clear i1 hsb hx0
  go_upto_region 7 with (go_at_call 8; refine CS1.out.mono ?_; rintro e w3 ⟨rfl, o3, i3⟩)
  have zq3 := z2.only o3 (by simpa using hpp2)
  have i2 : RgI w3 p2 x0 := by rw [HX0.out]; exact ⟨none, 0, zq3, hnil _, Nat.le_refl _, by unfold maxLen; omega⟩
  have CS2 := gstart_ok i2 K0 hph1
  rw [← HSB.out] at CS2
  have CS2 := Lib.hid CS2
  clear i2
  go_upto_region 8 with (go_at_call 8; refine CS2.out.mono ?_; rintro e w4 ⟨rfl, o4, i4⟩)
  have hne : ∀ M ∈ x0.blank.A, M ≠ [] := blankM_ne (by omega)
  have s34 := o3.size
  have s44 := o4.size
  have rr : RgF (fun g => g < w4.heap.size) w4 p x0.blank ∧ RgF (fun g => g < w4.heap.size ∧ g ≠ p) w4 p2 x0.blank := by
   obtain ⟨av3, cp3, zr3, hA3, hc3⟩ := i3
   obtain ⟨av4, cp4, zq4, hB4, hd4⟩ := i4
   have zr4 := zr3.only o4 (by simpa using hpp)
   have hA4 := hA3.reg zq3 (hnil _) o4 hne
   exact ⟨⟨av3, cp3, zr4, hA4.toF hne, hc3⟩, ⟨av4, cp4, zq4, hB4.notReg zr4 hA4 hne, hd4⟩⟩
  obtain ⟨rp4, rq4⟩ := rr
  have b2W := bto hb1 hb2 hb1.size
  have hp2W : wc.heap.size ≤ p2 := by have := hb1.size; omega
  have b3W := b2W.trans (o3.below (by simpa using hp) b2W.size)
  have bw4 : Below wc.heap.size wc w4 := b3W.trans (o4.below (by simpa using hp2W) b3W.size)
  clear CS1 CS2 i3 i4 hne CN z1 z2 zq3 o3 o4 hb1 hb2 b2W b3W
  obtain ⟨km, hkm⟩ : ∃ k, k = min 400 fn := ⟨_, rfl⟩
  have HKM : Hid (min (fn : Int) 400 = (km : Int)) := Lib.hid (by omega)
  have hkf : km ≤ fc := by omega
  have hkl : km ≤ fn := by omega
  have hk4 : km ≤ 400 := by omega
  have hmin := HKM.out
  have hkt : (bs.take km).length ≤ 1000000 := by rw [List.length_take]; omega
  have hR1 := ready_w A B (bs.take km)
  have hR2 := ready_ok (w := A) (h := B) (by omega) (bs.take km)
  have hD := ready_dims A B (bs.take km) hkt
  obtain ⟨u0, hu0⟩ : ∃ u, u = readyT A B (bs.take km) := ⟨_, rfl⟩
  rw [← hu0] at hR1 hR2 hD
  have HU := Lib.hid hu0
  obtain ⟨hD1, hD2, hD3, hD4⟩ := hD
  obtain ⟨hs1, Post, hs2, hs3, hs4, hs5⟩ := bnd_start K0 hph1 hR2 (hD1.trans hxw.symm) (hD2.trans hxh.symm)
  rw [← HSB.out] at hs1 hs2 hs3 hs4 hs5
  obtain ⟨y1, hy1⟩ : ∃ y, y = runT u0.1 sb := ⟨_, rfl⟩
  rw [← hy1] at hs1 hs2 hs3 hs4 hs5
  have HY := Lib.hid hy1
  have HB2 := Lib.hid hs2
  have hg0 := K0.rows.2.1
  have hrw0 := hR2.row
  have hgy : y1.1.gone ≤ 2000100 := by omega
  have hbe : y1.1.bells ≤ 2000000 := by omega
  have hyH : y1.1.H = B := hs4.trans hD2
  have HYH := Lib.hid hyH
  have HXF := Lib.hid (And.intro hxw (And.intro hxh hxr))
  have HK0 := Lib.hid K0
  clear hkm hu0 hy1 hs2 hs3 hs4 hs5 hph1 hxw hxh hxr hyH K0 hrw0 hg0
  have CR9 := rready_any (F := fun g => w4.heap.size ≤ g) (W := w4) (fun g hg => hg) A B (by omega) (HA.take (hHA.out.below bw4) km hkl) hkt
  rw [← HU.out] at CR9
  have CR9 := Lib.hid CR9
  go_wp2_with fail
  refine CR9.out.mono ?_
  rintro e wr9 ⟨ar9, cr9, br9, rfl, gr9, hvr9, hbr9⟩
  obtain ⟨kb9, wb9, hcv9, hcb9, hha9⟩ := bytes_conv3 wr9 sb (by unfold maxLen; omega)
  have CW9 := rwrite_any (W := wb9) (F := fun g => w4.heap.size ≤ g) (l := []) (fun g hg => by have := hcb9.size; have := hbr9.size; omega) (by have := hvr9.below hcb9; rw [hR1] at this; exact this) hha9 hR2 (by simp; omega) (by omega) (by omega) (gr9.below hcb9)
  rw [List.nil_append, ← HY.out] at CW9
  have CW9 := Lib.hid CW9
  have bb9 := bto (bto bw4 hbr9 bw4.size) hcb9 (bto bw4 hbr9 bw4.size).size
  go_upto_region 9 with (first
   | (go_at_call 9; refine CW9.out.mono ?_; rintro e ww9 ⟨aw9, cw9, bw9, rfl, gw9, hvw9, hbw9⟩; have pn9 : TBx (ww9.alloc (.cells zCells 34)) ww9.heap.size zCells := TBx.new _ _)
   | (refine wpList_tstore rfl _ _ rfl ww9.heap.size rfl (tCells aw9 cw9 y1.1 bw9) rfl zCells ?_ rfl rfl (tCells_one _ _ _ hvw9.one) ?_; exact pn9; intro wn9 pw9 ow9))
  rw [hs1] at hvw9
  have bz9 : Below ww9.heap.size ww9 (ww9.alloc (.cells zCells 34)) := (Below.refl _ _).alloc (Nat.le_refl _) _
  have bs9 : Below ww9.heap.size ww9 wn9 := bz9.trans (ow9.below (by simp) bz9.size)
  have bq9 := bto hcb9 hbw9 hcb9.size
  have bt9 := bto hbr9 bq9 hbr9.size
  have bu9 : Below w4.heap.size w4 wn9 := bto bt9 bs9 bt9.size
  have bwn9 : Below wc.heap.size wc wn9 := bto bw4 bu9 bw4.size
  have T9lo : w4.heap.size ≤ ww9.heap.size := bt9.size
  have T9hi : ww9.heap.size < wn9.heap.size := pw9.lt
  have gx9 : RG (fun g => w4.heap.size ≤ g ∧ g < ww9.heap.size) wn9 aw9 cw9 y1.1.W y1.1.H y1.1.R := (gw9.mono (F' := fun g => w4.heap.size ≤ g ∧ g < ww9.heap.size) (fun g hg hlt => ⟨hg, hlt⟩)).below bs9
  have hx9 : HB (fun g => w4.heap.size ≤ g ∧ g < ww9.heap.size) wn9 bw9 [] := (hvw9.mono (F' := fun g => w4.heap.size ≤ g ∧ g < ww9.heap.size) (fun g hg hlt => ⟨hg, hlt⟩)).below bs9
  obtain ⟨T9, hT9⟩ : ∃ T, T = ww9.heap.size := ⟨_, rfl⟩
  rw [← hT9] at pw9 gx9 hx9 T9lo T9hi ⊢
  clear hT9 CR9 CW9 gr9 hvr9 hcv9 hcb9 hha9 hbr9 bb9 pn9 gw9 hvw9 hbw9 bz9 bs9 bq9 bt9 ow9
  have CR10 := rready_any (F := fun g => wn9.heap.size ≤ g) (W := wn9) (fun g hg => hg) A B (by omega) (HA.take (hHA.out.below bwn9) km hkl) hkt
  rw [← HU.out] at CR10
  have CR10 := Lib.hid CR10
  go_wp2_with fail
  refine CR10.out.mono ?_
  rintro e wr10 ⟨ar10, cr10, br10, rfl, gr10, hvr10, hbr10⟩
  obtain ⟨kb10, wb10, hcv10, hcb10, hha10⟩ := bytes_conv3 wr10 sb (by unfold maxLen; omega)
  have CW10 := rwrite_any (W := wb10) (F := fun g => wn9.heap.size ≤ g) (l := []) (fun g hg => by have := hcb10.size; have := hbr10.size; omega) (by have := hvr10.below hcb10; rw [hR1] at this; exact this) hha10 hR2 (by simp; omega) (by omega) (by omega) (gr10.below hcb10)
  rw [List.nil_append, ← HY.out] at CW10
  have CW10 := Lib.hid CW10
  have bb10 := bto (bto bwn9 hbr10 bwn9.size) hcb10 (bto bwn9 hbr10 bwn9.size).size
  go_upto_region 10 with (first
   | (go_at_call 9; refine CW10.out.mono ?_; rintro e ww10 ⟨aw10, cw10, bw10, rfl, gw10, hvw10, hbw10⟩; have pn10 : TBx (ww10.alloc (.cells zCells 34)) ww10.heap.size zCells := TBx.new _ _)
   | (refine wpList_tstore rfl _ _ rfl ww10.heap.size rfl (tCells aw10 cw10 y1.1 bw10) rfl zCells ?_ rfl rfl (tCells_one _ _ _ hvw10.one) ?_; exact pn10; intro wn10 pw10 ow10))
  rw [hs1] at hvw10
  have bz10 : Below ww10.heap.size ww10 (ww10.alloc (.cells zCells 34)) := (Below.refl _ _).alloc (Nat.le_refl _) _
  have bs10 : Below ww10.heap.size ww10 wn10 := bz10.trans (ow10.below (by simp) bz10.size)
  have bq10 := bto hcb10 hbw10 hcb10.size
  have bt10 := bto hbr10 bq10 hbr10.size
  have bu10 : Below wn9.heap.size wn9 wn10 := bto bt10 bs10 bt10.size
  have bwn10 : Below wc.heap.size wc wn10 := bto bwn9 bu10 bwn9.size
  have T10lo : wn9.heap.size ≤ ww10.heap.size := bt10.size
  have T10hi : ww10.heap.size < wn10.heap.size := pw10.lt
  have gx10 : RG (fun g => wn9.heap.size ≤ g ∧ g < ww10.heap.size) wn10 aw10 cw10 y1.1.W y1.1.H y1.1.R := (gw10.mono (F' := fun g => wn9.heap.size ≤ g ∧ g < ww10.heap.size) (fun g hg hlt => ⟨hg, hlt⟩)).below bs10
  have hx10 : HB (fun g => wn9.heap.size ≤ g ∧ g < ww10.heap.size) wn10 bw10 [] := (hvw10.mono (F' := fun g => wn9.heap.size ≤ g ∧ g < ww10.heap.size) (fun g hg hlt => ⟨hg, hlt⟩)).below bs10
  obtain ⟨T10, hT10⟩ : ∃ T, T = ww10.heap.size := ⟨_, rfl⟩
  rw [← hT10] at pw10 gx10 hx10 T10lo T10hi ⊢
  clear hT10 CR10 CW10 gr10 hvr10 hcv10 hcb10 hha10 hbr10 bb10 pn10 gw10 hvw10 hbw10 bz10 bs10 bq10 bt10 ow10
  obtain ⟨S, hS⟩ : ∃ S, S = [p, p2, T9, T10] := ⟨_, rfl⟩
  have hSp : p ∈ S := by rw [hS]; simp
  have hSp2 : p2 ∈ S := by rw [hS]; simp
  have hS1 : T9 ∈ S := by rw [hS]; simp
  have hS2 : T10 ∈ S := by rw [hS]; simp
  have hSn : ∀ g, wn10.heap.size ≤ g → g ∉ S := fun g hg => by rw [hS]; simp; omega
  have hT12 : T9 ≠ T10 := by omega
  have hT21 : T10 ≠ T9 := by omega
  have hpT1 : p ≠ T9 := by omega
  have hpT2 : p ≠ T10 := by omega
  have hqT1 : p2 ≠ T9 := by omega
  have hqT2 : p2 ≠ T10 := by omega
  have tmT : TmS S T9 wn10 y1.1 := ⟨aw9, cw9, bw9, pw9.below bu10, (gx9.mono (F' := fun g => g ∉ S) (fun g hg _ => by rw [hS]; simp; omega)).below bu10, (hx9.mono (F' := fun g => g ∉ S) (fun g hg _ => by rw [hS]; simp; omega)).below bu10⟩
  have tmV : TmS S T10 wn10 y1.1 := ⟨aw10, cw10, bw10, pw10, gx10.mono (F' := fun g => g ∉ S) (fun g hg _ => by rw [hS]; simp; omega), hx10.mono (F' := fun g => g ∉ S) (fun g hg _ => by rw [hS]; simp; omega)⟩
  have rp : RgF (fun g => g ≠ T9 ∧ g ≠ T10) wn10 p x0.blank := (rp4.mono (F' := fun g => g ≠ T9 ∧ g ≠ T10) (fun g hg _ => by omega)).below (bto bu9 bu10 bu9.size)
  have rq : RgF (fun g => g ≠ p ∧ g ≠ T9 ∧ g ≠ T10) wn10 p2 x0.blank := (rq4.mono (F' := fun g => g ≠ p ∧ g ≠ T9 ∧ g ≠ T10) (fun g hg _ => by omega)).below (bto bu9 bu10 bu9.size)
  have HP1 : Hid (p ≠ T9 ∧ p ≠ T10 ∧ p2 ≠ T9 ∧ p2 ≠ T10 ∧ p ≠ p2) := Lib.hid ⟨hpT1, hpT2, hqT1, hqT2, hpp⟩
  have HWW : Hid (wc.heap.size ≤ p ∧ wc.heap.size ≤ p2 ∧ wc.heap.size ≤ T9 ∧ wc.heap.size ≤ T10) := Lib.hid ⟨hp, hp2W, by have := bw4.size; omega, by have := bw4.size; omega⟩
  have KB := HK0.out.blank
  have HN10 := Lib.hid hSn
  have b10 := bwn10
  have hT2l := pw10.lt
  have hT1l : T9 < wn10.heap.size := by omega
  clear hS hSn rp4 rq4 gx9 hx9 gx10 hx10 pw9 pw10 bu9 bu10 bwn9 bwn10 hR1 hR2 T9lo T9hi T10lo T10hi bw4 hs1 hD1 hD2 hD3 hD4 s34 s44 hpl hp2l HU HKM hmin hkf hkl hk4 hkt HSB hHA hsl
  go_wp2
  go_loopw [20, 26] (fun v iv wr => ∃ (j : Nat) (x : RSt) (T : TS), j ≤ len ∧ j ≤ 8 ∧ iv = .int .i64 j ∧ TmS S T9 wr T ∧ TmS S T10 wr y1.1 ∧ RgF (fun g => g ≠ T9 ∧ g ≠ T10) wr p x ∧ RgF (fun g => g ≠ p ∧ g ≠ T9 ∧ g ≠ T10) wr p2 x0.blank ∧ OkR x ∧ x.ph = 2 ∧ x.w = A ∧ x.rows = x0.rows ∧ Bnd x ((u0.1.R.take u0.1.row).drop (u0.1.row + x0.rows - u0.1.H)) Post T ∧ T.gone = y1.1.gone ∧ T.H = B ∧ T.bells = y1.1.bells ∧ T.marked = y1.1.marked ∧ Below wc.heap.size wc wr ∧ wn10.heap.size ≤ wr.heap.size) (fun _ iv _ => 8 - (intOf iv).toNat)
  case atStart => exact ⟨0, x0.blank, y1.1, Nat.zero_le _, Nat.zero_le _, rfl, tmT, tmV, rp, rq, KB, rfl, HXF.out.1, rfl, HB2.out, rfl, HYH.out, rfl, rfl, b10, Nat.le_refl _⟩
  case round =>
   clear tmT tmV rp rq b10
   obtain ⟨j, x, T, hj, hj8, rfl, tmT, tmV, rp, rq, kx, hph, hxA, hxR, bnd, hgone, hTH, hbel, hmk, hb, hsz⟩ := hrel
   have HBD := Lib.hid bnd
   have HGO := Lib.hid (And.intro hgone (And.intro hTH (And.intro hbel hmk)))
   have hgo2 : T.gone ≤ 2000100 := by omega
   have hbe2 : T.bells ≤ 2000000 := by omega
   clear hgone hTH hbel hmk bnd
   go_upto_region 11 with (fail)
   go_cut [109] (fun u wx => u = .bool (decide (j < len ∧ j < 8)) ∧ wr = wx)
   case first =>
    by_cases h1 : (j : Int) < (len : Int)
    ·by_cases h2 : (j : Int) < 8
     ·have e : decide (j < len ∧ j < 8) = true := decide_eq_true (by omega)
      go_wp2
      go_meet
      exact ⟨by rw [e], rfl⟩
     ·have e : decide (j < len ∧ j < 8) = false := decide_eq_false (by omega)
      go_wp2
      go_meet
      exact ⟨by rw [e], rfl⟩
    ·have e : decide (j < len ∧ j < 8) = false := decide_eq_false (by omega)
     go_wp2
     go_meet
     exact ⟨by rw [e], rfl⟩
   case rest =>
   obtain ⟨hu, hwx⟩ := hcut
   subst hwx
   obtain ⟨hP1, hP2, hP3, hP4, hP5⟩ := HP1.out
   by_cases hlt : j < len ∧ j < 8
   ·rw [decide_eq_true hlt] at hu
    subst hu
    obtain ⟨hlt, hlt8⟩ := hlt
    have hji : (j : Int) < (len : Int) := by omega
    have hj3 : (j : Int) < 8 := by omega
    obtain ⟨g, off, xa, xn, xc, r, c, s, BB, rfl, hg, hro, hRB, ⟨hxc1, hxc2⟩, hsB⟩ := HFS.out j hlt
    have hro1 : wr.rangeAt g (off + j * 4) [.slice xa xn xc, .int .i64 r, .int .i64 c, .bool s] := fun i v hv => (hb.cell (p := ⟨g, _, none⟩) hg).trans (hro i v hv)
    have CFr := Lib.hid (frame11_any (hRB.below hb) hxc1 hxc2 r c s)
    have CDr := Lib.hid (fun (Z : World) (hZ : Below wr.heap.size wr Z) (a1 : Option Addr) (c1 : Nat) (hRR : RowsF (fun b => wr.heap.size ≤ b) Z a1 (frG BB).length (frG BB)) => drawK (F := fun g => g ≠ T9 ∧ g ≠ T10) (W := Z) (cap := c1) (fun g hg => by have := hZ.size; omega) (rp.below hZ) kx hRR.at (by have := frG_len BB; unfold maxLen; omega) (fun M hM c hc => by
     unfold frG at hM
     obtain ⟨N', hN', rfl⟩ := List.mem_map.1 hM
     exact hsB N' (List.mem_of_mem_take hN') c (List.mem_of_mem_take hc)) r c s)
    obtain ⟨e1, e2, e3, e4, e5⟩ := HBD.out.draw kx hph (frG BB) r c s
    have e6 := bnd_drawM kx hph HBD.out (frG BB) r c s
    have hyl := drawF_len kx (frG BB) r c s
    have hyp : (drawF x (frG BB) r c s).2.2.ph = 2 ∧ (drawF x (frG BB) r c s).2.2.w = A ∧ (drawF x (frG BB) r c s).2.2.rows = x0.rows := by
     unfold drawF
     rw [if_pos hph]
     split
     ·exact ⟨hph, hxA, hxR⟩
     ·exact ⟨hph, hxA, hxR⟩
    obtain ⟨y, hy⟩ : ∃ y, y = drawF x (frG BB) r c s := ⟨_, rfl⟩
    simp only [← hy] at CDr e1 e2 e3 e4 e5 e6 hyl hyp
    obtain ⟨tT, hT⟩ : ∃ t, t = runT T y.1 := ⟨_, rfl⟩
    rw [← hT] at e1 e2 e3 e4 e5 e6
    have HT := Lib.hid hT
    have HE := Lib.hid (And.intro e2 (And.intro e3 (And.intro e4 (And.intro e5 e6))))
    clear hy hro hT e2 e3 e4 e5 e6
    go_upto_region 14 with (first
     | (refine wpList_load_mid rfl _ _ rfl g _ rfl [.slice xa xn xc, .int .i64 r, .int .i64 c, .bool s] _ hro1 Tryz.underlying42 rfl (by kernel_rfl) ?_)
     | (go_at_call 11; refine CFr.out.mono ?_; rintro e w7 ⟨a7, c7, rfl, hR7, hc7, hb7⟩)
     | (go_at_call 10; refine (CDr.out _ hb7 _ _ hR7).mono ?_; rintro e w8 ⟨rfl, o8, rg8, kx8⟩))
    have b7 := bto hb hb7 hb.size
    have tm8 := (tmT.below hb7).only o8 hSp hP1.symm
    have tv8 := (tmV.below hb7).only o8 hSp hP2.symm
    have rq8 := (rq.below hb7).only o8 hP5.symm (fun g hg => hg.1)
    have hb8 : Below wc.heap.size wc w8 := b7.trans (o8.below (by simpa using HWW.out.1) b7.size)
    have hs8 : wr.heap.size ≤ w8.heap.size := by have := hb7.size; have := o8.size; omega
    obtain ⟨ta, tc, tbv, tb1, tb2, tb3⟩ := tm8.ex
    obtain ⟨k2, W2, hcv2, hcb2, hha2⟩ := bytes_conv3 w8 y.1 (by unfold maxLen; omega)
    have CW2 := rwrite_any (W := W2) (F := fun g => g ∉ S) (l := []) (fun g hg => HN10.out g (by have := hcb2.size; omega)) (tb3.below hcb2) hha2 HBD.out.k (by simp; omega) (by omega) (by omega) (tb2.below hcb2)
    rw [List.nil_append, ← HT.out] at CW2
    have CW2 := Lib.hid CW2
    have tb1' := tb1.below hcb2
    have bW2 := bto hb8 hcb2 hb8.size
    clear hb7 hR7 hc7 tmT tmV rp rq tm8 tb2 tb3 hha2
    go_wp2_with (first
     | (refine wpList_tload rfl _ rfl T9 rfl (tCells ta tc T tbv) ?_ rfl ?_; exact tb1)
     | (go_at_call 9; refine CW2.out.mono ?_; rintro e w9 ⟨a9, c9, bv9, rfl, g9, hv9, hb9⟩; have p9 := tb1'.below hb9)
     | (refine wpList_tstore rfl _ _ rfl T9 rfl (tCells a9 c9 tT.1 bv9) rfl (tCells ta tc T tbv) ?_ rfl rfl (tCells_one _ _ _ hv9.one) ?_; exact p9; intro w10 p10 o10))
    rw [e1] at hv9
    have b9W := bto bW2 hb9 bW2.size
    have b89 := bto hcb2 hb9 hcb2.size
    obtain ⟨e2, e3, e4, e5, e6⟩ := HE.out
    obtain ⟨hgone, hTH, hbel, hmk⟩ := HGO.out
    have hkS : ∀ g, g ∉ S → g < w9.heap.size → w10.heap[g]? = w9.heap[g]? := fun g hg hlt => o10.block g hlt (by simp; exact fun e => hg (e ▸ hS1))
    go_roundw
    case rel => exact ⟨j + 1, y.2.2, tT.1, hlt, hlt8, by go_num, ⟨a9, c9, bv9, p10, g9.keep o10.size hkS, hv9.keep o10.size hkS⟩, (tv8.below b89).only o10 hS1 hT21, (rg8.below b89).only o10 hP1 (fun g hg => hg.1), (rq8.below b89).only o10 hP3 (fun g hg => hg.2.1), kx8, hyp.1, hyp.2.1, hyp.2.2, e2, e3.trans hgone, e4.trans hTH, e5.trans hbel, e6.trans hmk, b9W.trans (o10.below (by simpa using HWW.out.2.2.1) b9W.size), by have := b89.size; have := o10.size; omega⟩
    case measure => simp [intOf]; omega
   ·rw [decide_eq_false hlt] at hu
    subst hu
    clear hlt
    obtain ⟨hL, hln, hlL⟩ := HLL.out
    have CFw := few11_any (cap := lc) (hL.below hb) hln hlL
    have hfl := fewL_len L
    have hfs := fewL_short L
    obtain ⟨FL, hFL⟩ : ∃ l, l = fewL L := ⟨_, rfl⟩
    rw [← hFL] at CFw hfl hfs
    obtain ⟨m0, hm0⟩ : ∃ m, m = FL.length := ⟨_, rfl⟩
    unfold FewP at CFw
    rw [← hm0] at CFw hfl
    have CFw := Lib.hid CFw
    have HM0 := Lib.hid hm0
    have HFS2 := Lib.hid hfs
    clear hFL hL hln hlL hm0 hfs
    obtain ⟨hxw0, hxh0, hxr0⟩ := HXF.out
    obtain ⟨rr0, hrr0⟩ : ∃ r, r = x0.rows := ⟨_, rfl⟩
    have hr1 : 1 ≤ rr0 ∧ rr0 ≤ 30 := by have := HK0.out.rows.1; omega
    have hmn1 : min (N : Int) (B : Int) = (rr0 : Int) := by omega
    obtain ⟨m, hm⟩ : ∃ m, m = min m0 (rr0 - 1) := ⟨_, rfl⟩
    have hmn2 : min (m0 : Int) ((rr0 : Int) - 1) = (m : Int) := by omega
    have hmr : m < rr0 := by omega
    have hmm : m ≤ m0 := by omega
    have hm62 : m0 ≤ 62 := by omega
    have HRR := Lib.hid hrr0
    have hxRr := hxR.trans hrr0.symm
    have HXR := Lib.hid hxRr
    have hMN1 := Lib.hid hmn1
    have hMN2 := Lib.hid hmn2
    clear hm hxr0 hrr0 hfl hxR hxRr hmn1 hmn2
    go_upto_region 16 with (go_at_call 17; refine CFw.out.mono ?_; rintro e wx ⟨xa, xc, rfl, hLx, hbx, hxc⟩)
    have bwx := bto hb hbx hb.size
    have hsx : wn10.heap.size ≤ wx.heap.size := by have := hbx.size; omega
    obtain ⟨LL, hLL⟩ : ∃ l, l = FL.take m := ⟨_, rfl⟩
    have hLm := hLx.take hmm
    rw [← hLL] at hLm
    have hLs : ∀ l ∈ LL, l.length ≤ 10000 := fun l hl => by rw [hLL] at hl; have := HFS2.out l (List.mem_of_mem_take hl); omega
    have hLn : LL.length = m := hLm.len
    have hmr2 : m < x0.blank.rows := by rw [show x0.blank.rows = rr0 from HRR.out.symm]; exact hmr
    have CE1 := gend_ok (cap := xc) (rp.below hbx).rgi kx hph hLm (by rw [HXR.out]; exact hmr) hLs
    obtain ⟨e1, e2⟩ := bnd_endL kx hph HBD.out LL (by rw [HXR.out, hLn]; exact hmr)
    obtain ⟨f1, f2⟩ := bnd_endL KB rfl HB2.out LL (by rw [hLn]; exact hmr2)
    obtain ⟨hgone, hTH, hbel, hmk⟩ := HGO.out
    have hco : (runT T (endedB x.r.toNat (LL.map (clsF x.w)))).1.core = (runT y1.1 (endedB x0.blank.r.toNat (LL.map (clsF x0.blank.w)))).1.core := by rw [e2, f2, hgone, hTH, hbel, HYH.out, show x0.blank.w = A from hxw0, hxA]
    have hl1 := endedL_len x.r.toNat kx.w.2 LL
    have hl2 := endedL_len x0.blank.r.toNat KB.w.2 LL
    obtain ⟨eb1, heb1⟩ : ∃ t, t = endedB x.r.toNat (LL.map (clsF x.w)) := ⟨_, rfl⟩
    obtain ⟨eb2, heb2⟩ : ∃ t, t = endedB x0.blank.r.toNat (LL.map (clsF x0.blank.w)) := ⟨_, rfl⟩
    rw [← heb1] at CE1 e1 hco hl1
    rw [← heb2] at f1 hco hl2
    have HEB2 := Lib.hid heb2
    obtain ⟨yT, hyT⟩ : ∃ t, t = runT T eb1 := ⟨_, rfl⟩
    obtain ⟨yV, hyV⟩ : ∃ t, t = runT y1.1 eb2 := ⟨_, rfl⟩
    have hky : TOk yT.1 := by rw [hyT]; exact HBD.out.k.run eb1
    rw [← hyT] at e1 hco
    rw [← hyV] at f1 hco
    have HYT := Lib.hid hyT
    have HYV := Lib.hid hyV
    have HE1 := Lib.hid e1
    have HE2 := Lib.hid f1
    have HCO := Lib.hid hco
    have HKY := Lib.hid hky
    have HKT := Lib.hid HBD.out.k
    have HKV := Lib.hid HB2.out.k
    have hle1 : eb1.length ≤ 3000000 := by omega
    have hle2 : eb2.length ≤ 3000000 := by omega
    obtain ⟨avr, cpr, zpr, _⟩ := rp.below hbx
    clear e1 e2 f1 f2 hco hl1 hl2 heb1 heb2 hyT hyV hky hgone hTH hbel hmk
    have CE1 := Lib.hid CE1
    have hmn1 := hMN1.out
    have hmn2 := hMN2.out
    have hxc1 := hxc.1
    have hxcm : m ≤ xc := by omega
    have tmx := tmT.below hbx
    have tvx := tmV.below hbx
    have rqx := rq.below hbx
    unfold maxLen at hxc
    clear tmT tmV rp rq CFw hLL
    go_upto_region 17 with (go_at_call 12; refine CE1.out.mono ?_; rintro e wy ⟨rfl, oy, iy⟩)
    have hLy := hLm.reg zpr oy
    have rqy := rqx.only oy hP5.symm (fun g hg => hg.1)
    have CE2 := gend_ok (cap := xc) rqy.rgi KB rfl hLy hmr2 hLs
    rw [← HEB2.out] at CE2
    have CE2 := Lib.hid CE2
    have bwy := bwx.trans (oy.below (by simpa using HWW.out.1) bwx.size)
    have tmy := tmx.only oy hSp hP1.symm
    have tvy := tvx.only oy hSp hP2.symm
    have ziy : ∃ av cp, RgB wy p (.slice av 0 cp) 0 0 false x.w x.h x.want 3 := by
     obtain ⟨av, cp, z, _⟩ := iy
     exact ⟨av, cp, z⟩
    obtain ⟨avy, cpy, zry⟩ := ziy
    clear rqx rqy tmx tvx iy zpr hLm hLy hLx hbx
    go_upto_region 18 with (go_at_call 12; refine CE2.out.mono ?_; rintro e wf ⟨rfl, oz, iz⟩)
    have bwf := bwy.trans (oz.below (by simpa using HWW.out.2.1) bwy.size)
    have HZR := Lib.hid (zry.only oz (by simpa using hP5))
    have tmf := tmy.only oz hSp2 hP3.symm
    have tvf := tvy.only oz hSp2 hP4.symm
    have hszf : wn10.heap.size ≤ wf.heap.size := by have := oz.size; have := oy.size; omega
    have HSN : Hid (∀ g, wf.heap.size ≤ g → g ∉ S) := Lib.hid (fun g hg => HN10.out g (by omega))
    obtain ⟨at_, ct_, bt_, ptT, gtT, hbT⟩ := tmf.ex
    obtain ⟨av_, cv_, bv_, ptV, gtV, hbV⟩ := tvf.ex
    have HLT := Lib.hid (And.intro tmf.lt tvf.lt)
    have HM9 := Lib.hid hS1
    have HM10 := Lib.hid hS2
    have HW9 := Lib.hid HWW.out.2.2.1
    have HW10 := Lib.hid HWW.out.2.2.2
    have HP9 := Lib.hid hP1
    have HP10 := Lib.hid hP2
    have HGB : Hid (T.gone ≤ 2000100 ∧ T.bells ≤ 2000000) := Lib.hid ⟨hgo2, hbe2⟩
    have HGD : Hid (y1.1.gone ≤ 2000100 ∧ y1.1.bells ≤ 2000000) := Lib.hid ⟨hgy, hbe⟩
    clear tmy tvy tmf tvf oz iz oy zry hszf hLs hmr2 hmr hmm hm62 hr1 hxc hxc1 hxcm hmn1 hmn2 hP1 hP2 hP3 hP4 hP5 hgo2 hbe2 hgy hbe hsz hph hxA kx hb hj hj8 bwx bwy hLn hS1 hS2 hSp hSp2 hxw0 hxh0
    refine wp_region_tree (fun j y y' => (j ∉ [8, 9] → Below wf.heap.size y y') ∧ (j = 8 → Only [T9] y y')) (by kernel_rfl) ?_
    simp only [List.size_toArray, List.length_cons, List.length_nil, Nat.reduceAdd]
    obtain ⟨q, hq⟩ : ∃ q, wf.drew = q := ⟨_, rfl⟩
    have hBq : Below wf.heap.size wf q := by rw [← hq]; exact (Below.refl _ _).drew
    rw [hq]
    clear hq
    refine' wpAnyY_read 0 (fun Y => TBx Y T9 (tCells at_ ct_ T bt_)) [8, 9] (v := .agg (tCells at_ ct_ T bt_)) (by kernel_rfl) (fun _ _ d _ _ h => by cases d <;> exact h) (by kernel_rfl) rfl (fun j y y' hj h hs => ((h.1 hj).block T9 HLT.out.1).trans hs) (fun _ => ⟨fun _ => Below.refl _ _, fun _ => Only.refl _ _⟩) (ptT.below hBq) rfl ?_ ?_
    ·intro w' hw'; exact run_tload _ rfl _ rfl _ hw' rfl
    try simp only [Act.put, List.setIfInBounds_toArray, List.set_cons_zero, List.set_cons_succ]
    refine' wpAnyY_read 1 (fun _ => True) [] (v := _) (by kernel_rfl) (fun _ _ d _ _ h => by cases d <;> exact h) (by kernel_rfl) rfl (fun _ _ _ _ _ _ => trivial) (fun _ => ⟨fun _ => Below.refl _ _, fun _ => Only.refl _ _⟩) trivial rfl ?_ ?_
    rotate_left 1
    ·intro w' hw'; go_simp; try with_reducible rfl
    try simp only [Act.put, List.setIfInBounds_toArray, List.set_cons_zero, List.set_cons_succ]
    refine' wpAnyY_read 4 (fun Y => TBx Y T10 (tCells av_ cv_ y1.1 bv_)) [9] (v := .agg (tCells av_ cv_ y1.1 bv_)) (by kernel_rfl) (fun _ _ d _ _ h => by cases d <;> exact h) (by kernel_rfl) rfl (fun j y y' hj h hs => by by_cases e : j = 8; exact (h.2 e).heap hs (by simpa using hT21); exact ((h.1 (by simp at hj ⊢; exact ⟨e, hj⟩)).block T10 HLT.out.2).trans hs) (fun _ => ⟨fun _ => Below.refl _ _, fun _ => Only.refl _ _⟩) (ptV.below hBq) rfl ?_ ?_
    ·intro w' hw'; exact run_tload _ rfl _ rfl _ hw' rfl
    try simp only [Act.put, List.setIfInBounds_toArray, List.set_cons_zero, List.set_cons_succ]
    refine' wpAnyY_read 5 (fun _ => True) [] (v := _) (by kernel_rfl) (fun _ _ d _ _ h => by cases d <;> exact h) (by kernel_rfl) rfl (fun _ _ _ _ _ _ => trivial) (fun _ => ⟨fun _ => Below.refl _ _, fun _ => Only.refl _ _⟩) trivial rfl ?_ ?_
    rotate_left 1
    ·intro w' hw'; go_simp; try with_reducible rfl
    try simp only [Act.put, List.setIfInBounds_toArray, List.set_cons_zero, List.set_cons_succ]
    refine wpAnyY_two (i := 2) (j := 6) (by kernel_rfl) rfl rfl (fun K hK => ?_) (fun K hK => ?_)
    ·skip
     simp only [List.getElem_toArray, List.getElem_cons_succ, List.getElem_cons_zero]
     obtain ⟨kbA, qA, hcvA, hbqA, hhaA⟩ := bytes_conv3 q eb1 (by unfold maxLen; omega)
     go_wp2
     have hBqA : Below wf.heap.size wf qA := hBq.trans (hbqA.mono hBq.size)
     refine hK _ _ ⟨fun _ => hbqA.mono hBq.size, fun h => absurd h (by decide)⟩ ?_
     clear hK K hcvA
     refine wpAnyY_two (i := 3) (j := 6) (by kernel_rfl) rfl rfl (fun K hK => ?_) (fun K hK => ?_)
     ·skip
      simp only [List.getElem_toArray, List.getElem_cons_succ, List.getElem_cons_zero]
      have CWB := rwrite_any (W := qA) (F := fun g => g ∉ S) (l := []) (fun g hg => HSN.out g (Nat.le_trans hBqA.size hg)) (hbT.below hBqA) hhaA HKT.out (by simp; omega) (by have := HGB.out; omega) (by have := HGB.out; omega) (gtT.below hBqA)
      rw [List.nil_append, ← HYT.out] at CWB
      have CWB := Lib.hid CWB
      go_wp2_with fail
      refine (CWB.out).mono ?_
      rintro e qAB ⟨aB, cB, bB, rfl, gB, hvB, hbqAB⟩
      rw [HE1.out] at hvB
      go_wp2
      have hBqAB : Below wf.heap.size wf qAB := hBqA.trans (hbqAB.mono hBqA.size)
      refine hK _ _ ⟨fun _ => hbqAB.mono hBqA.size, fun h => absurd h (by decide)⟩ ?_
      clear hK K CWB
      refine wpAnyY_one (i := 6) (by kernel_rfl) rfl (fun K hK => ?_)
      simp only [List.getElem_toArray, List.getElem_cons_succ, List.getElem_cons_zero]
      obtain ⟨kbC, qABC, hcvC, hbqABC, hhaC⟩ := bytes_conv3 qAB eb2 (by unfold maxLen; omega)
      go_wp2
      have hBqABC : Below wf.heap.size wf qABC := hBqAB.trans (hbqABC.mono hBqAB.size)
      refine hK _ _ ⟨fun _ => hbqABC.mono hBqAB.size, fun h => absurd h (by decide)⟩ ?_
      clear hK K hcvC
      have gB := gB.below hbqABC
      have hvB := hvB.below hbqABC
      refine wpAnyY_one (i := 7) (by kernel_rfl) rfl (fun K hK => ?_)
      simp only [List.getElem_toArray, List.getElem_cons_succ, List.getElem_cons_zero]
      have CWD := rwrite_any (W := qABC) (F := fun g => g ∉ S) (l := []) (fun g hg => HSN.out g (Nat.le_trans hBqABC.size hg)) (hbV.below hBqABC) hhaC HKV.out (by simp; omega) (by have := HGD.out; omega) (by have := HGD.out; omega) (gtV.below hBqABC)
      rw [List.nil_append, ← HYV.out] at CWD
      have CWD := Lib.hid CWD
      go_wp2_with fail
      refine (CWD.out).mono ?_
      rintro e qABCD ⟨aD, cD, bD, rfl, gD, hvD, hbqABCD⟩
      rw [HE2.out] at hvD
      go_wp2
      have hBqABCD : Below wf.heap.size wf qABCD := hBqABC.trans (hbqABCD.mono hBqABC.size)
      refine hK _ _ ⟨fun _ => hbqABCD.mono hBqABC.size, fun h => absurd h (by decide)⟩ ?_
      clear hK K CWD
      have gB := gB.below hbqABCD
      have hvB := hvB.below hbqABCD
      refine wpAnyY_one (i := 8) (by kernel_rfl) rfl (fun K hK => ?_)
      simp only [List.getElem_toArray, List.getElem_cons_succ, List.getElem_cons_zero]
      have o8T := ptT.below hBqABCD
      refine wpList_tstore rfl _ _ rfl T9 rfl (tCells aB cB yT.1 bB) rfl (tCells at_ ct_ T bt_) o8T rfl rfl (tCells_one _ _ _ hvB.one) ?_
      intro u1 pu1 ou1
      have o9V := (ptV.below hBqABCD).only ou1 (by simpa using hT21)
      have gB1 := gB.keep ou1.size (fun g hg hlt => ou1.block g hlt (by simp; exact fun e => hg (e ▸ HM9.out)))
      have gD1 := gD.keep ou1.size (fun g hg hlt => ou1.block g hlt (by simp; exact fun e => hg (e ▸ HM9.out)))
      have hB1 := hvB.keep ou1.size (fun g hg hlt => ou1.block g hlt (by simp; exact fun e => hg (e ▸ HM9.out)))
      have hD1 := hvD.keep ou1.size (fun g hg hlt => ou1.block g hlt (by simp; exact fun e => hg (e ▸ HM9.out)))
      go_wp2
      refine hK _ _ ⟨fun h => absurd (by decide) h, fun _ => ou1⟩ ?_
      clear hK K
      refine wpAnyY_one (i := 9) (by kernel_rfl) rfl (fun K hK => ?_)
      simp only [List.getElem_toArray, List.getElem_cons_succ, List.getElem_cons_zero]
      refine wpList_tstore rfl _ _ rfl T10 rfl (tCells aD cD yV.1 bD) rfl (tCells av_ cv_ y1.1 bv_) o9V rfl rfl (tCells_one _ _ _ hD1.one) ?_
      intro u2 pu2 ou2
      have o8T2 := pu1.only ou2 (by simpa using hT21.symm)
      have gB2 := gB1.keep ou2.size (fun g hg hlt => ou2.block g hlt (by simp; exact fun e => hg (e ▸ HM10.out)))
      have gD2 := gD1.keep ou2.size (fun g hg hlt => ou2.block g hlt (by simp; exact fun e => hg (e ▸ HM10.out)))
      have hB2 := hB1.keep ou2.size (fun g hg hlt => ou2.block g hlt (by simp; exact fun e => hg (e ▸ HM10.out)))
      have hD2 := hD1.keep ou2.size (fun g hg hlt => ou2.block g hlt (by simp; exact fun e => hg (e ▸ HM10.out)))
      go_wp2
      refine hK _ _ ⟨fun h => absurd (by decide) h, fun h => absurd h (by decide)⟩ ?_
      clear hK K
      refine wpAnyY_end (by kernel_rfl) ?_
      try simp only [List.getElem_toArray, List.getElem_cons_succ, List.getElem_cons_zero]
      try simp only [Act.put, List.setIfInBounds_toArray, List.set_cons_zero, List.set_cons_succ]
      have bu1 : Below wc.heap.size wc u1 := (bto bwf hBqABCD bwf.size).trans (ou1.below (by simpa using HW9.out) (bto bwf hBqABCD bwf.size).size)
      have bu2 : Below wc.heap.size wc u2 := bu1.trans (ou2.below (by simpa using HW10.out) bu1.size)
      have zr := ((HZR.out.below hBqABCD).only ou1 (by simpa using HP9.out)).only ou2 (by simpa using HP10.out)
      have CSM := Lib.hid (rsame11_true gB2 gD2 hB2 hD2 HKY.out HCO.out)
      have zrr := Lib.hid zr
      clear gB gD hvB hvD gB1 gD1 hB1 hD1 gB2 gD2 hB2 hD2 pu1 o8T o9V zr ou1 ou2
      have CM2 : ∀ Y, Below u2.heap.size u2 Y → Calls Tryz.prog 19 #[.pointer (some ⟨p, 0, none⟩)] Y fun e w' => e = .returned (.bool false) ∧ Y = w' := fun Y hY => gOpen_any (zrr.out.below hY) (by decide)
      have CM2 := Lib.hid CM2
      go_wp2_with (first
       | (refine wpList_tloadH rfl _ rfl T9 rfl (tCells aB cB yT.1 bB) ?_ rfl ?_; exact o8T2)
       | (refine wpList_tloadH rfl _ rfl T10 rfl (tCells aD cD yV.1 bD) ?_ rfl ?_; exact pu2)
       | (go_at_call 18; refine CSM.out.mono ?_; rintro e u3 ⟨rfl, hb3⟩)
       | (go_at_call 19; refine (CM2.out _ hb3).mono ?_; rintro e u4 ⟨rfl, rfl⟩)
       | (go_at_call 16; refine (awake11_any _).mono ?_; rintro e u5 ⟨rfl, hb5⟩))
      go_ret
      have b3 := bto bu2 hb3 bu2.size
      exact ⟨rfl, bto b3 hb5 b3.size⟩
     ·skip
      simp only [List.getElem_toArray, List.getElem_cons_succ, List.getElem_cons_zero]
      obtain ⟨kbC, qAC, hcvC, hbqAC, hhaC⟩ := bytes_conv3 qA eb2 (by unfold maxLen; omega)
      go_wp2
      have hBqAC : Below wf.heap.size wf qAC := hBqA.trans (hbqAC.mono hBqA.size)
      refine hK _ _ ⟨fun _ => hbqAC.mono hBqA.size, fun h => absurd h (by decide)⟩ ?_
      clear hK K hcvC
      have hhaA := hhaA.below hbqAC
      refine wpAnyY_one (i := 3) (by kernel_rfl) rfl (fun K hK => ?_)
      simp only [List.getElem_toArray, List.getElem_cons_succ, List.getElem_cons_zero]
      have CWB := rwrite_any (W := qAC) (F := fun g => g ∉ S) (l := []) (fun g hg => HSN.out g (Nat.le_trans hBqAC.size hg)) (hbT.below hBqAC) hhaA HKT.out (by simp; omega) (by have := HGB.out; omega) (by have := HGB.out; omega) (gtT.below hBqAC)
      rw [List.nil_append, ← HYT.out] at CWB
      have CWB := Lib.hid CWB
      go_wp2_with fail
      refine (CWB.out).mono ?_
      rintro e qACB ⟨aB, cB, bB, rfl, gB, hvB, hbqACB⟩
      rw [HE1.out] at hvB
      go_wp2
      have hBqACB : Below wf.heap.size wf qACB := hBqAC.trans (hbqACB.mono hBqAC.size)
      refine hK _ _ ⟨fun _ => hbqACB.mono hBqAC.size, fun h => absurd h (by decide)⟩ ?_
      clear hK K CWB
      have hhaC := hhaC.below hbqACB
      refine wpAnyY_one (i := 7) (by kernel_rfl) rfl (fun K hK => ?_)
      simp only [List.getElem_toArray, List.getElem_cons_succ, List.getElem_cons_zero]
      have CWD := rwrite_any (W := qACB) (F := fun g => g ∉ S) (l := []) (fun g hg => HSN.out g (Nat.le_trans hBqACB.size hg)) (hbV.below hBqACB) hhaC HKV.out (by simp; omega) (by have := HGD.out; omega) (by have := HGD.out; omega) (gtV.below hBqACB)
      rw [List.nil_append, ← HYV.out] at CWD
      have CWD := Lib.hid CWD
      go_wp2_with fail
      refine (CWD.out).mono ?_
      rintro e qACBD ⟨aD, cD, bD, rfl, gD, hvD, hbqACBD⟩
      rw [HE2.out] at hvD
      go_wp2
      have hBqACBD : Below wf.heap.size wf qACBD := hBqACB.trans (hbqACBD.mono hBqACB.size)
      refine hK _ _ ⟨fun _ => hbqACBD.mono hBqACB.size, fun h => absurd h (by decide)⟩ ?_
      clear hK K CWD
      have gB := gB.below hbqACBD
      have hvB := hvB.below hbqACBD
      refine wpAnyY_one (i := 8) (by kernel_rfl) rfl (fun K hK => ?_)
      simp only [List.getElem_toArray, List.getElem_cons_succ, List.getElem_cons_zero]
      have o8T := ptT.below hBqACBD
      refine wpList_tstore rfl _ _ rfl T9 rfl (tCells aB cB yT.1 bB) rfl (tCells at_ ct_ T bt_) o8T rfl rfl (tCells_one _ _ _ hvB.one) ?_
      intro u1 pu1 ou1
      have o9V := (ptV.below hBqACBD).only ou1 (by simpa using hT21)
      have gB1 := gB.keep ou1.size (fun g hg hlt => ou1.block g hlt (by simp; exact fun e => hg (e ▸ HM9.out)))
      have gD1 := gD.keep ou1.size (fun g hg hlt => ou1.block g hlt (by simp; exact fun e => hg (e ▸ HM9.out)))
      have hB1 := hvB.keep ou1.size (fun g hg hlt => ou1.block g hlt (by simp; exact fun e => hg (e ▸ HM9.out)))
      have hD1 := hvD.keep ou1.size (fun g hg hlt => ou1.block g hlt (by simp; exact fun e => hg (e ▸ HM9.out)))
      go_wp2
      refine hK _ _ ⟨fun h => absurd (by decide) h, fun _ => ou1⟩ ?_
      clear hK K
      refine wpAnyY_one (i := 9) (by kernel_rfl) rfl (fun K hK => ?_)
      simp only [List.getElem_toArray, List.getElem_cons_succ, List.getElem_cons_zero]
      refine wpList_tstore rfl _ _ rfl T10 rfl (tCells aD cD yV.1 bD) rfl (tCells av_ cv_ y1.1 bv_) o9V rfl rfl (tCells_one _ _ _ hD1.one) ?_
      intro u2 pu2 ou2
      have o8T2 := pu1.only ou2 (by simpa using hT21.symm)
      have gB2 := gB1.keep ou2.size (fun g hg hlt => ou2.block g hlt (by simp; exact fun e => hg (e ▸ HM10.out)))
      have gD2 := gD1.keep ou2.size (fun g hg hlt => ou2.block g hlt (by simp; exact fun e => hg (e ▸ HM10.out)))
      have hB2 := hB1.keep ou2.size (fun g hg hlt => ou2.block g hlt (by simp; exact fun e => hg (e ▸ HM10.out)))
      have hD2 := hD1.keep ou2.size (fun g hg hlt => ou2.block g hlt (by simp; exact fun e => hg (e ▸ HM10.out)))
      go_wp2
      refine hK _ _ ⟨fun h => absurd (by decide) h, fun h => absurd h (by decide)⟩ ?_
      clear hK K
      refine wpAnyY_end (by kernel_rfl) ?_
      try simp only [List.getElem_toArray, List.getElem_cons_succ, List.getElem_cons_zero]
      try simp only [Act.put, List.setIfInBounds_toArray, List.set_cons_zero, List.set_cons_succ]
      have bu1 : Below wc.heap.size wc u1 := (bto bwf hBqACBD bwf.size).trans (ou1.below (by simpa using HW9.out) (bto bwf hBqACBD bwf.size).size)
      have bu2 : Below wc.heap.size wc u2 := bu1.trans (ou2.below (by simpa using HW10.out) bu1.size)
      have zr := ((HZR.out.below hBqACBD).only ou1 (by simpa using HP9.out)).only ou2 (by simpa using HP10.out)
      have CSM := Lib.hid (rsame11_true gB2 gD2 hB2 hD2 HKY.out HCO.out)
      have zrr := Lib.hid zr
      clear gB gD hvB hvD gB1 gD1 hB1 hD1 gB2 gD2 hB2 hD2 pu1 o8T o9V zr ou1 ou2
      have CM2 : ∀ Y, Below u2.heap.size u2 Y → Calls Tryz.prog 19 #[.pointer (some ⟨p, 0, none⟩)] Y fun e w' => e = .returned (.bool false) ∧ Y = w' := fun Y hY => gOpen_any (zrr.out.below hY) (by decide)
      have CM2 := Lib.hid CM2
      go_wp2_with (first
       | (refine wpList_tloadH rfl _ rfl T9 rfl (tCells aB cB yT.1 bB) ?_ rfl ?_; exact o8T2)
       | (refine wpList_tloadH rfl _ rfl T10 rfl (tCells aD cD yV.1 bD) ?_ rfl ?_; exact pu2)
       | (go_at_call 18; refine CSM.out.mono ?_; rintro e u3 ⟨rfl, hb3⟩)
       | (go_at_call 19; refine (CM2.out _ hb3).mono ?_; rintro e u4 ⟨rfl, rfl⟩)
       | (go_at_call 16; refine (awake11_any _).mono ?_; rintro e u5 ⟨rfl, hb5⟩))
      go_ret
      have b3 := bto bu2 hb3 bu2.size
      exact ⟨rfl, bto b3 hb5 b3.size⟩
    ·skip
     simp only [List.getElem_toArray, List.getElem_cons_succ, List.getElem_cons_zero]
     obtain ⟨kbC, qC, hcvC, hbqC, hhaC⟩ := bytes_conv3 q eb2 (by unfold maxLen; omega)
     go_wp2
     have hBqC : Below wf.heap.size wf qC := hBq.trans (hbqC.mono hBq.size)
     refine hK _ _ ⟨fun _ => hbqC.mono hBq.size, fun h => absurd h (by decide)⟩ ?_
     clear hK K hcvC
     refine wpAnyY_one (i := 2) (by kernel_rfl) rfl (fun K hK => ?_)
     simp only [List.getElem_toArray, List.getElem_cons_succ, List.getElem_cons_zero]
     obtain ⟨kbA, qCA, hcvA, hbqCA, hhaA⟩ := bytes_conv3 qC eb1 (by unfold maxLen; omega)
     go_wp2
     have hBqCA : Below wf.heap.size wf qCA := hBqC.trans (hbqCA.mono hBqC.size)
     refine hK _ _ ⟨fun _ => hbqCA.mono hBqC.size, fun h => absurd h (by decide)⟩ ?_
     clear hK K hcvA
     have hhaC := hhaC.below hbqCA
     refine wpAnyY_one (i := 3) (by kernel_rfl) rfl (fun K hK => ?_)
     simp only [List.getElem_toArray, List.getElem_cons_succ, List.getElem_cons_zero]
     have CWB := rwrite_any (W := qCA) (F := fun g => g ∉ S) (l := []) (fun g hg => HSN.out g (Nat.le_trans hBqCA.size hg)) (hbT.below hBqCA) hhaA HKT.out (by simp; omega) (by have := HGB.out; omega) (by have := HGB.out; omega) (gtT.below hBqCA)
     rw [List.nil_append, ← HYT.out] at CWB
     have CWB := Lib.hid CWB
     go_wp2_with fail
     refine (CWB.out).mono ?_
     rintro e qCAB ⟨aB, cB, bB, rfl, gB, hvB, hbqCAB⟩
     rw [HE1.out] at hvB
     go_wp2
     have hBqCAB : Below wf.heap.size wf qCAB := hBqCA.trans (hbqCAB.mono hBqCA.size)
     refine hK _ _ ⟨fun _ => hbqCAB.mono hBqCA.size, fun h => absurd h (by decide)⟩ ?_
     clear hK K CWB
     have hhaC := hhaC.below hbqCAB
     refine wpAnyY_one (i := 7) (by kernel_rfl) rfl (fun K hK => ?_)
     simp only [List.getElem_toArray, List.getElem_cons_succ, List.getElem_cons_zero]
     have CWD := rwrite_any (W := qCAB) (F := fun g => g ∉ S) (l := []) (fun g hg => HSN.out g (Nat.le_trans hBqCAB.size hg)) (hbV.below hBqCAB) hhaC HKV.out (by simp; omega) (by have := HGD.out; omega) (by have := HGD.out; omega) (gtV.below hBqCAB)
     rw [List.nil_append, ← HYV.out] at CWD
     have CWD := Lib.hid CWD
     go_wp2_with fail
     refine (CWD.out).mono ?_
     rintro e qCABD ⟨aD, cD, bD, rfl, gD, hvD, hbqCABD⟩
     rw [HE2.out] at hvD
     go_wp2
     have hBqCABD : Below wf.heap.size wf qCABD := hBqCAB.trans (hbqCABD.mono hBqCAB.size)
     refine hK _ _ ⟨fun _ => hbqCABD.mono hBqCAB.size, fun h => absurd h (by decide)⟩ ?_
     clear hK K CWD
     have gB := gB.below hbqCABD
     have hvB := hvB.below hbqCABD
     refine wpAnyY_one (i := 8) (by kernel_rfl) rfl (fun K hK => ?_)
     simp only [List.getElem_toArray, List.getElem_cons_succ, List.getElem_cons_zero]
     have o8T := ptT.below hBqCABD
     refine wpList_tstore rfl _ _ rfl T9 rfl (tCells aB cB yT.1 bB) rfl (tCells at_ ct_ T bt_) o8T rfl rfl (tCells_one _ _ _ hvB.one) ?_
     intro u1 pu1 ou1
     have o9V := (ptV.below hBqCABD).only ou1 (by simpa using hT21)
     have gB1 := gB.keep ou1.size (fun g hg hlt => ou1.block g hlt (by simp; exact fun e => hg (e ▸ HM9.out)))
     have gD1 := gD.keep ou1.size (fun g hg hlt => ou1.block g hlt (by simp; exact fun e => hg (e ▸ HM9.out)))
     have hB1 := hvB.keep ou1.size (fun g hg hlt => ou1.block g hlt (by simp; exact fun e => hg (e ▸ HM9.out)))
     have hD1 := hvD.keep ou1.size (fun g hg hlt => ou1.block g hlt (by simp; exact fun e => hg (e ▸ HM9.out)))
     go_wp2
     refine hK _ _ ⟨fun h => absurd (by decide) h, fun _ => ou1⟩ ?_
     clear hK K
     refine wpAnyY_one (i := 9) (by kernel_rfl) rfl (fun K hK => ?_)
     simp only [List.getElem_toArray, List.getElem_cons_succ, List.getElem_cons_zero]
     refine wpList_tstore rfl _ _ rfl T10 rfl (tCells aD cD yV.1 bD) rfl (tCells av_ cv_ y1.1 bv_) o9V rfl rfl (tCells_one _ _ _ hD1.one) ?_
     intro u2 pu2 ou2
     have o8T2 := pu1.only ou2 (by simpa using hT21.symm)
     have gB2 := gB1.keep ou2.size (fun g hg hlt => ou2.block g hlt (by simp; exact fun e => hg (e ▸ HM10.out)))
     have gD2 := gD1.keep ou2.size (fun g hg hlt => ou2.block g hlt (by simp; exact fun e => hg (e ▸ HM10.out)))
     have hB2 := hB1.keep ou2.size (fun g hg hlt => ou2.block g hlt (by simp; exact fun e => hg (e ▸ HM10.out)))
     have hD2 := hD1.keep ou2.size (fun g hg hlt => ou2.block g hlt (by simp; exact fun e => hg (e ▸ HM10.out)))
     go_wp2
     refine hK _ _ ⟨fun h => absurd (by decide) h, fun h => absurd h (by decide)⟩ ?_
     clear hK K
     refine wpAnyY_end (by kernel_rfl) ?_
     try simp only [List.getElem_toArray, List.getElem_cons_succ, List.getElem_cons_zero]
     try simp only [Act.put, List.setIfInBounds_toArray, List.set_cons_zero, List.set_cons_succ]
     have bu1 : Below wc.heap.size wc u1 := (bto bwf hBqCABD bwf.size).trans (ou1.below (by simpa using HW9.out) (bto bwf hBqCABD bwf.size).size)
     have bu2 : Below wc.heap.size wc u2 := bu1.trans (ou2.below (by simpa using HW10.out) bu1.size)
     have zr := ((HZR.out.below hBqCABD).only ou1 (by simpa using HP9.out)).only ou2 (by simpa using HP10.out)
     have CSM := Lib.hid (rsame11_true gB2 gD2 hB2 hD2 HKY.out HCO.out)
     have zrr := Lib.hid zr
     clear gB gD hvB hvD gB1 gD1 hB1 hD1 gB2 gD2 hB2 hD2 pu1 o8T o9V zr ou1 ou2
     have CM2 : ∀ Y, Below u2.heap.size u2 Y → Calls Tryz.prog 19 #[.pointer (some ⟨p, 0, none⟩)] Y fun e w' => e = .returned (.bool false) ∧ Y = w' := fun Y hY => gOpen_any (zrr.out.below hY) (by decide)
     have CM2 := Lib.hid CM2
     go_wp2_with (first
      | (refine wpList_tloadH rfl _ rfl T9 rfl (tCells aB cB yT.1 bB) ?_ rfl ?_; exact o8T2)
      | (refine wpList_tloadH rfl _ rfl T10 rfl (tCells aD cD yV.1 bD) ?_ rfl ?_; exact pu2)
      | (go_at_call 18; refine CSM.out.mono ?_; rintro e u3 ⟨rfl, hb3⟩)
      | (go_at_call 19; refine (CM2.out _ hb3).mono ?_; rintro e u4 ⟨rfl, rfl⟩)
      | (go_at_call 16; refine (awake11_any _).mono ?_; rintro e u5 ⟨rfl, hb5⟩))
     go_ret
     have b3 := bto bu2 hb3 bu2.size
     exact ⟨rfl, bto b3 hb5 b3.size⟩
theorem regionClean_law (w h rows : Int) (fa : Option Addr) (fn fc : Nat) (zs : List Int) (a : Option Addr) (len cap : Nat) (la : Option Addr) (ln lc : Nat) (W : World) (hw : (Lit.int .u8 w).wf = true) (hh : (Lit.int .u8 h).wf = true) (hr : (Lit.int .u8 rows).wf = true) (hz : IsRow .u8 W fa fn fc zs) (hF : FrsAt W a len cap) (hL : ln ≤ lc ∧ lc ≤ maxLen ∧ ∃ L, StrsAt W la ln L ∧ ∀ l ∈ L, l.length ≤ 1048576) :
    Calls Tryz.prog 4 #[.int .u8 w, .int .u8 h, .int .u8 rows, .slice fa fn fc, .slice a len cap, .slice la ln lc] W fun e w' => e = .returned (.bool true) ∧ Below W.heap.size W w' := by
 obtain ⟨w, rfl, hw1⟩ := u8_arg hw
 obtain ⟨h, rfl, hh1⟩ := u8_arg hh
 obtain ⟨rows, rfl, hr1⟩ := u8_arg hr
 obtain ⟨⟨l, hl⟩, hc⟩ := isRow_arg hz
 obtain ⟨h1, h2, L, h3, h4⟩ := hL
 exact regionClean_any w h rows hw1 hh1 hr1 hl hc hF h3 (Nat.le_trans h1 h2) (fun l hl => Nat.le_trans (h4 l hl) (by unfold maxLen; omega))
end Go.Proofs.YtjkajojjehgmdaaGreat
