/- The program's paint: the bytes from a frame to another one. No condition but that the strings are not too long for a cut. -/
import Derived.Test.YtjkajojjehgmdaaGreatRE29
import Derived.Test.YtjkajojjehgmdaaGreatRE30
set_option linter.unusedVariables false
set_option linter.unusedSimpArgs false
namespace Go.Proofs.YtjkajojjehgmdaaGreat
open Go.RowKit Go.Shelf Go.Maps
theorem FBI.pk {n₀ b : Nat} {W X : World} {F : Nat} {v : Value} {r c : Int} {s : Bool} (h : FBI W F v r c s) (hk : PK n₀ b W X) (h1 : F < n₀) (h2 : F ≠ b) : FBI X F v r c s := (hk.1.block F h1 h2).trans h
theorem PK.cell {n₀ b : Nat} {W X : World} (hk : PK n₀ b W X) {bb : Nat} {o : Nat} {v : Value} (h1 : bb < n₀) (h2 : bb ≠ b) (h : W.cell? ⟨bb, o, none⟩ = some v) : X.cell? ⟨bb, o, none⟩ = some v := by
 have := hk.1.block bb h1 h2
 unfold World.cell? at h ⊢
 dsimp only at h ⊢
 rw [this]; exact h
theorem penL_next (w : Nat) (B : List (List GC)) (p : Pen) {l : List (Nat × Nat × Nat)} {j : Nat} {s : Nat × Nat × Nat} (h : l[j]? = some s) :
    penL w B p (l.take (j + 1)) = ((penL w B p (l.take j)).1 ++ (spanB (penL w B p (l.take j)).2 w s.1 s.2.1 s.2.2 (nth [] B s.1)).1, (spanB (penL w B p (l.take j)).2 w s.1 s.2.1 s.2.2 (nth [] B s.1)).2) := by
 obtain ⟨hl, he⟩ := List.getElem?_eq_some_iff.1 h
 rw [List.take_succ_eq_append_getElem hl, penL_app, he]
 simp [penL]
theorem pen_made (W : World) (ar ac : Nat) : PenAt (W.heap.size + 1) W.heap.size (W.alloc (.cells (penC (.pointer none) (.slice none 0 0) ⟨ar, ac, false, Sy.zero⟩) 152)) ⟨ar, ac, false, Sy.zero⟩ [] :=
 ⟨.pointer none, .slice none 0 0, { blk := World.alloc_heap_new W _, hp := rfl, hv := rfl, pn := .inl rfl, lt := Nat.lt_succ_self _, le := by simp, own := World.ownsRow_nil _ _ _ _ }⟩
def paintE (A : List (List GC)) (r1 k1 : Int) (s1 : Bool) (B : List (List GC)) (r2 k2 : Int) (s2 al : Bool) : List UInt8 :=
 if fitF A r1 k1 B r2 k2 then paintB (nth [] B 0).length B r1.toNat k1.toNat (spansM A B) r2.toNat k2.toNat ++ (if al || (s1 != s2) then seenB s2 else []) else []
theorem seenB_mode (on : Bool) : modeL [50, 53] on = seenB on := by cases on <;> rfl
set_option maxRecDepth 100000 in
set_option maxHeartbeats 16000000 in
theorem paint_any {W : World} {a1 a2 : Option Addr} {n1 n2 c1 c2 : Nat} {A B : List (List GC)} (hA : RowsAt W a1 n1 A) (hB : RowsAt W a2 n2 B) (hn1 : n1 ≤ maxLen) (hn2 : n2 ≤ maxLen) (sA : ∀ M ∈ A, ∀ c ∈ M, c.s.size ≤ 1100000) (sB : ∀ M ∈ B, ∀ c ∈ M, c.s.size ≤ 1100000) (r1 k1 r2 k2 : Int) (s1 s2 al : Bool) :
    Calls Tryz.prog 64 #[.agg #[.slice a1 n1 c1, .int .i64 r1, .int .i64 k1, .bool s1], .agg #[.slice a2 n2 c2, .int .i64 r2, .int .i64 k2, .bool s2], .bool al] W fun e w' => e = .returned (.tuple #[.string (S (paintE A r1 k1 s1 B r2 k2 s2 al)), .int .i64 (errD (fitF A r1 k1 B r2 k2))]) ∧ Below W.heap.size W w' := by
 have bX : Below W.heap.size W ((W.alloc (.cells #[.slice a1 n1 c1, .int .i64 r1, .int .i64 k1, .bool s1] 42)).alloc (.cells #[.slice a2 n2 c2, .int .i64 r2, .int .i64 k2, .bool s2] 42)) := ((Below.refl _ _).alloc (Nat.le_refl _) _).alloc (by simp) _
 have z1 : FBI ((W.alloc (.cells #[.slice a1 n1 c1, .int .i64 r1, .int .i64 k1, .bool s1] 42)).alloc (.cells #[.slice a2 n2 c2, .int .i64 r2, .int .i64 k2, .bool s2] 42)) W.heap.size (.slice a1 n1 c1) r1 k1 s1 := (show FBI (W.alloc (.cells #[.slice a1 n1 c1, .int .i64 r1, .int .i64 k1, .bool s1] 42)) W.heap.size (.slice a1 n1 c1) r1 k1 s1 from World.alloc_heap_new W _).below ((Below.refl _ _).alloc (Nat.le_refl _) _)
 have z2 : FBI ((W.alloc (.cells #[.slice a1 n1 c1, .int .i64 r1, .int .i64 k1, .bool s1] 42)).alloc (.cells #[.slice a2 n2 c2, .int .i64 r2, .int .i64 k2, .bool s2] 42)) (W.heap.size + 1) (.slice a2 n2 c2) r2 k2 s2 := by
  have : (W.alloc (.cells #[.slice a1 n1 c1, .int .i64 r1, .int .i64 k1, .bool s1] 42)).heap.size = W.heap.size + 1 := by simp
  rw [← this]
  exact World.alloc_heap_new _ _
 obtain ⟨zz, hzz⟩ : ∃ zz, zz = errD (fitF A r1 k1 B r2 k2) := ⟨_, rfl⟩
 obtain ⟨bb, hbb⟩ : ∃ bb, bb = paintE A r1 k1 s1 B r2 k2 s2 al := ⟨_, rfl⟩
 rw [← hzz, ← hbb]
 have HZZ := Lib.hid hzz
 have HBB := Lib.hid hbb
 clear hzz hbb
 have hl1 := hA.len
 have hl2 := hB.len
 have HB := Lib.hid hB
 have RA := Lib.hid (hA.below bX)
 have RB := Lib.hid (hB.below bX)
 have SA := Lib.hid sA
 have SB := Lib.hid sB
 clear hA hB sA sB
 go_enter Tryz.func64, Tryz.ntmps64
 go_upto_region 1 with (fail)
 obtain ⟨X, hX⟩ : ∃ X, ((W.alloc (.cells #[.slice a1 n1 c1, .int .i64 r1, .int .i64 k1, .bool s1] 42)).alloc (.cells #[.slice a2 n2 c2, .int .i64 r2, .int .i64 k2, .bool s2] 42)) = X := ⟨_, rfl⟩
 rw [hX] at bX z1 z2 RA RB ⊢
 clear hX
 have hz1 := z1.lt
 have hz2 := z2.lt
 obtain ⟨u0, u1, u2, u3⟩ := z1.cells
 obtain ⟨v0, v1, v2, v3⟩ := z2.cells
 have CS := pspans_any (c1 := c1) (c2 := c2) RA.out RB.out hn1 hn2 SA.out SB.out r1 k1 r2 k2 s1 s2
 cases hf : fitF A r1 k1 B r2 k2 with
 | false =>
  rw [hf, show errD false = 100 from rfl] at CS
  have CS := Lib.hid CS
  have HZ0 : Hid (zz = 100) := Lib.hid (by rw [HZZ.out, hf]; rfl)
  have HB0 : Hid (S bb = (⟨#[]⟩ : ByteArray)) := Lib.hid (by rw [HBB.out]; unfold paintE; rw [hf]; rfl)
  clear hf RA RB SA SB HBB HZZ
  go_wp2_with (go_at_call 96; refine (CS.out).mono ?_; rintro e w1 ⟨v, rfl, hown, hb1⟩)
  go_ret2
  rw [HZ0.out, HB0.out]
  exact ⟨rfl, bto bX hb1 bX.size⟩
 | true =>
  rw [hf, show errD true = 0 from rfl] at CS
  have CS := Lib.hid CS
  obtain ⟨okA, okB, hab, hwab⟩ := fitF_pos hf
  obtain ⟨p1, p2, p3, p4, p5, p6, p7, p8, p9⟩ := okF_pos okA
  obtain ⟨q1, q2, q3, q4, q5, q6, q7, q8, q9⟩ := okF_pos okB
  obtain ⟨w, hw⟩ : ∃ w, w = (nth [] B 0).length := ⟨_, rfl⟩
  rw [hwab] at p9 p8
  rw [← hw] at p9 q9 p8 q8 q4 q3
  have TW : TwoF A B w := ⟨hab, p9, q9⟩
  obtain ⟨ar, rfl⟩ := Int.eq_ofNat_of_zero_le p5
  obtain ⟨ac, rfl⟩ := Int.eq_ofNat_of_zero_le p7
  obtain ⟨br, rfl⟩ := Int.eq_ofNat_of_zero_le q5
  obtain ⟨bc, rfl⟩ := Int.eq_ofNat_of_zero_le q7
  have hn60 : n2 ≤ 60 := by omega
  have har : ar ≤ 60 := by omega
  have hbr : br ≤ 60 := by omega
  have hac : ac ≤ 500 := by omega
  have hbc : bc ≤ 500 := by omega
  obtain ⟨l, hl⟩ : ∃ l, l = spansM A B := ⟨_, rfl⟩
  have hsE : spansE A ar ac B br bc = l := by rw [hl]; unfold spansE; rw [hf]; rfl
  rw [hsE] at CS
  have HZ0 : Hid (zz = 0) := Lib.hid (by rw [HZZ.out, hf]; rfl)
  have HB0 : Hid (bb = paintB w B ar ac l br bc ++ (if al || (s1 != s2) then seenB s2 else [])) := Lib.hid (by rw [HBB.out]; unfold paintE; rw [hf, ← hw, ← hl]; rfl)
  have HBD : Hid (∀ s ∈ l, s.1 < n2 ∧ Bd (nth [] B s.1) s.2.1 s.2.2) := Lib.hid (fun s hs => by rw [hl] at hs; rw [← hl2]; exact TW.bd hs)
  have hsum : sumS l ≤ 30000 := by
   have h1 := TW.sum
   rw [← hl] at h1
   have h2 : w * A.length ≤ 500 * 60 := Nat.mul_le_mul q4 (by omega)
   omega
  have HPL : Hid (∀ j, (penL w B ⟨ar, ac, false, Sy.zero⟩ (l.take j)).1.length ≤ 3000000) := Lib.hid (fun j => by
   have h1 := penL_len w B (fun M hM => whole_okC (q9 M hM).2) (l.take j) ⟨ar, ac, false, Sy.zero⟩ (fun s hs => (HBD.out s (List.mem_of_mem_take hs)).2.lt)
   have h2 := sumS_take l j
   omega)
  have HQ := Lib.hid q9
  clear hf okA okB p1 p2 p3 p4 p5 p6 p7 p8 p9 q1 q2 q3 q5 q6 q7 q8 q9 hwab hw hab hl hsE TW HBB HZZ SA
  go_upto_region 4 with (go_at_call 96; refine (CS.out).mono ?_; rintro e w1 ⟨v, rfl, hown, hb1⟩)
  have y1 := z1.below hb1
  have y2 := z2.below hb1
  have hs1 := hb1.size
  clear u0 u1 u2 u3 v0 v1 v2 v3 CS
  obtain ⟨u0, u1, u2, u3⟩ := y1.cells
  obtain ⟨b, hb⟩ : ∃ b, w1.heap.size = b := ⟨_, rfl⟩
  obtain ⟨W2, hW2⟩ : ∃ W2, w1.alloc (.cells #[.pointer none, .slice none 0 0, .int .i64 ar, .int .i64 ac, .bool false, .bool false, .bool false, .bool false, .int .i64 0, .int .i64 0] 152) = W2 := ⟨_, rfl⟩
  have P0 : PenAt (b + 1) b W2 ⟨ar, ac, false, Sy.zero⟩ [] := by rw [← hb, ← hW2]; exact pen_made w1 ar ac
  have hbp : Below w1.heap.size w1 W2 := by rw [← hW2]; exact (Below.refl _ _).alloc (Nat.le_refl _) _
  obtain ⟨av, cv, rfl⟩ := own_sliceF hown
  have hown2 := own_belowF hown hbp
  have B2 := hb1.trans (hbp.mono hs1)
  have z12 := y1.below hbp
  have z22 := y2.below hbp
  have HRB := Lib.hid (RB.out.below B2)
  have hlen := HPL.out 0
  go_upto_region 5 with (fail)
  clear hW2
  have hs2 := hbp.size
  have hzb1 : W.heap.size < b := by omega
  have hzb2 : W.heap.size + 1 < b := by omega
  have ZA := Lib.hid z12
  have ZB := Lib.hid z22
  have HOW := Lib.hid hown2
  have hgb : ∀ g o, av = some ⟨g, o, none⟩ → g < b := fun g o e => by
   have h1 := own_cells hown g (by rw [e]; rfl)
   obtain ⟨_, cur, h2⟩ := h1
   have := (Array.getElem?_eq_some_iff.1 h2).1
   omega
  have HGB := Lib.hid hgb
  have hll : l.length ≤ 30500 := by
   have h1 := hown.1
   have h2 : l.length ≤ sumS l := by
    have : ∀ m : List (Nat × Nat × Nat), (∀ s ∈ m, s.2.1 < s.2.2) → m.length ≤ sumS m := by
     intro m
     induction m with
     | nil => intro _; simp [sumS]
     | cons s m ih =>
      intro h
      have h1 := ih (fun x hx => h x (List.mem_cons_of_mem _ hx))
      have h2 := h s (List.mem_cons_self ..)
      unfold sumS at h1 ⊢
      rw [List.map_cons, List.sum_cons, List.length_cons]
      omega
    exact this l (fun s hs => (HBD.out s hs).2.lt)
   omega
  clear hown hown2 y1 y2 z12 z22 u0 u1 u2 u3 hgb hlen
  have HP0 := Lib.hid P0
  go_wp2
  go_loopw [30] (fun iv wr => ∃ j : Nat, j ≤ l.length ∧ iv = .int .i64 j ∧ Hid (PenAt (b + 1) b wr (penL w B ⟨ar, ac, false, Sy.zero⟩ (l.take j)).2 (penL w B ⟨ar, ac, false, Sy.zero⟩ (l.take j)).1) ∧ Hid (PK (b + 1) b W2 wr) ∧ Hid ((penL w B ⟨ar, ac, false, Sy.zero⟩ (l.take j)).2.row ≤ 500 ∧ (penL w B ⟨ar, ac, false, Sy.zero⟩ (l.take j)).2.col ≤ 500)) (fun iv _ => l.length - (intOf iv).toNat)
  case atStart => exact ⟨0, Nat.zero_le _, rfl, HP0, Lib.hid (PK.refl _ _ _), Lib.hid ⟨by show ar ≤ 500; omega, hac⟩⟩
  case round =>
   clear HP0 P0
   obtain ⟨j, hj, rfl, PJ, BJ, RC⟩ := hrel
   have zb := ZB.out.pk BJ.out (by omega) (by omega)
   have za := ZA.out.pk BJ.out (by omega) (by omega)
   by_cases hlt : j < l.length
   ·obtain ⟨sp, hsp⟩ : ∃ s, l[j]? = some s := ⟨_, List.getElem?_eq_getElem hlt⟩
    obtain ⟨hk, hbd⟩ := HBD.out sp (List.mem_of_getElem? hsp)
    obtain ⟨k, a, e⟩ := sp
    dsimp only at hk hbd
    obtain ⟨g, c, hv0, _, _, _⟩ := own_neS HOW.out (by omega)
    simp only [Value.slice.injEq, true_and] at hv0
    obtain ⟨rfl, rfl⟩ := hv0
    have hgl := HGB.out g 0 rfl
    obtain ⟨g0, g1, g2⟩ := spV_get l j (k, a, e) hsp
    have x0 := BJ.out.cell (by omega) (by omega) (own_get HOW.out g0).1
    have x1 := BJ.out.cell (by omega) (by omega) (own_get HOW.out g1).1
    have x2 := BJ.out.cell (by omega) (by omega) (own_get HOW.out g2).1
    dsimp only at x0 x1 x2
    have hMk : B[k]? = some (nth [] B k) := by rw [nth_eq _ _ _ (by omega), List.getElem?_eq_getElem (by omega)]
    obtain ⟨bf, of, a4, c4, rfl, hbf, hc0, ⟨hc1, hc2⟩, hM⟩ := HB.out.at_ k _ hMk
    obtain ⟨mB, wB⟩ := HQ.out _ (List.mem_of_getElem? hMk)
    have hnx := penL_next w B ⟨ar, ac, false, Sy.zero⟩ hsp
    dsimp only at hnx
    obtain ⟨M, hMM⟩ : ∃ M, M = nth [] B k := ⟨_, rfl⟩
    rw [← hMM] at hc0 hc1 hM mB wB hbd hnx
    rw [mB] at hc0 hc1 hM
    have bW2 : Below W.heap.size W W2 := bto bX B2 bX.size
    have hlo : ∀ gg o, a4 = some ⟨gg, o, none⟩ → gg < b := fun gg o e0 => by
     have hae := hbd.lt
     have hel := hbd.le
     obtain ⟨b4, o4, e4, h4, _⟩ := hM.at_ a (nth GC.zero M a) (by rw [nth_eq _ _ _ (by omega), List.getElem?_eq_getElem (by omega)])
     rw [e0] at e4
     simp only [Option.some.injEq, Addr.mk.injEq, and_true] at e4
     obtain ⟨rfl, rfl⟩ := e4
     omega
    have hMW := (hM.below bW2).pk BJ.out (by omega) hlo
    have hrc := BJ.out.cell (b := b) (bb := bf) (by omega) (by omega) ((bW2.cell (p := ⟨bf, _, none⟩) hbf).trans hc0)
    have hbfw : bf < wr.heap.size := by have := BJ.out.size; have := bW2.size; omega
    have hbx : Below wr.heap.size wr (wr.alloc (.cells #[.int .i64 k, .int .i64 a, .int .i64 e] 154)) := (Below.refl _ _).alloc (Nat.le_refl _) _
    have sx : SpanBx (wr.alloc (.cells #[.int .i64 k, .int .i64 a, .int .i64 e] 154)) wr.heap.size k a e := World.alloc_heap_new wr _
    obtain ⟨X1, hX1⟩ : ∃ X1, wr.alloc (.cells #[.int .i64 k, .int .i64 a, .int .i64 e] 154) = X1 := ⟨_, rfl⟩
    rw [hX1] at hbx sx
    have HX1 := Lib.hid hX1
    have dB : Below X1.heap.size X1 X1.drew := (Below.refl _ _).drew
    have hbd1 := bto hbx dB hbx.size
    have CWS := Lib.hid (pwrite_span (cap := c4) (r := k) (PJ.out.below hbd1) (hMW.below hbd1) hlo wB (by omega) hbd (by have := RC.out.1; omega) (by have := RC.out.2; omega) (by omega) (by have := HPL.out j; omega))
    obtain ⟨f0, f1, f2⟩ := sx.cells
    obtain ⟨e0, e1, e2, e3⟩ := (zb.below hbx).cells
    have r0 := (hbx.cell (p := ⟨bf, _, none⟩) hbfw).trans hrc
    have hnW : b + 1 ≤ wr.heap.size := PJ.out.lt.2
    have B1 : PK (b + 1) b wr X1.drew := PK.of_below hnW hbd1
    have hki : (k : Int) < (n2 : Int) := by omega
    have hnx := Lib.hid hnx
    have RCN : Hid ((spanB (penL w B ⟨ar, ac, false, Sy.zero⟩ (l.take j)).2 w k a e M).2.row ≤ 500 ∧ (spanB (penL w B ⟨ar, ac, false, Sy.zero⟩ (l.take j)).2 w k a e M).2.col ≤ 500) := Lib.hid ⟨by show k ≤ 500; omega, by show min e (w - 1) ≤ 500; omega⟩
    clear hX1 hMk hMM hM hMW hc0 g0 g1 g2 hsp zb za hbd hlo hbf
    go_wp2_with fail
    rw [HX1.out]
    refine wp_region_still_tail 8 (by kernel_rfl) (by kernel_rfl) ?_
    simp only [List.take_succ_cons, List.take_zero, List.drop_succ_cons, List.drop_zero]
    repeat still_step
    refine wpStill_nil ?_
    change wpList _ _ _ _ _ X1.drew
    go_wp2_with (go_at_call 97; refine (CWS.out).mono ?_; rintro en w3 ⟨rfl, P3, B3⟩)
    go_roundw
    case rel => exact ⟨j + 1, hlt, by go_num, Lib.hid (by rw [hnx.out]; exact P3), Lib.hid (BJ.out.trans (B1.trans B3)), Lib.hid (by rw [hnx.out]; exact RCN.out)⟩
    case measure => simp [intOf]; omega
   ·obtain rfl : j = l.length := by omega
    obtain ⟨pj, hpj⟩ : ∃ pj, pj = penL w B ⟨ar, ac, false, Sy.zero⟩ l := ⟨_, rfl⟩
    have hlen3 := HPL.out l.length
    rw [List.take_length, ← hpj] at PJ RC hlen3
    have PJ0 := PJ.out
    have CI := Lib.hid (dpin_any PJ0 Sy.zero may_zero (by omega))
    have hsl := styB_len pj.2.y Sy.zero (mayF_S (by decide))
    obtain ⟨e0, e1, e2, e3⟩ := zb.cells
    go_upto_region 11 with (go_at_call 98; refine (CI.out).mono ?_; rintro en w3 ⟨rfl, P3, B3⟩)
    have zb3 := zb.pk B3 (by omega) (by omega)
    have CMv := Lib.hid (dpmove_any P3 br bc (by have := RC.out.1; show pj.2.row ≤ 9000; omega) (by have := RC.out.2; show pj.2.col ≤ 9000; omega) (by omega) (by omega) (by rw [List.length_append]; omega))
    clear e0 e1 e2 e3 CI
    obtain ⟨e0, e1, e2, e3⟩ := zb3.cells
    go_upto_region 12 with (go_at_call 99; refine (CMv.out).mono ?_; rintro en w4 ⟨rfl, P4, B4⟩)
    have hmv := mv_len (pj.2.sty Sy.zero) br bc
    have zb4 := zb3.pk B4 (by omega) (by omega)
    have za4 := (za.pk B3 (by omega) (by omega)).pk B4 (by omega) (by omega)
    clear e0 e1 e2 e3 CMv
    obtain ⟨e0, e1, e2, e3⟩ := zb4.cells
    obtain ⟨d0, d1, d2, d3⟩ := za4.cells
    have hPB : Hid (paintB w B ar ac l br bc = pj.1 ++ styB pj.2.y Sy.zero ++ (pj.2.sty Sy.zero).mv br bc) := Lib.hid (by unfold paintB; rw [← hpj]; rfl)
    have BW4 := BJ.out.trans (B3.trans B4)
    have bW2 : Below W.heap.size W W2 := bto bX B2 bX.size
    clear hpj PJ PJ0 zb za zb3 za4 P3 B3 B4 BJ HB HRB HPL HBD HQ ZA HOW HGB e0 e1 e2 e3
    obtain ⟨e0, e1, e2, e3⟩ := zb4.cells
    have hTL : ((pj.1 ++ styB pj.2.y Sy.zero) ++ (pj.2.sty Sy.zero).mv br bc).length ≤ 4000000 := by rw [List.length_append, List.length_append]; omega
    cases al with
    | true =>
     have hS0 : FBI w4.drew (W.heap.size + 1) (.slice a2 n2 c2) br bc s2 := zb4
     have P4d := P4.below (Below.drew (Below.refl w4.heap.size w4))
     have hn4 : b + 1 ≤ w4.heap.size := P4.lt.2
     have B4d : PK (b + 1) b w4 w4.drew := PK.of_below hn4 (Below.drew (Below.refl w4.heap.size w4))
     go_wp2_with fail
     refine wp_region_mix2 [(true, 0), (true, 1), (true, 2), (true, 3), (true, 4), (false, 5), (false, 6)] (fun Y => FBI Y (W.heap.size + 1) (.slice a2 n2 c2) br bc s2) (by kernel_rfl) (by kernel_rfl) (by rfl) (by kernel_rfl) (by kernel_rfl) (fun _ _ d _ _ h => by cases d <;> exact h) hS0 ?_
     simp only [mixL, List.getElem?_cons_succ, List.getElem?_cons_zero]
     repeat (refine' wpMix2_read (v := _) rfl ?_ ?_; rotate_left 1; (intro w' hw'; obtain ⟨h0, h1, h2, h3⟩ := hw'.cells; go_simp; try with_reducible rfl); try simp only [Act.put, List.setIfInBounds_toArray, List.set_cons_zero, List.set_cons_succ])
     refine wpMix2_act (fun K hK => ?_)
     go_wp2_with fail
     refine (seen_any s2 _).mono ?_
     rintro en w5 ⟨rfl, rfl⟩
     go_wp2
     refine hK _ _ hS0 ?_
     clear hK K
     refine wpMix2_act (fun K hK => ?_)
     go_wp2_with fail
     refine (pen_write P4d (modeL [50, 53] s2) (by have e5 : (modeL [50, 53] s2).length = 6 := rfl; omega)).mono ?_
     rintro en w6 ⟨rfl, P6, B6⟩
     go_wp2
     refine hK _ _ (hS0.pk B6 (by omega) (by omega)) ?_
     clear hK K
     refine wpMix2_nil ?_
     have BF := (BW4.trans (B4d.trans B6)).1.below (m := W.heap.size) (by omega) (by omega)
     obtain ⟨pv, v, sbl⟩ := P6
     have CST := Lib.hid (string_any sbl)
     have HFI : Hid (S bb = S (pj.1 ++ (styB pj.2.y Sy.zero ++ ((pj.2.sty Sy.zero).mv br bc ++ modeL [50, 53] s2)))) := Lib.hid (by rw [HB0.out, hPB.out, seenB_mode]; simp)
     clear P4 P4d BW4 hS0 B6 B4d sbl
     go_wp2_with (go_at_call 68; refine (CST.out).mono ?_; rintro en w7 ⟨rfl, hb7, _⟩)
     go_ret2
     rw [HZ0.out, HFI.out]
     exact ⟨rfl, bW2.trans (BF.trans (hb7.mono (by omega)))⟩
    | false =>
     cases s1 with
     | true =>
      cases s2 with
      | true =>
       have BF := BW4.1.below (m := W.heap.size) (by omega) (by omega)
       obtain ⟨pv, v, sbl⟩ := P4
       have CST := Lib.hid (string_any sbl)
       have HFI : Hid (S bb = S (pj.1 ++ (styB pj.2.y Sy.zero ++ (pj.2.sty Sy.zero).mv br bc))) := Lib.hid (by rw [HB0.out, hPB.out]; simp)
       clear BW4 sbl
       go_wp2_with (go_at_call 68; refine (CST.out).mono ?_; rintro en w7 ⟨rfl, hb7, _⟩)
       go_ret2
       rw [HZ0.out, HFI.out]
       exact ⟨rfl, bW2.trans (BF.trans (hb7.mono (by omega)))⟩
      | false =>
       have hS0 : FBI w4.drew (W.heap.size + 1) (.slice a2 n2 c2) br bc false := zb4
       have P4d := P4.below (Below.drew (Below.refl w4.heap.size w4))
       have hn4 : b + 1 ≤ w4.heap.size := P4.lt.2
       have B4d : PK (b + 1) b w4 w4.drew := PK.of_below hn4 (Below.drew (Below.refl w4.heap.size w4))
       go_wp2_with fail
       refine wp_region_mix2 [(true, 0), (true, 1), (true, 2), (true, 3), (true, 4), (false, 5), (false, 6)] (fun Y => FBI Y (W.heap.size + 1) (.slice a2 n2 c2) br bc false) (by kernel_rfl) (by kernel_rfl) (by rfl) (by kernel_rfl) (by kernel_rfl) (fun _ _ d _ _ h => by cases d <;> exact h) hS0 ?_
       simp only [mixL, List.getElem?_cons_succ, List.getElem?_cons_zero]
       repeat (refine' wpMix2_read (v := _) rfl ?_ ?_; rotate_left 1; (intro w' hw'; obtain ⟨h0, h1, h2, h3⟩ := hw'.cells; go_simp; try with_reducible rfl); try simp only [Act.put, List.setIfInBounds_toArray, List.set_cons_zero, List.set_cons_succ])
       refine wpMix2_act (fun K hK => ?_)
       go_wp2_with fail
       refine (seen_any false _).mono ?_
       rintro en w5 ⟨rfl, rfl⟩
       go_wp2
       refine hK _ _ hS0 ?_
       clear hK K
       refine wpMix2_act (fun K hK => ?_)
       go_wp2_with fail
       refine (pen_write P4d (modeL [50, 53] false) (by have e5 : (modeL [50, 53] false).length = 6 := rfl; omega)).mono ?_
       rintro en w6 ⟨rfl, P6, B6⟩
       go_wp2
       refine hK _ _ (hS0.pk B6 (by omega) (by omega)) ?_
       clear hK K
       refine wpMix2_nil ?_
       have BF := (BW4.trans (B4d.trans B6)).1.below (m := W.heap.size) (by omega) (by omega)
       obtain ⟨pv, v, sbl⟩ := P6
       have CST := Lib.hid (string_any sbl)
       have HFI : Hid (S bb = S (pj.1 ++ (styB pj.2.y Sy.zero ++ ((pj.2.sty Sy.zero).mv br bc ++ modeL [50, 53] false)))) := Lib.hid (by rw [HB0.out, hPB.out, seenB_mode]; simp)
       clear P4 P4d BW4 hS0 B6 B4d sbl
       go_wp2_with (go_at_call 68; refine (CST.out).mono ?_; rintro en w7 ⟨rfl, hb7, _⟩)
       go_ret2
       rw [HZ0.out, HFI.out]
       exact ⟨rfl, bW2.trans (BF.trans (hb7.mono (by omega)))⟩
     | false =>
      cases s2 with
      | true =>
       have hS0 : FBI w4.drew (W.heap.size + 1) (.slice a2 n2 c2) br bc true := zb4
       have P4d := P4.below (Below.drew (Below.refl w4.heap.size w4))
       have hn4 : b + 1 ≤ w4.heap.size := P4.lt.2
       have B4d : PK (b + 1) b w4 w4.drew := PK.of_below hn4 (Below.drew (Below.refl w4.heap.size w4))
       go_wp2_with fail
       refine wp_region_mix2 [(true, 0), (true, 1), (true, 2), (true, 3), (true, 4), (false, 5), (false, 6)] (fun Y => FBI Y (W.heap.size + 1) (.slice a2 n2 c2) br bc true) (by kernel_rfl) (by kernel_rfl) (by rfl) (by kernel_rfl) (by kernel_rfl) (fun _ _ d _ _ h => by cases d <;> exact h) hS0 ?_
       simp only [mixL, List.getElem?_cons_succ, List.getElem?_cons_zero]
       repeat (refine' wpMix2_read (v := _) rfl ?_ ?_; rotate_left 1; (intro w' hw'; obtain ⟨h0, h1, h2, h3⟩ := hw'.cells; go_simp; try with_reducible rfl); try simp only [Act.put, List.setIfInBounds_toArray, List.set_cons_zero, List.set_cons_succ])
       refine wpMix2_act (fun K hK => ?_)
       go_wp2_with fail
       refine (seen_any true _).mono ?_
       rintro en w5 ⟨rfl, rfl⟩
       go_wp2
       refine hK _ _ hS0 ?_
       clear hK K
       refine wpMix2_act (fun K hK => ?_)
       go_wp2_with fail
       refine (pen_write P4d (modeL [50, 53] true) (by have e5 : (modeL [50, 53] true).length = 6 := rfl; omega)).mono ?_
       rintro en w6 ⟨rfl, P6, B6⟩
       go_wp2
       refine hK _ _ (hS0.pk B6 (by omega) (by omega)) ?_
       clear hK K
       refine wpMix2_nil ?_
       have BF := (BW4.trans (B4d.trans B6)).1.below (m := W.heap.size) (by omega) (by omega)
       obtain ⟨pv, v, sbl⟩ := P6
       have CST := Lib.hid (string_any sbl)
       have HFI : Hid (S bb = S (pj.1 ++ (styB pj.2.y Sy.zero ++ ((pj.2.sty Sy.zero).mv br bc ++ modeL [50, 53] true)))) := Lib.hid (by rw [HB0.out, hPB.out, seenB_mode]; simp)
       clear P4 P4d BW4 hS0 B6 B4d sbl
       go_wp2_with (go_at_call 68; refine (CST.out).mono ?_; rintro en w7 ⟨rfl, hb7, _⟩)
       go_ret2
       rw [HZ0.out, HFI.out]
       exact ⟨rfl, bW2.trans (BF.trans (hb7.mono (by omega)))⟩
      | false =>
       have BF := BW4.1.below (m := W.heap.size) (by omega) (by omega)
       obtain ⟨pv, v, sbl⟩ := P4
       have CST := Lib.hid (string_any sbl)
       have HFI : Hid (S bb = S (pj.1 ++ (styB pj.2.y Sy.zero ++ (pj.2.sty Sy.zero).mv br bc))) := Lib.hid (by rw [HB0.out, hPB.out]; simp)
       clear BW4 sbl
       go_wp2_with (go_at_call 68; refine (CST.out).mono ?_; rintro en w7 ⟨rfl, hb7, _⟩)
       go_ret2
       rw [HZ0.out, HFI.out]
       exact ⟨rfl, bW2.trans (BF.trans (hb7.mono (by omega)))⟩
end Go.Proofs.YtjkajojjehgmdaaGreat
