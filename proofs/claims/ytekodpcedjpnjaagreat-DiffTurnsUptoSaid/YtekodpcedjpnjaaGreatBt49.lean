/- The law DiffTurns: a band that shows a frame shows another one behind the bytes between them, and the first one again behind those back. No condition but that the strings are not too long for a cut. Printed by gen_dl8.py. -/
import Derived.Test.YtekodpcedjpnjaaGreatBt01
import Derived.Test.YtekodpcedjpnjaaGreatBt48
set_option linter.unusedVariables false
set_option linter.unusedSimpArgs false
namespace Go.Proofs.YtekodpcedjpnjaaGreat
open Go.RowKit Go.Shelf Go.Maps
set_option maxRecDepth 100000 in
set_option maxHeartbeats 32000000 in
theorem diffTurns_any {W : World} {a1 a2 : Option Addr} {n1 n2 c1 c2 : Nat} {A B : List (List GC)} (hA : RowsAt W a1 n1 A) (hB : RowsAt W a2 n2 B) (hn1 : n1 ≤ maxLen) (hn2 : n2 ≤ maxLen) (sA : ∀ M ∈ A, ∀ c ∈ M, c.s.size ≤ 1100000) (sB : ∀ M ∈ B, ∀ c ∈ M, c.s.size ≤ 1100000) (r1 k1 r2 k2 : Int) (s1 s2 : Bool) :
    Calls Tryz.prog 5 #[(.agg #[.slice a1 n1 c1, .int .i64 r1, .int .i64 k1, .bool s1]), (.agg #[.slice a2 n2 c2, .int .i64 r2, .int .i64 k2, .bool s2])] W fun e w' => e = .returned (.bool true) ∧ Below W.heap.size W w' := by
  have bX : Below W.heap.size W ((W.alloc (.cells #[.slice a1 n1 c1, .int .i64 r1, .int .i64 k1, .bool s1] 52)).alloc (.cells #[.slice a2 n2 c2, .int .i64 r2, .int .i64 k2, .bool s2] 52)) := ((Below.refl _ _).alloc (Nat.le_refl _) _).alloc (by simp) _
  have z1 : FBI ((W.alloc (.cells #[.slice a1 n1 c1, .int .i64 r1, .int .i64 k1, .bool s1] 52)).alloc (.cells #[.slice a2 n2 c2, .int .i64 r2, .int .i64 k2, .bool s2] 52)) W.heap.size (.slice a1 n1 c1) r1 k1 s1 := (show FBI (W.alloc (.cells #[.slice a1 n1 c1, .int .i64 r1, .int .i64 k1, .bool s1] 52)) W.heap.size (.slice a1 n1 c1) r1 k1 s1 from World.alloc_heap_new W _).below ((Below.refl _ _).alloc (Nat.le_refl _) _)
  have z2 : FBI ((W.alloc (.cells #[.slice a1 n1 c1, .int .i64 r1, .int .i64 k1, .bool s1] 52)).alloc (.cells #[.slice a2 n2 c2, .int .i64 r2, .int .i64 k2, .bool s2] 52)) (W.heap.size + 1) (.slice a2 n2 c2) r2 k2 s2 := by
    have : (W.alloc (.cells #[.slice a1 n1 c1, .int .i64 r1, .int .i64 k1, .bool s1] 52)).heap.size = W.heap.size + 1 := by simp
    rw [← this]
    exact World.alloc_heap_new _ _
  have hl1 := hA.len
  have hl2 := hB.len
  have RA := Lib.hid (hA.below bX)
  have RB := Lib.hid (hB.below bX)
  have SA := Lib.hid sA
  have SB := Lib.hid sB
  clear hA hB sA sB
  go_enter Tryz.func5, Tryz.ntmps5
  go_upto_region 1 with (fail)
  obtain ⟨X, hX⟩ : ∃ X, ((W.alloc (.cells #[.slice a1 n1 c1, .int .i64 r1, .int .i64 k1, .bool s1] 52)).alloc (.cells #[.slice a2 n2 c2, .int .i64 r2, .int .i64 k2, .bool s2] 52)) = X := ⟨_, rfl⟩
  rw [hX] at bX z1 z2 RA RB ⊢
  clear hX
  have hz1 := z1.lt
  have hz2 := z2.lt
  obtain ⟨u0, u1, u2, u3⟩ := z1.cells
  obtain ⟨v0, v1, v2, v3⟩ := z2.cells
  have CD := ddiff_any (c1 := c1) (c2 := c2) RA.out RB.out hn1 hn2 SA.out SB.out r1 k1 r2 k2 s1 s2
  have CF := fun (Y : World) (hY : Below X.heap.size X Y) => rfit10_any (c1 := c1) (c2 := c2) (RA.out.below hY) (RB.out.below hY) hn1 hn2 SA.out SB.out r1 k1 r2 k2 s1 s2
  cases hf : fitF A r1 k1 B r2 k2 with
  | false =>
    rw [hf, show errD false = 100 from rfl, show paintE A r1 k1 s1 B r2 k2 s2 false = [] by unfold paintE; rw [hf]; rfl] at CD
    rw [hf] at CF
    have CD := Lib.hid CD
    have CF := Lib.hid CF
    have hS1 : (S []).toList = [] := by kernel_rfl
    have hS2 : (S []).toList.isEmpty = true := by kernel_rfl
    clear hf RA RB SA SB
    go_wp2_with fail
    refine (CD.out).mono ?_
    rintro e w1 ⟨rfl, hb1⟩
    clear u0 u1 u2 u3 v0 v1 v2 v3
    obtain ⟨u0, u1, u2, u3⟩ := (z1.below hb1).cells
    obtain ⟨v0, v1, v2, v3⟩ := (z2.below hb1).cells
    go_wp2_with fail
    refine (CF.out _ hb1).mono ?_
    rintro e w2 ⟨rfl, hb2⟩
    have b2 := bto (bto bX hb1 bX.size) hb2 (bto bX hb1 bX.size).size
    go_wp2_with (go_at_call 31; refine (awake10_any _).mono ?_; rintro e w3 ⟨rfl, hb3⟩)
    go_ret
    exact ⟨rfl, bto b2 hb3 b2.size⟩
  | true =>
    obtain ⟨okA, okB, hab, hwab⟩ := fitF_pos hf
    obtain ⟨p1, p2, p3, p4, p5, p6, p7, p8, p9⟩ := okF_pos okA
    obtain ⟨q1, q2, q3, q4, q5, q6, q7, q8, q9⟩ := okF_pos okB
    obtain ⟨M0, hM0⟩ : ∃ M, M = nth [] A 0 := ⟨_, rfl⟩
    have hM0' : A[0]? = some M0 := by rw [hM0, nth_eq _ _ _ (by omega)]; exact List.getElem?_eq_getElem (by omega)
    obtain ⟨w, hw⟩ : ∃ w, w = M0.length := ⟨_, rfl⟩
    rw [← hM0, ← hw] at p3 p4 p8 p9
    rw [← hwab, ← hM0, ← hw] at q3 q4 q8 q9
    have hnn : n2 = n1 := by omega
    subst hnn
    rw [hl1] at p1 p2 p6
    rw [hl2] at q6
    obtain ⟨ra, rfl⟩ := Int.eq_ofNat_of_zero_le p5
    obtain ⟨ca, rfl⟩ := Int.eq_ofNat_of_zero_le p7
    obtain ⟨rb, rfl⟩ := Int.eq_ofNat_of_zero_le q5
    obtain ⟨cb, rfl⟩ := Int.eq_ofNat_of_zero_le q7
    have hTS := turn_shw (s1 := s1) (s2 := s2) hf (w := w) (n := n2) (by rw [hw, hM0]) hl1.symm
    have hLD := paintE_len (A := A) (r1 := ra) (k1 := ca) (s1 := s1) (B := B) (r2 := rb) (k2 := cb) (s2 := s2) (al := false)
    have hLD2 := (paintE_len2 (s1 := s1) (s2 := s2) (al := false) hf).1
    have hLG := (paintE_len2 (s1 := s2) (s2 := s1) (al := false) (fitF_swap hf)).1
    have hLW : (wholeE A ra ca s1).length ≤ 3000060 := by
      have h1 := (whole_shw (s := s1) okA).2.2
      have h2 := Nat.mul_le_mul p4 p2
      rw [← hM0, ← hw, hl1] at h1
      have h3 := Nat.mul_le_mul_left 100 h2
      omega
    have hSM : sumS (spansE A ra ca B rb cb) ≤ 30000 := (paintE_len2 (s1 := s1) (s2 := s2) (al := false) hf).2
    have hSAME : eqR A B = true → ra = rb → ca = cb → s1 = s2 → paintE A ra ca s1 B rb cb s2 false = [] := by
      intro h1 h2 h3 h4
      have h1 := (eqR_iff A B).1 h1
      subst h1 h2 h3 h4
      exact paintE_self
    have CW := fun (Y : World) (hY : Below X.heap.size X Y) => (by
      have := dwhole_any (cap := c1) (RA.out.below hY) hn1 SA.out ra ca s1
      rw [okA, show errD true = 0 from rfl] at this
      exact this : Calls Tryz.prog 29 #[.agg #[.slice a1 n2 c1, .int .i64 ra, .int .i64 ca, .bool s1]] Y fun e w' => e = .returned (.tuple #[.string (S (wholeE A ra ca s1)), .int .i64 0]) ∧ Below Y.heap.size Y w')
    have CG := fun (Y : World) (hY : Below X.heap.size X Y) => (by
      have := ddiff_any (c1 := c2) (c2 := c1) (RB.out.below hY) (RA.out.below hY) hn2 hn1 SB.out SA.out rb cb ra ca s2 s1
      rw [fitF_swap hf, show errD true = 0 from rfl] at this
      exact this : Calls Tryz.prog 35 #[.agg #[.slice a2 n2 c2, .int .i64 rb, .int .i64 cb, .bool s2], .agg #[.slice a1 n2 c1, .int .i64 ra, .int .i64 ca, .bool s1]] Y fun e w' => e = .returned (.tuple #[.string (S (paintE B rb cb s2 A ra ca s1 false)), .int .i64 0]) ∧ Below Y.heap.size Y w')
    have CC := fun (Y : World) (hY : Below X.heap.size X Y) => rchanged_any (c1 := c1) (c2 := c2) (RA.out.below hY) (RB.out.below hY) hn1 hn2 SA.out SB.out ra ca rb cb s1 s2
    have CSM : Hid (∀ Y : World, Below X.heap.size X Y → ∃ sv : Bool, (Calls Tryz.prog 25 #[.agg #[.slice a1 n2 c1, .int .i64 ra, .int .i64 ca, .bool s1], .agg #[.slice a2 n2 c2, .int .i64 rb, .int .i64 cb, .bool s2]] Y fun e w' => e = .returned (.bool sv) ∧ Below Y.heap.size Y w') ∧ (sv = true → paintE A ra ca s1 B rb cb s2 false = [])) := Lib.hid (fun Y hY =>
      ⟨_, rsame_any (c1 := c1) (c2 := c2) (RA.out.below hY) (RB.out.below hY) (fun M hM => by have := (p9 M hM).1; omega) (fun M hM => by have := (q9 M hM).1; omega) hn1 ra rb ca cb s1 s2, fun h => by
        rw [Bool.and_eq_true, decide_eq_true_eq] at h
        exact hSAME h.2 (by omega) (by omega) h.1.2.2.2⟩)
    rw [hf, show errD true = 0 from rfl] at CD
    rw [hf] at CF
    obtain ⟨dl, hdl⟩ : ∃ l, l = paintE A ra ca s1 B rb cb s2 false := ⟨_, rfl⟩
    obtain ⟨gl, hgl⟩ : ∃ l, l = paintE B rb cb s2 A ra ca s1 false := ⟨_, rfl⟩
    obtain ⟨wl, hwl⟩ : ∃ l, l = wholeE A ra ca s1 := ⟨_, rfl⟩
    obtain ⟨sm, hsm⟩ : ∃ l, l = sumS (spansE A ra ca B rb cb) := ⟨_, rfl⟩
    simp only [← hdl, ← hgl, ← hwl, ← hsm] at hTS hLD hLD2 hLG hLW hSM CD CW CG CC CSM
    obtain ⟨u, hu⟩ : ∃ u, u = runT (TS.new w (n2 + 2)) scrB := ⟨_, rfl⟩
    obtain ⟨es, hsc⟩ := shw_screen (w := w) (n := n2) ⟨p3, p4⟩ ⟨p1, p2⟩
    rw [← hu] at hTS es hsc
    obtain ⟨ll, hll⟩ : ∃ l, l = wl ++ dl := ⟨_, rfl⟩
    have hll2 : ll.length ≤ 6000120 := by rw [hll, List.length_append]; omega
    rw [← hll] at hTS
    have HLL := Lib.hid hll
    clear hll
    obtain ⟨y1, hy1⟩ : ∃ y, y = runT u.1 ll := ⟨_, rfl⟩
    rw [← hy1] at hTS
    obtain ⟨y2, hy2⟩ : ∃ y, y = runT y1.1 gl := ⟨_, rfl⟩
    rw [← hy2] at hTS
    obtain ⟨es1, hsh1, es2, hsh2⟩ := hTS
    obtain ⟨b, off, a3, c3, rfl, hb, hc0, _, _⟩ := RA.out.at_ 0 M0 hM0'
    rw [Nat.add_zero, ← hw] at hc0
    have CSC := Lib.hid (fun (F : Nat → Prop) (Y : World) (hF : ∀ b, Y.heap.size ≤ b → F b) => (by
      have := rscreen_any (F := F) (W := Y) hF w n2 ⟨p3, p4⟩ ⟨p1, p2⟩
      rw [← hu] at this
      exact this : Calls Tryz.prog 33 #[.int .i64 w, .int .i64 n2] Y (WPost F u Y)))
    have HBA : Hid (∀ M ∈ A, M.length = w) := Lib.hid (fun M hM => (p9 M hM).1)
    have HBB : Hid (∀ M ∈ B, M.length = w) := Lib.hid (fun M hM => (q9 M hM).1)
    have CD := Lib.hid CD
    have CF := Lib.hid CF
    have CW := Lib.hid CW
    have CG := Lib.hid CG
    have CC := Lib.hid CC
    have HY1 := Lib.hid hy1
    have HY2 := Lib.hid hy2
    have HES := Lib.hid es
    have HSC := Lib.hid hsc
    have HS1 := Lib.hid hsh1
    have HS2 := Lib.hid hsh2
    have HE1 := Lib.hid es1
    have HE2 := Lib.hid es2
    have hsz := S_size dl
    have hLD3 : ((dl.length : Nat) : Int) ≤ 100 * (sm : Int) + 60 := by omega
    have hgt : ((100 * (sm : Int) + 60) < ((S dl).size : Int)) = False := by rw [hsz]; simp; omega
    have h0n : 0 < n2 := by omega
    have h0i : (0 : Int) < (n2 : Int) := by omega
    have hd1 : ∀ h : dl = [], (S dl).toList = [] := fun h => by rw [h]; kernel_rfl
    have HD1 := Lib.hid hd1
    clear hM0 hM0' hw hf hdl hgl hwl hsm hu hy1 hy2 es hsc es1 hsh1 es2 hsh2 p9 q9 okA okB hab hwab hSAME hd1 p5 p7 q1 q2 q3 q5 q7 hl1 hl2
    go_upto_region 2 with (go_at_call 35; refine (CD.out).mono ?_; rintro e w1 ⟨rfl, hb1⟩)
    clear u0 u1 u2 u3 v0 v1 v2 v3
    obtain ⟨u0, u1, u2, u3⟩ := (z1.below hb1).cells
    obtain ⟨v0, v1, v2, v3⟩ := (z2.below hb1).cells
    go_upto_region 4 with (go_at_call 36; refine (CF.out _ hb1).mono ?_; rintro e w2 ⟨rfl, hb2⟩)
    have x2 := bto hb1 hb2 hb1.size
    clear u0 u1 u2 u3 v0 v1 v2 v3
    obtain ⟨u0, u1, u2, u3⟩ := (z1.below x2).cells
    obtain ⟨v0, v1, v2, v3⟩ := (z2.below x2).cells
    go_upto_region 5 with (go_at_call 29; refine (CW.out _ x2).mono ?_; rintro e w3 ⟨rfl, hb3⟩)
    have x3 := bto x2 hb3 x2.size
    clear u0 u1 u2 u3 v0 v1 v2 v3
    obtain ⟨u0, u1, u2, u3⟩ := (z1.below x3).cells
    obtain ⟨v0, v1, v2, v3⟩ := (z2.below x3).cells
    go_upto_region 6 with (go_at_call 35; refine (CG.out _ x3).mono ?_; rintro e w4 ⟨rfl, hb4⟩)
    have x4 := bto x3 hb4 x3.size
    clear u0 u1 u2 u3 v0 v1 v2 v3
    obtain ⟨u0, u1, u2, u3⟩ := (z1.below x4).cells
    obtain ⟨v0, v1, v2, v3⟩ := (z2.below x4).cells
    go_cut [71] (fun v wx => v = .bool false ∧ Below X.heap.size X wx)
    case first =>
      clear u0 u1 u2 u3 v0 v1 v2 v3
      obtain ⟨u0, u1, u2, u3⟩ := (z1.below x4).cells
      obtain ⟨v0, v1, v2, v3⟩ := (z2.below x4).cells
      go_wp2_with fail
      refine (CC.out _ x4).mono ?_
      rintro e w5 ⟨rfl, hb5⟩
      have x5 := bto x4 hb5 x4.size
      obtain ⟨sv, CSM5, hdn⟩ := CSM.out _ x5
      have HDN : Hid (sv = true → (S dl).toList = []) := Lib.hid (fun h => HD1.out (hdn h))
      have CSM5 := Lib.hid CSM5
      clear u0 u1 u2 u3 v0 v1 v2 v3 CSM hdn
      obtain ⟨u0, u1, u2, u3⟩ := (z1.below x5).cells
      obtain ⟨v0, v1, v2, v3⟩ := (z2.below x5).cells
      go_wp2_with fail
      refine (CSM5.out).mono ?_
      rintro e w6 ⟨rfl, hb6⟩
      have x6 := bto x5 hb6 x5.size
      cases sv with
      | true =>
        have hdn := HDN.out rfl
        go_wp2
        go_meet
        exact ⟨congrArg Value.bool (decide_eq_false (by omega)), x6⟩
      | false =>
        go_wp2
        go_meet
        exact ⟨congrArg Value.bool (decide_eq_false (by omega)), x6⟩
    case rest =>
      obtain ⟨rfl, xc⟩ := hcut
      obtain ⟨wd, hwd⟩ : ∃ x, x = wc := ⟨_, rfl⟩
      subst hwd
      have zc1 := z1.below xc
      have zc2 := z2.below xc
      have rc := (xc.cell (p := ⟨b, _, none⟩) hb).trans hc0
      have hbc : b < wd.heap.size := Nat.lt_of_lt_of_le hb xc.size
      obtain ⟨u0, u1, u2, u3⟩ := zc1.cells
      go_upto_region 8 with (fail)
      go_cut [11] (fun v wx => ∃ (k : Nat) (a4 : Option Addr) (c4 : Nat) (bv4 : Value), v = .pointer (some ⟨k, 0, none⟩) ∧ TBx wx k (tCells a4 c4 y1.1 bv4) ∧ RG (fun _ => True) wx a4 c4 y1.1.W y1.1.H y1.1.R ∧ HB (fun _ => True) wx bv4 [] ∧ Below wd.heap.size wd wx)
      case first =>
        refine wp_region_tree (fun _ y y' => Below wd.heap.size y y') (by kernel_rfl) ?_
        simp only [List.size_toArray, List.length_cons, List.length_nil, Nat.reduceAdd]
        obtain ⟨q, hq⟩ : ∃ q, wd.drew = q := ⟨_, rfl⟩
        rw [hq]
        have hBq : Below wd.heap.size wd q := by rw [← hq]; exact (Below.refl _ _).drew
        clear hq u0 u1 u2 u3
        refine' wpAnyY_read 0 (fun Y => Below wd.heap.size wd Y) [] (v := _) (by kernel_rfl) (fun _ _ d _ _ h => by cases d <;> exact h) (by kernel_rfl) rfl (fun j y y' hj h hs => hs.trans h) (fun _ => Below.refl _ _) hBq rfl ?_ ?_
        rotate_left 1
        · intro w' hw'; obtain ⟨g0, g1, g2, g3⟩ := (zc1.below hw').cells; have gr := (hw'.cell (p := ⟨b, _, none⟩) hbc).trans rc; go_simp; try with_reducible rfl
        try simp only [Act.put, List.setIfInBounds_toArray, List.set_cons_zero, List.set_cons_succ]
        refine' wpAnyY_read 1 (fun Y => Below wd.heap.size wd Y) [] (v := _) (by kernel_rfl) (fun _ _ d _ _ h => by cases d <;> exact h) (by kernel_rfl) rfl (fun j y y' hj h hs => hs.trans h) (fun _ => Below.refl _ _) hBq rfl ?_ ?_
        rotate_left 1
        · intro w' hw'; obtain ⟨g0, g1, g2, g3⟩ := (zc1.below hw').cells; have gr := (hw'.cell (p := ⟨b, _, none⟩) hbc).trans rc; go_simp; try with_reducible rfl
        try simp only [Act.put, List.setIfInBounds_toArray, List.set_cons_zero, List.set_cons_succ]
        refine' wpAnyY_read 2 (fun Y => Below wd.heap.size wd Y) [] (v := _) (by kernel_rfl) (fun _ _ d _ _ h => by cases d <;> exact h) (by kernel_rfl) rfl (fun j y y' hj h hs => hs.trans h) (fun _ => Below.refl _ _) hBq rfl ?_ ?_
        rotate_left 1
        · intro w' hw'; obtain ⟨g0, g1, g2, g3⟩ := (zc1.below hw').cells; have gr := (hw'.cell (p := ⟨b, _, none⟩) hbc).trans rc; go_simp; try with_reducible rfl
        try simp only [Act.put, List.setIfInBounds_toArray, List.set_cons_zero, List.set_cons_succ]
        refine' wpAnyY_read 3 (fun Y => Below wd.heap.size wd Y) [] (v := _) (by kernel_rfl) (fun _ _ d _ _ h => by cases d <;> exact h) (by kernel_rfl) rfl (fun j y y' hj h hs => hs.trans h) (fun _ => Below.refl _ _) hBq rfl ?_ ?_
        rotate_left 1
        · intro w' hw'; obtain ⟨g0, g1, g2, g3⟩ := (zc1.below hw').cells; have gr := (hw'.cell (p := ⟨b, _, none⟩) hbc).trans rc; go_simp; try with_reducible rfl
        try simp only [Act.put, List.setIfInBounds_toArray, List.set_cons_zero, List.set_cons_succ]
        refine' wpAnyY_read 4 (fun Y => Below wd.heap.size wd Y) [] (v := _) (by kernel_rfl) (fun _ _ d _ _ h => by cases d <;> exact h) (by kernel_rfl) rfl (fun j y y' hj h hs => hs.trans h) (fun _ => Below.refl _ _) hBq rfl ?_ ?_
        rotate_left 1
        · intro w' hw'; obtain ⟨g0, g1, g2, g3⟩ := (zc1.below hw').cells; have gr := (hw'.cell (p := ⟨b, _, none⟩) hbc).trans rc; go_simp; try with_reducible rfl
        try simp only [Act.put, List.setIfInBounds_toArray, List.set_cons_zero, List.set_cons_succ]
        refine' wpAnyY_read 5 (fun Y => Below wd.heap.size wd Y) [] (v := _) (by kernel_rfl) (fun _ _ d _ _ h => by cases d <;> exact h) (by kernel_rfl) rfl (fun j y y' hj h hs => hs.trans h) (fun _ => Below.refl _ _) hBq rfl ?_ ?_
        rotate_left 1
        · intro w' hw'; obtain ⟨g0, g1, g2, g3⟩ := (zc1.below hw').cells; have gr := (hw'.cell (p := ⟨b, _, none⟩) hbc).trans rc; go_simp; try with_reducible rfl
        try simp only [Act.put, List.setIfInBounds_toArray, List.set_cons_zero, List.set_cons_succ]
        refine' wpAnyY_read 6 (fun Y => Below wd.heap.size wd Y) [] (v := _) (by kernel_rfl) (fun _ _ d _ _ h => by cases d <;> exact h) (by kernel_rfl) rfl (fun j y y' hj h hs => hs.trans h) (fun _ => Below.refl _ _) hBq rfl ?_ ?_
        rotate_left 1
        · intro w' hw'; obtain ⟨g0, g1, g2, g3⟩ := (zc1.below hw').cells; have gr := (hw'.cell (p := ⟨b, _, none⟩) hbc).trans rc; go_simp; try with_reducible rfl
        try simp only [Act.put, List.setIfInBounds_toArray, List.set_cons_zero, List.set_cons_succ]
        refine' wpAnyY_read 7 (fun Y => Below wd.heap.size wd Y) [] (v := _) (by kernel_rfl) (fun _ _ d _ _ h => by cases d <;> exact h) (by kernel_rfl) rfl (fun j y y' hj h hs => hs.trans h) (fun _ => Below.refl _ _) hBq rfl ?_ ?_
        rotate_left 1
        · intro w' hw'; obtain ⟨g0, g1, g2, g3⟩ := (zc1.below hw').cells; have gr := (hw'.cell (p := ⟨b, _, none⟩) hbc).trans rc; go_simp; try with_reducible rfl
        try simp only [Act.put, List.setIfInBounds_toArray, List.set_cons_zero, List.set_cons_succ]
        refine' wpAnyY_read 9 (fun Y => Below wd.heap.size wd Y) [] (v := _) (by kernel_rfl) (fun _ _ d _ _ h => by cases d <;> exact h) (by kernel_rfl) rfl (fun j y y' hj h hs => hs.trans h) (fun _ => Below.refl _ _) hBq rfl ?_ ?_
        rotate_left 1
        · intro w' hw'; obtain ⟨g0, g1, g2, g3⟩ := (zc1.below hw').cells; have gr := (hw'.cell (p := ⟨b, _, none⟩) hbc).trans rc; go_simp; try with_reducible rfl
        try simp only [Act.put, List.setIfInBounds_toArray, List.set_cons_zero, List.set_cons_succ]
        refine' wpAnyY_read 10 (fun Y => Below wd.heap.size wd Y) [] (v := _) (by kernel_rfl) (fun _ _ d _ _ h => by cases d <;> exact h) (by kernel_rfl) rfl (fun j y y' hj h hs => hs.trans h) (fun _ => Below.refl _ _) hBq rfl ?_ ?_
        rotate_left 1
        · intro w' hw'; obtain ⟨g0, g1, g2, g3⟩ := (zc1.below hw').cells; have gr := (hw'.cell (p := ⟨b, _, none⟩) hbc).trans rc; go_simp; try with_reducible rfl
        try simp only [Act.put, List.setIfInBounds_toArray, List.set_cons_zero, List.set_cons_succ]
        refine' wpAnyY_read 11 (fun Y => Below wd.heap.size wd Y) [] (v := (.string (S ll))) (by kernel_rfl) (fun _ _ d _ _ h => by cases d <;> exact h) (by kernel_rfl) rfl (fun j y y' hj h hs => hs.trans h) (fun _ => Below.refl _ _) hBq rfl ?_ ?_
        · intro w' hw'; obtain ⟨g0, g1, g2, g3⟩ := (zc1.below hw').cells; have gr := (hw'.cell (p := ⟨b, _, none⟩) hbc).trans rc; go_simp; try simp only [S_append]; rw [if_neg (by rw [S_size]; omega), ← HLL.out]
        try simp only [Act.put, List.setIfInBounds_toArray, List.set_cons_zero, List.set_cons_succ]
        refine wpAnyY_three (i := 8) (j := 12) (k := 14) (by kernel_rfl) rfl rfl rfl (fun K hK => ?_) (fun K hK => ?_) (fun K hK => ?_)
        · skip
          simp only [List.getElem_toArray, List.getElem_cons_succ, List.getElem_cons_zero]
          go_wp2_with fail
          refine (CSC.out (fun _ => True) q (fun _ _ => trivial)).mono ?_
          rintro e qA ⟨aS, cS, bS, rfl, gS, hvS, hbqA⟩
          rw [HES.out] at hvS
          go_wp2
          have hBqA : Below wd.heap.size wd qA := hBq.trans (hbqA.mono hBq.size)
          refine hK _ _ (hbqA.mono hBq.size) ?_
          clear hK K
          refine wpAnyY_two (i := 12) (j := 14) (by kernel_rfl) rfl rfl (fun K hK => ?_) (fun K hK => ?_)
          · skip
            simp only [List.getElem_toArray, List.getElem_cons_succ, List.getElem_cons_zero]
            obtain ⟨kB, qAB, hcvB, hbqAB, hha⟩ := bytes_conv2 qA ll (by unfold maxLen; omega)
            go_wp2
            have hBqAB : Below wd.heap.size wd qAB := hBqA.trans (hbqAB.mono hBqA.size)
            refine hK _ _ (hbqAB.mono hBqA.size) ?_
            clear hK K hcvB
            have gS := gS.below hbqAB
            have hvS := hvS.below hbqAB
            refine wpAnyY_two (i := 13) (j := 14) (by kernel_rfl) rfl rfl (fun K hK => ?_) (fun K hK => ?_)
            · skip
              simp only [List.getElem_toArray, List.getElem_cons_succ, List.getElem_cons_zero]
              have CW1 := rwrite_any (F := (fun _ => True)) (fun _ _ => trivial) (l := []) hvS hha HSC.out.k (by simp; omega) (by rw [HSC.out.gone]; omega) (by rw [HSC.out.bells]; omega) gS
              rw [List.nil_append, ← HY1.out] at CW1
              have CW1 := Lib.hid CW1
              go_wp2_with fail
              refine (CW1.out).mono ?_
              rintro e qABC ⟨a4, c4, bv4, rfl, g4, hv4, hbqABC⟩
              rw [HE1.out] at hv4
              go_wp2
              have hBqABC : Below wd.heap.size wd qABC := hBqAB.trans (hbqABC.mono hBqAB.size)
              refine hK _ _ (hbqABC.mono hBqAB.size) ?_
              clear hK K CW1
              refine wpAnyY_one (i := 14) (by kernel_rfl) rfl (fun K hK => ?_)
              simp only [List.getElem_toArray, List.getElem_cons_succ, List.getElem_cons_zero]
              have pn : TBx (qABC.alloc (.cells zCells 63)) qABC.heap.size zCells := TBx.new _ _
              have hbqABCD : Below qABC.heap.size qABC (qABC.alloc (.cells zCells 63)) := (Below.refl _ _).alloc (Nat.le_refl _) _
              obtain ⟨qABCD, hV⟩ : ∃ V, qABC.alloc (.cells zCells 63) = V := ⟨_, rfl⟩
              rw [hV] at pn hbqABCD
              have HV := Lib.hid hV
              clear hV
              go_wp2
              rw [show qABC.alloc (.cells #[.int .i64 0, .int .i64 0, .slice none 0 0, .int .i64 0, .int .i64 0, .bool false, .bool false, .bool false, .int .i64 0, .int .i64 0, .bool false, .bool false, .bool false, .int .i64 0, .int .i64 0, .slice none 0 0, .bool false, .int .i64 0, .int .i64 0] 63) = qABCD from HV.out]
              obtain ⟨kD, hkD⟩ : ∃ k, k = qABC.heap.size := ⟨_, rfl⟩
              rw [← hkD] at pn ⊢
              have hBqABCD : Below wd.heap.size wd qABCD := hBqABC.trans (hbqABCD.mono hBqABC.size)
              have hkB : wd.heap.size ≤ kD := by rw [hkD]; exact hBqABC.size
              refine hK _ _ (hbqABCD.mono hBqABC.size) ?_
              clear hK K HV
              have g4 := (g4.mono (F' := fun b => b ≠ kD) (fun b _ h => by omega)).below hbqABCD
              have hv4 := (hv4.mono (F' := fun b => b ≠ kD) (fun b _ h => by omega)).below hbqABCD
              clear hkD
              refine wpAnyY_one (i := 15) (by kernel_rfl) rfl (fun K hK => ?_)
              simp only [List.getElem_toArray, List.getElem_cons_succ, List.getElem_cons_zero]
              refine wpList_tstore rfl _ _ rfl kD rfl (tCells a4 c4 y1.1 bv4) rfl zCells pn rfl rfl (tCells_one _ _ _ hv4.one) ?_
              intro qABCDE p5 o5
              have g4 := g4.keep o5.size (fun b hF hlt => o5.block b hlt (by simpa using hF))
              have hv4 := hv4.keep o5.size (fun b hF hlt => o5.block b hlt (by simpa using hF))
              have hb5 : Below wd.heap.size qABCD qABCDE := o5.below (by simp; exact hkB) hBqABCD.size
              have hBqABCDE : Below wd.heap.size wd qABCDE := hBqABCD.trans hb5
              go_wp2
              refine hK _ _ hb5 ?_
              clear hK K
              refine wpAnyY_end (by kernel_rfl) ?_
              go_wp2
              go_meet
              exact ⟨kD, a4, c4, bv4, rfl, p5, g4.mono (fun _ _ _ => trivial), hv4.mono (fun _ _ _ => trivial), hBqABCDE⟩
            · skip
              simp only [List.getElem_toArray, List.getElem_cons_succ, List.getElem_cons_zero]
              have pn : TBx (qAB.alloc (.cells zCells 63)) qAB.heap.size zCells := TBx.new _ _
              have hbqABD : Below qAB.heap.size qAB (qAB.alloc (.cells zCells 63)) := (Below.refl _ _).alloc (Nat.le_refl _) _
              obtain ⟨qABD, hV⟩ : ∃ V, qAB.alloc (.cells zCells 63) = V := ⟨_, rfl⟩
              rw [hV] at pn hbqABD
              have HV := Lib.hid hV
              clear hV
              go_wp2
              rw [show qAB.alloc (.cells #[.int .i64 0, .int .i64 0, .slice none 0 0, .int .i64 0, .int .i64 0, .bool false, .bool false, .bool false, .int .i64 0, .int .i64 0, .bool false, .bool false, .bool false, .int .i64 0, .int .i64 0, .slice none 0 0, .bool false, .int .i64 0, .int .i64 0] 63) = qABD from HV.out]
              obtain ⟨kD, hkD⟩ : ∃ k, k = qAB.heap.size := ⟨_, rfl⟩
              rw [← hkD] at pn ⊢
              have hBqABD : Below wd.heap.size wd qABD := hBqAB.trans (hbqABD.mono hBqAB.size)
              have hkB : wd.heap.size ≤ kD := by rw [hkD]; exact hBqAB.size
              refine hK _ _ (hbqABD.mono hBqAB.size) ?_
              clear hK K HV
              have gS := (gS.mono (F' := fun b => b ≠ kD) (fun b _ h => by omega)).below hbqABD
              have hvS := (hvS.mono (F' := fun b => b ≠ kD) (fun b _ h => by omega)).below hbqABD
              have hha := hha.below hbqABD
              clear hkD
              refine wpAnyY_one (i := 13) (by kernel_rfl) rfl (fun K hK => ?_)
              simp only [List.getElem_toArray, List.getElem_cons_succ, List.getElem_cons_zero]
              have CW1 := rwrite_any (F := (fun b => b ≠ kD)) (fun b hb => by have := pn.lt; omega) (l := []) hvS hha HSC.out.k (by simp; omega) (by rw [HSC.out.gone]; omega) (by rw [HSC.out.bells]; omega) gS
              rw [List.nil_append, ← HY1.out] at CW1
              have CW1 := Lib.hid CW1
              go_wp2_with fail
              refine (CW1.out).mono ?_
              rintro e qABDC ⟨a4, c4, bv4, rfl, g4, hv4, hbqABDC⟩
              rw [HE1.out] at hv4
              go_wp2
              have hBqABDC : Below wd.heap.size wd qABDC := hBqABD.trans (hbqABDC.mono hBqABD.size)
              refine hK _ _ (hbqABDC.mono hBqABD.size) ?_
              clear hK K CW1
              have pn := pn.below hbqABDC
              refine wpAnyY_one (i := 15) (by kernel_rfl) rfl (fun K hK => ?_)
              simp only [List.getElem_toArray, List.getElem_cons_succ, List.getElem_cons_zero]
              refine wpList_tstore rfl _ _ rfl kD rfl (tCells a4 c4 y1.1 bv4) rfl zCells pn rfl rfl (tCells_one _ _ _ hv4.one) ?_
              intro qABDCE p5 o5
              have g4 := g4.keep o5.size (fun b hF hlt => o5.block b hlt (by simpa using hF))
              have hv4 := hv4.keep o5.size (fun b hF hlt => o5.block b hlt (by simpa using hF))
              have hb5 : Below wd.heap.size qABDC qABDCE := o5.below (by simp; exact hkB) hBqABDC.size
              have hBqABDCE : Below wd.heap.size wd qABDCE := hBqABDC.trans hb5
              go_wp2
              refine hK _ _ hb5 ?_
              clear hK K
              refine wpAnyY_end (by kernel_rfl) ?_
              go_wp2
              go_meet
              exact ⟨kD, a4, c4, bv4, rfl, p5, g4.mono (fun _ _ _ => trivial), hv4.mono (fun _ _ _ => trivial), hBqABDCE⟩
          · skip
            simp only [List.getElem_toArray, List.getElem_cons_succ, List.getElem_cons_zero]
            have pn : TBx (qA.alloc (.cells zCells 63)) qA.heap.size zCells := TBx.new _ _
            have hbqAD : Below qA.heap.size qA (qA.alloc (.cells zCells 63)) := (Below.refl _ _).alloc (Nat.le_refl _) _
            obtain ⟨qAD, hV⟩ : ∃ V, qA.alloc (.cells zCells 63) = V := ⟨_, rfl⟩
            rw [hV] at pn hbqAD
            have HV := Lib.hid hV
            clear hV
            go_wp2
            rw [show qA.alloc (.cells #[.int .i64 0, .int .i64 0, .slice none 0 0, .int .i64 0, .int .i64 0, .bool false, .bool false, .bool false, .int .i64 0, .int .i64 0, .bool false, .bool false, .bool false, .int .i64 0, .int .i64 0, .slice none 0 0, .bool false, .int .i64 0, .int .i64 0] 63) = qAD from HV.out]
            obtain ⟨kD, hkD⟩ : ∃ k, k = qA.heap.size := ⟨_, rfl⟩
            rw [← hkD] at pn ⊢
            have hBqAD : Below wd.heap.size wd qAD := hBqA.trans (hbqAD.mono hBqA.size)
            have hkB : wd.heap.size ≤ kD := by rw [hkD]; exact hBqA.size
            refine hK _ _ (hbqAD.mono hBqA.size) ?_
            clear hK K HV
            have gS := (gS.mono (F' := fun b => b ≠ kD) (fun b _ h => by omega)).below hbqAD
            have hvS := (hvS.mono (F' := fun b => b ≠ kD) (fun b _ h => by omega)).below hbqAD
            clear hkD
            refine wpAnyY_one (i := 12) (by kernel_rfl) rfl (fun K hK => ?_)
            simp only [List.getElem_toArray, List.getElem_cons_succ, List.getElem_cons_zero]
            obtain ⟨kB, qADB, hcvB, hbqADB, hha⟩ := bytes_conv2 qAD ll (by unfold maxLen; omega)
            go_wp2
            have hBqADB : Below wd.heap.size wd qADB := hBqAD.trans (hbqADB.mono hBqAD.size)
            refine hK _ _ (hbqADB.mono hBqAD.size) ?_
            clear hK K hcvB
            have gS := gS.below hbqADB
            have hvS := hvS.below hbqADB
            have pn := pn.below hbqADB
            refine wpAnyY_one (i := 13) (by kernel_rfl) rfl (fun K hK => ?_)
            simp only [List.getElem_toArray, List.getElem_cons_succ, List.getElem_cons_zero]
            have CW1 := rwrite_any (F := (fun b => b ≠ kD)) (fun b hb => by have := pn.lt; omega) (l := []) hvS hha HSC.out.k (by simp; omega) (by rw [HSC.out.gone]; omega) (by rw [HSC.out.bells]; omega) gS
            rw [List.nil_append, ← HY1.out] at CW1
            have CW1 := Lib.hid CW1
            go_wp2_with fail
            refine (CW1.out).mono ?_
            rintro e qADBC ⟨a4, c4, bv4, rfl, g4, hv4, hbqADBC⟩
            rw [HE1.out] at hv4
            go_wp2
            have hBqADBC : Below wd.heap.size wd qADBC := hBqADB.trans (hbqADBC.mono hBqADB.size)
            refine hK _ _ (hbqADBC.mono hBqADB.size) ?_
            clear hK K CW1
            have pn := pn.below hbqADBC
            refine wpAnyY_one (i := 15) (by kernel_rfl) rfl (fun K hK => ?_)
            simp only [List.getElem_toArray, List.getElem_cons_succ, List.getElem_cons_zero]
            refine wpList_tstore rfl _ _ rfl kD rfl (tCells a4 c4 y1.1 bv4) rfl zCells pn rfl rfl (tCells_one _ _ _ hv4.one) ?_
            intro qADBCE p5 o5
            have g4 := g4.keep o5.size (fun b hF hlt => o5.block b hlt (by simpa using hF))
            have hv4 := hv4.keep o5.size (fun b hF hlt => o5.block b hlt (by simpa using hF))
            have hb5 : Below wd.heap.size qADBC qADBCE := o5.below (by simp; exact hkB) hBqADBC.size
            have hBqADBCE : Below wd.heap.size wd qADBCE := hBqADBC.trans hb5
            go_wp2
            refine hK _ _ hb5 ?_
            clear hK K
            refine wpAnyY_end (by kernel_rfl) ?_
            go_wp2
            go_meet
            exact ⟨kD, a4, c4, bv4, rfl, p5, g4.mono (fun _ _ _ => trivial), hv4.mono (fun _ _ _ => trivial), hBqADBCE⟩
        · skip
          simp only [List.getElem_toArray, List.getElem_cons_succ, List.getElem_cons_zero]
          obtain ⟨kB, qB, hcvB, hbqB, hha⟩ := bytes_conv2 q ll (by unfold maxLen; omega)
          go_wp2
          have hBqB : Below wd.heap.size wd qB := hBq.trans (hbqB.mono hBq.size)
          refine hK _ _ (hbqB.mono hBq.size) ?_
          clear hK K hcvB
          refine wpAnyY_two (i := 8) (j := 14) (by kernel_rfl) rfl rfl (fun K hK => ?_) (fun K hK => ?_)
          · skip
            simp only [List.getElem_toArray, List.getElem_cons_succ, List.getElem_cons_zero]
            go_wp2_with fail
            refine (CSC.out (fun _ => True) qB (fun _ _ => trivial)).mono ?_
            rintro e qBA ⟨aS, cS, bS, rfl, gS, hvS, hbqBA⟩
            rw [HES.out] at hvS
            go_wp2
            have hBqBA : Below wd.heap.size wd qBA := hBqB.trans (hbqBA.mono hBqB.size)
            refine hK _ _ (hbqBA.mono hBqB.size) ?_
            clear hK K
            have hha := hha.below hbqBA
            refine wpAnyY_two (i := 13) (j := 14) (by kernel_rfl) rfl rfl (fun K hK => ?_) (fun K hK => ?_)
            · skip
              simp only [List.getElem_toArray, List.getElem_cons_succ, List.getElem_cons_zero]
              have CW1 := rwrite_any (F := (fun _ => True)) (fun _ _ => trivial) (l := []) hvS hha HSC.out.k (by simp; omega) (by rw [HSC.out.gone]; omega) (by rw [HSC.out.bells]; omega) gS
              rw [List.nil_append, ← HY1.out] at CW1
              have CW1 := Lib.hid CW1
              go_wp2_with fail
              refine (CW1.out).mono ?_
              rintro e qBAC ⟨a4, c4, bv4, rfl, g4, hv4, hbqBAC⟩
              rw [HE1.out] at hv4
              go_wp2
              have hBqBAC : Below wd.heap.size wd qBAC := hBqBA.trans (hbqBAC.mono hBqBA.size)
              refine hK _ _ (hbqBAC.mono hBqBA.size) ?_
              clear hK K CW1
              refine wpAnyY_one (i := 14) (by kernel_rfl) rfl (fun K hK => ?_)
              simp only [List.getElem_toArray, List.getElem_cons_succ, List.getElem_cons_zero]
              have pn : TBx (qBAC.alloc (.cells zCells 63)) qBAC.heap.size zCells := TBx.new _ _
              have hbqBACD : Below qBAC.heap.size qBAC (qBAC.alloc (.cells zCells 63)) := (Below.refl _ _).alloc (Nat.le_refl _) _
              obtain ⟨qBACD, hV⟩ : ∃ V, qBAC.alloc (.cells zCells 63) = V := ⟨_, rfl⟩
              rw [hV] at pn hbqBACD
              have HV := Lib.hid hV
              clear hV
              go_wp2
              rw [show qBAC.alloc (.cells #[.int .i64 0, .int .i64 0, .slice none 0 0, .int .i64 0, .int .i64 0, .bool false, .bool false, .bool false, .int .i64 0, .int .i64 0, .bool false, .bool false, .bool false, .int .i64 0, .int .i64 0, .slice none 0 0, .bool false, .int .i64 0, .int .i64 0] 63) = qBACD from HV.out]
              obtain ⟨kD, hkD⟩ : ∃ k, k = qBAC.heap.size := ⟨_, rfl⟩
              rw [← hkD] at pn ⊢
              have hBqBACD : Below wd.heap.size wd qBACD := hBqBAC.trans (hbqBACD.mono hBqBAC.size)
              have hkB : wd.heap.size ≤ kD := by rw [hkD]; exact hBqBAC.size
              refine hK _ _ (hbqBACD.mono hBqBAC.size) ?_
              clear hK K HV
              have g4 := (g4.mono (F' := fun b => b ≠ kD) (fun b _ h => by omega)).below hbqBACD
              have hv4 := (hv4.mono (F' := fun b => b ≠ kD) (fun b _ h => by omega)).below hbqBACD
              clear hkD
              refine wpAnyY_one (i := 15) (by kernel_rfl) rfl (fun K hK => ?_)
              simp only [List.getElem_toArray, List.getElem_cons_succ, List.getElem_cons_zero]
              refine wpList_tstore rfl _ _ rfl kD rfl (tCells a4 c4 y1.1 bv4) rfl zCells pn rfl rfl (tCells_one _ _ _ hv4.one) ?_
              intro qBACDE p5 o5
              have g4 := g4.keep o5.size (fun b hF hlt => o5.block b hlt (by simpa using hF))
              have hv4 := hv4.keep o5.size (fun b hF hlt => o5.block b hlt (by simpa using hF))
              have hb5 : Below wd.heap.size qBACD qBACDE := o5.below (by simp; exact hkB) hBqBACD.size
              have hBqBACDE : Below wd.heap.size wd qBACDE := hBqBACD.trans hb5
              go_wp2
              refine hK _ _ hb5 ?_
              clear hK K
              refine wpAnyY_end (by kernel_rfl) ?_
              go_wp2
              go_meet
              exact ⟨kD, a4, c4, bv4, rfl, p5, g4.mono (fun _ _ _ => trivial), hv4.mono (fun _ _ _ => trivial), hBqBACDE⟩
            · skip
              simp only [List.getElem_toArray, List.getElem_cons_succ, List.getElem_cons_zero]
              have pn : TBx (qBA.alloc (.cells zCells 63)) qBA.heap.size zCells := TBx.new _ _
              have hbqBAD : Below qBA.heap.size qBA (qBA.alloc (.cells zCells 63)) := (Below.refl _ _).alloc (Nat.le_refl _) _
              obtain ⟨qBAD, hV⟩ : ∃ V, qBA.alloc (.cells zCells 63) = V := ⟨_, rfl⟩
              rw [hV] at pn hbqBAD
              have HV := Lib.hid hV
              clear hV
              go_wp2
              rw [show qBA.alloc (.cells #[.int .i64 0, .int .i64 0, .slice none 0 0, .int .i64 0, .int .i64 0, .bool false, .bool false, .bool false, .int .i64 0, .int .i64 0, .bool false, .bool false, .bool false, .int .i64 0, .int .i64 0, .slice none 0 0, .bool false, .int .i64 0, .int .i64 0] 63) = qBAD from HV.out]
              obtain ⟨kD, hkD⟩ : ∃ k, k = qBA.heap.size := ⟨_, rfl⟩
              rw [← hkD] at pn ⊢
              have hBqBAD : Below wd.heap.size wd qBAD := hBqBA.trans (hbqBAD.mono hBqBA.size)
              have hkB : wd.heap.size ≤ kD := by rw [hkD]; exact hBqBA.size
              refine hK _ _ (hbqBAD.mono hBqBA.size) ?_
              clear hK K HV
              have gS := (gS.mono (F' := fun b => b ≠ kD) (fun b _ h => by omega)).below hbqBAD
              have hvS := (hvS.mono (F' := fun b => b ≠ kD) (fun b _ h => by omega)).below hbqBAD
              have hha := hha.below hbqBAD
              clear hkD
              refine wpAnyY_one (i := 13) (by kernel_rfl) rfl (fun K hK => ?_)
              simp only [List.getElem_toArray, List.getElem_cons_succ, List.getElem_cons_zero]
              have CW1 := rwrite_any (F := (fun b => b ≠ kD)) (fun b hb => by have := pn.lt; omega) (l := []) hvS hha HSC.out.k (by simp; omega) (by rw [HSC.out.gone]; omega) (by rw [HSC.out.bells]; omega) gS
              rw [List.nil_append, ← HY1.out] at CW1
              have CW1 := Lib.hid CW1
              go_wp2_with fail
              refine (CW1.out).mono ?_
              rintro e qBADC ⟨a4, c4, bv4, rfl, g4, hv4, hbqBADC⟩
              rw [HE1.out] at hv4
              go_wp2
              have hBqBADC : Below wd.heap.size wd qBADC := hBqBAD.trans (hbqBADC.mono hBqBAD.size)
              refine hK _ _ (hbqBADC.mono hBqBAD.size) ?_
              clear hK K CW1
              have pn := pn.below hbqBADC
              refine wpAnyY_one (i := 15) (by kernel_rfl) rfl (fun K hK => ?_)
              simp only [List.getElem_toArray, List.getElem_cons_succ, List.getElem_cons_zero]
              refine wpList_tstore rfl _ _ rfl kD rfl (tCells a4 c4 y1.1 bv4) rfl zCells pn rfl rfl (tCells_one _ _ _ hv4.one) ?_
              intro qBADCE p5 o5
              have g4 := g4.keep o5.size (fun b hF hlt => o5.block b hlt (by simpa using hF))
              have hv4 := hv4.keep o5.size (fun b hF hlt => o5.block b hlt (by simpa using hF))
              have hb5 : Below wd.heap.size qBADC qBADCE := o5.below (by simp; exact hkB) hBqBADC.size
              have hBqBADCE : Below wd.heap.size wd qBADCE := hBqBADC.trans hb5
              go_wp2
              refine hK _ _ hb5 ?_
              clear hK K
              refine wpAnyY_end (by kernel_rfl) ?_
              go_wp2
              go_meet
              exact ⟨kD, a4, c4, bv4, rfl, p5, g4.mono (fun _ _ _ => trivial), hv4.mono (fun _ _ _ => trivial), hBqBADCE⟩
          · skip
            simp only [List.getElem_toArray, List.getElem_cons_succ, List.getElem_cons_zero]
            have pn : TBx (qB.alloc (.cells zCells 63)) qB.heap.size zCells := TBx.new _ _
            have hbqBD : Below qB.heap.size qB (qB.alloc (.cells zCells 63)) := (Below.refl _ _).alloc (Nat.le_refl _) _
            obtain ⟨qBD, hV⟩ : ∃ V, qB.alloc (.cells zCells 63) = V := ⟨_, rfl⟩
            rw [hV] at pn hbqBD
            have HV := Lib.hid hV
            clear hV
            go_wp2
            rw [show qB.alloc (.cells #[.int .i64 0, .int .i64 0, .slice none 0 0, .int .i64 0, .int .i64 0, .bool false, .bool false, .bool false, .int .i64 0, .int .i64 0, .bool false, .bool false, .bool false, .int .i64 0, .int .i64 0, .slice none 0 0, .bool false, .int .i64 0, .int .i64 0] 63) = qBD from HV.out]
            obtain ⟨kD, hkD⟩ : ∃ k, k = qB.heap.size := ⟨_, rfl⟩
            rw [← hkD] at pn ⊢
            have hBqBD : Below wd.heap.size wd qBD := hBqB.trans (hbqBD.mono hBqB.size)
            have hkB : wd.heap.size ≤ kD := by rw [hkD]; exact hBqB.size
            refine hK _ _ (hbqBD.mono hBqB.size) ?_
            clear hK K HV
            have hha := hha.below hbqBD
            clear hkD
            refine wpAnyY_one (i := 8) (by kernel_rfl) rfl (fun K hK => ?_)
            simp only [List.getElem_toArray, List.getElem_cons_succ, List.getElem_cons_zero]
            go_wp2_with fail
            refine (CSC.out (fun b => b ≠ kD) qBD (fun b hb => by have := pn.lt; omega)).mono ?_
            rintro e qBDA ⟨aS, cS, bS, rfl, gS, hvS, hbqBDA⟩
            rw [HES.out] at hvS
            go_wp2
            have hBqBDA : Below wd.heap.size wd qBDA := hBqBD.trans (hbqBDA.mono hBqBD.size)
            refine hK _ _ (hbqBDA.mono hBqBD.size) ?_
            clear hK K
            have hha := hha.below hbqBDA
            have pn := pn.below hbqBDA
            refine wpAnyY_one (i := 13) (by kernel_rfl) rfl (fun K hK => ?_)
            simp only [List.getElem_toArray, List.getElem_cons_succ, List.getElem_cons_zero]
            have CW1 := rwrite_any (F := (fun b => b ≠ kD)) (fun b hb => by have := pn.lt; omega) (l := []) hvS hha HSC.out.k (by simp; omega) (by rw [HSC.out.gone]; omega) (by rw [HSC.out.bells]; omega) gS
            rw [List.nil_append, ← HY1.out] at CW1
            have CW1 := Lib.hid CW1
            go_wp2_with fail
            refine (CW1.out).mono ?_
            rintro e qBDAC ⟨a4, c4, bv4, rfl, g4, hv4, hbqBDAC⟩
            rw [HE1.out] at hv4
            go_wp2
            have hBqBDAC : Below wd.heap.size wd qBDAC := hBqBDA.trans (hbqBDAC.mono hBqBDA.size)
            refine hK _ _ (hbqBDAC.mono hBqBDA.size) ?_
            clear hK K CW1
            have pn := pn.below hbqBDAC
            refine wpAnyY_one (i := 15) (by kernel_rfl) rfl (fun K hK => ?_)
            simp only [List.getElem_toArray, List.getElem_cons_succ, List.getElem_cons_zero]
            refine wpList_tstore rfl _ _ rfl kD rfl (tCells a4 c4 y1.1 bv4) rfl zCells pn rfl rfl (tCells_one _ _ _ hv4.one) ?_
            intro qBDACE p5 o5
            have g4 := g4.keep o5.size (fun b hF hlt => o5.block b hlt (by simpa using hF))
            have hv4 := hv4.keep o5.size (fun b hF hlt => o5.block b hlt (by simpa using hF))
            have hb5 : Below wd.heap.size qBDAC qBDACE := o5.below (by simp; exact hkB) hBqBDAC.size
            have hBqBDACE : Below wd.heap.size wd qBDACE := hBqBDAC.trans hb5
            go_wp2
            refine hK _ _ hb5 ?_
            clear hK K
            refine wpAnyY_end (by kernel_rfl) ?_
            go_wp2
            go_meet
            exact ⟨kD, a4, c4, bv4, rfl, p5, g4.mono (fun _ _ _ => trivial), hv4.mono (fun _ _ _ => trivial), hBqBDACE⟩
        · skip
          simp only [List.getElem_toArray, List.getElem_cons_succ, List.getElem_cons_zero]
          have pn : TBx (q.alloc (.cells zCells 63)) q.heap.size zCells := TBx.new _ _
          have hbqD : Below q.heap.size q (q.alloc (.cells zCells 63)) := (Below.refl _ _).alloc (Nat.le_refl _) _
          obtain ⟨qD, hV⟩ : ∃ V, q.alloc (.cells zCells 63) = V := ⟨_, rfl⟩
          rw [hV] at pn hbqD
          have HV := Lib.hid hV
          clear hV
          go_wp2
          rw [show q.alloc (.cells #[.int .i64 0, .int .i64 0, .slice none 0 0, .int .i64 0, .int .i64 0, .bool false, .bool false, .bool false, .int .i64 0, .int .i64 0, .bool false, .bool false, .bool false, .int .i64 0, .int .i64 0, .slice none 0 0, .bool false, .int .i64 0, .int .i64 0] 63) = qD from HV.out]
          obtain ⟨kD, hkD⟩ : ∃ k, k = q.heap.size := ⟨_, rfl⟩
          rw [← hkD] at pn ⊢
          have hBqD : Below wd.heap.size wd qD := hBq.trans (hbqD.mono hBq.size)
          have hkB : wd.heap.size ≤ kD := by rw [hkD]; exact hBq.size
          refine hK _ _ (hbqD.mono hBq.size) ?_
          clear hK K HV
          clear hkD
          refine wpAnyY_two (i := 8) (j := 12) (by kernel_rfl) rfl rfl (fun K hK => ?_) (fun K hK => ?_)
          · skip
            simp only [List.getElem_toArray, List.getElem_cons_succ, List.getElem_cons_zero]
            go_wp2_with fail
            refine (CSC.out (fun b => b ≠ kD) qD (fun b hb => by have := pn.lt; omega)).mono ?_
            rintro e qDA ⟨aS, cS, bS, rfl, gS, hvS, hbqDA⟩
            rw [HES.out] at hvS
            go_wp2
            have hBqDA : Below wd.heap.size wd qDA := hBqD.trans (hbqDA.mono hBqD.size)
            refine hK _ _ (hbqDA.mono hBqD.size) ?_
            clear hK K
            have pn := pn.below hbqDA
            refine wpAnyY_one (i := 12) (by kernel_rfl) rfl (fun K hK => ?_)
            simp only [List.getElem_toArray, List.getElem_cons_succ, List.getElem_cons_zero]
            obtain ⟨kB, qDAB, hcvB, hbqDAB, hha⟩ := bytes_conv2 qDA ll (by unfold maxLen; omega)
            go_wp2
            have hBqDAB : Below wd.heap.size wd qDAB := hBqDA.trans (hbqDAB.mono hBqDA.size)
            refine hK _ _ (hbqDAB.mono hBqDA.size) ?_
            clear hK K hcvB
            have gS := gS.below hbqDAB
            have hvS := hvS.below hbqDAB
            have pn := pn.below hbqDAB
            refine wpAnyY_one (i := 13) (by kernel_rfl) rfl (fun K hK => ?_)
            simp only [List.getElem_toArray, List.getElem_cons_succ, List.getElem_cons_zero]
            have CW1 := rwrite_any (F := (fun b => b ≠ kD)) (fun b hb => by have := pn.lt; omega) (l := []) hvS hha HSC.out.k (by simp; omega) (by rw [HSC.out.gone]; omega) (by rw [HSC.out.bells]; omega) gS
            rw [List.nil_append, ← HY1.out] at CW1
            have CW1 := Lib.hid CW1
            go_wp2_with fail
            refine (CW1.out).mono ?_
            rintro e qDABC ⟨a4, c4, bv4, rfl, g4, hv4, hbqDABC⟩
            rw [HE1.out] at hv4
            go_wp2
            have hBqDABC : Below wd.heap.size wd qDABC := hBqDAB.trans (hbqDABC.mono hBqDAB.size)
            refine hK _ _ (hbqDABC.mono hBqDAB.size) ?_
            clear hK K CW1
            have pn := pn.below hbqDABC
            refine wpAnyY_one (i := 15) (by kernel_rfl) rfl (fun K hK => ?_)
            simp only [List.getElem_toArray, List.getElem_cons_succ, List.getElem_cons_zero]
            refine wpList_tstore rfl _ _ rfl kD rfl (tCells a4 c4 y1.1 bv4) rfl zCells pn rfl rfl (tCells_one _ _ _ hv4.one) ?_
            intro qDABCE p5 o5
            have g4 := g4.keep o5.size (fun b hF hlt => o5.block b hlt (by simpa using hF))
            have hv4 := hv4.keep o5.size (fun b hF hlt => o5.block b hlt (by simpa using hF))
            have hb5 : Below wd.heap.size qDABC qDABCE := o5.below (by simp; exact hkB) hBqDABC.size
            have hBqDABCE : Below wd.heap.size wd qDABCE := hBqDABC.trans hb5
            go_wp2
            refine hK _ _ hb5 ?_
            clear hK K
            refine wpAnyY_end (by kernel_rfl) ?_
            go_wp2
            go_meet
            exact ⟨kD, a4, c4, bv4, rfl, p5, g4.mono (fun _ _ _ => trivial), hv4.mono (fun _ _ _ => trivial), hBqDABCE⟩
          · skip
            simp only [List.getElem_toArray, List.getElem_cons_succ, List.getElem_cons_zero]
            obtain ⟨kB, qDB, hcvB, hbqDB, hha⟩ := bytes_conv2 qD ll (by unfold maxLen; omega)
            go_wp2
            have hBqDB : Below wd.heap.size wd qDB := hBqD.trans (hbqDB.mono hBqD.size)
            refine hK _ _ (hbqDB.mono hBqD.size) ?_
            clear hK K hcvB
            have pn := pn.below hbqDB
            refine wpAnyY_one (i := 8) (by kernel_rfl) rfl (fun K hK => ?_)
            simp only [List.getElem_toArray, List.getElem_cons_succ, List.getElem_cons_zero]
            go_wp2_with fail
            refine (CSC.out (fun b => b ≠ kD) qDB (fun b hb => by have := pn.lt; omega)).mono ?_
            rintro e qDBA ⟨aS, cS, bS, rfl, gS, hvS, hbqDBA⟩
            rw [HES.out] at hvS
            go_wp2
            have hBqDBA : Below wd.heap.size wd qDBA := hBqDB.trans (hbqDBA.mono hBqDB.size)
            refine hK _ _ (hbqDBA.mono hBqDB.size) ?_
            clear hK K
            have hha := hha.below hbqDBA
            have pn := pn.below hbqDBA
            refine wpAnyY_one (i := 13) (by kernel_rfl) rfl (fun K hK => ?_)
            simp only [List.getElem_toArray, List.getElem_cons_succ, List.getElem_cons_zero]
            have CW1 := rwrite_any (F := (fun b => b ≠ kD)) (fun b hb => by have := pn.lt; omega) (l := []) hvS hha HSC.out.k (by simp; omega) (by rw [HSC.out.gone]; omega) (by rw [HSC.out.bells]; omega) gS
            rw [List.nil_append, ← HY1.out] at CW1
            have CW1 := Lib.hid CW1
            go_wp2_with fail
            refine (CW1.out).mono ?_
            rintro e qDBAC ⟨a4, c4, bv4, rfl, g4, hv4, hbqDBAC⟩
            rw [HE1.out] at hv4
            go_wp2
            have hBqDBAC : Below wd.heap.size wd qDBAC := hBqDBA.trans (hbqDBAC.mono hBqDBA.size)
            refine hK _ _ (hbqDBAC.mono hBqDBA.size) ?_
            clear hK K CW1
            have pn := pn.below hbqDBAC
            refine wpAnyY_one (i := 15) (by kernel_rfl) rfl (fun K hK => ?_)
            simp only [List.getElem_toArray, List.getElem_cons_succ, List.getElem_cons_zero]
            refine wpList_tstore rfl _ _ rfl kD rfl (tCells a4 c4 y1.1 bv4) rfl zCells pn rfl rfl (tCells_one _ _ _ hv4.one) ?_
            intro qDBACE p5 o5
            have g4 := g4.keep o5.size (fun b hF hlt => o5.block b hlt (by simpa using hF))
            have hv4 := hv4.keep o5.size (fun b hF hlt => o5.block b hlt (by simpa using hF))
            have hb5 : Below wd.heap.size qDBAC qDBACE := o5.below (by simp; exact hkB) hBqDBAC.size
            have hBqDBACE : Below wd.heap.size wd qDBACE := hBqDBAC.trans hb5
            go_wp2
            refine hK _ _ hb5 ?_
            clear hK K
            refine wpAnyY_end (by kernel_rfl) ?_
            go_wp2
            go_meet
            exact ⟨kD, a4, c4, bv4, rfl, p5, g4.mono (fun _ _ _ => trivial), hv4.mono (fun _ _ _ => trivial), hBqDBACE⟩
      case rest =>
        obtain ⟨kT, a4, c4, bv4, rfl, p5, g4, hv4, hb5⟩ := hcut
        have x5 := bto xc hb5 xc.size
        obtain ⟨k2, W2, hcv2, hcb2, hha2⟩ := bytes_conv2 wc gl (by unfold maxLen; omega)
        have CW2 := rwrite_any (F := fun _ => True) (fun _ _ => trivial) (l := []) (hv4.below hcb2) hha2 HS1.out.k (by simp; omega) (by rw [HS1.out.gone]; omega) (by rw [HS1.out.bells]; omega) (g4.below hcb2)
        rw [List.nil_append, ← HY2.out] at CW2
        have CW2 := Lib.hid CW2
        have pk2 := p5.below hcb2
        clear u0 u1 u2 u3
        go_upto_region 10 with (first
          | (refine wpList_tload rfl _ rfl kT rfl (tCells a4 c4 y1.1 bv4) ?_ rfl ?_; exact p5)
          | (go_at_call 32; refine (CW2.out).mono ?_; rintro e w6 ⟨a6, c6, bv6, rfl, g6, hv6, hb6⟩; have pn2 : TBx (w6.alloc (.cells zCells 63)) w6.heap.size zCells := TBx.new _ _)
          | (refine wpList_tstore rfl _ _ rfl w6.heap.size rfl (tCells a6 c6 y2.1 bv6) rfl zCells ?_ rfl rfl (tCells_one _ _ _ hv6.one) ?_; exact pn2; intro w7 p7 o7))
        rw [HE2.out] at hv6
        have bz2 : Below w6.heap.size w6 (w6.alloc (.cells zCells 63)) := (Below.refl _ _).alloc (Nat.le_refl _) _
        have b7' : Below w6.heap.size w6 w7 := bz2.trans (o7.below (by simp) bz2.size)
        have hW7 : Below wc.heap.size wc w7 := by
          have e1 := bto hcb2 hb6 hcb2.size
          exact bto e1 b7' e1.size
        have p57 := p5.below hW7
        have x7 := bto x5 hW7 x5.size
        have CS1 := Lib.hid (rshows_ok (F := fun _ => True) (W := w7) (w := w) (n := n2) (cB := c2) (g4.below hW7) HS1.out.R (RB.out.below x7) HBB.out ⟨p3, p4⟩ ⟨p1, p2⟩ rb cb s2 (by omega) (by omega) HS1.out.row HS1.out.col HS1.out.pend HS1.out.y HS1.out.seen HS1.out.marked HS1.out.bells HS1.out.gone (hv4.below hW7))
        obtain ⟨v0, v1, v2, v3⟩ := (z2.below x7).cells
        clear bz2 pn2 o7 hcv2 pk2 CW2
        go_wp2_with (refine wpList_tload rfl _ rfl kT rfl (tCells a4 c4 y1.1 bv4) ?_ rfl ?_; exact p57)
        refine (CS1.out).mono ?_
        rintro e w8 ⟨rfl, hb8⟩
        have x8 := bto x7 hb8 x7.size
        have p78 := p7.below hb8
        have CS2 := Lib.hid (rshows_ok (F := fun _ => True) (W := w8) (w := w) (n := n2) (cB := c1) ((g6.below b7').below hb8) HS2.out.R (RA.out.below x8) HBA.out ⟨p3, p4⟩ ⟨p1, p2⟩ ra ca s1 (by omega) (by omega) HS2.out.row HS2.out.col HS2.out.pend HS2.out.y HS2.out.seen HS2.out.marked HS2.out.bells HS2.out.gone ((hv6.below b7').below hb8))
        clear v0 v1 v2 v3
        obtain ⟨u0, u1, u2, u3⟩ := (z1.below x8).cells
        go_wp2_with (refine wpList_tloadD rfl _ rfl w6.heap.size rfl (tCells a6 c6 y2.1 bv6) ?_ rfl ?_; exact p78)
        refine (CS2.out).mono ?_
        rintro e w9 ⟨rfl, hb9⟩
        have x9 := bto x8 hb9 x8.size
        have bW9 := bto bX x9 bX.size
        go_wp2_with (go_at_call 31; refine (awake10_any _).mono ?_; rintro e w10 ⟨rfl, hb10⟩)
        go_ret
        exact ⟨rfl, bto bW9 hb10 bW9.size⟩
end Go.Proofs.YtekodpcedjpnjaaGreat
