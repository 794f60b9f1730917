/- The law DiffBlank: a frame of blanks of any size; the bytes from it to another frame show that. No condition but that the strings are not too long for a cut. Printed by gen_dl9.py. -/
import Derived.Test.YtekodpcedjpnjaaGreatBt01
import Derived.Test.YtekodpcedjpnjaaGreatBt44
import Derived.Test.YtekodpcedjpnjaaGreatBt46
import Derived.Test.YtekodpcedjpnjaaGreatBt54
set_option linter.unusedVariables false
set_option linter.unusedSimpArgs false
namespace Go.Proofs.YtekodpcedjpnjaaGreat
open Go.RowKit Go.Shelf Go.Maps
def blankX (a b : Int) : List (List GC) := if 1 ≤ a ∧ a ≤ 500 ∧ 1 ≤ b ∧ b ≤ 60 then blankM a.toNat b.toNat else []
def okX (a b : Int) : Bool := decide (1 ≤ a ∧ a ≤ 500 ∧ 1 ≤ b ∧ b ≤ 60)
def FrX (a b : Int) (w : World) (e : Ending) (w' : World) : Prop :=
  ∃ av cap, e = .returned (.tuple #[.agg #[.slice av (blankX a b).length cap, .int .i64 0, .int .i64 0, .bool (okX a b)], .int .i64 (errD (okX a b))]) ∧ RowsAt w' av (blankX a b).length (blankX a b) ∧ Below w.heap.size w w'
theorem FrX.ok {a b : Nat} (h : 1 ≤ a ∧ a ≤ 500 ∧ 1 ≤ b ∧ b ≤ 60) {w : World} {e : Ending} {w' : World} (k : FrPost2 (blankM a b) 0 0 true w e w') : FrX a b w e w' := by
  obtain ⟨av, cap, rfl, h1, _, h2⟩ := k
  have e1 : blankX a b = blankM a b := by unfold blankX; rw [if_pos (by omega)]; rfl
  have e2 : okX a b = true := by unfold okX; exact decide_eq_true (by omega)
  unfold FrX
  rw [e1, e2]
  exact ⟨av, cap, rfl, h1, h2⟩
theorem FrX.bad {a b : Int} (h : ¬ (1 ≤ a ∧ a ≤ 500 ∧ 1 ≤ b ∧ b ≤ 60)) {w : World} {e : Ending} {w' : World} (k : e = .returned (.tuple #[.agg #[.slice none 0 0, .int .i64 0, .int .i64 0, .bool false], .int .i64 100]) ∧ Below w.heap.size w w') : FrX a b w e w' := by
  obtain ⟨rfl, h2⟩ := k
  have e1 : blankX a b = [] := by unfold blankX; rw [if_neg h]
  have e2 : okX a b = false := by unfold okX; exact decide_eq_false h
  unfold FrX
  rw [e1, e2]
  exact ⟨none, 0, rfl, ⟨rfl, fun i M hi => by simp at hi⟩, h2⟩
theorem dblank_x (a b : Int) (W : World) : Calls Tryz.prog 38 #[.int .i64 a, .int .i64 b] W (FrX a b W) := by
  by_cases h : 1 ≤ a ∧ a ≤ 500 ∧ 1 ≤ b ∧ b ≤ 60
  · obtain ⟨x, rfl⟩ := Int.eq_ofNat_of_zero_le (show 0 ≤ a by omega)
    obtain ⟨y, rfl⟩ := Int.eq_ofNat_of_zero_le (show 0 ≤ b by omega)
    exact (dblank_ok x y (by omega) W).mono (fun _ _ k => FrX.ok (by omega) k)
  · exact (dblank_bad a b h W).mono (fun _ _ k => FrX.bad h k)
theorem rblank_x (a b : Int) (W : World) : Calls Tryz.prog 39 #[.int .i64 a, .int .i64 b] W (FrX a b W) := by
  by_cases h : 1 ≤ a ∧ a ≤ 500 ∧ 1 ≤ b ∧ b ≤ 60
  · obtain ⟨x, rfl⟩ := Int.eq_ofNat_of_zero_le (show 0 ≤ a by omega)
    obtain ⟨y, rfl⟩ := Int.eq_ofNat_of_zero_le (show 0 ≤ b by omega)
    exact (rblank10_ok x y (by omega) W).mono (fun _ _ k => FrX.ok (by omega) k)
  · exact (rblank10_bad a b h W).mono (fun _ _ k => FrX.bad h k)
theorem blankX_ne (a b : Int) : ∀ M ∈ blankX a b, M ≠ [] ∧ M.length ≤ 1000000 := fun M hM => by
  unfold blankX at hM
  split at hM
  · have := List.eq_of_mem_replicate (show M ∈ List.replicate b.toNat (List.replicate a.toNat GC.blank) from hM)
    subst this
    refine ⟨fun e => ?_, by rw [List.length_replicate]; omega⟩
    have := congrArg List.length e
    rw [List.length_replicate] at this
    simp at this
    omega
  · cases hM
theorem blankX_len (a b : Int) : (blankX a b).length ≤ 60 := by
  unfold blankX
  split
  · unfold blankM; rw [List.length_replicate]; omega
  · simp
theorem blank_shw {R : List (List GC)} {r c : Int} {s : Bool} (h : okF R r c = true) : (runT (runT (TS.new (nth [] R 0).length (R.length + 2)) scrB).1 (paintE (blankM (nth [] R 0).length R.length) 0 0 true R r c s false)).2 = [] ∧ Shw (nth [] R 0).length R.length R r.toNat c.toNat s (runT (runT (TS.new (nth [] R 0).length (R.length + 2)) scrB).1 (paintE (blankM (nth [] R 0).length R.length) 0 0 true R r c s false)).1 := by
  obtain ⟨h1, h2, h3, h4, _⟩ := okF_pos h
  exact shw_run (s2 := s) (al := false) (fit_blank h) (shw_screen ⟨h3, h4⟩ ⟨h1, h2⟩).2
set_option maxRecDepth 100000 in
set_option maxHeartbeats 32000000 in
theorem diffBlank_any {W : World} (aw ah : Int) {a : Option Addr} {n cap : Nat} {R : List (List GC)} (hR : RowsAt W a n R) (hn : n ≤ maxLen) (hs : ∀ M ∈ R, ∀ c ∈ M, c.s.size ≤ 1100000) (r c : Int) (s : Bool) :
    Calls Tryz.prog 6 #[.int .i64 aw, .int .i64 ah, .agg #[.slice a n cap, .int .i64 r, .int .i64 c, .bool s]] W fun e w' => e = .returned (.bool true) ∧ Below W.heap.size W w' := by
  have z0 : FBI (W.alloc (.cells #[.slice a n cap, .int .i64 r, .int .i64 c, .bool s] 52)) W.heap.size (.slice a n cap) r c s := World.alloc_heap_new W _
  have b0 : Below W.heap.size W (W.alloc (.cells #[.slice a n cap, .int .i64 r, .int .i64 c, .bool s] 52)) := (Below.refl _ _).alloc (Nat.le_refl _) _
  have HR := Lib.hid hR
  have HS := Lib.hid hs
  have hl := hR.len
  clear hR hs
  go_enter Tryz.func6, Tryz.ntmps6
  go_upto_region 1 with (fail)
  obtain ⟨X, hX⟩ : ∃ X, W.alloc (.cells #[.slice a n cap, .int .i64 r, .int .i64 c, .bool s] 52) = X := ⟨_, rfl⟩
  rw [hX] at z0 b0 ⊢
  clear hX
  have hz0 := z0.lt
  have RX := Lib.hid (HR.out.below b0)
  have CB1 := Lib.hid (fun Y : World => dblank_x aw ah Y)
  have CB2 := Lib.hid (fun Y : World => rblank_x aw ah Y)
  have HN := Lib.hid (blankX_ne aw ah)
  have hXl := blankX_len aw ah
  have hself : Hid (eqR (blankX aw ah) (blankX aw ah) = true) := Lib.hid ((eqR_iff _ _).2 rfl)
  obtain ⟨BX, hBX⟩ : ∃ B, B = blankX aw ah := ⟨_, rfl⟩
  obtain ⟨ox, hox⟩ : ∃ B, B = okX aw ah := ⟨_, rfl⟩
  obtain ⟨ex, hex⟩ : ∃ B, B = errD ox := ⟨_, rfl⟩
  unfold FrX at CB1 CB2
  rw [← hox] at CB1 CB2
  rw [← hBX] at CB1 CB2 HN hXl hself
  rw [← hex] at CB1 CB2
  clear hBX hox hex
  go_cut [7, 8] (fun v x wx => x = .int .i64 ex ∧ ∃ k av cv, v = .pointer (some ⟨k, 0, none⟩) ∧ FBI wx k (.slice av BX.length cv) 0 0 ox ∧ RowsAt wx av BX.length BX ∧ Below X.heap.size X wx)
  case first =>
    go_wp2_with fail
    refine (CB1.out X).mono ?_
    rintro e w1 ⟨av, cv, rfl, hr1, hb1⟩
    have zY : FBI (w1.alloc (.cells #[.slice av BX.length cv, .int .i64 0, .int .i64 0, .bool ox] 52)) w1.heap.size (.slice av BX.length cv) 0 0 ox := World.alloc_heap_new w1 _
    have bY : Below w1.heap.size w1 (w1.alloc (.cells #[.slice av BX.length cv, .int .i64 0, .int .i64 0, .bool ox] 52)) := (Below.refl _ _).alloc (Nat.le_refl _) _
    have hRY := hr1.below bY
    have FIN := Lib.hid (And.intro zY (And.intro hRY (bto hb1 bY hb1.size)))
    clear zY bY hRY
    go_wp2
    go_meet
    exact ⟨rfl, w1.heap.size, av, cv, rfl, FIN.out⟩
  case rest =>
    obtain ⟨rfl, k1, av1, cv1, rfl, zB, hrB, xc⟩ := hcut
    obtain ⟨w2, hw2⟩ : ∃ x, x = wc := ⟨_, rfl⟩
    subst hw2
    have hkB := zB.lt
    have HRB := Lib.hid hrB
    clear hrB
    go_upto_region 2 with (fail)
    go_cut [9, 10] (fun v x wx => x = .int .i64 ex ∧ ∃ k av cv, v = .pointer (some ⟨k, 0, none⟩) ∧ FBI wx k (.slice av BX.length cv) 0 0 ox ∧ RowsAt wx av BX.length BX ∧ Below w2.heap.size w2 wx)
    case first =>
      go_wp2_with fail
      refine (CB2.out w2).mono ?_
      rintro e w1 ⟨av, cv, rfl, hr1, hb1⟩
      have zY : FBI (w1.alloc (.cells #[.slice av BX.length cv, .int .i64 0, .int .i64 0, .bool ox] 52)) w1.heap.size (.slice av BX.length cv) 0 0 ox := World.alloc_heap_new w1 _
      have bY : Below w1.heap.size w1 (w1.alloc (.cells #[.slice av BX.length cv, .int .i64 0, .int .i64 0, .bool ox] 52)) := (Below.refl _ _).alloc (Nat.le_refl _) _
      have hRY := hr1.below bY
      have FIN := Lib.hid (And.intro zY (And.intro hRY (bto hb1 bY hb1.size)))
      clear zY bY hRY
      go_wp2
      go_meet
      exact ⟨rfl, w1.heap.size, av, cv, rfl, FIN.out⟩
    case rest =>
      obtain ⟨rfl, k2, av2, cv2, rfl, zC, hrC, xd⟩ := hcut
      obtain ⟨w3, hw3⟩ : ∃ x, x = wc := ⟨_, rfl⟩
      subst hw3
      have x3 := bto xc xd xc.size
      have CSM := rsame_any (c1 := cv1) (c2 := cv2) (HRB.out.below xd) hrC (fun M hM => (HN.out M hM).2) (fun M hM => (HN.out M hM).2) (by unfold maxLen; omega) 0 0 0 0 ox ox
      rw [hself.out, decide_eq_true (by simp), Bool.true_and] at CSM
      have CSM := Lib.hid CSM
      have zB3 := zB.below xd
      have z3 := z0.below x3
      obtain ⟨u0, u1, u2, u3⟩ := zB3.cells
      obtain ⟨v0, v1, v2, v3⟩ := zC.cells
      clear hrC
      go_upto_region 5 with (first
        | (go_at_call 25; refine (CSM.out).mono ?_; rintro e w4 ⟨rfl, hb4⟩)
        | (go_at_call 31; refine (awake10_any _).mono ?_; rintro e w5 ⟨rfl, hb5⟩))
      have x4 := bto x3 hb4 x3.size
      have x5 := bto x4 hb5 x4.size
      clear u0 u1 u2 u3 v0 v1 v2 v3 zB zB3 zC CSM
      have z5 := z0.below x5
      obtain ⟨u0, u1, u2, u3⟩ := z5.cells
      have CI := ris_any (cap := cap) (RX.out.below x5) hn HS.out r c s
      cases hf : okF R r c with
      | false =>
        rw [hf] at CI
        have CI := Lib.hid CI
        clear hf
        go_wp2_with fail
        refine (CI.out).mono ?_
        rintro e w6 ⟨rfl, hb6⟩
        have x6 := bto x5 hb6 x5.size
        go_wp2
        go_ret
        exact ⟨rfl, bto b0 x6 b0.size⟩
      | true =>
        obtain ⟨p1, p2, p3, p4, p5, p6, p7, p8, p9⟩ := okF_pos hf
        have hTS := blank_shw (s := s) hf
        have hFB := fit_blank hf
        have hLD := (paintE_len2 (s1 := true) (s2 := s) (al := false) hFB).1
        obtain ⟨M0, hM0⟩ : ∃ M, M = nth [] R 0 := ⟨_, rfl⟩
        have hM0' : R[0]? = some M0 := by rw [hM0, nth_eq _ _ _ (by omega)]; exact List.getElem?_eq_getElem (by omega)
        obtain ⟨w, hw⟩ : ∃ w, w = M0.length := ⟨_, rfl⟩
        rw [← hM0, ← hw, hl] at hTS hFB hLD
        rw [← hM0, ← hw] at p3 p4 p8 p9
        rw [hl] at p1 p2 p6
        obtain ⟨ra, rfl⟩ := Int.eq_ofNat_of_zero_le p5
        obtain ⟨ca, rfl⟩ := Int.eq_ofNat_of_zero_le p7
        rw [hf] at CI
        have CI := Lib.hid CI
        have hbl : (blankM w n).length = n := by unfold blankM; rw [List.length_replicate]
        have CDF := fun (Y : World) (hY : Below X.heap.size X Y) (aa : Option Addr) (cb : Nat) (k : RowsAt Y aa n (blankM w n)) => (by
          have := ddiff_any (c1 := cb) (c2 := cap) k (RX.out.below hY) (by unfold maxLen; omega) hn (blankM_small w n) HS.out 0 0 ra ca true s
          rw [hFB, show errD true = 0 from rfl] at this
          exact this : Calls Tryz.prog 35 #[.agg #[.slice aa n cb, .int .i64 0, .int .i64 0, .bool true], .agg #[.slice a n cap, .int .i64 ra, .int .i64 ca, .bool s]] Y fun e w' => e = .returned (.tuple #[.string (S (paintE (blankM w n) 0 0 true R ra ca s false)), .int .i64 0]) ∧ Below Y.heap.size Y w')
        obtain ⟨dl, hdl⟩ : ∃ l, l = paintE (blankM w n) 0 0 true R ra ca s false := ⟨_, rfl⟩
        simp only [← hdl] at hTS hLD CDF
        obtain ⟨u, hu⟩ : ∃ u, u = runT (TS.new w (n + 2)) scrB := ⟨_, rfl⟩
        obtain ⟨es, hsc⟩ := shw_screen (w := w) (n := n) ⟨p3, p4⟩ ⟨p1, p2⟩
        rw [← hu] at hTS es hsc
        obtain ⟨y1, hy1⟩ : ∃ y, y = runT u.1 dl := ⟨_, rfl⟩
        rw [← hy1] at hTS
        obtain ⟨es1, hsh1⟩ := hTS
        obtain ⟨b, off, a3, c3, rfl, hb, hc0, _, _⟩ := RX.out.at_ 0 M0 hM0'
        rw [Nat.add_zero, ← hw] at hc0
        have CSC := Lib.hid (fun (F : Nat → Prop) (Y : World) (hF : ∀ b, Y.heap.size ≤ b → F b) => (by
          have := rscreen_any (F := F) (W := Y) hF w n ⟨p3, p4⟩ ⟨p1, p2⟩
          rw [← hu] at this
          exact this : Calls Tryz.prog 33 #[.int .i64 w, .int .i64 n] Y (WPost F u Y)))
        have CBL := Lib.hid (fun Y : World => (by
          have := dblank_ok w n ⟨p3, p4, p1, p2⟩ Y
          unfold FrPost2 at this
          rw [hbl] at this
          exact this : Calls Tryz.prog 38 #[.int .i64 w, .int .i64 n] Y fun e w' => ∃ a cap, e = .returned (.tuple #[.agg #[.slice a n cap, .int .i64 0, .int .i64 0, .bool true], .int .i64 0]) ∧ RowsAt w' a n (blankM w n) ∧ (n ≤ cap ∧ cap ≤ maxLen) ∧ Below Y.heap.size Y w'))
        have HNE : Hid (∀ M ∈ blankM w n, M ≠ []) := Lib.hid (fun M hM e => by
          have := (RowsOk.blank w n).w M hM
          rw [e] at this
          simp at this
          omega)
        have HBA : Hid (∀ M ∈ R, M.length = w) := Lib.hid (fun M hM => (p9 M hM).1)
        have CDF := Lib.hid CDF
        have HY1 := Lib.hid hy1
        have HES := Lib.hid es
        have HSC := Lib.hid hsc
        have HS1 := Lib.hid hsh1
        have HE1 := Lib.hid es1
        have h0n : 0 < n := by omega
        have h0i : (0 : Int) < (n : Int) := by omega
        clear hM0 hM0' hw hf hdl hu hy1 es hsc es1 hsh1 p9 p5 p7 hFB
        go_upto_region 7 with (go_at_call 30; refine (CI.out).mono ?_; rintro e w6 ⟨rfl, hb6⟩)
        have x6 := bto x5 hb6 x5.size
        obtain ⟨w7, hw7⟩ : ∃ x, x = w6 := ⟨_, rfl⟩
        rw [← hw7] at x6 ⊢
        clear hw7 hb6 u0 u1 u2 u3 CI z5 z3
        have z5 := z0.below x6
        have r5 := (x6.cell (p := ⟨b, _, none⟩) hb).trans hc0
        have hb5 : b < w7.heap.size := Nat.lt_of_lt_of_le hb x6.size
        go_cut [11, 12] (fun v x wx => x = .int .i64 0 ∧ ∃ (k : Nat) (aa : Option Addr) (cb : Nat), v = .pointer (some ⟨k, 0, none⟩) ∧ FBI wx k (.slice aa n cb) 0 0 true ∧ RowsAt wx aa n (blankM w n) ∧ Below w7.heap.size w7 wx ∧ w7.heap.size ≤ k)
        case first =>
          refine wp_region_tree (fun _ y y' => Below w7.heap.size y y') (by kernel_rfl) ?_
          simp only [List.size_toArray, List.length_cons, List.length_nil, Nat.reduceAdd]
          obtain ⟨q, hq⟩ : ∃ q, w7.drew = q := ⟨_, rfl⟩
          rw [hq]
          have hBq : Below w7.heap.size w7 q := by rw [← hq]; exact (Below.refl _ _).drew
          clear hq
          refine' wpAnyY_read 0 (fun Y => Below w7.heap.size w7 Y) [] (v := _) (by kernel_rfl) (fun _ _ d _ _ h => by cases d <;> exact h) (by kernel_rfl) rfl (fun j y y' hj h hs => hs.trans h) (fun _ => Below.refl _ _) hBq rfl ?_ ?_
          rotate_left 1
          · intro w' hw'; obtain ⟨g0, g1, g2, g3⟩ := (z5.below hw').cells; have gr := (hw'.cell (p := ⟨b, _, none⟩) hb5).trans r5; go_simp; try with_reducible rfl
          try simp only [Act.put, List.setIfInBounds_toArray, List.set_cons_zero, List.set_cons_succ]
          refine' wpAnyY_read 1 (fun Y => Below w7.heap.size w7 Y) [] (v := _) (by kernel_rfl) (fun _ _ d _ _ h => by cases d <;> exact h) (by kernel_rfl) rfl (fun j y y' hj h hs => hs.trans h) (fun _ => Below.refl _ _) hBq rfl ?_ ?_
          rotate_left 1
          · intro w' hw'; obtain ⟨g0, g1, g2, g3⟩ := (z5.below hw').cells; have gr := (hw'.cell (p := ⟨b, _, none⟩) hb5).trans r5; go_simp; try with_reducible rfl
          try simp only [Act.put, List.setIfInBounds_toArray, List.set_cons_zero, List.set_cons_succ]
          refine' wpAnyY_read 2 (fun Y => Below w7.heap.size w7 Y) [] (v := _) (by kernel_rfl) (fun _ _ d _ _ h => by cases d <;> exact h) (by kernel_rfl) rfl (fun j y y' hj h hs => hs.trans h) (fun _ => Below.refl _ _) hBq rfl ?_ ?_
          rotate_left 1
          · intro w' hw'; obtain ⟨g0, g1, g2, g3⟩ := (z5.below hw').cells; have gr := (hw'.cell (p := ⟨b, _, none⟩) hb5).trans r5; go_simp; try with_reducible rfl
          try simp only [Act.put, List.setIfInBounds_toArray, List.set_cons_zero, List.set_cons_succ]
          refine' wpAnyY_read 3 (fun Y => Below w7.heap.size w7 Y) [] (v := _) (by kernel_rfl) (fun _ _ d _ _ h => by cases d <;> exact h) (by kernel_rfl) rfl (fun j y y' hj h hs => hs.trans h) (fun _ => Below.refl _ _) hBq rfl ?_ ?_
          rotate_left 1
          · intro w' hw'; obtain ⟨g0, g1, g2, g3⟩ := (z5.below hw').cells; have gr := (hw'.cell (p := ⟨b, _, none⟩) hb5).trans r5; go_simp; try with_reducible rfl
          try simp only [Act.put, List.setIfInBounds_toArray, List.set_cons_zero, List.set_cons_succ]
          refine' wpAnyY_read 4 (fun Y => Below w7.heap.size w7 Y) [] (v := _) (by kernel_rfl) (fun _ _ d _ _ h => by cases d <;> exact h) (by kernel_rfl) rfl (fun j y y' hj h hs => hs.trans h) (fun _ => Below.refl _ _) hBq rfl ?_ ?_
          rotate_left 1
          · intro w' hw'; obtain ⟨g0, g1, g2, g3⟩ := (z5.below hw').cells; have gr := (hw'.cell (p := ⟨b, _, none⟩) hb5).trans r5; go_simp; try with_reducible rfl
          try simp only [Act.put, List.setIfInBounds_toArray, List.set_cons_zero, List.set_cons_succ]
          refine' wpAnyY_read 5 (fun Y => Below w7.heap.size w7 Y) [] (v := _) (by kernel_rfl) (fun _ _ d _ _ h => by cases d <;> exact h) (by kernel_rfl) rfl (fun j y y' hj h hs => hs.trans h) (fun _ => Below.refl _ _) hBq rfl ?_ ?_
          rotate_left 1
          · intro w' hw'; obtain ⟨g0, g1, g2, g3⟩ := (z5.below hw').cells; have gr := (hw'.cell (p := ⟨b, _, none⟩) hb5).trans r5; go_simp; try with_reducible rfl
          try simp only [Act.put, List.setIfInBounds_toArray, List.set_cons_zero, List.set_cons_succ]
          refine' wpAnyY_read 6 (fun Y => Below w7.heap.size w7 Y) [] (v := _) (by kernel_rfl) (fun _ _ d _ _ h => by cases d <;> exact h) (by kernel_rfl) rfl (fun j y y' hj h hs => hs.trans h) (fun _ => Below.refl _ _) hBq rfl ?_ ?_
          rotate_left 1
          · intro w' hw'; obtain ⟨g0, g1, g2, g3⟩ := (z5.below hw').cells; have gr := (hw'.cell (p := ⟨b, _, none⟩) hb5).trans r5; go_simp; try with_reducible rfl
          try simp only [Act.put, List.setIfInBounds_toArray, List.set_cons_zero, List.set_cons_succ]
          refine' wpAnyY_read 7 (fun Y => Below w7.heap.size w7 Y) [] (v := _) (by kernel_rfl) (fun _ _ d _ _ h => by cases d <;> exact h) (by kernel_rfl) rfl (fun j y y' hj h hs => hs.trans h) (fun _ => Below.refl _ _) hBq rfl ?_ ?_
          rotate_left 1
          · intro w' hw'; obtain ⟨g0, g1, g2, g3⟩ := (z5.below hw').cells; have gr := (hw'.cell (p := ⟨b, _, none⟩) hb5).trans r5; go_simp; try with_reducible rfl
          try simp only [Act.put, List.setIfInBounds_toArray, List.set_cons_zero, List.set_cons_succ]
          refine wpAnyY_two (i := 8) (j := 12) (by kernel_rfl) rfl rfl (fun K hK => ?_) (fun K hK => ?_)
          · skip
            simp only [List.getElem_toArray, List.getElem_cons_succ, List.getElem_cons_zero]
            go_wp2_with fail
            refine (CBL.out q).mono ?_
            rintro e qA ⟨aa, cb, rfl, hRb, hcb, hbqA⟩
            go_wp2
            have hBqA : Below w7.heap.size w7 qA := hBq.trans (hbqA.mono hBq.size)
            refine hK _ _ (hbqA.mono hBq.size) ?_
            clear hK K
            refine' wpAnyY_read 9 (fun Y => Below w7.heap.size w7 Y) [] (v := _) (by kernel_rfl) (fun _ _ d _ _ h => by cases d <;> exact h) (by kernel_rfl) rfl (fun j y y' hj h hs => hs.trans h) (fun _ => Below.refl _ _) hBqA rfl ?_ ?_
            rotate_left 1
            · intro w' hw'; obtain ⟨g0, g1, g2, g3⟩ := (z5.below hw').cells; have gr := (hw'.cell (p := ⟨b, _, none⟩) hb5).trans r5; go_simp; try with_reducible rfl
            try simp only [Act.put, List.setIfInBounds_toArray, List.set_cons_zero, List.set_cons_succ]
            refine' wpAnyY_read 10 (fun Y => Below w7.heap.size w7 Y) [] (v := _) (by kernel_rfl) (fun _ _ d _ _ h => by cases d <;> exact h) (by kernel_rfl) rfl (fun j y y' hj h hs => hs.trans h) (fun _ => Below.refl _ _) hBqA rfl ?_ ?_
            rotate_left 1
            · intro w' hw'; obtain ⟨g0, g1, g2, g3⟩ := (z5.below hw').cells; have gr := (hw'.cell (p := ⟨b, _, none⟩) hb5).trans r5; go_simp; try with_reducible rfl
            try simp only [Act.put, List.setIfInBounds_toArray, List.set_cons_zero, List.set_cons_succ]
            refine' wpAnyY_read 11 (fun Y => Below w7.heap.size w7 Y) [] (v := _) (by kernel_rfl) (fun _ _ d _ _ h => by cases d <;> exact h) (by kernel_rfl) rfl (fun j y y' hj h hs => hs.trans h) (fun _ => Below.refl _ _) hBqA rfl ?_ ?_
            rotate_left 1
            · intro w' hw'; obtain ⟨g0, g1, g2, g3⟩ := (z5.below hw').cells; have gr := (hw'.cell (p := ⟨b, _, none⟩) hb5).trans r5; go_simp; try with_reducible rfl
            try simp only [Act.put, List.setIfInBounds_toArray, List.set_cons_zero, List.set_cons_succ]
            refine wpAnyY_one (i := 12) (by kernel_rfl) rfl (fun K hK => ?_)
            simp only [List.getElem_toArray, List.getElem_cons_succ, List.getElem_cons_zero]
            have zN : FBI (qA.alloc (.cells #[.slice none 0 0, .int .i64 0, .int .i64 0, .bool false] 52)) qA.heap.size (.slice none 0 0) 0 0 false := World.alloc_heap_new qA _
            have hbqD : Below qA.heap.size qA (qA.alloc (.cells #[.slice none 0 0, .int .i64 0, .int .i64 0, .bool false] 52)) := (Below.refl _ _).alloc (Nat.le_refl _) _
            obtain ⟨qD, hV⟩ : ∃ V, qA.alloc (.cells #[.slice none 0 0, .int .i64 0, .int .i64 0, .bool false] 52) = V := ⟨_, rfl⟩
            rw [hV] at zN hbqD
            have HV := Lib.hid hV
            clear hV
            go_wp2
            rw [HV.out]
            obtain ⟨kD, hkD⟩ : ∃ k, k = qA.heap.size := ⟨_, rfl⟩
            rw [← hkD] at zN ⊢
            have hBqD : Below w7.heap.size w7 qD := hBqA.trans (hbqD.mono hBqA.size)
            have hkB : w7.heap.size ≤ kD := by rw [hkD]; exact hBqA.size
            refine hK _ _ (hbqD.mono hBqA.size) ?_
            clear hK K HV hkD
            have hRb := hRb.below hbqD
            refine wpAnyY_one (i := 13) (by kernel_rfl) rfl (fun K hK => ?_)
            simp only [List.getElem_toArray, List.getElem_cons_succ, List.getElem_cons_zero]
            obtain ⟨u0, u1, u2, u3⟩ := zN.cells
            have f0 := zN.froz 0
            have f1 := zN.froz 1
            have f2 := zN.froz 2
            have f3 := zN.froz 3
            obtain ⟨qE, hY⟩ : ∃ Y, (((qD.setCell ⟨kD, 0, none⟩ (.slice aa n cb)).setCell ⟨kD, 1, none⟩ (.int .i64 0)).setCell ⟨kD, 2, none⟩ (.int .i64 0)).setCell ⟨kD, 3, none⟩ (.bool true) = Y := ⟨_, rfl⟩
            obtain ⟨zY, oY⟩ := zN.fill (.slice aa n cb) 0 0 true qE hY
            have HY := Lib.hid hY
            have hVY : Below w7.heap.size qD qE := oY.below (by simp; exact hkB) hBqD.size
            have hBqE : Below w7.heap.size w7 qE := hBqD.trans hVY
            have hRY := hRb.box zN oY HNE.out
            clear hY zN oY
            go_wp2
            rw [HY.out]
            refine hK _ _ hVY ?_
            clear hK K HY
            refine' wpAnyY_read 14 (fun Y => Below w7.heap.size w7 Y) [] (v := _) (by kernel_rfl) (fun _ _ d _ _ h => by cases d <;> exact h) (by kernel_rfl) rfl (fun j y y' hj h hs => hs.trans h) (fun _ => Below.refl _ _) hBqE rfl ?_ ?_
            rotate_left 1
            · intro w' hw'; obtain ⟨g0, g1, g2, g3⟩ := (z5.below hw').cells; have gr := (hw'.cell (p := ⟨b, _, none⟩) hb5).trans r5; go_simp; try with_reducible rfl
            try simp only [Act.put, List.setIfInBounds_toArray, List.set_cons_zero, List.set_cons_succ]
            refine wpAnyY_end (by kernel_rfl) ?_
            simp only [List.getElem_toArray, List.getElem_cons_succ, List.getElem_cons_zero]
            try simp only [Act.put, List.setIfInBounds_toArray, List.set_cons_zero, List.set_cons_succ]
            go_wp2
            go_meet
            exact ⟨rfl, kD, aa, cb, rfl, zY, hRY, hBqE, hkB⟩
          · skip
            simp only [List.getElem_toArray, List.getElem_cons_succ, List.getElem_cons_zero]
            have zN : FBI (q.alloc (.cells #[.slice none 0 0, .int .i64 0, .int .i64 0, .bool false] 52)) q.heap.size (.slice none 0 0) 0 0 false := World.alloc_heap_new q _
            have hbqD : Below q.heap.size q (q.alloc (.cells #[.slice none 0 0, .int .i64 0, .int .i64 0, .bool false] 52)) := (Below.refl _ _).alloc (Nat.le_refl _) _
            obtain ⟨qD, hV⟩ : ∃ V, q.alloc (.cells #[.slice none 0 0, .int .i64 0, .int .i64 0, .bool false] 52) = V := ⟨_, rfl⟩
            rw [hV] at zN hbqD
            have HV := Lib.hid hV
            clear hV
            go_wp2
            rw [HV.out]
            obtain ⟨kD, hkD⟩ : ∃ k, k = q.heap.size := ⟨_, rfl⟩
            rw [← hkD] at zN ⊢
            have hBqD : Below w7.heap.size w7 qD := hBq.trans (hbqD.mono hBq.size)
            have hkB : w7.heap.size ≤ kD := by rw [hkD]; exact hBq.size
            refine hK _ _ (hbqD.mono hBq.size) ?_
            clear hK K HV hkD
            refine wpAnyY_one (i := 8) (by kernel_rfl) rfl (fun K hK => ?_)
            simp only [List.getElem_toArray, List.getElem_cons_succ, List.getElem_cons_zero]
            go_wp2_with fail
            refine (CBL.out qD).mono ?_
            rintro e qA ⟨aa, cb, rfl, hRb, hcb, hbqA⟩
            go_wp2
            have hBqA : Below w7.heap.size w7 qA := hBqD.trans (hbqA.mono hBqD.size)
            refine hK _ _ (hbqA.mono hBqD.size) ?_
            clear hK K
            have zN := zN.below hbqA
            refine' wpAnyY_read 9 (fun Y => Below w7.heap.size w7 Y) [] (v := _) (by kernel_rfl) (fun _ _ d _ _ h => by cases d <;> exact h) (by kernel_rfl) rfl (fun j y y' hj h hs => hs.trans h) (fun _ => Below.refl _ _) hBqA rfl ?_ ?_
            rotate_left 1
            · intro w' hw'; obtain ⟨g0, g1, g2, g3⟩ := (z5.below hw').cells; have gr := (hw'.cell (p := ⟨b, _, none⟩) hb5).trans r5; go_simp; try with_reducible rfl
            try simp only [Act.put, List.setIfInBounds_toArray, List.set_cons_zero, List.set_cons_succ]
            refine' wpAnyY_read 10 (fun Y => Below w7.heap.size w7 Y) [] (v := _) (by kernel_rfl) (fun _ _ d _ _ h => by cases d <;> exact h) (by kernel_rfl) rfl (fun j y y' hj h hs => hs.trans h) (fun _ => Below.refl _ _) hBqA rfl ?_ ?_
            rotate_left 1
            · intro w' hw'; obtain ⟨g0, g1, g2, g3⟩ := (z5.below hw').cells; have gr := (hw'.cell (p := ⟨b, _, none⟩) hb5).trans r5; go_simp; try with_reducible rfl
            try simp only [Act.put, List.setIfInBounds_toArray, List.set_cons_zero, List.set_cons_succ]
            refine' wpAnyY_read 11 (fun Y => Below w7.heap.size w7 Y) [] (v := _) (by kernel_rfl) (fun _ _ d _ _ h => by cases d <;> exact h) (by kernel_rfl) rfl (fun j y y' hj h hs => hs.trans h) (fun _ => Below.refl _ _) hBqA rfl ?_ ?_
            rotate_left 1
            · intro w' hw'; obtain ⟨g0, g1, g2, g3⟩ := (z5.below hw').cells; have gr := (hw'.cell (p := ⟨b, _, none⟩) hb5).trans r5; go_simp; try with_reducible rfl
            try simp only [Act.put, List.setIfInBounds_toArray, List.set_cons_zero, List.set_cons_succ]
            refine wpAnyY_one (i := 13) (by kernel_rfl) rfl (fun K hK => ?_)
            simp only [List.getElem_toArray, List.getElem_cons_succ, List.getElem_cons_zero]
            obtain ⟨u0, u1, u2, u3⟩ := zN.cells
            have f0 := zN.froz 0
            have f1 := zN.froz 1
            have f2 := zN.froz 2
            have f3 := zN.froz 3
            obtain ⟨qE, hY⟩ : ∃ Y, (((qA.setCell ⟨kD, 0, none⟩ (.slice aa n cb)).setCell ⟨kD, 1, none⟩ (.int .i64 0)).setCell ⟨kD, 2, none⟩ (.int .i64 0)).setCell ⟨kD, 3, none⟩ (.bool true) = Y := ⟨_, rfl⟩
            obtain ⟨zY, oY⟩ := zN.fill (.slice aa n cb) 0 0 true qE hY
            have HY := Lib.hid hY
            have hVY : Below w7.heap.size qA qE := oY.below (by simp; exact hkB) hBqA.size
            have hBqE : Below w7.heap.size w7 qE := hBqA.trans hVY
            have hRY := hRb.box zN oY HNE.out
            clear hY zN oY
            go_wp2
            rw [HY.out]
            refine hK _ _ hVY ?_
            clear hK K HY
            refine' wpAnyY_read 14 (fun Y => Below w7.heap.size w7 Y) [] (v := _) (by kernel_rfl) (fun _ _ d _ _ h => by cases d <;> exact h) (by kernel_rfl) rfl (fun j y y' hj h hs => hs.trans h) (fun _ => Below.refl _ _) hBqE rfl ?_ ?_
            rotate_left 1
            · intro w' hw'; obtain ⟨g0, g1, g2, g3⟩ := (z5.below hw').cells; have gr := (hw'.cell (p := ⟨b, _, none⟩) hb5).trans r5; go_simp; try with_reducible rfl
            try simp only [Act.put, List.setIfInBounds_toArray, List.set_cons_zero, List.set_cons_succ]
            refine wpAnyY_end (by kernel_rfl) ?_
            simp only [List.getElem_toArray, List.getElem_cons_succ, List.getElem_cons_zero]
            try simp only [Act.put, List.setIfInBounds_toArray, List.set_cons_zero, List.set_cons_succ]
            go_wp2
            go_meet
            exact ⟨rfl, kD, aa, cb, rfl, zY, hRY, hBqE, hkB⟩
        case rest =>
          obtain ⟨rfl, kB, aa, cb, rfl, zX, hrX, xX, hkX⟩ := hcut
          obtain ⟨w8, hw8⟩ : ∃ x, x = wc := ⟨_, rfl⟩
          subst hw8
          have x8 := bto x6 xX x6.size
          have CD8 := Lib.hid (CDF.out w8 x8 aa cb hrX)
          obtain ⟨u0, u1, u2, u3⟩ := zX.cells
          obtain ⟨v0, v1, v2, v3⟩ := (z0.below x8).cells
          go_upto_region 9 with (go_at_call 35; refine (CD8.out).mono ?_; rintro e w9 ⟨rfl, hb9⟩)
          have x9 := bto x8 hb9 x8.size
          have z7 := z0.below x9
          have r7 := (x9.cell (p := ⟨b, _, none⟩) hb).trans hc0
          have hb7 : b < w9.heap.size := Nat.lt_of_lt_of_le hb x9.size
          clear u0 u1 u2 u3 v0 v1 v2 v3 CD8
          go_cut [15] (fun v wx => ∃ (k : Nat) (a4 : Option Addr) (c4 : Nat) (bv4 : Value), v = .pointer (some ⟨k, 0, none⟩) ∧ TBx wx k (tCells a4 c4 y1.1 bv4) ∧ RG (fun _ => True) wx a4 c4 y1.1.W y1.1.H y1.1.R ∧ HB (fun _ => True) wx bv4 [] ∧ Below w9.heap.size w9 wx)
          case first =>
            refine wp_region_tree (fun _ y y' => Below w9.heap.size y y') (by kernel_rfl) ?_
            simp only [List.size_toArray, List.length_cons, List.length_nil, Nat.reduceAdd]
            obtain ⟨q, hq⟩ : ∃ q, w9.drew = q := ⟨_, rfl⟩
            rw [hq]
            have hBq : Below w9.heap.size w9 q := by rw [← hq]; exact (Below.refl _ _).drew
            clear hq
            refine' wpAnyY_read 0 (fun Y => Below w9.heap.size w9 Y) [] (v := _) (by kernel_rfl) (fun _ _ d _ _ h => by cases d <;> exact h) (by kernel_rfl) rfl (fun j y y' hj h hs => hs.trans h) (fun _ => Below.refl _ _) hBq rfl ?_ ?_
            rotate_left 1
            · intro w' hw'; obtain ⟨g0, g1, g2, g3⟩ := (z7.below hw').cells; have gr := (hw'.cell (p := ⟨b, _, none⟩) hb7).trans r7; go_simp; try with_reducible rfl
            try simp only [Act.put, List.setIfInBounds_toArray, List.set_cons_zero, List.set_cons_succ]
            refine' wpAnyY_read 1 (fun Y => Below w9.heap.size w9 Y) [] (v := _) (by kernel_rfl) (fun _ _ d _ _ h => by cases d <;> exact h) (by kernel_rfl) rfl (fun j y y' hj h hs => hs.trans h) (fun _ => Below.refl _ _) hBq rfl ?_ ?_
            rotate_left 1
            · intro w' hw'; obtain ⟨g0, g1, g2, g3⟩ := (z7.below hw').cells; have gr := (hw'.cell (p := ⟨b, _, none⟩) hb7).trans r7; go_simp; try with_reducible rfl
            try simp only [Act.put, List.setIfInBounds_toArray, List.set_cons_zero, List.set_cons_succ]
            refine' wpAnyY_read 2 (fun Y => Below w9.heap.size w9 Y) [] (v := _) (by kernel_rfl) (fun _ _ d _ _ h => by cases d <;> exact h) (by kernel_rfl) rfl (fun j y y' hj h hs => hs.trans h) (fun _ => Below.refl _ _) hBq rfl ?_ ?_
            rotate_left 1
            · intro w' hw'; obtain ⟨g0, g1, g2, g3⟩ := (z7.below hw').cells; have gr := (hw'.cell (p := ⟨b, _, none⟩) hb7).trans r7; go_simp; try with_reducible rfl
            try simp only [Act.put, List.setIfInBounds_toArray, List.set_cons_zero, List.set_cons_succ]
            refine' wpAnyY_read 3 (fun Y => Below w9.heap.size w9 Y) [] (v := _) (by kernel_rfl) (fun _ _ d _ _ h => by cases d <;> exact h) (by kernel_rfl) rfl (fun j y y' hj h hs => hs.trans h) (fun _ => Below.refl _ _) hBq rfl ?_ ?_
            rotate_left 1
            · intro w' hw'; obtain ⟨g0, g1, g2, g3⟩ := (z7.below hw').cells; have gr := (hw'.cell (p := ⟨b, _, none⟩) hb7).trans r7; go_simp; try with_reducible rfl
            try simp only [Act.put, List.setIfInBounds_toArray, List.set_cons_zero, List.set_cons_succ]
            refine' wpAnyY_read 4 (fun Y => Below w9.heap.size w9 Y) [] (v := _) (by kernel_rfl) (fun _ _ d _ _ h => by cases d <;> exact h) (by kernel_rfl) rfl (fun j y y' hj h hs => hs.trans h) (fun _ => Below.refl _ _) hBq rfl ?_ ?_
            rotate_left 1
            · intro w' hw'; obtain ⟨g0, g1, g2, g3⟩ := (z7.below hw').cells; have gr := (hw'.cell (p := ⟨b, _, none⟩) hb7).trans r7; go_simp; try with_reducible rfl
            try simp only [Act.put, List.setIfInBounds_toArray, List.set_cons_zero, List.set_cons_succ]
            refine' wpAnyY_read 5 (fun Y => Below w9.heap.size w9 Y) [] (v := _) (by kernel_rfl) (fun _ _ d _ _ h => by cases d <;> exact h) (by kernel_rfl) rfl (fun j y y' hj h hs => hs.trans h) (fun _ => Below.refl _ _) hBq rfl ?_ ?_
            rotate_left 1
            · intro w' hw'; obtain ⟨g0, g1, g2, g3⟩ := (z7.below hw').cells; have gr := (hw'.cell (p := ⟨b, _, none⟩) hb7).trans r7; go_simp; try with_reducible rfl
            try simp only [Act.put, List.setIfInBounds_toArray, List.set_cons_zero, List.set_cons_succ]
            refine' wpAnyY_read 6 (fun Y => Below w9.heap.size w9 Y) [] (v := _) (by kernel_rfl) (fun _ _ d _ _ h => by cases d <;> exact h) (by kernel_rfl) rfl (fun j y y' hj h hs => hs.trans h) (fun _ => Below.refl _ _) hBq rfl ?_ ?_
            rotate_left 1
            · intro w' hw'; obtain ⟨g0, g1, g2, g3⟩ := (z7.below hw').cells; have gr := (hw'.cell (p := ⟨b, _, none⟩) hb7).trans r7; go_simp; try with_reducible rfl
            try simp only [Act.put, List.setIfInBounds_toArray, List.set_cons_zero, List.set_cons_succ]
            refine' wpAnyY_read 7 (fun Y => Below w9.heap.size w9 Y) [] (v := _) (by kernel_rfl) (fun _ _ d _ _ h => by cases d <;> exact h) (by kernel_rfl) rfl (fun j y y' hj h hs => hs.trans h) (fun _ => Below.refl _ _) hBq rfl ?_ ?_
            rotate_left 1
            · intro w' hw'; obtain ⟨g0, g1, g2, g3⟩ := (z7.below hw').cells; have gr := (hw'.cell (p := ⟨b, _, none⟩) hb7).trans r7; go_simp; try with_reducible rfl
            try simp only [Act.put, List.setIfInBounds_toArray, List.set_cons_zero, List.set_cons_succ]
            refine' wpAnyY_read 9 (fun Y => Below w9.heap.size w9 Y) [] (v := _) (by kernel_rfl) (fun _ _ d _ _ h => by cases d <;> exact h) (by kernel_rfl) rfl (fun j y y' hj h hs => hs.trans h) (fun _ => Below.refl _ _) hBq rfl ?_ ?_
            rotate_left 1
            · intro w' hw'; obtain ⟨g0, g1, g2, g3⟩ := (z7.below hw').cells; have gr := (hw'.cell (p := ⟨b, _, none⟩) hb7).trans r7; go_simp; try with_reducible rfl
            try simp only [Act.put, List.setIfInBounds_toArray, List.set_cons_zero, List.set_cons_succ]
            refine wpAnyY_three (i := 8) (j := 10) (k := 12) (by kernel_rfl) rfl rfl rfl (fun K hK => ?_) (fun K hK => ?_) (fun K hK => ?_)
            · skip
              simp only [List.getElem_toArray, List.getElem_cons_succ, List.getElem_cons_zero]
              go_wp2_with fail
              refine (CSC.out (fun _ => True) q (fun _ _ => trivial)).mono ?_
              rintro e qA ⟨aS, cS, bS, rfl, gS, hvS, hbqA⟩
              rw [HES.out] at hvS
              go_wp2
              have hBqA : Below w9.heap.size w9 qA := hBq.trans (hbqA.mono hBq.size)
              refine hK _ _ (hbqA.mono hBq.size) ?_
              clear hK K
              refine wpAnyY_two (i := 10) (j := 12) (by kernel_rfl) rfl rfl (fun K hK => ?_) (fun K hK => ?_)
              · skip
                simp only [List.getElem_toArray, List.getElem_cons_succ, List.getElem_cons_zero]
                obtain ⟨kB, qAB, hcvB, hbqAB, hha⟩ := bytes_conv2 qA dl (by unfold maxLen; omega)
                go_wp2
                have hBqAB : Below w9.heap.size w9 qAB := hBqA.trans (hbqAB.mono hBqA.size)
                refine hK _ _ (hbqAB.mono hBqA.size) ?_
                clear hK K hcvB
                have gS := gS.below hbqAB
                have hvS := hvS.below hbqAB
                refine wpAnyY_two (i := 11) (j := 12) (by kernel_rfl) rfl rfl (fun K hK => ?_) (fun K hK => ?_)
                · skip
                  simp only [List.getElem_toArray, List.getElem_cons_succ, List.getElem_cons_zero]
                  have CW1 := rwrite_any (F := (fun _ => True)) (fun _ _ => trivial) (l := []) hvS hha HSC.out.k (by simp; omega) (by rw [HSC.out.gone]; omega) (by rw [HSC.out.bells]; omega) gS
                  rw [List.nil_append, ← HY1.out] at CW1
                  have CW1 := Lib.hid CW1
                  go_wp2_with fail
                  refine (CW1.out).mono ?_
                  rintro e qABC ⟨a4, c4, bv4, rfl, g4, hv4, hbqABC⟩
                  rw [HE1.out] at hv4
                  go_wp2
                  have hBqABC : Below w9.heap.size w9 qABC := hBqAB.trans (hbqABC.mono hBqAB.size)
                  refine hK _ _ (hbqABC.mono hBqAB.size) ?_
                  clear hK K CW1
                  refine wpAnyY_one (i := 12) (by kernel_rfl) rfl (fun K hK => ?_)
                  simp only [List.getElem_toArray, List.getElem_cons_succ, List.getElem_cons_zero]
                  have pn : TBx (qABC.alloc (.cells zCells 63)) qABC.heap.size zCells := TBx.new _ _
                  have hbqABCD : Below qABC.heap.size qABC (qABC.alloc (.cells zCells 63)) := (Below.refl _ _).alloc (Nat.le_refl _) _
                  obtain ⟨qABCD, hV⟩ : ∃ V, qABC.alloc (.cells zCells 63) = V := ⟨_, rfl⟩
                  rw [hV] at pn hbqABCD
                  have HV := Lib.hid hV
                  clear hV
                  go_wp2
                  rw [show qABC.alloc (.cells #[.int .i64 0, .int .i64 0, .slice none 0 0, .int .i64 0, .int .i64 0, .bool false, .bool false, .bool false, .int .i64 0, .int .i64 0, .bool false, .bool false, .bool false, .int .i64 0, .int .i64 0, .slice none 0 0, .bool false, .int .i64 0, .int .i64 0] 63) = qABCD from HV.out]
                  obtain ⟨kD, hkD⟩ : ∃ k, k = qABC.heap.size := ⟨_, rfl⟩
                  rw [← hkD] at pn ⊢
                  have hBqABCD : Below w9.heap.size w9 qABCD := hBqABC.trans (hbqABCD.mono hBqABC.size)
                  have hkB : w9.heap.size ≤ kD := by rw [hkD]; exact hBqABC.size
                  refine hK _ _ (hbqABCD.mono hBqABC.size) ?_
                  clear hK K HV
                  have g4 := (g4.mono (F' := fun b => b ≠ kD) (fun b _ h => by omega)).below hbqABCD
                  have hv4 := (hv4.mono (F' := fun b => b ≠ kD) (fun b _ h => by omega)).below hbqABCD
                  clear hkD
                  refine wpAnyY_one (i := 13) (by kernel_rfl) rfl (fun K hK => ?_)
                  simp only [List.getElem_toArray, List.getElem_cons_succ, List.getElem_cons_zero]
                  refine wpList_tstore rfl _ _ rfl kD rfl (tCells a4 c4 y1.1 bv4) rfl zCells pn rfl rfl (tCells_one _ _ _ hv4.one) ?_
                  intro qABCDE p5 o5
                  have g4 := g4.keep o5.size (fun b hF hlt => o5.block b hlt (by simpa using hF))
                  have hv4 := hv4.keep o5.size (fun b hF hlt => o5.block b hlt (by simpa using hF))
                  have hb5 : Below w9.heap.size qABCD qABCDE := o5.below (by simp; exact hkB) hBqABCD.size
                  have hBqABCDE : Below w9.heap.size w9 qABCDE := hBqABCD.trans hb5
                  go_wp2
                  refine hK _ _ hb5 ?_
                  clear hK K
                  refine wpAnyY_end (by kernel_rfl) ?_
                  go_wp2
                  go_meet
                  exact ⟨kD, a4, c4, bv4, rfl, p5, g4.mono (fun _ _ _ => trivial), hv4.mono (fun _ _ _ => trivial), hBqABCDE⟩
                · skip
                  simp only [List.getElem_toArray, List.getElem_cons_succ, List.getElem_cons_zero]
                  have pn : TBx (qAB.alloc (.cells zCells 63)) qAB.heap.size zCells := TBx.new _ _
                  have hbqABD : Below qAB.heap.size qAB (qAB.alloc (.cells zCells 63)) := (Below.refl _ _).alloc (Nat.le_refl _) _
                  obtain ⟨qABD, hV⟩ : ∃ V, qAB.alloc (.cells zCells 63) = V := ⟨_, rfl⟩
                  rw [hV] at pn hbqABD
                  have HV := Lib.hid hV
                  clear hV
                  go_wp2
                  rw [show qAB.alloc (.cells #[.int .i64 0, .int .i64 0, .slice none 0 0, .int .i64 0, .int .i64 0, .bool false, .bool false, .bool false, .int .i64 0, .int .i64 0, .bool false, .bool false, .bool false, .int .i64 0, .int .i64 0, .slice none 0 0, .bool false, .int .i64 0, .int .i64 0] 63) = qABD from HV.out]
                  obtain ⟨kD, hkD⟩ : ∃ k, k = qAB.heap.size := ⟨_, rfl⟩
                  rw [← hkD] at pn ⊢
                  have hBqABD : Below w9.heap.size w9 qABD := hBqAB.trans (hbqABD.mono hBqAB.size)
                  have hkB : w9.heap.size ≤ kD := by rw [hkD]; exact hBqAB.size
                  refine hK _ _ (hbqABD.mono hBqAB.size) ?_
                  clear hK K HV
                  have gS := (gS.mono (F' := fun b => b ≠ kD) (fun b _ h => by omega)).below hbqABD
                  have hvS := (hvS.mono (F' := fun b => b ≠ kD) (fun b _ h => by omega)).below hbqABD
                  have hha := hha.below hbqABD
                  clear hkD
                  refine wpAnyY_one (i := 11) (by kernel_rfl) rfl (fun K hK => ?_)
                  simp only [List.getElem_toArray, List.getElem_cons_succ, List.getElem_cons_zero]
                  have CW1 := rwrite_any (F := (fun b => b ≠ kD)) (fun b hb => by have := pn.lt; omega) (l := []) hvS hha HSC.out.k (by simp; omega) (by rw [HSC.out.gone]; omega) (by rw [HSC.out.bells]; omega) gS
                  rw [List.nil_append, ← HY1.out] at CW1
                  have CW1 := Lib.hid CW1
                  go_wp2_with fail
                  refine (CW1.out).mono ?_
                  rintro e qABDC ⟨a4, c4, bv4, rfl, g4, hv4, hbqABDC⟩
                  rw [HE1.out] at hv4
                  go_wp2
                  have hBqABDC : Below w9.heap.size w9 qABDC := hBqABD.trans (hbqABDC.mono hBqABD.size)
                  refine hK _ _ (hbqABDC.mono hBqABD.size) ?_
                  clear hK K CW1
                  have pn := pn.below hbqABDC
                  refine wpAnyY_one (i := 13) (by kernel_rfl) rfl (fun K hK => ?_)
                  simp only [List.getElem_toArray, List.getElem_cons_succ, List.getElem_cons_zero]
                  refine wpList_tstore rfl _ _ rfl kD rfl (tCells a4 c4 y1.1 bv4) rfl zCells pn rfl rfl (tCells_one _ _ _ hv4.one) ?_
                  intro qABDCE p5 o5
                  have g4 := g4.keep o5.size (fun b hF hlt => o5.block b hlt (by simpa using hF))
                  have hv4 := hv4.keep o5.size (fun b hF hlt => o5.block b hlt (by simpa using hF))
                  have hb5 : Below w9.heap.size qABDC qABDCE := o5.below (by simp; exact hkB) hBqABDC.size
                  have hBqABDCE : Below w9.heap.size w9 qABDCE := hBqABDC.trans hb5
                  go_wp2
                  refine hK _ _ hb5 ?_
                  clear hK K
                  refine wpAnyY_end (by kernel_rfl) ?_
                  go_wp2
                  go_meet
                  exact ⟨kD, a4, c4, bv4, rfl, p5, g4.mono (fun _ _ _ => trivial), hv4.mono (fun _ _ _ => trivial), hBqABDCE⟩
              · skip
                simp only [List.getElem_toArray, List.getElem_cons_succ, List.getElem_cons_zero]
                have pn : TBx (qA.alloc (.cells zCells 63)) qA.heap.size zCells := TBx.new _ _
                have hbqAD : Below qA.heap.size qA (qA.alloc (.cells zCells 63)) := (Below.refl _ _).alloc (Nat.le_refl _) _
                obtain ⟨qAD, hV⟩ : ∃ V, qA.alloc (.cells zCells 63) = V := ⟨_, rfl⟩
                rw [hV] at pn hbqAD
                have HV := Lib.hid hV
                clear hV
                go_wp2
                rw [show qA.alloc (.cells #[.int .i64 0, .int .i64 0, .slice none 0 0, .int .i64 0, .int .i64 0, .bool false, .bool false, .bool false, .int .i64 0, .int .i64 0, .bool false, .bool false, .bool false, .int .i64 0, .int .i64 0, .slice none 0 0, .bool false, .int .i64 0, .int .i64 0] 63) = qAD from HV.out]
                obtain ⟨kD, hkD⟩ : ∃ k, k = qA.heap.size := ⟨_, rfl⟩
                rw [← hkD] at pn ⊢
                have hBqAD : Below w9.heap.size w9 qAD := hBqA.trans (hbqAD.mono hBqA.size)
                have hkB : w9.heap.size ≤ kD := by rw [hkD]; exact hBqA.size
                refine hK _ _ (hbqAD.mono hBqA.size) ?_
                clear hK K HV
                have gS := (gS.mono (F' := fun b => b ≠ kD) (fun b _ h => by omega)).below hbqAD
                have hvS := (hvS.mono (F' := fun b => b ≠ kD) (fun b _ h => by omega)).below hbqAD
                clear hkD
                refine wpAnyY_one (i := 10) (by kernel_rfl) rfl (fun K hK => ?_)
                simp only [List.getElem_toArray, List.getElem_cons_succ, List.getElem_cons_zero]
                obtain ⟨kB, qADB, hcvB, hbqADB, hha⟩ := bytes_conv2 qAD dl (by unfold maxLen; omega)
                go_wp2
                have hBqADB : Below w9.heap.size w9 qADB := hBqAD.trans (hbqADB.mono hBqAD.size)
                refine hK _ _ (hbqADB.mono hBqAD.size) ?_
                clear hK K hcvB
                have gS := gS.below hbqADB
                have hvS := hvS.below hbqADB
                have pn := pn.below hbqADB
                refine wpAnyY_one (i := 11) (by kernel_rfl) rfl (fun K hK => ?_)
                simp only [List.getElem_toArray, List.getElem_cons_succ, List.getElem_cons_zero]
                have CW1 := rwrite_any (F := (fun b => b ≠ kD)) (fun b hb => by have := pn.lt; omega) (l := []) hvS hha HSC.out.k (by simp; omega) (by rw [HSC.out.gone]; omega) (by rw [HSC.out.bells]; omega) gS
                rw [List.nil_append, ← HY1.out] at CW1
                have CW1 := Lib.hid CW1
                go_wp2_with fail
                refine (CW1.out).mono ?_
                rintro e qADBC ⟨a4, c4, bv4, rfl, g4, hv4, hbqADBC⟩
                rw [HE1.out] at hv4
                go_wp2
                have hBqADBC : Below w9.heap.size w9 qADBC := hBqADB.trans (hbqADBC.mono hBqADB.size)
                refine hK _ _ (hbqADBC.mono hBqADB.size) ?_
                clear hK K CW1
                have pn := pn.below hbqADBC
                refine wpAnyY_one (i := 13) (by kernel_rfl) rfl (fun K hK => ?_)
                simp only [List.getElem_toArray, List.getElem_cons_succ, List.getElem_cons_zero]
                refine wpList_tstore rfl _ _ rfl kD rfl (tCells a4 c4 y1.1 bv4) rfl zCells pn rfl rfl (tCells_one _ _ _ hv4.one) ?_
                intro qADBCE p5 o5
                have g4 := g4.keep o5.size (fun b hF hlt => o5.block b hlt (by simpa using hF))
                have hv4 := hv4.keep o5.size (fun b hF hlt => o5.block b hlt (by simpa using hF))
                have hb5 : Below w9.heap.size qADBC qADBCE := o5.below (by simp; exact hkB) hBqADBC.size
                have hBqADBCE : Below w9.heap.size w9 qADBCE := hBqADBC.trans hb5
                go_wp2
                refine hK _ _ hb5 ?_
                clear hK K
                refine wpAnyY_end (by kernel_rfl) ?_
                go_wp2
                go_meet
                exact ⟨kD, a4, c4, bv4, rfl, p5, g4.mono (fun _ _ _ => trivial), hv4.mono (fun _ _ _ => trivial), hBqADBCE⟩
            · skip
              simp only [List.getElem_toArray, List.getElem_cons_succ, List.getElem_cons_zero]
              obtain ⟨kB, qB, hcvB, hbqB, hha⟩ := bytes_conv2 q dl (by unfold maxLen; omega)
              go_wp2
              have hBqB : Below w9.heap.size w9 qB := hBq.trans (hbqB.mono hBq.size)
              refine hK _ _ (hbqB.mono hBq.size) ?_
              clear hK K hcvB
              refine wpAnyY_two (i := 8) (j := 12) (by kernel_rfl) rfl rfl (fun K hK => ?_) (fun K hK => ?_)
              · skip
                simp only [List.getElem_toArray, List.getElem_cons_succ, List.getElem_cons_zero]
                go_wp2_with fail
                refine (CSC.out (fun _ => True) qB (fun _ _ => trivial)).mono ?_
                rintro e qBA ⟨aS, cS, bS, rfl, gS, hvS, hbqBA⟩
                rw [HES.out] at hvS
                go_wp2
                have hBqBA : Below w9.heap.size w9 qBA := hBqB.trans (hbqBA.mono hBqB.size)
                refine hK _ _ (hbqBA.mono hBqB.size) ?_
                clear hK K
                have hha := hha.below hbqBA
                refine wpAnyY_two (i := 11) (j := 12) (by kernel_rfl) rfl rfl (fun K hK => ?_) (fun K hK => ?_)
                · skip
                  simp only [List.getElem_toArray, List.getElem_cons_succ, List.getElem_cons_zero]
                  have CW1 := rwrite_any (F := (fun _ => True)) (fun _ _ => trivial) (l := []) hvS hha HSC.out.k (by simp; omega) (by rw [HSC.out.gone]; omega) (by rw [HSC.out.bells]; omega) gS
                  rw [List.nil_append, ← HY1.out] at CW1
                  have CW1 := Lib.hid CW1
                  go_wp2_with fail
                  refine (CW1.out).mono ?_
                  rintro e qBAC ⟨a4, c4, bv4, rfl, g4, hv4, hbqBAC⟩
                  rw [HE1.out] at hv4
                  go_wp2
                  have hBqBAC : Below w9.heap.size w9 qBAC := hBqBA.trans (hbqBAC.mono hBqBA.size)
                  refine hK _ _ (hbqBAC.mono hBqBA.size) ?_
                  clear hK K CW1
                  refine wpAnyY_one (i := 12) (by kernel_rfl) rfl (fun K hK => ?_)
                  simp only [List.getElem_toArray, List.getElem_cons_succ, List.getElem_cons_zero]
                  have pn : TBx (qBAC.alloc (.cells zCells 63)) qBAC.heap.size zCells := TBx.new _ _
                  have hbqBACD : Below qBAC.heap.size qBAC (qBAC.alloc (.cells zCells 63)) := (Below.refl _ _).alloc (Nat.le_refl _) _
                  obtain ⟨qBACD, hV⟩ : ∃ V, qBAC.alloc (.cells zCells 63) = V := ⟨_, rfl⟩
                  rw [hV] at pn hbqBACD
                  have HV := Lib.hid hV
                  clear hV
                  go_wp2
                  rw [show qBAC.alloc (.cells #[.int .i64 0, .int .i64 0, .slice none 0 0, .int .i64 0, .int .i64 0, .bool false, .bool false, .bool false, .int .i64 0, .int .i64 0, .bool false, .bool false, .bool false, .int .i64 0, .int .i64 0, .slice none 0 0, .bool false, .int .i64 0, .int .i64 0] 63) = qBACD from HV.out]
                  obtain ⟨kD, hkD⟩ : ∃ k, k = qBAC.heap.size := ⟨_, rfl⟩
                  rw [← hkD] at pn ⊢
                  have hBqBACD : Below w9.heap.size w9 qBACD := hBqBAC.trans (hbqBACD.mono hBqBAC.size)
                  have hkB : w9.heap.size ≤ kD := by rw [hkD]; exact hBqBAC.size
                  refine hK _ _ (hbqBACD.mono hBqBAC.size) ?_
                  clear hK K HV
                  have g4 := (g4.mono (F' := fun b => b ≠ kD) (fun b _ h => by omega)).below hbqBACD
                  have hv4 := (hv4.mono (F' := fun b => b ≠ kD) (fun b _ h => by omega)).below hbqBACD
                  clear hkD
                  refine wpAnyY_one (i := 13) (by kernel_rfl) rfl (fun K hK => ?_)
                  simp only [List.getElem_toArray, List.getElem_cons_succ, List.getElem_cons_zero]
                  refine wpList_tstore rfl _ _ rfl kD rfl (tCells a4 c4 y1.1 bv4) rfl zCells pn rfl rfl (tCells_one _ _ _ hv4.one) ?_
                  intro qBACDE p5 o5
                  have g4 := g4.keep o5.size (fun b hF hlt => o5.block b hlt (by simpa using hF))
                  have hv4 := hv4.keep o5.size (fun b hF hlt => o5.block b hlt (by simpa using hF))
                  have hb5 : Below w9.heap.size qBACD qBACDE := o5.below (by simp; exact hkB) hBqBACD.size
                  have hBqBACDE : Below w9.heap.size w9 qBACDE := hBqBACD.trans hb5
                  go_wp2
                  refine hK _ _ hb5 ?_
                  clear hK K
                  refine wpAnyY_end (by kernel_rfl) ?_
                  go_wp2
                  go_meet
                  exact ⟨kD, a4, c4, bv4, rfl, p5, g4.mono (fun _ _ _ => trivial), hv4.mono (fun _ _ _ => trivial), hBqBACDE⟩
                · skip
                  simp only [List.getElem_toArray, List.getElem_cons_succ, List.getElem_cons_zero]
                  have pn : TBx (qBA.alloc (.cells zCells 63)) qBA.heap.size zCells := TBx.new _ _
                  have hbqBAD : Below qBA.heap.size qBA (qBA.alloc (.cells zCells 63)) := (Below.refl _ _).alloc (Nat.le_refl _) _
                  obtain ⟨qBAD, hV⟩ : ∃ V, qBA.alloc (.cells zCells 63) = V := ⟨_, rfl⟩
                  rw [hV] at pn hbqBAD
                  have HV := Lib.hid hV
                  clear hV
                  go_wp2
                  rw [show qBA.alloc (.cells #[.int .i64 0, .int .i64 0, .slice none 0 0, .int .i64 0, .int .i64 0, .bool false, .bool false, .bool false, .int .i64 0, .int .i64 0, .bool false, .bool false, .bool false, .int .i64 0, .int .i64 0, .slice none 0 0, .bool false, .int .i64 0, .int .i64 0] 63) = qBAD from HV.out]
                  obtain ⟨kD, hkD⟩ : ∃ k, k = qBA.heap.size := ⟨_, rfl⟩
                  rw [← hkD] at pn ⊢
                  have hBqBAD : Below w9.heap.size w9 qBAD := hBqBA.trans (hbqBAD.mono hBqBA.size)
                  have hkB : w9.heap.size ≤ kD := by rw [hkD]; exact hBqBA.size
                  refine hK _ _ (hbqBAD.mono hBqBA.size) ?_
                  clear hK K HV
                  have gS := (gS.mono (F' := fun b => b ≠ kD) (fun b _ h => by omega)).below hbqBAD
                  have hvS := (hvS.mono (F' := fun b => b ≠ kD) (fun b _ h => by omega)).below hbqBAD
                  have hha := hha.below hbqBAD
                  clear hkD
                  refine wpAnyY_one (i := 11) (by kernel_rfl) rfl (fun K hK => ?_)
                  simp only [List.getElem_toArray, List.getElem_cons_succ, List.getElem_cons_zero]
                  have CW1 := rwrite_any (F := (fun b => b ≠ kD)) (fun b hb => by have := pn.lt; omega) (l := []) hvS hha HSC.out.k (by simp; omega) (by rw [HSC.out.gone]; omega) (by rw [HSC.out.bells]; omega) gS
                  rw [List.nil_append, ← HY1.out] at CW1
                  have CW1 := Lib.hid CW1
                  go_wp2_with fail
                  refine (CW1.out).mono ?_
                  rintro e qBADC ⟨a4, c4, bv4, rfl, g4, hv4, hbqBADC⟩
                  rw [HE1.out] at hv4
                  go_wp2
                  have hBqBADC : Below w9.heap.size w9 qBADC := hBqBAD.trans (hbqBADC.mono hBqBAD.size)
                  refine hK _ _ (hbqBADC.mono hBqBAD.size) ?_
                  clear hK K CW1
                  have pn := pn.below hbqBADC
                  refine wpAnyY_one (i := 13) (by kernel_rfl) rfl (fun K hK => ?_)
                  simp only [List.getElem_toArray, List.getElem_cons_succ, List.getElem_cons_zero]
                  refine wpList_tstore rfl _ _ rfl kD rfl (tCells a4 c4 y1.1 bv4) rfl zCells pn rfl rfl (tCells_one _ _ _ hv4.one) ?_
                  intro qBADCE p5 o5
                  have g4 := g4.keep o5.size (fun b hF hlt => o5.block b hlt (by simpa using hF))
                  have hv4 := hv4.keep o5.size (fun b hF hlt => o5.block b hlt (by simpa using hF))
                  have hb5 : Below w9.heap.size qBADC qBADCE := o5.below (by simp; exact hkB) hBqBADC.size
                  have hBqBADCE : Below w9.heap.size w9 qBADCE := hBqBADC.trans hb5
                  go_wp2
                  refine hK _ _ hb5 ?_
                  clear hK K
                  refine wpAnyY_end (by kernel_rfl) ?_
                  go_wp2
                  go_meet
                  exact ⟨kD, a4, c4, bv4, rfl, p5, g4.mono (fun _ _ _ => trivial), hv4.mono (fun _ _ _ => trivial), hBqBADCE⟩
              · skip
                simp only [List.getElem_toArray, List.getElem_cons_succ, List.getElem_cons_zero]
                have pn : TBx (qB.alloc (.cells zCells 63)) qB.heap.size zCells := TBx.new _ _
                have hbqBD : Below qB.heap.size qB (qB.alloc (.cells zCells 63)) := (Below.refl _ _).alloc (Nat.le_refl _) _
                obtain ⟨qBD, hV⟩ : ∃ V, qB.alloc (.cells zCells 63) = V := ⟨_, rfl⟩
                rw [hV] at pn hbqBD
                have HV := Lib.hid hV
                clear hV
                go_wp2
                rw [show qB.alloc (.cells #[.int .i64 0, .int .i64 0, .slice none 0 0, .int .i64 0, .int .i64 0, .bool false, .bool false, .bool false, .int .i64 0, .int .i64 0, .bool false, .bool false, .bool false, .int .i64 0, .int .i64 0, .slice none 0 0, .bool false, .int .i64 0, .int .i64 0] 63) = qBD from HV.out]
                obtain ⟨kD, hkD⟩ : ∃ k, k = qB.heap.size := ⟨_, rfl⟩
                rw [← hkD] at pn ⊢
                have hBqBD : Below w9.heap.size w9 qBD := hBqB.trans (hbqBD.mono hBqB.size)
                have hkB : w9.heap.size ≤ kD := by rw [hkD]; exact hBqB.size
                refine hK _ _ (hbqBD.mono hBqB.size) ?_
                clear hK K HV
                have hha := hha.below hbqBD
                clear hkD
                refine wpAnyY_one (i := 8) (by kernel_rfl) rfl (fun K hK => ?_)
                simp only [List.getElem_toArray, List.getElem_cons_succ, List.getElem_cons_zero]
                go_wp2_with fail
                refine (CSC.out (fun b => b ≠ kD) qBD (fun b hb => by have := pn.lt; omega)).mono ?_
                rintro e qBDA ⟨aS, cS, bS, rfl, gS, hvS, hbqBDA⟩
                rw [HES.out] at hvS
                go_wp2
                have hBqBDA : Below w9.heap.size w9 qBDA := hBqBD.trans (hbqBDA.mono hBqBD.size)
                refine hK _ _ (hbqBDA.mono hBqBD.size) ?_
                clear hK K
                have hha := hha.below hbqBDA
                have pn := pn.below hbqBDA
                refine wpAnyY_one (i := 11) (by kernel_rfl) rfl (fun K hK => ?_)
                simp only [List.getElem_toArray, List.getElem_cons_succ, List.getElem_cons_zero]
                have CW1 := rwrite_any (F := (fun b => b ≠ kD)) (fun b hb => by have := pn.lt; omega) (l := []) hvS hha HSC.out.k (by simp; omega) (by rw [HSC.out.gone]; omega) (by rw [HSC.out.bells]; omega) gS
                rw [List.nil_append, ← HY1.out] at CW1
                have CW1 := Lib.hid CW1
                go_wp2_with fail
                refine (CW1.out).mono ?_
                rintro e qBDAC ⟨a4, c4, bv4, rfl, g4, hv4, hbqBDAC⟩
                rw [HE1.out] at hv4
                go_wp2
                have hBqBDAC : Below w9.heap.size w9 qBDAC := hBqBDA.trans (hbqBDAC.mono hBqBDA.size)
                refine hK _ _ (hbqBDAC.mono hBqBDA.size) ?_
                clear hK K CW1
                have pn := pn.below hbqBDAC
                refine wpAnyY_one (i := 13) (by kernel_rfl) rfl (fun K hK => ?_)
                simp only [List.getElem_toArray, List.getElem_cons_succ, List.getElem_cons_zero]
                refine wpList_tstore rfl _ _ rfl kD rfl (tCells a4 c4 y1.1 bv4) rfl zCells pn rfl rfl (tCells_one _ _ _ hv4.one) ?_
                intro qBDACE p5 o5
                have g4 := g4.keep o5.size (fun b hF hlt => o5.block b hlt (by simpa using hF))
                have hv4 := hv4.keep o5.size (fun b hF hlt => o5.block b hlt (by simpa using hF))
                have hb5 : Below w9.heap.size qBDAC qBDACE := o5.below (by simp; exact hkB) hBqBDAC.size
                have hBqBDACE : Below w9.heap.size w9 qBDACE := hBqBDAC.trans hb5
                go_wp2
                refine hK _ _ hb5 ?_
                clear hK K
                refine wpAnyY_end (by kernel_rfl) ?_
                go_wp2
                go_meet
                exact ⟨kD, a4, c4, bv4, rfl, p5, g4.mono (fun _ _ _ => trivial), hv4.mono (fun _ _ _ => trivial), hBqBDACE⟩
            · skip
              simp only [List.getElem_toArray, List.getElem_cons_succ, List.getElem_cons_zero]
              have pn : TBx (q.alloc (.cells zCells 63)) q.heap.size zCells := TBx.new _ _
              have hbqD : Below q.heap.size q (q.alloc (.cells zCells 63)) := (Below.refl _ _).alloc (Nat.le_refl _) _
              obtain ⟨qD, hV⟩ : ∃ V, q.alloc (.cells zCells 63) = V := ⟨_, rfl⟩
              rw [hV] at pn hbqD
              have HV := Lib.hid hV
              clear hV
              go_wp2
              rw [show q.alloc (.cells #[.int .i64 0, .int .i64 0, .slice none 0 0, .int .i64 0, .int .i64 0, .bool false, .bool false, .bool false, .int .i64 0, .int .i64 0, .bool false, .bool false, .bool false, .int .i64 0, .int .i64 0, .slice none 0 0, .bool false, .int .i64 0, .int .i64 0] 63) = qD from HV.out]
              obtain ⟨kD, hkD⟩ : ∃ k, k = q.heap.size := ⟨_, rfl⟩
              rw [← hkD] at pn ⊢
              have hBqD : Below w9.heap.size w9 qD := hBq.trans (hbqD.mono hBq.size)
              have hkB : w9.heap.size ≤ kD := by rw [hkD]; exact hBq.size
              refine hK _ _ (hbqD.mono hBq.size) ?_
              clear hK K HV
              clear hkD
              refine wpAnyY_two (i := 8) (j := 10) (by kernel_rfl) rfl rfl (fun K hK => ?_) (fun K hK => ?_)
              · skip
                simp only [List.getElem_toArray, List.getElem_cons_succ, List.getElem_cons_zero]
                go_wp2_with fail
                refine (CSC.out (fun b => b ≠ kD) qD (fun b hb => by have := pn.lt; omega)).mono ?_
                rintro e qDA ⟨aS, cS, bS, rfl, gS, hvS, hbqDA⟩
                rw [HES.out] at hvS
                go_wp2
                have hBqDA : Below w9.heap.size w9 qDA := hBqD.trans (hbqDA.mono hBqD.size)
                refine hK _ _ (hbqDA.mono hBqD.size) ?_
                clear hK K
                have pn := pn.below hbqDA
                refine wpAnyY_one (i := 10) (by kernel_rfl) rfl (fun K hK => ?_)
                simp only [List.getElem_toArray, List.getElem_cons_succ, List.getElem_cons_zero]
                obtain ⟨kB, qDAB, hcvB, hbqDAB, hha⟩ := bytes_conv2 qDA dl (by unfold maxLen; omega)
                go_wp2
                have hBqDAB : Below w9.heap.size w9 qDAB := hBqDA.trans (hbqDAB.mono hBqDA.size)
                refine hK _ _ (hbqDAB.mono hBqDA.size) ?_
                clear hK K hcvB
                have gS := gS.below hbqDAB
                have hvS := hvS.below hbqDAB
                have pn := pn.below hbqDAB
                refine wpAnyY_one (i := 11) (by kernel_rfl) rfl (fun K hK => ?_)
                simp only [List.getElem_toArray, List.getElem_cons_succ, List.getElem_cons_zero]
                have CW1 := rwrite_any (F := (fun b => b ≠ kD)) (fun b hb => by have := pn.lt; omega) (l := []) hvS hha HSC.out.k (by simp; omega) (by rw [HSC.out.gone]; omega) (by rw [HSC.out.bells]; omega) gS
                rw [List.nil_append, ← HY1.out] at CW1
                have CW1 := Lib.hid CW1
                go_wp2_with fail
                refine (CW1.out).mono ?_
                rintro e qDABC ⟨a4, c4, bv4, rfl, g4, hv4, hbqDABC⟩
                rw [HE1.out] at hv4
                go_wp2
                have hBqDABC : Below w9.heap.size w9 qDABC := hBqDAB.trans (hbqDABC.mono hBqDAB.size)
                refine hK _ _ (hbqDABC.mono hBqDAB.size) ?_
                clear hK K CW1
                have pn := pn.below hbqDABC
                refine wpAnyY_one (i := 13) (by kernel_rfl) rfl (fun K hK => ?_)
                simp only [List.getElem_toArray, List.getElem_cons_succ, List.getElem_cons_zero]
                refine wpList_tstore rfl _ _ rfl kD rfl (tCells a4 c4 y1.1 bv4) rfl zCells pn rfl rfl (tCells_one _ _ _ hv4.one) ?_
                intro qDABCE p5 o5
                have g4 := g4.keep o5.size (fun b hF hlt => o5.block b hlt (by simpa using hF))
                have hv4 := hv4.keep o5.size (fun b hF hlt => o5.block b hlt (by simpa using hF))
                have hb5 : Below w9.heap.size qDABC qDABCE := o5.below (by simp; exact hkB) hBqDABC.size
                have hBqDABCE : Below w9.heap.size w9 qDABCE := hBqDABC.trans hb5
                go_wp2
                refine hK _ _ hb5 ?_
                clear hK K
                refine wpAnyY_end (by kernel_rfl) ?_
                go_wp2
                go_meet
                exact ⟨kD, a4, c4, bv4, rfl, p5, g4.mono (fun _ _ _ => trivial), hv4.mono (fun _ _ _ => trivial), hBqDABCE⟩
              · skip
                simp only [List.getElem_toArray, List.getElem_cons_succ, List.getElem_cons_zero]
                obtain ⟨kB, qDB, hcvB, hbqDB, hha⟩ := bytes_conv2 qD dl (by unfold maxLen; omega)
                go_wp2
                have hBqDB : Below w9.heap.size w9 qDB := hBqD.trans (hbqDB.mono hBqD.size)
                refine hK _ _ (hbqDB.mono hBqD.size) ?_
                clear hK K hcvB
                have pn := pn.below hbqDB
                refine wpAnyY_one (i := 8) (by kernel_rfl) rfl (fun K hK => ?_)
                simp only [List.getElem_toArray, List.getElem_cons_succ, List.getElem_cons_zero]
                go_wp2_with fail
                refine (CSC.out (fun b => b ≠ kD) qDB (fun b hb => by have := pn.lt; omega)).mono ?_
                rintro e qDBA ⟨aS, cS, bS, rfl, gS, hvS, hbqDBA⟩
                rw [HES.out] at hvS
                go_wp2
                have hBqDBA : Below w9.heap.size w9 qDBA := hBqDB.trans (hbqDBA.mono hBqDB.size)
                refine hK _ _ (hbqDBA.mono hBqDB.size) ?_
                clear hK K
                have hha := hha.below hbqDBA
                have pn := pn.below hbqDBA
                refine wpAnyY_one (i := 11) (by kernel_rfl) rfl (fun K hK => ?_)
                simp only [List.getElem_toArray, List.getElem_cons_succ, List.getElem_cons_zero]
                have CW1 := rwrite_any (F := (fun b => b ≠ kD)) (fun b hb => by have := pn.lt; omega) (l := []) hvS hha HSC.out.k (by simp; omega) (by rw [HSC.out.gone]; omega) (by rw [HSC.out.bells]; omega) gS
                rw [List.nil_append, ← HY1.out] at CW1
                have CW1 := Lib.hid CW1
                go_wp2_with fail
                refine (CW1.out).mono ?_
                rintro e qDBAC ⟨a4, c4, bv4, rfl, g4, hv4, hbqDBAC⟩
                rw [HE1.out] at hv4
                go_wp2
                have hBqDBAC : Below w9.heap.size w9 qDBAC := hBqDBA.trans (hbqDBAC.mono hBqDBA.size)
                refine hK _ _ (hbqDBAC.mono hBqDBA.size) ?_
                clear hK K CW1
                have pn := pn.below hbqDBAC
                refine wpAnyY_one (i := 13) (by kernel_rfl) rfl (fun K hK => ?_)
                simp only [List.getElem_toArray, List.getElem_cons_succ, List.getElem_cons_zero]
                refine wpList_tstore rfl _ _ rfl kD rfl (tCells a4 c4 y1.1 bv4) rfl zCells pn rfl rfl (tCells_one _ _ _ hv4.one) ?_
                intro qDBACE p5 o5
                have g4 := g4.keep o5.size (fun b hF hlt => o5.block b hlt (by simpa using hF))
                have hv4 := hv4.keep o5.size (fun b hF hlt => o5.block b hlt (by simpa using hF))
                have hb5 : Below w9.heap.size qDBAC qDBACE := o5.below (by simp; exact hkB) hBqDBAC.size
                have hBqDBACE : Below w9.heap.size w9 qDBACE := hBqDBAC.trans hb5
                go_wp2
                refine hK _ _ hb5 ?_
                clear hK K
                refine wpAnyY_end (by kernel_rfl) ?_
                go_wp2
                go_meet
                exact ⟨kD, a4, c4, bv4, rfl, p5, g4.mono (fun _ _ _ => trivial), hv4.mono (fun _ _ _ => trivial), hBqDBACE⟩
          case rest =>
            obtain ⟨kT, a4, c4, bv4, rfl, p5, g4, hv4, hb10⟩ := hcut
            have x10 := bto x9 hb10 x9.size
            have CS1 := Lib.hid (rshows_ok (F := fun _ => True) (W := wc) (w := w) (n := n) (cB := cap) g4 HS1.out.R (RX.out.below x10) HBA.out ⟨p3, p4⟩ ⟨p1, p2⟩ ra ca s (by omega) (by omega) HS1.out.row HS1.out.col HS1.out.pend HS1.out.y HS1.out.seen HS1.out.marked HS1.out.bells HS1.out.gone hv4)
            obtain ⟨v0, v1, v2, v3⟩ := (z0.below x10).cells
            go_wp2_with (refine wpList_tloadD rfl _ rfl kT rfl (tCells a4 c4 y1.1 bv4) ?_ rfl ?_; exact p5)
            refine (CS1.out).mono ?_
            rintro e w11 ⟨rfl, hb11⟩
            have x11 := bto x10 hb11 x10.size
            go_wp2
            go_ret
            exact ⟨rfl, bto b0 x11 b0.size⟩
end Go.Proofs.YtekodpcedjpnjaaGreat
