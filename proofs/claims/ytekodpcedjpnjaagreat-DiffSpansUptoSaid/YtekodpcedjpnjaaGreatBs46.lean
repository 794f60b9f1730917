/- The program's Blank, Whole, Diff. No condition but that the strings are not too long for a cut. The program's Whole. No condition but that the strings are not too long for a cut. -/
import Derived.Test.YtekodpcedjpnjaaGreatBs45
set_option linter.unusedVariables false
set_option linter.unusedSimpArgs false
namespace Go.Proofs.YtekodpcedjpnjaaGreat
open Go.RowKit Go.Shelf Go.Maps
theorem BAt_rows (w h : Nat) : rowsG (List.replicate (w * h) GC.blank) w h = List.replicate h (List.replicate w GC.blank) := by
  have h1 := (RowsOk.blank w h).rows
  rw [List.flatten_replicate_replicate, Nat.mul_comm] at h1
  exact h1
theorem FBI.load {W : World} {F : Nat} {v : Value} {r c : Int} {s : Bool} (h : FBI W F v r c s) : (loadVar 52 ⟨F, 0, none⟩).run Tryz.prog W = .ok (.agg #[v, .int .i64 r, .int .i64 c, .bool s]) W :=
  run_loadVar_row (P := Tryz.prog) W F _ 52 _ (0, 0) _ h Tryz.underlying52 rfl (by kernel_rfl)
theorem FBI.froz {W : World} {F : Nat} {v : Value} {r c : Int} {s : Bool} (h : FBI W F v r c s) : ∀ j, W.frozen? ⟨F, j, none⟩ = false := fun j => by
  unfold FBI at h
  simp [World.frozen?, h]
theorem FBI.fill {W : World} {b : Nat} {v : Value} {r c : Int} {s : Bool} (g : FBI W b v r c s) (v' : Value) (r' c' : Int) (s' : Bool) (X : World)
    (hX : (((W.setCell ⟨b, 0, none⟩ v').setCell ⟨b, 1, none⟩ (.int .i64 r')).setCell ⟨b, 2, none⟩ (.int .i64 c')).setCell ⟨b, 3, none⟩ (.bool s') = X) : FBI X b v' r' c' s' ∧ Only [b] W X := by
  subst hX
  refine ⟨?_, ((((Only.refl [b] W).setCell (.inl (by simp)) _).setCell (.inl (by simp)) _).setCell (.inl (by simp)) _).setCell (.inl (by simp)) _⟩
  unfold FBI at g ⊢
  simp only [World.setCell, Array.getElem?_modify, if_true, g, Option.map_some]
  rfl
theorem FBI.set3 {W : World} {b : Nat} {v : Value} {r c : Int} {s : Bool} (g : FBI W b v r c s) (s' : Bool) : FBI (W.setCell ⟨b, 3, none⟩ (.bool s')) b v r c s' := by
  unfold FBI at g ⊢
  simp only [World.setCell, Array.getElem?_modify, if_true, g, Option.map_some]
  rfl
theorem cellB {W X : World} {k j : Nat} (h : X.heap[k]? = W.heap[k]?) : X.cell? ⟨k, j, none⟩ = W.cell? ⟨k, j, none⟩ := by
  unfold World.cell?
  dsimp only
  rw [h]
theorem FBI.at_ {W : World} {F : Nat} {v : Value} {r c : Int} {s : Bool} (z : FBI W F v r c s) {j : Nat} {u : Value} (h : W.cell? ⟨F, j, none⟩ = some u) : u = v ∨ u = .int .i64 r ∨ u = .int .i64 c ∨ u = .bool s := by
  rw [cell_of_row W F j _ _ _ z] at h
  have h1 := (Array.mem_of_getElem? h)
  simpa using h1
theorem RowsAt.box {W X : World} {a : Option Addr} {n : Nat} {R : List (List GC)} (h : RowsAt W a n R) {F : Nat} {r c : Int} {s : Bool} (z : FBI W F (.slice none 0 0) r c s) (ho : Only [F] W X) (hne : ∀ M ∈ R, M ≠ []) : RowsAt X a n R :=
  ⟨h.len, fun i M hi => by
    obtain ⟨b, off, a2, c2, h1, h2, h3, h4, h5⟩ := h.at_ i M hi
    have hM := hne M (List.mem_of_getElem? hi)
    have hbF : b ≠ F := fun e => by
      subst e
      have h5l := h5.at_ 0 (M[0]'(by cases M with | nil => exact absurd rfl hM | cons _ _ => simp)) (List.getElem?_eq_getElem _)
      obtain ⟨_, _, e2, _⟩ := h5l
      subst e2
      rcases z.at_ h3 with h | h | h | h <;> cases h
    refine ⟨b, off, a2, c2, h1, Nat.lt_of_lt_of_le h2 ho.size, (cellB (ho.block b h2 (by simp; exact hbF))).trans h3, h4, h5.len, fun k x hk => ?_⟩
    obtain ⟨b', o', e1, e2, e3⟩ := h5.at_ k x hk
    have hbF' : b' ≠ F := fun e => by
      subst e
      have := e3 0 (.string x.s) rfl
      rcases z.at_ this with h | h | h | h <;> cases h
    exact ⟨b', o', e1, Nat.lt_of_lt_of_le e2 ho.size, fun j v hv => (cellB (ho.block b' e2 (by simp; exact hbF'))).trans (e3 j v hv)⟩⟩
def blankM (w h : Nat) : List (List GC) := List.replicate h (List.replicate w GC.blank)
def FrPost2 (R : List (List GC)) (r c : Nat) (s : Bool) (w : World) (e : Ending) (w' : World) : Prop :=
  ∃ a cap, e = .returned (.tuple #[.agg #[.slice a R.length cap, .int .i64 r, .int .i64 c, .bool s], .int .i64 0]) ∧ RowsAt w' a R.length R ∧ (R.length ≤ cap ∧ cap ≤ maxLen) ∧ Below w.heap.size w w'
set_option maxRecDepth 100000 in
set_option maxHeartbeats 4000000 in
theorem dblank_ok (a b : Nat) (h : 1 ≤ a ∧ a ≤ 500 ∧ 1 ≤ b ∧ b ≤ 60) (W : World) :
    Calls Tryz.prog 38 #[.int .i64 a, .int .i64 b] W (FrPost2 (blankM a b) 0 0 true W) := by
  have CN := Lib.hid (fun X => fnew_ok a b h X)
  have HM : Hid (rowsG (List.replicate (a * b) GC.blank) a b = blankM a b) := Lib.hid (BAt_rows a b)
  have hb := h.2.2.2
  have ha1 := h.1
  clear h
  have z0 : FBI (W.alloc (.cells #[.slice none 0 0, .int .i64 0, .int .i64 0, .bool false] 52)) W.heap.size (.slice none 0 0) 0 0 false := World.alloc_heap_new W _
  have b0 : Below W.heap.size W (W.alloc (.cells #[.slice none 0 0, .int .i64 0, .int .i64 0, .bool false] 52)) := (Below.refl _ _).alloc (Nat.le_refl _) _
  go_enter Tryz.func38, Tryz.ntmps38
  go_upto_region 1 with (fail)
  obtain ⟨X, hX⟩ : ∃ X, W.alloc (.cells #[.slice none 0 0, .int .i64 0, .int .i64 0, .bool false] 52) = X := ⟨_, rfl⟩
  rw [hX] at z0 b0 ⊢
  clear hX
  go_upto_region 4 with (go_at_call 15; refine (CN.out _).mono ?_; rintro e w1 ⟨z, p, q, rfl, ba, hge, hb1⟩)
  have CF := frame_any ba hb (by omega) (by omega)
  rw [HM.out] at CF
  have CF := Lib.hid CF
  go_upto_region 5 with (go_at_call 26; refine (CF.out).mono ?_; rintro e w2 ⟨aa, cap, rfl, hR, hcap, hb2⟩)
  have z2 := (z0.below hb1).below hb2
  have b2 := bto (bto b0 hb1 b0.size) hb2 (bto b0 hb1 b0.size).size
  have hbN : Below w2.heap.size w2 (w2.alloc (.cells #[.slice aa (blankM a b).length cap, .int .i64 0, .int .i64 0, .bool false] 52)) := (Below.refl _ _).alloc (Nat.le_refl _) _
  have zN : FBI (w2.alloc (.cells #[.slice aa (blankM a b).length cap, .int .i64 0, .int .i64 0, .bool false] 52)) w2.heap.size (.slice aa (blankM a b).length cap) 0 0 false := World.alloc_heap_new w2 _
  obtain ⟨V, hV⟩ : ∃ V, w2.alloc (.cells #[.slice aa (blankM a b).length cap, .int .i64 0, .int .i64 0, .bool false] 52) = V := ⟨_, rfl⟩
  rw [hV] at hbN zN ⊢
  clear hV
  have z3 := z2.below hbN
  have hlt2 := z2.lt
  have hf3 := zN.froz 3
  obtain ⟨_, _, _, n3⟩ := zN.cells
  have zM := zN.set3 true
  have oM : Only [w2.heap.size] V (V.setCell ⟨w2.heap.size, 3, none⟩ (.bool true)) := (Only.refl _ V).setCell (.inl (by simp)) _
  have z4 : FBI (V.setCell ⟨w2.heap.size, 3, none⟩ (.bool true)) W.heap.size (.slice none 0 0) 0 0 false := oM.heap z3 (by simp; omega)
  have hR4 : RowsAt V aa (blankM a b).length (blankM a b) := hR.below hbN
  have hb4 : Below w2.heap.size w2 (V.setCell ⟨w2.heap.size, 3, none⟩ (.bool true)) := hbN.trans (oM.below (by simp) hbN.size)
  have hR4 := hR.below hb4
  go_upto_region 6 with (fail)
  obtain ⟨V1, hV1⟩ : ∃ V1, V.setCell ⟨w2.heap.size, 3, none⟩ (.bool true) = V1 := ⟨_, rfl⟩
  rw [hV1] at zM z4 hR4 hb4 ⊢
  clear hV1 n3 hf3 oM zN z3
  obtain ⟨Y, hY⟩ : ∃ Y, (((V1.setCell ⟨W.heap.size, 0, none⟩ (.slice aa (blankM a b).length cap)).setCell ⟨W.heap.size, 1, none⟩ (.int .i64 0)).setCell ⟨W.heap.size, 2, none⟩ (.int .i64 0)).setCell ⟨W.heap.size, 3, none⟩ (.bool true) = Y := ⟨_, rfl⟩
  obtain ⟨zY, oY⟩ := z4.fill (.slice aa (blankM a b).length cap) 0 0 true Y hY
  obtain ⟨m0, m1, m2, m3⟩ := zM.cells
  obtain ⟨u0, u1, u2, u3⟩ := z4.cells
  have f0 := z4.froz 0
  have f1 := z4.froz 1
  have f2 := z4.froz 2
  have f3 := z4.froz 3
  have hne : W.heap.size ≠ w2.heap.size := by omega
  have HL := Lib.hid zY.load
  have HY := Lib.hid hY
  have hbW := bto b2 hb4 b2.size
  have FIN : Hid (Below W.heap.size W Y ∧ RowsAt Y aa (blankM a b).length (blankM a b)) := Lib.hid ⟨hbW.trans (oY.below (by simp) hbW.size), hR4.box z4 oY (fun M hM e => by
    have := (RowsOk.blank a b).w M hM
    rw [e] at this
    simp at this
    omega)⟩
  clear zY oY zM z4 hR4 hR hb4 hbW hY CN CF ba
  go_wp2
  rw [HY.out]
  refine bodyPost_ret (results_row2 rfl _ _ W.heap.size _ rfl HL.out) rfl ?_
  exact ⟨aa, cap, rfl, FIN.out.2, hcap, FIN.out.1⟩
set_option maxRecDepth 100000 in
set_option maxHeartbeats 4000000 in
theorem ddiff_any {W : World} {a1 a2 : Option Addr} {n1 n2 c1 c2 : Nat} {A B : List (List GC)} (hA : RowsAt W a1 n1 A) (hB : RowsAt W a2 n2 B) (hn1 : n1 ≤ maxLen) (hn2 : n2 ≤ maxLen) (sA : ∀ M ∈ A, ∀ c ∈ M, c.s.size ≤ 1100000) (sB : ∀ M ∈ B, ∀ c ∈ M, c.s.size ≤ 1100000) (r1 k1 r2 k2 : Int) (s1 s2 : Bool) :
    Calls Tryz.prog 35 #[.agg #[.slice a1 n1 c1, .int .i64 r1, .int .i64 k1, .bool s1], .agg #[.slice a2 n2 c2, .int .i64 r2, .int .i64 k2, .bool s2]] W fun e w' => e = .returned (.tuple #[.string (S (paintE A r1 k1 s1 B r2 k2 s2 false)), .int .i64 (errD (fitF A r1 k1 B r2 k2))]) ∧ Below W.heap.size W w' := by
  have bX : Below W.heap.size W ((W.alloc (.cells #[.slice a1 n1 c1, .int .i64 r1, .int .i64 k1, .bool s1] 52)).alloc (.cells #[.slice a2 n2 c2, .int .i64 r2, .int .i64 k2, .bool s2] 52)) := ((Below.refl _ _).alloc (Nat.le_refl _) _).alloc (by simp) _
  have CP := Lib.hid (paint_any (c1 := c1) (c2 := c2) (hA.below bX) (hB.below bX) hn1 hn2 sA sB r1 k1 r2 k2 s1 s2 false)
  have hsz : ((W.alloc (.cells #[.slice a1 n1 c1, .int .i64 r1, .int .i64 k1, .bool s1] 52)).alloc (.cells #[.slice a2 n2 c2, .int .i64 r2, .int .i64 k2, .bool s2] 52)).heap.size = W.heap.size + 1 + 1 := by simp
  clear hA hB sA sB
  go_enter Tryz.func35, Tryz.ntmps35
  go_wp2_with (go_at_call 101; refine (CP.out).mono ?_; rintro e w1 ⟨rfl, hb1⟩)
  go_ret2
  exact ⟨rfl, bto bX hb1 bX.size⟩
end Go.Proofs.YtekodpcedjpnjaaGreat
namespace Go.Proofs.YtekodpcedjpnjaaGreat
open Go.RowKit Go.Shelf Go.Maps
theorem wholeB_blank : ∀ w : Nat, wholeB (List.replicate w GC.blank) = true
  | 0 => rfl
  | w + 1 => by
    rw [List.replicate_succ, wholeB_cons, wholeB_blank w]
    kernel_rfl
theorem blankM_ok {w h : Nat} (hw : 1 ≤ w ∧ w ≤ 500) (hh : 1 ≤ h ∧ h ≤ 60) : okF (blankM w h) 0 0 = true := by
  have h0 : nth [] (blankM w h) 0 = List.replicate w GC.blank := by
    rw [nth_eq _ _ _ (by unfold blankM; simp; omega)]
    unfold blankM
    simp
  have hl : (blankM w h).length = h := by unfold blankM; simp
  unfold okF
  rw [h0, hl, List.length_replicate, decide_eq_true (by omega), Bool.true_and]
  unfold rowsOkB
  rw [List.all_eq_true]
  intro M hM
  rw [List.eq_of_mem_replicate (show M ∈ List.replicate h (List.replicate w GC.blank) from hM)]
  simp [wholeB_blank]
theorem blankM_small (w h : Nat) : ∀ M ∈ blankM w h, ∀ c ∈ M, c.s.size ≤ 1100000 := fun M hM c hc => by
  rw [List.eq_of_mem_replicate (show M ∈ List.replicate h (List.replicate w GC.blank) from hM)] at hc
  rw [List.eq_of_mem_replicate hc]
  decide
theorem fit_blank {R : List (List GC)} {r c : Int} (h : okF R r c = true) : fitF (blankM (nth [] R 0).length R.length) 0 0 R r c = true := by
  obtain ⟨h1, h2, h3, h4, _⟩ := okF_pos h
  have h0 : nth [] (blankM (nth [] R 0).length R.length) 0 = List.replicate (nth [] R 0).length GC.blank := by
    rw [nth_eq _ _ _ (by unfold blankM; simp; omega)]
    unfold blankM
    simp
  unfold fitF
  rw [blankM_ok ⟨h3, h4⟩ ⟨h1, h2⟩, h, h0]
  unfold blankM
  simp
def wholeE (R : List (List GC)) (r c : Int) (s : Bool) : List UInt8 := if okF R r c then paintE (blankM (nth [] R 0).length R.length) 0 0 true R r c s true else []
def WhS (p F : Nat) (v : Value) (r c : Int) (s : Bool) (b o : Nat) (u : Value) (X : World) : Prop := FBI X F v r c s ∧ X.cell? ⟨b, o, none⟩ = some u ∧ p ≤ X.heap.size
set_option maxRecDepth 100000 in
set_option maxHeartbeats 8000000 in
theorem dwhole_any {W : World} {a : Option Addr} {n cap : Nat} {R : List (List GC)} (hR : RowsAt W a n R) (hn : n ≤ maxLen) (hs : ∀ M ∈ R, ∀ c ∈ M, c.s.size ≤ 1100000) (r c : Int) (s : Bool) :
    Calls Tryz.prog 29 #[.agg #[.slice a n cap, .int .i64 r, .int .i64 c, .bool s]] W fun e w' => e = .returned (.tuple #[.string (S (wholeE R r c s)), .int .i64 (errD (okF R r c))]) ∧ Below W.heap.size W w' := by
  have z0 : FBI (W.alloc (.cells #[.slice a n cap, .int .i64 r, .int .i64 c, .bool s] 52)) W.heap.size (.slice a n cap) r c s := World.alloc_heap_new W _
  have b0 : Below W.heap.size W (W.alloc (.cells #[.slice a n cap, .int .i64 r, .int .i64 c, .bool s] 52)) := (Below.refl _ _).alloc (Nat.le_refl _) _
  obtain ⟨zz, hzz⟩ : ∃ zz, zz = errD (okF R r c) := ⟨_, rfl⟩
  obtain ⟨bb, hbb⟩ : ∃ bb, bb = wholeE R r c s := ⟨_, rfl⟩
  rw [← hzz, ← hbb]
  have HZZ := Lib.hid hzz
  have HBB := Lib.hid hbb
  have HR := Lib.hid hR
  have HS := Lib.hid hs
  have hl := hR.len
  clear hzz hbb hR hs
  go_enter Tryz.func29, Tryz.ntmps29
  go_upto_region 1 with (fail)
  obtain ⟨X, hX⟩ : ∃ X, W.alloc (.cells #[.slice a n cap, .int .i64 r, .int .i64 c, .bool s] 52) = X := ⟨_, rfl⟩
  rw [hX] at z0 b0 ⊢
  clear hX
  have RX := Lib.hid (HR.out.below b0)
  have CC := check_any (cap := cap) RX.out hn HS.out r c s
  obtain ⟨u0, u1, u2, u3⟩ := z0.cells
  cases hf : okF R r c with
  | false =>
    rw [hf, show errF false = 90 from rfl] at CC
    have CC := Lib.hid CC
    have HZ0 : Hid (zz = 100) := Lib.hid (by rw [HZZ.out, hf]; rfl)
    have HB0 : Hid (S bb = (⟨#[]⟩ : ByteArray)) := Lib.hid (by rw [HBB.out]; unfold wholeE; rw [hf]; rfl)
    clear hf
    go_wp2_with (go_at_call 28; refine (CC.out).mono ?_; rintro e w1 ⟨rfl, hb1⟩)
    go_ret2
    rw [HZ0.out, HB0.out]
    exact ⟨rfl, bto b0 hb1 b0.size⟩
  | true =>
    rw [hf, show errF true = 0 from rfl] at CC
    have CC := Lib.hid CC
    obtain ⟨h1, h2, h3, h4, _⟩ := okF_pos hf
    have hfit := fit_blank hf
    obtain ⟨M0, hM0⟩ : ∃ M, M = nth [] R 0 := ⟨_, rfl⟩
    have hM0' : R[0]? = some M0 := by rw [hM0, nth_eq _ _ _ (by omega)]; exact List.getElem?_eq_getElem (by omega)
    obtain ⟨w, hw⟩ : ∃ w, w = M0.length := ⟨_, rfl⟩
    have HZ0 : Hid (zz = 0) := Lib.hid (by rw [HZZ.out, hf]; rfl)
    have HB0 : Hid (bb = paintE (blankM w n) 0 0 true R r c s true) := Lib.hid (by rw [HBB.out]; unfold wholeE; rw [hf, ← hM0, ← hw, hl]; rfl)
    rw [← hM0, ← hw, hl] at hfit
    rw [← hM0, ← hw] at h3 h4
    rw [hl] at h1 h2
    have HF := Lib.hid hfit
    obtain ⟨b, off, a2, c2, rfl, hb, hc0, _, _⟩ := RX.out.at_ 0 M0 hM0'
    rw [Nat.add_zero, ← hw] at hc0
    clear hM0 hM0' hw hf hfit
    go_upto_region 3 with (go_at_call 28; refine (CC.out).mono ?_; rintro e w1 ⟨rfl, hb1⟩)
    have b1 := bto b0 hb1 b0.size
    have z1 := z0.below hb1
    have hbw : b < w1.heap.size := Nat.lt_of_lt_of_le hb hb1.size
    have hS0 : WhS w1.heap.size W.heap.size (.slice (some ⟨b, off, none⟩) n cap) r c s b off (.slice a2 w c2) w1.drew := ⟨z1, (hb1.cell (p := ⟨b, _, none⟩) hb).trans hc0, Nat.le_refl _⟩
    have CB := Lib.hid (dblank_ok w n ⟨h3, h4, h1, h2⟩ w1.drew)
    have h0n : 0 < n := by omega
    have h0i : (0 : Int) < (n : Int) := by omega
    clear u0 u1 u2 u3 CC
    refine wp_region_tree (fun _ y y' => (WhS w1.heap.size W.heap.size (.slice (some ⟨b, off, none⟩) n cap) r c s b off (.slice a2 w c2)) y → (WhS w1.heap.size W.heap.size (.slice (some ⟨b, off, none⟩) n cap) r c s b off (.slice a2 w c2)) y') (by kernel_rfl) ?_
    simp only [List.size_toArray, List.length_cons, List.length_nil, Nat.reduceAdd]
    refine' wpAnyY_read 0 (WhS w1.heap.size W.heap.size (.slice (some ⟨b, off, none⟩) n cap) r c s b off (.slice a2 w c2)) [] (v := _) (by kernel_rfl) (fun _ _ d _ _ h => by cases d <;> exact h) (by kernel_rfl) rfl (fun j y y' hj h hs => h hs) (fun _ h => h) hS0 rfl ?_ ?_
    rotate_left 1
    · intro w' hw'; obtain ⟨j1, j2, _⟩ := hw'; obtain ⟨g0, g1, g2, g3⟩ := j1.cells; go_simp; try with_reducible rfl
    try simp only [Act.put, List.setIfInBounds_toArray, List.set_cons_zero, List.set_cons_succ]
    refine' wpAnyY_read 1 (WhS w1.heap.size W.heap.size (.slice (some ⟨b, off, none⟩) n cap) r c s b off (.slice a2 w c2)) [] (v := _) (by kernel_rfl) (fun _ _ d _ _ h => by cases d <;> exact h) (by kernel_rfl) rfl (fun j y y' hj h hs => h hs) (fun _ h => h) hS0 rfl ?_ ?_
    rotate_left 1
    · intro w' hw'; obtain ⟨j1, j2, _⟩ := hw'; obtain ⟨g0, g1, g2, g3⟩ := j1.cells; go_simp; try with_reducible rfl
    try simp only [Act.put, List.setIfInBounds_toArray, List.set_cons_zero, List.set_cons_succ]
    refine' wpAnyY_read 2 (WhS w1.heap.size W.heap.size (.slice (some ⟨b, off, none⟩) n cap) r c s b off (.slice a2 w c2)) [] (v := _) (by kernel_rfl) (fun _ _ d _ _ h => by cases d <;> exact h) (by kernel_rfl) rfl (fun j y y' hj h hs => h hs) (fun _ h => h) hS0 rfl ?_ ?_
    rotate_left 1
    · intro w' hw'; obtain ⟨j1, j2, _⟩ := hw'; obtain ⟨g0, g1, g2, g3⟩ := j1.cells; go_simp; try with_reducible rfl
    try simp only [Act.put, List.setIfInBounds_toArray, List.set_cons_zero, List.set_cons_succ]
    refine' wpAnyY_read 3 (WhS w1.heap.size W.heap.size (.slice (some ⟨b, off, none⟩) n cap) r c s b off (.slice a2 w c2)) [] (v := _) (by kernel_rfl) (fun _ _ d _ _ h => by cases d <;> exact h) (by kernel_rfl) rfl (fun j y y' hj h hs => h hs) (fun _ h => h) hS0 rfl ?_ ?_
    rotate_left 1
    · intro w' hw'; obtain ⟨j1, j2, _⟩ := hw'; obtain ⟨g0, g1, g2, g3⟩ := j1.cells; go_simp; try with_reducible rfl
    try simp only [Act.put, List.setIfInBounds_toArray, List.set_cons_zero, List.set_cons_succ]
    refine' wpAnyY_read 4 (WhS w1.heap.size W.heap.size (.slice (some ⟨b, off, none⟩) n cap) r c s b off (.slice a2 w c2)) [] (v := _) (by kernel_rfl) (fun _ _ d _ _ h => by cases d <;> exact h) (by kernel_rfl) rfl (fun j y y' hj h hs => h hs) (fun _ h => h) hS0 rfl ?_ ?_
    rotate_left 1
    · intro w' hw'; obtain ⟨j1, j2, _⟩ := hw'; obtain ⟨g0, g1, g2, g3⟩ := j1.cells; go_simp; try with_reducible rfl
    try simp only [Act.put, List.setIfInBounds_toArray, List.set_cons_zero, List.set_cons_succ]
    refine' wpAnyY_read 5 (WhS w1.heap.size W.heap.size (.slice (some ⟨b, off, none⟩) n cap) r c s b off (.slice a2 w c2)) [] (v := _) (by kernel_rfl) (fun _ _ d _ _ h => by cases d <;> exact h) (by kernel_rfl) rfl (fun j y y' hj h hs => h hs) (fun _ h => h) hS0 rfl ?_ ?_
    rotate_left 1
    · intro w' hw'; obtain ⟨j1, j2, _⟩ := hw'; obtain ⟨g0, g1, g2, g3⟩ := j1.cells; go_simp; try with_reducible rfl
    try simp only [Act.put, List.setIfInBounds_toArray, List.set_cons_zero, List.set_cons_succ]
    refine' wpAnyY_read 6 (WhS w1.heap.size W.heap.size (.slice (some ⟨b, off, none⟩) n cap) r c s b off (.slice a2 w c2)) [] (v := _) (by kernel_rfl) (fun _ _ d _ _ h => by cases d <;> exact h) (by kernel_rfl) rfl (fun j y y' hj h hs => h hs) (fun _ h => h) hS0 rfl ?_ ?_
    rotate_left 1
    · intro w' hw'; obtain ⟨j1, j2, _⟩ := hw'; obtain ⟨g0, g1, g2, g3⟩ := j1.cells; go_simp; try with_reducible rfl
    try simp only [Act.put, List.setIfInBounds_toArray, List.set_cons_zero, List.set_cons_succ]
    refine' wpAnyY_read 7 (WhS w1.heap.size W.heap.size (.slice (some ⟨b, off, none⟩) n cap) r c s b off (.slice a2 w c2)) [] (v := _) (by kernel_rfl) (fun _ _ d _ _ h => by cases d <;> exact h) (by kernel_rfl) rfl (fun j y y' hj h hs => h hs) (fun _ h => h) hS0 rfl ?_ ?_
    rotate_left 1
    · intro w' hw'; obtain ⟨j1, j2, _⟩ := hw'; obtain ⟨g0, g1, g2, g3⟩ := j1.cells; go_simp; try with_reducible rfl
    try simp only [Act.put, List.setIfInBounds_toArray, List.set_cons_zero, List.set_cons_succ]
    have hSB : ∀ Y Z : World, (WhS w1.heap.size W.heap.size (.slice (some ⟨b, off, none⟩) n cap) r c s b off (.slice a2 w c2)) Y → Below w1.heap.size Y Z → (WhS w1.heap.size W.heap.size (.slice (some ⟨b, off, none⟩) n cap) r c s b off (.slice a2 w c2)) Z := fun Y Z h hY => ⟨(hY.block _ z1.lt).trans h.1, (hY.cell (p := ⟨b, _, none⟩) hbw).trans h.2.1, Nat.le_trans h.2.2 hY.size⟩
    have hSB := Lib.hid hSB
    have HR2 := HR
    have dB : Below w1.heap.size w1 w1.drew := (Below.refl _ _).drew
    have CB2 := Lib.hid (fun X => dblank_ok w n ⟨h3, h4, h1, h2⟩ X)
    have hbl : (blankM w n).length ≤ maxLen := by unfold blankM maxLen; simp; omega
    have CP := Lib.hid (fun (Y : World) (aa : Option Addr) (cb : Nat) (k1 : RowsAt Y aa (blankM w n).length (blankM w n)) (k2 : RowsAt Y (some ⟨b, off, none⟩) n R) => (by
      have := paint_any (c1 := cb) (c2 := cap) k1 k2 hbl hn (blankM_small w n) HS.out 0 0 r c true s true
      rw [HF.out, show errD true = 0 from rfl] at this
      exact this : Calls Tryz.prog 101 #[.agg #[.slice aa (blankM w n).length cb, .int .i64 0, .int .i64 0, .bool true], .agg #[.slice (some ⟨b, off, none⟩) n cap, .int .i64 r, .int .i64 c, .bool s], .bool true] Y fun e w' => e = .returned (.tuple #[.string (S (paintE (blankM w n) 0 0 true R r c s true)), .int .i64 0]) ∧ Below Y.heap.size Y w'))
    refine wpAnyY_two (i := 8) (j := 12) (by kernel_rfl) rfl rfl (fun K hK => ?_) (fun K hK => ?_)
    · simp only [List.getElem_toArray, List.getElem_cons_succ, List.getElem_cons_zero]
      go_wp2_with fail
      refine (CB.out).mono ?_
      rintro e w2 ⟨aa, cb, rfl, hRb, hcb, hb2⟩
      have hS1 := hSB.out _ _ hS0 (hb2.mono (Nat.le_refl _))
      go_wp2
      refine hK _ _ (fun _ => hS1) ?_
      clear hK K
      refine' wpAnyY_read 9 (WhS w1.heap.size W.heap.size (.slice (some ⟨b, off, none⟩) n cap) r c s b off (.slice a2 w c2)) [] (v := _) (by kernel_rfl) (fun _ _ d _ _ h => by cases d <;> exact h) (by kernel_rfl) rfl (fun j y y' hj h hs => h hs) (fun _ h => h) hS1 rfl ?_ ?_
      rotate_left 1
      · intro w' hw'; obtain ⟨j1, j2, _⟩ := hw'; obtain ⟨g0, g1, g2, g3⟩ := j1.cells; go_simp; try with_reducible rfl
      try simp only [Act.put, List.setIfInBounds_toArray, List.set_cons_zero, List.set_cons_succ]
      refine' wpAnyY_read 10 (WhS w1.heap.size W.heap.size (.slice (some ⟨b, off, none⟩) n cap) r c s b off (.slice a2 w c2)) [] (v := _) (by kernel_rfl) (fun _ _ d _ _ h => by cases d <;> exact h) (by kernel_rfl) rfl (fun j y y' hj h hs => h hs) (fun _ h => h) hS1 rfl ?_ ?_
      rotate_left 1
      · intro w' hw'; obtain ⟨j1, j2, _⟩ := hw'; obtain ⟨g0, g1, g2, g3⟩ := j1.cells; go_simp; try with_reducible rfl
      try simp only [Act.put, List.setIfInBounds_toArray, List.set_cons_zero, List.set_cons_succ]
      refine' wpAnyY_read 11 (WhS w1.heap.size W.heap.size (.slice (some ⟨b, off, none⟩) n cap) r c s b off (.slice a2 w c2)) [] (v := _) (by kernel_rfl) (fun _ _ d _ _ h => by cases d <;> exact h) (by kernel_rfl) rfl (fun j y y' hj h hs => h hs) (fun _ h => h) hS1 rfl ?_ ?_
      rotate_left 1
      · intro w' hw'; obtain ⟨j1, j2, _⟩ := hw'; obtain ⟨g0, g1, g2, g3⟩ := j1.cells; go_simp; try with_reducible rfl
      try simp only [Act.put, List.setIfInBounds_toArray, List.set_cons_zero, List.set_cons_succ]
      refine wpAnyY_one (i := 12) (by kernel_rfl) rfl (fun K hK => ?_)
      simp only [List.getElem_toArray, List.getElem_cons_succ, List.getElem_cons_zero]
      have bD : Below w1.heap.size w1 w2 := dB.trans hb2
      have b2 := bto b1 bD b1.size
      have bN : Below w2.heap.size w2 (w2.alloc (.cells #[.slice none 0 0, .int .i64 0, .int .i64 0, .bool false] 52)) := (Below.refl _ _).alloc (Nat.le_refl _) _
      have zN : FBI (w2.alloc (.cells #[.slice none 0 0, .int .i64 0, .int .i64 0, .bool false] 52)) w2.heap.size (.slice none 0 0) 0 0 false := World.alloc_heap_new w2 _
      obtain ⟨V, hV⟩ : ∃ V, w2.alloc (.cells #[.slice none 0 0, .int .i64 0, .int .i64 0, .bool false] 52) = V := ⟨_, rfl⟩
      rw [hV] at bN zN
      have HV := Lib.hid hV
      clear hV
      go_wp2
      rw [HV.out]
      refine hK _ _ (fun h => hSB.out _ _ h (bN.mono bD.size)) ?_
      clear hK K
      refine wpAnyY_one (i := 13) (by kernel_rfl) rfl (fun K hK => ?_)
      simp only [List.getElem_toArray, List.getElem_cons_succ, List.getElem_cons_zero]
      obtain ⟨u0, u1, u2, u3⟩ := zN.cells
      have f0 := zN.froz 0
      have f1 := zN.froz 1
      have f2 := zN.froz 2
      have f3 := zN.froz 3
      obtain ⟨Y, hY⟩ : ∃ Y, (((V.setCell ⟨w2.heap.size, 0, none⟩ (.slice aa (blankM w n).length cb)).setCell ⟨w2.heap.size, 1, none⟩ (.int .i64 0)).setCell ⟨w2.heap.size, 2, none⟩ (.int .i64 0)).setCell ⟨w2.heap.size, 3, none⟩ (.bool true) = Y := ⟨_, rfl⟩
      obtain ⟨zY, oY⟩ := zN.fill (.slice aa (blankM w n).length cb) 0 0 true Y hY
      have HY := Lib.hid hY
      have bY : Below w2.heap.size w2 Y := bN.trans (oY.below (by simp) bN.size)
      have bWY := bto b2 bY b2.size
      have hRY := hRb.below bY
      have zF := ((z1.below bD).below bY)
      have CPY := Lib.hid (CP.out Y aa cb hRY (HR2.out.below bWY))
      have hVY : Below w1.heap.size V Y := oY.below (by simp; exact bD.size) (Nat.le_trans bD.size bN.size)
      have dBY : Below w1.heap.size w1.drew Y := hb2.trans (bY.mono bD.size)
      clear hY zN oY
      go_wp2
      rw [HY.out]
      refine hK _ _ (fun h => hSB.out _ _ h hVY) ?_
      clear hK K
      have hSY : (WhS w1.heap.size W.heap.size (.slice (some ⟨b, off, none⟩) n cap) r c s b off (.slice a2 w c2)) Y := hSB.out _ _ hS0 (dBY)
      refine' wpAnyY_read 14 (WhS w1.heap.size W.heap.size (.slice (some ⟨b, off, none⟩) n cap) r c s b off (.slice a2 w c2)) [] (v := _) (by kernel_rfl) (fun _ _ d _ _ h => by cases d <;> exact h) (by kernel_rfl) rfl (fun j y y' hj h hs => h hs) (fun _ h => h) hSY rfl ?_ ?_
      rotate_left 1
      · intro w' hw'; obtain ⟨j1, j2, _⟩ := hw'; obtain ⟨g0, g1, g2, g3⟩ := j1.cells; go_simp; try with_reducible rfl
      try simp only [Act.put, List.setIfInBounds_toArray, List.set_cons_zero, List.set_cons_succ]
      refine wpAnyY_end (by kernel_rfl) ?_
      obtain ⟨g0, g1, g2, g3⟩ := hSY.1.cells
      obtain ⟨m0, m1, m2, m3⟩ := zY.cells
      go_wp2_with (go_at_call 101; refine (CPY.out).mono ?_; rintro e w5 ⟨rfl, hb5⟩)
      go_ret2
      rw [HZ0.out, HB0.out]
      exact ⟨rfl, bto bWY hb5 bWY.size⟩
    · simp only [List.getElem_toArray, List.getElem_cons_succ, List.getElem_cons_zero]
      have bN : Below w1.heap.size w1 ((w1.alloc (.cells #[.slice none 0 0, .int .i64 0, .int .i64 0, .bool false] 52)).drew) := dB.alloc dB.size _
      have zN : FBI ((w1.alloc (.cells #[.slice none 0 0, .int .i64 0, .int .i64 0, .bool false] 52)).drew) w1.heap.size (.slice none 0 0) 0 0 false := World.alloc_heap_new w1.drew _
      have bNd : Below w1.heap.size w1.drew ((w1.alloc (.cells #[.slice none 0 0, .int .i64 0, .int .i64 0, .bool false] 52)).drew) := (Below.refl w1.heap.size w1.drew).alloc dB.size _
      obtain ⟨V, hV⟩ : ∃ V, (w1.alloc (.cells #[.slice none 0 0, .int .i64 0, .int .i64 0, .bool false] 52)).drew = V := ⟨_, rfl⟩
      rw [hV] at bN zN bNd
      have HV := Lib.hid hV
      clear hV
      go_wp2
      rw [HV.out]
      refine hK _ _ (fun h => hSB.out _ _ h bNd) ?_
      clear hK K
      refine wpAnyY_one (i := 8) (by kernel_rfl) rfl (fun K hK => ?_)
      simp only [List.getElem_toArray, List.getElem_cons_succ, List.getElem_cons_zero]
      go_wp2_with fail
      refine (CB2.out V).mono ?_
      rintro e w2 ⟨aa, cb, rfl, hRb, hcb, hb2⟩
      have bD : Below w1.heap.size w1 w2 := bto bN hb2 bN.size
      have b2 := bto b1 bD b1.size
      have hS1 := hSB.out _ _ hS0 (bNd.trans (hb2.mono bN.size))
      have zN2 := zN.below hb2
      go_wp2
      refine hK _ _ (fun h => hSB.out _ _ h (hb2.mono bN.size)) ?_
      clear hK K
      refine' wpAnyY_read 9 (WhS w1.heap.size W.heap.size (.slice (some ⟨b, off, none⟩) n cap) r c s b off (.slice a2 w c2)) [] (v := _) (by kernel_rfl) (fun _ _ d _ _ h => by cases d <;> exact h) (by kernel_rfl) rfl (fun j y y' hj h hs => h hs) (fun _ h => h) hS1 rfl ?_ ?_
      rotate_left 1
      · intro w' hw'; obtain ⟨j1, j2, _⟩ := hw'; obtain ⟨g0, g1, g2, g3⟩ := j1.cells; go_simp; try with_reducible rfl
      try simp only [Act.put, List.setIfInBounds_toArray, List.set_cons_zero, List.set_cons_succ]
      refine' wpAnyY_read 10 (WhS w1.heap.size W.heap.size (.slice (some ⟨b, off, none⟩) n cap) r c s b off (.slice a2 w c2)) [] (v := _) (by kernel_rfl) (fun _ _ d _ _ h => by cases d <;> exact h) (by kernel_rfl) rfl (fun j y y' hj h hs => h hs) (fun _ h => h) hS1 rfl ?_ ?_
      rotate_left 1
      · intro w' hw'; obtain ⟨j1, j2, _⟩ := hw'; obtain ⟨g0, g1, g2, g3⟩ := j1.cells; go_simp; try with_reducible rfl
      try simp only [Act.put, List.setIfInBounds_toArray, List.set_cons_zero, List.set_cons_succ]
      refine' wpAnyY_read 11 (WhS w1.heap.size W.heap.size (.slice (some ⟨b, off, none⟩) n cap) r c s b off (.slice a2 w c2)) [] (v := _) (by kernel_rfl) (fun _ _ d _ _ h => by cases d <;> exact h) (by kernel_rfl) rfl (fun j y y' hj h hs => h hs) (fun _ h => h) hS1 rfl ?_ ?_
      rotate_left 1
      · intro w' hw'; obtain ⟨j1, j2, _⟩ := hw'; obtain ⟨g0, g1, g2, g3⟩ := j1.cells; go_simp; try with_reducible rfl
      try simp only [Act.put, List.setIfInBounds_toArray, List.set_cons_zero, List.set_cons_succ]
      refine wpAnyY_one (i := 13) (by kernel_rfl) rfl (fun K hK => ?_)
      simp only [List.getElem_toArray, List.getElem_cons_succ, List.getElem_cons_zero]
      obtain ⟨u0, u1, u2, u3⟩ := zN2.cells
      have f0 := zN2.froz 0
      have f1 := zN2.froz 1
      have f2 := zN2.froz 2
      have f3 := zN2.froz 3
      obtain ⟨Y, hY⟩ : ∃ Y, (((w2.setCell ⟨w1.heap.size, 0, none⟩ (.slice aa (blankM w n).length cb)).setCell ⟨w1.heap.size, 1, none⟩ (.int .i64 0)).setCell ⟨w1.heap.size, 2, none⟩ (.int .i64 0)).setCell ⟨w1.heap.size, 3, none⟩ (.bool true) = Y := ⟨_, rfl⟩
      obtain ⟨zY, oY⟩ := zN2.fill (.slice aa (blankM w n).length cb) 0 0 true Y hY
      have HY := Lib.hid hY
      have hVY : Below w1.heap.size w2 Y := oY.below (by simp) bD.size
      have dBY : Below w1.heap.size w1.drew Y := bNd.trans ((hb2.mono bN.size).trans hVY)
      have bWY : Below W.heap.size W Y := b2.trans (hVY.mono b1.size)
      have hRY := hRb.box zN2 oY (fun M hM e => by
        have := (RowsOk.blank w n).w M hM
        rw [e] at this
        simp at this
        omega)
      have CPY := Lib.hid (CP.out Y aa cb hRY (HR2.out.below bWY))
      clear hY zN zN2 oY
      go_wp2
      rw [HY.out]
      refine hK _ _ (fun h => hSB.out _ _ h hVY) ?_
      clear hK K
      have hSY : (WhS w1.heap.size W.heap.size (.slice (some ⟨b, off, none⟩) n cap) r c s b off (.slice a2 w c2)) Y := hSB.out _ _ hS0 (dBY)
      refine' wpAnyY_read 14 (WhS w1.heap.size W.heap.size (.slice (some ⟨b, off, none⟩) n cap) r c s b off (.slice a2 w c2)) [] (v := _) (by kernel_rfl) (fun _ _ d _ _ h => by cases d <;> exact h) (by kernel_rfl) rfl (fun j y y' hj h hs => h hs) (fun _ h => h) hSY rfl ?_ ?_
      rotate_left 1
      · intro w' hw'; obtain ⟨j1, j2, _⟩ := hw'; obtain ⟨g0, g1, g2, g3⟩ := j1.cells; go_simp; try with_reducible rfl
      try simp only [Act.put, List.setIfInBounds_toArray, List.set_cons_zero, List.set_cons_succ]
      refine wpAnyY_end (by kernel_rfl) ?_
      obtain ⟨g0, g1, g2, g3⟩ := hSY.1.cells
      obtain ⟨m0, m1, m2, m3⟩ := zY.cells
      go_wp2_with (go_at_call 101; refine (CPY.out).mono ?_; rintro e w5 ⟨rfl, hb5⟩)
      go_ret2
      rw [HZ0.out, HB0.out]
      exact ⟨rfl, bto bWY hb5 bWY.size⟩
end Go.Proofs.YtekodpcedjpnjaaGreat
