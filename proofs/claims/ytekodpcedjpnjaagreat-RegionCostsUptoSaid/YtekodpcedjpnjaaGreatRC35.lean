/- The program's Blank, Whole, Diff. No condition but that the strings are not too long for a cut. The program's Whole. No condition but that the strings are not too long for a cut. -/
import Derived.Test.YtekodpcedjpnjaaGreatRC34
set_option linter.unusedVariables false
set_option linter.unusedSimpArgs false
namespace Go.Proofs.YtekodpcedjpnjaaGreat
open Go.RowKit Go.Shelf Go.Maps
theorem BAt_rows (w h : Nat) : rowsG (List.replicate (w * h) GC.blank) w h = List.replicate h (List.replicate w GC.blank) := by
  have h1 := (RowsOk.blank w h).rows
  rw [List.flatten_replicate_replicate, Nat.mul_comm] at h1
  exact h1
theorem FBI.load {W : World} {F : Nat} {v : Value} {r c : Int} {s : Bool} (h : FBI W F v r c s) : (loadVar 52 ⟨F, 0, none⟩).run Tryz.prog W = .ok (.agg #[v, .int .i64 r, .int .i64 c, .bool s]) W :=
  run_loadVar_row (P := Tryz.prog) W F _ 52 _ (0, 0) _ h Tryz.underlying52 rfl (by kernel_rfl)
theorem FBI.froz {W : World} {F : Nat} {v : Value} {r c : Int} {s : Bool} (h : FBI W F v r c s) : ∀ j, W.frozen? ⟨F, j, none⟩ = false := fun j => by
  unfold FBI at h
  simp [World.frozen?, h]
theorem FBI.fill {W : World} {b : Nat} {v : Value} {r c : Int} {s : Bool} (g : FBI W b v r c s) (v' : Value) (r' c' : Int) (s' : Bool) (X : World)
    (hX : (((W.setCell ⟨b, 0, none⟩ v').setCell ⟨b, 1, none⟩ (.int .i64 r')).setCell ⟨b, 2, none⟩ (.int .i64 c')).setCell ⟨b, 3, none⟩ (.bool s') = X) : FBI X b v' r' c' s' ∧ Only [b] W X := by
  subst hX
  refine ⟨?_, ((((Only.refl [b] W).setCell (.inl (by simp)) _).setCell (.inl (by simp)) _).setCell (.inl (by simp)) _).setCell (.inl (by simp)) _⟩
  unfold FBI at g ⊢
  simp only [World.setCell, Array.getElem?_modify, if_true, g, Option.map_some]
  rfl
theorem FBI.set3 {W : World} {b : Nat} {v : Value} {r c : Int} {s : Bool} (g : FBI W b v r c s) (s' : Bool) : FBI (W.setCell ⟨b, 3, none⟩ (.bool s')) b v r c s' := by
  unfold FBI at g ⊢
  simp only [World.setCell, Array.getElem?_modify, if_true, g, Option.map_some]
  rfl
theorem cellB {W X : World} {k j : Nat} (h : X.heap[k]? = W.heap[k]?) : X.cell? ⟨k, j, none⟩ = W.cell? ⟨k, j, none⟩ := by
  unfold World.cell?
  dsimp only
  rw [h]
theorem FBI.at_ {W : World} {F : Nat} {v : Value} {r c : Int} {s : Bool} (z : FBI W F v r c s) {j : Nat} {u : Value} (h : W.cell? ⟨F, j, none⟩ = some u) : u = v ∨ u = .int .i64 r ∨ u = .int .i64 c ∨ u = .bool s := by
  rw [cell_of_row W F j _ _ _ z] at h
  have h1 := (Array.mem_of_getElem? h)
  simpa using h1
theorem RowsAt.box {W X : World} {a : Option Addr} {n : Nat} {R : List (List GC)} (h : RowsAt W a n R) {F : Nat} {r c : Int} {s : Bool} (z : FBI W F (.slice none 0 0) r c s) (ho : Only [F] W X) (hne : ∀ M ∈ R, M ≠ []) : RowsAt X a n R :=
  ⟨h.len, fun i M hi => by
    obtain ⟨b, off, a2, c2, h1, h2, h3, h4, h5⟩ := h.at_ i M hi
    have hM := hne M (List.mem_of_getElem? hi)
    have hbF : b ≠ F := fun e => by
      subst e
      have h5l := h5.at_ 0 (M[0]'(by cases M with | nil => exact absurd rfl hM | cons _ _ => simp)) (List.getElem?_eq_getElem _)
      obtain ⟨_, _, e2, _⟩ := h5l
      subst e2
      rcases z.at_ h3 with h | h | h | h <;> cases h
    refine ⟨b, off, a2, c2, h1, Nat.lt_of_lt_of_le h2 ho.size, (cellB (ho.block b h2 (by simp; exact hbF))).trans h3, h4, h5.len, fun k x hk => ?_⟩
    obtain ⟨b', o', e1, e2, e3⟩ := h5.at_ k x hk
    have hbF' : b' ≠ F := fun e => by
      subst e
      have := e3 0 (.string x.s) rfl
      rcases z.at_ this with h | h | h | h <;> cases h
    exact ⟨b', o', e1, Nat.lt_of_lt_of_le e2 ho.size, fun j v hv => (cellB (ho.block b' e2 (by simp; exact hbF'))).trans (e3 j v hv)⟩⟩
def blankM (w h : Nat) : List (List GC) := List.replicate h (List.replicate w GC.blank)
def FrPost2 (R : List (List GC)) (r c : Nat) (s : Bool) (w : World) (e : Ending) (w' : World) : Prop :=
  ∃ a cap, e = .returned (.tuple #[.agg #[.slice a R.length cap, .int .i64 r, .int .i64 c, .bool s], .int .i64 0]) ∧ RowsAt w' a R.length R ∧ (R.length ≤ cap ∧ cap ≤ maxLen) ∧ Below w.heap.size w w'
set_option maxRecDepth 100000 in
set_option maxHeartbeats 4000000 in
theorem dblank_ok (a b : Nat) (h : 1 ≤ a ∧ a ≤ 500 ∧ 1 ≤ b ∧ b ≤ 60) (W : World) :
    Calls Tryz.prog 38 #[.int .i64 a, .int .i64 b] W (FrPost2 (blankM a b) 0 0 true W) := by
  have CN := Lib.hid (fun X => fnew_ok a b h X)
  have HM : Hid (rowsG (List.replicate (a * b) GC.blank) a b = blankM a b) := Lib.hid (BAt_rows a b)
  have hb := h.2.2.2
  have ha1 := h.1
  clear h
  have z0 : FBI (W.alloc (.cells #[.slice none 0 0, .int .i64 0, .int .i64 0, .bool false] 52)) W.heap.size (.slice none 0 0) 0 0 false := World.alloc_heap_new W _
  have b0 : Below W.heap.size W (W.alloc (.cells #[.slice none 0 0, .int .i64 0, .int .i64 0, .bool false] 52)) := (Below.refl _ _).alloc (Nat.le_refl _) _
  go_enter Tryz.func38, Tryz.ntmps38
  go_upto_region 1 with (fail)
  obtain ⟨X, hX⟩ : ∃ X, W.alloc (.cells #[.slice none 0 0, .int .i64 0, .int .i64 0, .bool false] 52) = X := ⟨_, rfl⟩
  rw [hX] at z0 b0 ⊢
  clear hX
  go_upto_region 4 with (go_at_call 15; refine (CN.out _).mono ?_; rintro e w1 ⟨z, p, q, rfl, ba, hge, hb1⟩)
  have CF := frame_any ba hb (by omega) (by omega)
  rw [HM.out] at CF
  have CF := Lib.hid CF
  go_upto_region 5 with (go_at_call 26; refine (CF.out).mono ?_; rintro e w2 ⟨aa, cap, rfl, hR, hcap, hb2⟩)
  have z2 := (z0.below hb1).below hb2
  have b2 := bto (bto b0 hb1 b0.size) hb2 (bto b0 hb1 b0.size).size
  have hbN : Below w2.heap.size w2 (w2.alloc (.cells #[.slice aa (blankM a b).length cap, .int .i64 0, .int .i64 0, .bool false] 52)) := (Below.refl _ _).alloc (Nat.le_refl _) _
  have zN : FBI (w2.alloc (.cells #[.slice aa (blankM a b).length cap, .int .i64 0, .int .i64 0, .bool false] 52)) w2.heap.size (.slice aa (blankM a b).length cap) 0 0 false := World.alloc_heap_new w2 _
  obtain ⟨V, hV⟩ : ∃ V, w2.alloc (.cells #[.slice aa (blankM a b).length cap, .int .i64 0, .int .i64 0, .bool false] 52) = V := ⟨_, rfl⟩
  rw [hV] at hbN zN ⊢
  clear hV
  have z3 := z2.below hbN
  have hlt2 := z2.lt
  have hf3 := zN.froz 3
  obtain ⟨_, _, _, n3⟩ := zN.cells
  have zM := zN.set3 true
  have oM : Only [w2.heap.size] V (V.setCell ⟨w2.heap.size, 3, none⟩ (.bool true)) := (Only.refl _ V).setCell (.inl (by simp)) _
  have z4 : FBI (V.setCell ⟨w2.heap.size, 3, none⟩ (.bool true)) W.heap.size (.slice none 0 0) 0 0 false := oM.heap z3 (by simp; omega)
  have hR4 : RowsAt V aa (blankM a b).length (blankM a b) := hR.below hbN
  have hb4 : Below w2.heap.size w2 (V.setCell ⟨w2.heap.size, 3, none⟩ (.bool true)) := hbN.trans (oM.below (by simp) hbN.size)
  have hR4 := hR.below hb4
  go_upto_region 6 with (fail)
  obtain ⟨V1, hV1⟩ : ∃ V1, V.setCell ⟨w2.heap.size, 3, none⟩ (.bool true) = V1 := ⟨_, rfl⟩
  rw [hV1] at zM z4 hR4 hb4 ⊢
  clear hV1 n3 hf3 oM zN z3
  obtain ⟨Y, hY⟩ : ∃ Y, (((V1.setCell ⟨W.heap.size, 0, none⟩ (.slice aa (blankM a b).length cap)).setCell ⟨W.heap.size, 1, none⟩ (.int .i64 0)).setCell ⟨W.heap.size, 2, none⟩ (.int .i64 0)).setCell ⟨W.heap.size, 3, none⟩ (.bool true) = Y := ⟨_, rfl⟩
  obtain ⟨zY, oY⟩ := z4.fill (.slice aa (blankM a b).length cap) 0 0 true Y hY
  obtain ⟨m0, m1, m2, m3⟩ := zM.cells
  obtain ⟨u0, u1, u2, u3⟩ := z4.cells
  have f0 := z4.froz 0
  have f1 := z4.froz 1
  have f2 := z4.froz 2
  have f3 := z4.froz 3
  have hne : W.heap.size ≠ w2.heap.size := by omega
  have HL := Lib.hid zY.load
  have HY := Lib.hid hY
  have hbW := bto b2 hb4 b2.size
  have FIN : Hid (Below W.heap.size W Y ∧ RowsAt Y aa (blankM a b).length (blankM a b)) := Lib.hid ⟨hbW.trans (oY.below (by simp) hbW.size), hR4.box z4 oY (fun M hM e => by
    have := (RowsOk.blank a b).w M hM
    rw [e] at this
    simp at this
    omega)⟩
  clear zY oY zM z4 hR4 hR hb4 hbW hY CN CF ba
  go_wp2
  rw [HY.out]
  refine bodyPost_ret (results_row2 rfl _ _ W.heap.size _ rfl HL.out) rfl ?_
  exact ⟨aa, cap, rfl, FIN.out.2, hcap, FIN.out.1⟩
set_option maxRecDepth 100000 in
set_option maxHeartbeats 4000000 in
theorem ddiff_any {W : World} {a1 a2 : Option Addr} {n1 n2 c1 c2 : Nat} {A B : List (List GC)} (hA : RowsAt W a1 n1 A) (hB : RowsAt W a2 n2 B) (hn1 : n1 ≤ maxLen) (hn2 : n2 ≤ maxLen) (sA : ∀ M ∈ A, ∀ c ∈ M, c.s.size ≤ 1100000) (sB : ∀ M ∈ B, ∀ c ∈ M, c.s.size ≤ 1100000) (r1 k1 r2 k2 : Int) (s1 s2 : Bool) :
    Calls Tryz.prog 35 #[.agg #[.slice a1 n1 c1, .int .i64 r1, .int .i64 k1, .bool s1], .agg #[.slice a2 n2 c2, .int .i64 r2, .int .i64 k2, .bool s2]] W fun e w' => e = .returned (.tuple #[.string (S (paintE A r1 k1 s1 B r2 k2 s2 false)), .int .i64 (errD (fitF A r1 k1 B r2 k2))]) ∧ Below W.heap.size W w' := by
  have bX : Below W.heap.size W ((W.alloc (.cells #[.slice a1 n1 c1, .int .i64 r1, .int .i64 k1, .bool s1] 52)).alloc (.cells #[.slice a2 n2 c2, .int .i64 r2, .int .i64 k2, .bool s2] 52)) := ((Below.refl _ _).alloc (Nat.le_refl _) _).alloc (by simp) _
  have CP := Lib.hid (paint_any (c1 := c1) (c2 := c2) (hA.below bX) (hB.below bX) hn1 hn2 sA sB r1 k1 r2 k2 s1 s2 false)
  have hsz : ((W.alloc (.cells #[.slice a1 n1 c1, .int .i64 r1, .int .i64 k1, .bool s1] 52)).alloc (.cells #[.slice a2 n2 c2, .int .i64 r2, .int .i64 k2, .bool s2] 52)).heap.size = W.heap.size + 1 + 1 := by simp
  clear hA hB sA sB
  go_enter Tryz.func35, Tryz.ntmps35
  go_wp2_with (go_at_call 101; refine (CP.out).mono ?_; rintro e w1 ⟨rfl, hb1⟩)
  go_ret2
  exact ⟨rfl, bto bX hb1 bX.size⟩
end Go.Proofs.YtekodpcedjpnjaaGreat
namespace Go.Proofs.YtekodpcedjpnjaaGreat
open Go.RowKit Go.Shelf Go.Maps
theorem wholeB_blank : ∀ w : Nat, wholeB (List.replicate w GC.blank) = true
  | 0 => rfl
  | w + 1 => by
    rw [List.replicate_succ, wholeB_cons, wholeB_blank w]
    kernel_rfl
theorem blankM_ok {w h : Nat} (hw : 1 ≤ w ∧ w ≤ 500) (hh : 1 ≤ h ∧ h ≤ 60) : okF (blankM w h) 0 0 = true := by
  have h0 : nth [] (blankM w h) 0 = List.replicate w GC.blank := by
    rw [nth_eq _ _ _ (by unfold blankM; simp; omega)]
    unfold blankM
    simp
  have hl : (blankM w h).length = h := by unfold blankM; simp
  unfold okF
  rw [h0, hl, List.length_replicate, decide_eq_true (by omega), Bool.true_and]
  unfold rowsOkB
  rw [List.all_eq_true]
  intro M hM
  rw [List.eq_of_mem_replicate (show M ∈ List.replicate h (List.replicate w GC.blank) from hM)]
  simp [wholeB_blank]
end Go.Proofs.YtekodpcedjpnjaaGreat
