/- The law FrameChecks: few: a frame, not larger than is looked at. No condition. -/
import Derived.Test.YtekodpcedjpnjaaFChk5
import Derived.Test.YtekodpcedjpnjaaFArg
namespace Go.Proofs.Ytekodpcedjpnjaa
set_option linter.unusedVariables false
set_option linter.unusedSimpArgs false
open Go.RowKit Go.Shelf Go.Maps
theorem own_neK {W : World} {n₀ : Nat} {e : TypeId} {s : Nat} {v : Value} {n : Nat} {xs : List Value} (h : W.ownsRow n₀ e s v n xs) (hn : n ≠ 0) : ∃ g c, v = .slice (some ⟨g, 0, none⟩) n c ∧ n₀ ≤ g ∧ n ≤ c ∧ c ≤ maxLen := by
  rcases h.2 with ⟨_, h2⟩ | ⟨g, cap, cur, h1, h2, _, h3, h4, _⟩
  · exact absurd h2 hn
  · exact ⟨g, cap, h1, h2, h3, h4⟩
theorem own_getK {W : World} {n₀ s g n cap : Nat} {e : TypeId} {xs : List Value} (h : W.ownsRow n₀ e s (.slice (some ⟨g, 0, none⟩) n cap) n xs) {j : Nat} {u : Value} (hj : xs[j]? = some u) : W.cell? ⟨g, j, none⟩ = some u ∧ W.frozen? ⟨g, j, none⟩ = false := by
  rcases h.2 with ⟨h1, _⟩ | ⟨g', cap', cur, h1, h2, h3, h4, h5, h6, h7⟩
  · cases h1
  · cases h1
    have hl : j < xs.length := (List.getElem?_eq_some_iff.1 hj).1
    have h8 : cur[j]? = some u := by
      rw [← h7, List.getElem?_take] at hj
      split at hj
      · rw [Array.getElem?_toList] at hj; exact hj
      · cases hj
    unfold World.cell? World.frozen?
    dsimp only
    rw [h3]
    exact ⟨by simpa using h8, by simp⟩
/-- What few leaves of a frame's rows. -/
def fewR (R : List (List GC)) : List (List GC) := (R.take 70).map (List.take 510)
theorem fewR_len (R : List (List GC)) : (fewR R).length = min R.length 70 := by unfold fewR; rw [List.length_map, List.length_take, Nat.min_comm]
theorem fewR_get {R : List (List GC)} {i : Nat} {M : List GC} (h : R[i]? = some M) (hi : i < 70) : (fewR R)[i]? = some (M.take 510) := by
  unfold fewR
  rw [List.getElem?_map, List.getElem?_take, if_pos hi, h]
  rfl
theorem CellsAt.take {W : World} {a : Option Addr} {n : Nat} {M : List GC} (h : CellsAt W a n M) (k : Nat) : CellsAt W a (M.take k).length (M.take k) :=
  ⟨rfl, fun i c hi => by
    rw [List.getElem?_take] at hi
    split at hi
    · exact h.at_ i c hi
    · cases hi⟩
/-- Slices of cells that stand in a world. -/
def SlV (W : World) (vs : List Value) (R : List (List GC)) : Prop :=
  vs.length = R.length ∧ ∀ (i : Nat) (M : List GC), R[i]? = some M → ∃ a2 c2, vs[i]? = some (.slice a2 M.length c2) ∧ (M.length ≤ c2 ∧ c2 ≤ maxLen) ∧ CellsAt W a2 M.length M
theorem SlV.nil (W : World) : SlV W [] [] := ⟨rfl, fun i M h => by simp at h⟩
theorem SlV.snoc {W : World} {vs : List Value} {R : List (List GC)} (h : SlV W vs R) {a2 : Option Addr} {c2 : Nat} {M : List GC} (hc : M.length ≤ c2 ∧ c2 ≤ maxLen) (hM : CellsAt W a2 M.length M) : SlV W (vs ++ [Value.slice a2 M.length c2]) (R ++ [M]) := by
  obtain ⟨h1, h2⟩ := h
  refine ⟨by simp [h1], fun i N hi => ?_⟩
  by_cases hlt : i < R.length
  · rw [List.getElem?_append_left hlt] at hi
    obtain ⟨b, d, e1, e2, e3⟩ := h2 i N hi
    exact ⟨b, d, by rw [List.getElem?_append_left (by omega)]; exact e1, e2, e3⟩
  · rw [List.getElem?_append_right (by omega)] at hi
    have h0 : i - R.length = 0 := by
      cases hk : i - R.length with
      | zero => rfl
      | succ k => rw [hk] at hi; simp at hi
    rw [h0] at hi
    simp only [List.getElem?_cons_zero, Option.some.injEq] at hi
    subst hi
    exact ⟨a2, c2, by rw [List.getElem?_append_right (by omega), h1, h0]; rfl, hc, hM⟩
theorem SlV.rows {W Y : World} {n₀ k c : Nat} {a : Option Addr} {vs : List Value} {R : List (List GC)} (h : SlV W vs R) (hb : Below W.heap.size W Y) (ho : Y.ownsRow n₀ 46 1 (.slice a k c) k vs) : RowsAt Y a k R := by
  obtain ⟨h1, h2⟩ := h
  have hk : vs.length = k := by simpa using ho.1
  refine ⟨by omega, fun i M hi => ?_⟩
  obtain ⟨a2, c2, e1, e2, e3⟩ := h2 i M hi
  have hik : i < k := by have := (List.getElem?_eq_some_iff.1 hi).1; omega
  obtain ⟨g, cap, hv, _, _, _⟩ := own_neK ho (by omega)
  simp only [Value.slice.injEq, true_and] at hv
  obtain ⟨rfl, rfl⟩ := hv
  have hc := (own_getK ho e1).1
  exact ⟨g, 0, a2, c2, rfl, World.block_lt_of_cell? _ _ hc, by rw [Nat.zero_add]; exact hc, e2, e3.below hb⟩
end Go.Proofs.Ytekodpcedjpnjaa
namespace Go.Proofs.Ytekodpcedjpnjaa
set_option linter.unusedVariables false
set_option linter.unusedSimpArgs false
open Go.RowKit Go.Shelf Go.Maps
theorem FBI.loadK {W : World} {F : Nat} {v : Value} {r c : Int} {s : Bool} (h : FBI W F v r c s) : (loadVar 51 ⟨F, 0, none⟩).run Try.prog W = .ok (.agg #[v, .int .i64 r, .int .i64 c, .bool s]) W :=
  run_loadVar_row (P := Try.prog) W F _ 51 _ (0, 0) _ h Try.underlying51 rfl (by kernel_rfl)
theorem FBI.frozK {W : World} {F : Nat} {v : Value} {r c : Int} {s : Bool} (h : FBI W F v r c s) : ∀ j, W.frozen? ⟨F, j, none⟩ = false := fun j => by
  unfold FBI at h
  simp [World.frozen?, h]
theorem FBI.fillK {W : World} {b : Nat} {v : Value} {r c : Int} {s : Bool} (g : FBI W b v r c s) (v' : Value) (r' c' : Int) (s' : Bool) (X : World)
    (hX : (((W.setCell ⟨b, 0, none⟩ v').setCell ⟨b, 1, none⟩ (.int .i64 r')).setCell ⟨b, 2, none⟩ (.int .i64 c')).setCell ⟨b, 3, none⟩ (.bool s') = X) : FBI X b v' r' c' s' ∧ Only [b] W X := by
  subst hX
  refine ⟨?_, ((((Only.refl [b] W).setCell (.inl (by simp)) _).setCell (.inl (by simp)) _).setCell (.inl (by simp)) _).setCell (.inl (by simp)) _⟩
  unfold FBI at g ⊢
  simp only [World.setCell, Array.getElem?_modify, if_true, g, Option.map_some]
  rfl
theorem row_oneK (W : World) (v : Value) (t : TypeId) : ∀ (j : Nat) (u : Value), [v][j]? = some u → (W.alloc (.cells #[v] t)).cell? ((⟨W.heap.size, 0, none⟩ : Addr).add j) = some u := fun j u h => by
  have h0 := (cell_new_l W v t).1
  cases j with
  | zero =>
    simp only [List.getElem?_cons_zero, Option.some.injEq] at h
    subst h
    rw [Go.WideShapes.add_plain]; exact h0
  | succ j => simp at h
/-- What few gives: slices of the cells of V in an array of its own. -/
def FewPost (V : World) (R : List (List GC)) (r c : Int) (s : Bool) (w : World) (e : Ending) (w' : World) : Prop :=
  ∃ av cv vs, e = .returned (.agg #[.slice av (fewR R).length cv, .int .i64 r, .int .i64 c, .bool s]) ∧ w'.ownsRow (w.heap.size + 1 + 1) 46 1 (.slice av (fewR R).length cv) (fewR R).length vs ∧ SlV V vs (fewR R) ∧ Below w.heap.size w w'
def FwS (B : Nat) (v : Value) (r c : Int) (s : Bool) (b o : Nat) (u : Value) (X : World) : Prop := FBI X B v r c s ∧ X.cell? ⟨b, o, none⟩ = some u
theorem FBI.setRows {W : World} {b : Nat} {v : Value} {r c : Int} {s : Bool} (g : FBI W b v r c s) (u : Value) : FBI (W.setCell ⟨b, 0, none⟩ u) b u r c s := by
  have := set_at g 0 u
  exact this
theorem FBI.oth {W : World} {b k o : Nat} {v : Value} {r c : Int} {s : Bool} (g : FBI W b v r c s) (h : b ≠ k) (u : Value) : FBI (W.setCell ⟨k, o, none⟩ u) b v r c s := (Below.heap_setCell _ _ _ _ (by exact h)).trans g
set_option maxRecDepth 100000 in
set_option maxHeartbeats 8000000 in
theorem few_any {V W : World} {a : Option Addr} {n cap : Nat} {R : List (List GC)} (hR : RowsAt V a n R) (hV : Below V.heap.size V W) (hn : n ≤ cap) (hcap : cap ≤ maxLen) (r c : Int) (s : Bool) :
    Calls Try.prog 19 #[.agg #[.slice a n cap, .int .i64 r, .int .i64 c, .bool s]] W (FewPost V R r c s W) := by
  obtain ⟨i0, hi, hz0, hz1, hz2⟩ := info_parts infoCells
  unfold maxLen at hcap
  have hl := hR.len
  have HR := Lib.hid hR
  have HFL := fewR_len R
  clear hR
  have t1 : FBI (W.alloc (.cells #[.slice a n cap, .int .i64 r, .int .i64 c, .bool s] 51)) W.heap.size (.slice a n cap) r c s := World.alloc_heap_new W _
  go_enter Try.func19, Try.ntmps19
  go_upto_region 1 with (fail)
  obtain ⟨X1, hX1⟩ : ∃ X, W.alloc (.cells #[.slice a n cap, .int .i64 r, .int .i64 c, .bool s] 51) = X := ⟨_, rfl⟩
  have s1 : X1.heap.size = W.heap.size + 1 := by rw [← hX1]; simp
  have b1 : Below W.heap.size W X1 := by rw [← hX1]; exact (Below.refl _ _).alloc (Nat.le_refl _) _
  rw [hX1] at t1 ⊢
  clear hX1
  have bX1 : Below X1.heap.size X1 (X1.alloc (.cells #[.slice none 0 0, .int .i64 0, .int .i64 0, .bool false] 51)) := (Below.refl _ _).alloc (Nat.le_refl _) _
  have t2 : FBI (X1.alloc (.cells #[.slice none 0 0, .int .i64 0, .int .i64 0, .bool false] 51)) (W.heap.size + 1) (.slice none 0 0) 0 0 false := by rw [← s1]; exact World.alloc_heap_new X1 _
  obtain ⟨X, hX⟩ : ∃ X, X1.alloc (.cells #[.slice none 0 0, .int .i64 0, .int .i64 0, .bool false] 51) = X := ⟨_, rfl⟩
  have s2 : X.heap.size = W.heap.size + 1 + 1 := by rw [← hX]; simp [s1]
  rw [hX] at bX1 t2
  rw [hX]
  clear hX
  replace t1 := t1.below bX1
  have bX := bto b1 bX1 b1.size
  clear b1 bX1 s1
  obtain ⟨k, hk⟩ : ∃ k, k = min n 70 := ⟨_, rfl⟩
  have hkR : (fewR R).length = k := by omega
  obtain ⟨u0, u1, u2, u3⟩ := t1.cells
  have f0 := t1.frozK 0
  go_cut [10] (fun v wx => v = .int .i64 k ∧ FBI wx W.heap.size (.slice a k cap) r c s ∧ FBI wx (W.heap.size + 1) (.slice none 0 0) 0 0 false ∧ Below W.heap.size W wx)
  case first =>
    have hY := Lib.hid (And.intro (t1.setRows (.slice a k cap)) (And.intro (t2.oth (o := 0) (k := W.heap.size) (by omega) (.slice a k cap)) (bX.setCell (p := ⟨W.heap.size, 0, none⟩) (Nat.le_refl _) (.slice a k cap))))
    clear HFL
    by_cases h70 : n ≤ 70
    · obtain rfl : k = n := by omega
      have hmin : min (k : Int) 70 = (k : Int) := by omega
      clear hk
      go_wp2
      go_meet
      exact ⟨rfl, hY.out⟩
    · obtain rfl : k = 70 := by omega
      have hmin : min (n : Int) 70 = 70 := by omega
      clear hk
      go_wp2
      go_meet
      exact ⟨rfl, hY.out⟩
  case rest =>
    obtain ⟨rfl, y1, y2, bY⟩ := hcut
    clear u0 u1 u2 u3 f0 t1 t2 bX HFL
    have hyl := y2.lt
    go_wp2
    go_loopw [3, 4] (fun v iv wr => ∃ (j : Nat) (vs : List Value), j ≤ k ∧ iv = .int .i64 j ∧ FBI wr W.heap.size (.slice a k cap) r c s ∧ FBI wr (W.heap.size + 1) (.slice none 0 0) 0 0 false ∧ wr.ownsRow (W.heap.size + 1 + 1) 46 1 v j vs ∧ SlV V vs ((fewR R).take j) ∧ Below W.heap.size W wr) (fun _ iv _ => k - (intOf iv).toNat)
    case atStart => exact ⟨0, [], Nat.zero_le _, rfl, y1, y2, World.ownsRow_nil _ _ _ _, SlV.nil _, bY⟩
    case round =>
      obtain ⟨j, vs, hj, rfl, x1, x2, hown, hsl, hb⟩ := hrel
      obtain ⟨av, cv, rfl⟩ := own_sliceF hown
      have hx2 := x2.lt
      by_cases hlt : j < k
      · obtain ⟨M, hM⟩ : ∃ M, M = nth [] R j := ⟨_, rfl⟩
        have hM' : R[j]? = some M := by rw [hM, nth_eq _ _ _ (by omega)]; exact List.getElem?_eq_getElem (by omega)
        obtain ⟨b, off, a2, c2, rfl, hbl, hc0, ⟨hc1, hc2⟩, hcell⟩ := HR.out.at_ j M hM'
        have hF := fewR_get hM' (by omega)
        have HSN : Hid ((fewR R).take (j + 1) = (fewR R).take j ++ [M.take 510]) := Lib.hid (by
          rw [List.take_succ_eq_append_getElem (by omega)]
          congr 2
          exact (List.getElem?_eq_some_iff.1 hF).2)
        obtain ⟨m, hm⟩ : ∃ m, m = M.length := ⟨_, rfl⟩
        obtain ⟨km, hkm⟩ : ∃ q, q = (M.take 510).length := ⟨_, rfl⟩
        have hkm2 : km = min 510 m := by rw [hkm, hm, List.length_take]
        rw [← hm] at hc0 hc1
        unfold maxLen at hc2
        have HSL := Lib.hid (hsl.snoc (a2 := a2) (c2 := c2) (M := M.take 510) ⟨by omega, by unfold maxLen; omega⟩ (hcell.take 510))
        rw [← hkm] at HSL
        have hbV := bto hV hb hV.size
        have hblw : b < W.heap.size := Nat.lt_of_lt_of_le hbl hV.size
        have hcr := (hbV.cell (p := ⟨b, off + j, none⟩) hbl).trans hc0
        obtain ⟨q, hq⟩ : ∃ q, wr.drew = q := ⟨_, rfl⟩
        have dB : Below wr.heap.size wr q := by rw [← hq]; exact (Below.refl _ _).drew
        have hblr : b < wr.heap.size := Nat.lt_of_lt_of_le hbl hbV.size
        have hS0 : FwS W.heap.size (.slice (some ⟨b, off, none⟩) k cap) r c s b (off + j) (.slice a2 m c2) wr.drew := by rw [hq]; exact ⟨x1.below dB, (dB.cell (p := ⟨b, off + j, none⟩) hblr).trans hcr⟩
        have HQ := Lib.hid hq
        have hsq := dB.size
        have bA : Below q.heap.size q (q.alloc (.cells #[.slice a2 km c2] 46)) := (Below.refl _ _).alloc (Nat.le_refl _) _
        have hcn := row_oneK q (.slice a2 km c2) 46
        obtain ⟨Z, hZ⟩ : ∃ Z, q.alloc (.cells #[.slice a2 km c2] 46) = Z := ⟨_, rfl⟩
        rw [hZ] at bA hcn
        have HZ := Lib.hid hZ
        have bZ := bto dB bA dB.size
        have hown1 := own_belowF hown bZ
        have hZs := bZ.size
        have z1 := x1.below bZ
        have z2 := x2.below bZ
        have hS1 : FwS W.heap.size (.slice (some ⟨b, off, none⟩) k cap) r c s b (off + j) (.slice a2 m c2) Z := ⟨z1, (bZ.cell (p := ⟨b, off + j, none⟩) hblr).trans hcr⟩
        have hji : (j : Int) < (k : Int) := by omega
        have HKM : Hid (min (m : Int) 510 = (km : Int)) := Lib.hid (by omega)
        have hkmc : km ≤ c2 := by omega
        have hbs := hb.size
        obtain ⟨u0, u1, u2, u3⟩ := x1.cells
        clear hM hM' hF hm hkm hkm2 hq hZ hc0 hsl hcell u1 u2 u3
        go_wp2_with fail
        refine wp_region_mix2 [(true, 0), (true, 1), (true, 2), (true, 3), (true, 4), (true, 5), (true, 6), (true, 7), (true, 8), (true, 9), (true, 10), (true, 11), (true, 12), (true, 13), (false, 14), (false, 15), (true, 16)] (FwS W.heap.size (.slice (some ⟨b, off, none⟩) k cap) r c s b (off + j) (.slice a2 m c2)) (by kernel_rfl) (by kernel_rfl) (by rfl) (by kernel_rfl) (by kernel_rfl) (fun _ _ d _ _ h => by cases d <;> exact h) hS0 ?_
        simp only [mixL, List.getElem?_cons_succ, List.getElem?_cons_zero]
        rw [HQ.out]
        iterate 12 (refine' wpMix2_read (v := _) rfl ?_ ?_; rotate_left 1; (intro w' hw'; obtain ⟨g0, g1, g2, g3⟩ := hw'.1.cells; have gr := hw'.2; go_simp; try with_reducible rfl); try simp only [Act.put, List.setIfInBounds_toArray, List.set_cons_zero, List.set_cons_succ])
        refine' wpMix2_read (v := .int .i64 km) rfl ?_ ?_
        · intro w' hw'; go_simp; try rw [HKM.out]
        try simp only [Act.put, List.setIfInBounds_toArray, List.set_cons_zero, List.set_cons_succ]
        refine' wpMix2_read (v := .slice a2 km c2) rfl ?_ ?_
        · intro w' hw'; go_simp; try (intro hlt; exfalso; omega)
        try simp only [Act.put, List.setIfInBounds_toArray, List.set_cons_zero, List.set_cons_succ]
        refine wpMix2_act (fun K hK => ?_)
        go_wp2
        rw [HZ.out]
        refine hK _ _ hS1 ?_
        clear hK K
        refine wpMix2_act (fun K hK => ?_)
        go_wp2_with (at_builtin; refine wpList_append_own_at _ rfl _ _ 49 rfl (W.heap.size + 1 + 1) 46 i0 (.slice none 0 0) 1 24 Try.underlying49 hi hz0 hz1 hz2 rfl (by decide) _ _ _ rfl hown1 ⟨q.heap.size, 0, none⟩ 1 1 [.slice a2 km c2] rfl rfl hcn (by intro u hu; rw [List.mem_singleton.1 hu]; rfl) (by unfold maxLen; omega) (by omega) (by omega) ?_; intro v' w1 hown' hgrow _ _)
        have hB1 : Below (W.heap.size + 1 + 1) Z w1 := (Below.refl _ Z).grown hgrow (by omega) (fun k e => (own_cells hown1 k e).1)
        have hBW : Below W.heap.size Z w1 := hB1.mono (by omega)
        have hS2 : FwS W.heap.size (.slice (some ⟨b, off, none⟩) k cap) r c s b (off + j) (.slice a2 m c2) w1 := ⟨(hB1.block _ (by omega)).trans hS1.1, (hBW.cell (p := ⟨b, off + j, none⟩) hblw).trans hS1.2⟩
        have zz2 : FBI w1 (W.heap.size + 1) (.slice none 0 0) 0 0 false := (hB1.block _ (by omega)).trans z2
        refine hK _ _ hS2 ?_
        clear hK K
        refine' wpMix2_read (v := _) rfl ?_ ?_
        rotate_left 1
        · intro w' hw'; go_simp; try with_reducible rfl
        try simp only [Act.put, List.setIfInBounds_toArray, List.set_cons_zero, List.set_cons_succ]
        refine wpMix2_nil ?_
        go_wp2
        go_roundw
        case rel => exact ⟨j + 1, _, hlt, by go_num, hS2.1, zz2, hown', by rw [HSN.out]; exact HSL.out, (bto hb bZ hb.size).trans hBW⟩
        case measure => simp [intOf]; omega
      · obtain rfl : j = k := by omega
        rw [List.take_of_length_le (by omega)] at hsl
        obtain ⟨Y1, hY1⟩ : ∃ Y, wr.setCell ⟨W.heap.size, 0, none⟩ (.slice av j cv) = Y := ⟨_, rfl⟩
        have v1 : FBI Y1 W.heap.size (.slice av j cv) r c s := by rw [← hY1]; exact x1.setRows _
        have v2 : FBI Y1 (W.heap.size + 1) (.slice none 0 0) 0 0 false := by rw [← hY1]; exact x2.oth (by omega) _
        have vo : Y1.ownsRow (W.heap.size + 1 + 1) 46 1 (.slice av j cv) j vs := by rw [← hY1]; exact own_set (off := 0) hown (by omega) _
        have vb : Below W.heap.size W Y1 := by rw [← hY1]; exact hb.setCell (p := ⟨W.heap.size, 0, none⟩) (Nat.le_refl _) _
        obtain ⟨Y, hY⟩ : ∃ Y, (((Y1.setCell ⟨W.heap.size + 1, 0, none⟩ (.slice av j cv)).setCell ⟨W.heap.size + 1, 1, none⟩ (.int .i64 r)).setCell ⟨W.heap.size + 1, 2, none⟩ (.int .i64 c)).setCell ⟨W.heap.size + 1, 3, none⟩ (.bool s) = Y := ⟨_, rfl⟩
        obtain ⟨zY, oY⟩ := v2.fillK (.slice av j cv) r c s Y hY
        have yo : Y.ownsRow (W.heap.size + 1 + 1) 46 1 (.slice av j cv) j vs := by
          rw [← hY]
          exact own_set (off := 3) (own_set (off := 2) (own_set (off := 1) (own_set (off := 0) vo (by omega) _) (by omega) _) (by omega) _) (by omega) _
        have yb := vb.trans (oY.below (by simp) vb.size)
        have HSLF := Lib.hid hsl
        have HY1 := Lib.hid hY1
        have HY := Lib.hid hY
        obtain ⟨u0, u1, u2, u3⟩ := x1.cells
        have f0 := x1.frozK 0
        obtain ⟨e0, e1, e2, e3⟩ := v1.cells
        have f4 := v2.frozK 0
        have f5 := v2.frozK 1
        have f6 := v2.frozK 2
        have f7 := v2.frozK 3
        obtain ⟨d0, d1, d2, d3⟩ := v2.cells
        clear hY1 hY oY hsl hown x2 hk
        go_upto_region 8 with (fail)
        rw [HY1.out]
        go_wp2
        rw [HY.out]
        refine bodyPost_ret (results_cell_row rfl _ _ (W.heap.size + 1) 51 _ (0, 0) _ rfl zY Try.underlying51 rfl (by kernel_rfl)) rfl ?_
        exact ⟨av, cv, vs, by rw [hkR], by rw [hkR]; exact yo, HSLF.out, yb⟩
end Go.Proofs.Ytekodpcedjpnjaa
