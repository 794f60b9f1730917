/- The law FrameChecks: few: a frame, not larger than is looked at. No condition. The law's frame: a frame copied, not larger than is looked at, in memory of its own. No condition. Printed by gen_rnf.py. The program's region: kept, laid, Above, End, Draw, Shown. No condition but on the lengths. Printed by gen_rn3.py. -/
import Derived.Test.YtjkajojjehgmdaaGreatRE02
import Derived.Test.YtjkajojjehgmdaaGreatRE05
import Derived.Test.YtjkajojjehgmdaaGreatRE09
import Derived.Test.YtjkajojjehgmdaaGreatRE21
import Derived.Test.YtjkajojjehgmdaaGreatRE41
set_option linter.unusedVariables false
set_option linter.unusedSimpArgs false
namespace Go.Proofs.YtjkajojjehgmdaaGreat
open Go.RowKit Go.Shelf Go.Maps
theorem own_neK {W : World} {n₀ : Nat} {e : TypeId} {s : Nat} {v : Value} {n : Nat} {xs : List Value} (h : W.ownsRow n₀ e s v n xs) (hn : n ≠ 0) : ∃ g c, v = .slice (some ⟨g, 0, none⟩) n c ∧ n₀ ≤ g ∧ n ≤ c ∧ c ≤ maxLen := by
 rcases h.2 with ⟨_, h2⟩ | ⟨g, cap, cur, h1, h2, _, h3, h4, _⟩
 ·exact absurd h2 hn
 ·exact ⟨g, cap, h1, h2, h3, h4⟩
theorem own_getK {W : World} {n₀ s g n cap : Nat} {e : TypeId} {xs : List Value} (h : W.ownsRow n₀ e s (.slice (some ⟨g, 0, none⟩) n cap) n xs) {j : Nat} {u : Value} (hj : xs[j]? = some u) : W.cell? ⟨g, j, none⟩ = some u ∧ W.frozen? ⟨g, j, none⟩ = false := by
 rcases h.2 with ⟨h1, _⟩ | ⟨g', cap', cur, h1, h2, h3, h4, h5, h6, h7⟩
 ·cases h1
 ·cases h1
  have hl : j < xs.length := (List.getElem?_eq_some_iff.1 hj).1
  have h8 : cur[j]? = some u := by
   rw [← h7, List.getElem?_take] at hj
   split at hj
   ·rw [Array.getElem?_toList] at hj; exact hj
   ·cases hj
  unfold World.cell? World.frozen?
  dsimp only
  rw [h3]
  exact ⟨by simpa using h8, by simp⟩
theorem CellsAt.take {W : World} {a : Option Addr} {n : Nat} {M : List GC} (h : CellsAt W a n M) (k : Nat) : CellsAt W a (M.take k).length (M.take k) :=
 ⟨rfl, fun i c hi => by
  rw [List.getElem?_take] at hi
  split at hi
  ·exact h.at_ i c hi
  ·cases hi⟩
theorem FBI.frozK {W : World} {F : Nat} {v : Value} {r c : Int} {s : Bool} (h : FBI W F v r c s) : ∀ j, W.frozen? ⟨F, j, none⟩ = false := fun j => by
 unfold FBI at h
 simp [World.frozen?, h]
theorem FBI.fillK {W : World} {b : Nat} {v : Value} {r c : Int} {s : Bool} (g : FBI W b v r c s) (v' : Value) (r' c' : Int) (s' : Bool) (X : World)
    (hX : (((W.setCell ⟨b, 0, none⟩ v').setCell ⟨b, 1, none⟩ (.int .i64 r')).setCell ⟨b, 2, none⟩ (.int .i64 c')).setCell ⟨b, 3, none⟩ (.bool s') = X) : FBI X b v' r' c' s' ∧ Only [b] W X := by
 subst hX
 refine ⟨?_, ((((Only.refl [b] W).setCell (.inl (by simp)) _).setCell (.inl (by simp)) _).setCell (.inl (by simp)) _).setCell (.inl (by simp)) _⟩
 unfold FBI at g ⊢
 simp only [World.setCell, Array.getElem?_modify, if_true, g, Option.map_some]
 rfl
theorem row_oneK (W : World) (v : Value) (t : TypeId) : ∀ (j : Nat) (u : Value), [v][j]? = some u → (W.alloc (.cells #[v] t)).cell? ((⟨W.heap.size, 0, none⟩ : Addr).add j) = some u := fun j u h => by
 have h0 := (cell_new_l W v t).1
 cases j with
 | zero =>
  simp only [List.getElem?_cons_zero, Option.some.injEq] at h
  subst h
  rw [Go.WideShapes.add_plain]; exact h0
 | succ j => simp at h
def FwS (B : Nat) (v : Value) (r c : Int) (s : Bool) (b o : Nat) (u : Value) (X : World) : Prop := FBI X B v r c s ∧ X.cell? ⟨b, o, none⟩ = some u
theorem FBI.setRows {W : World} {b : Nat} {v : Value} {r c : Int} {s : Bool} (g : FBI W b v r c s) (u : Value) : FBI (W.setCell ⟨b, 0, none⟩ u) b u r c s := by
 have := set_at g 0 u
 exact this
theorem FBI.oth {W : World} {b k o : Nat} {v : Value} {r c : Int} {s : Bool} (g : FBI W b v r c s) (h : b ≠ k) (u : Value) : FBI (W.setCell ⟨k, o, none⟩ u) b v r c s := (Below.heap_setCell _ _ _ _ (by exact h)).trans g
def frG (R : List (List GC)) : List (List GC) := (R.take 62).map (List.take 510)
theorem frG_len (R : List (List GC)) : (frG R).length = min 62 R.length := by
 unfold frG
 rw [List.length_map, List.length_take]
theorem frG_get {R : List (List GC)} {j : Nat} {M : List GC} (h : R[j]? = some M) (hj : j < 62) : (frG R)[j]? = some (M.take 510) := by
 unfold frG
 rw [List.getElem?_map, List.getElem?_take, if_pos hj, h]
 rfl
theorem run_append_nilG {w : World} {P : Program} {base : Nat} (t ty e : TypeId) (i : TypeInfo) (size : Nat) (ht : P.underlying t = some (.slice e)) (hi : P.info? e = some i) (v : Value) (n : Nat) (xs : List Value) (c : Nat) (hown : w.ownsRow base e size v n xs) :
    (Builtin.append_ #[t, t] ty #[v, .slice none 0 c]).run P w = .ok v w := by
 rcases hown.2 with ⟨rfl, rfl⟩ | ⟨g, cap, cur, rfl, _, _, hnc, _⟩
 ·simp [Builtin.append_, run_underlying ht, sizeOf, typeInfo, hi, Builtin.lenOf, Builtin.firstCells]
 ·simp [Builtin.append_, run_underlying ht, sizeOf, typeInfo, hi, Builtin.lenOf, Builtin.firstCells, hnc, storeCells]
theorem wpList_append_nilG {P : Program} {w : World} {ops : Array Oper} {rest : List Oper} {o : Oper} {a : Act} {Q : Exit → Act → World → Prop} (hgd : o.guard = none) (s x : Operand) (t : TypeId)
    (ho : o.op = .call { callee := .builtin .append, args := #[s, x], argTypes := #[t, t] })
    (base : Nat) (e : TypeId) (i : TypeInfo) (size : Nat) (ht : P.underlying t = some (.slice e)) (hi : P.info? e = some i)
    (v : Value) (n : Nat) (xs : List Value) (c : Nat) (hs : a.eval s = v) (hown : w.ownsRow base e size v n xs) (hx : a.eval x = .slice none 0 c)
    (h : wpList P ops Q rest (a.put o.dst v) w) : wpList P ops Q (o :: rest) a w := by
 refine wpList_plain hgd fun K hK => ?_
 have hrun := run_append_nilG (P := P) (w := w) (base := base) t o.type e i size ht hi v n xs c hown
 unfold Oper.wp
 simp [execOp, ho, resolve, invoke, builtin, hs, hx, hrun, Result.andThen]
 exact hK _ _ h
theorem CellsAt.newsT {W : World} {ad : Addr} {n : Nat} {M : List GC} (h : CellsAt W (some ad) n M) (k : Nat) : ∀ j u, (flatV (M.take k))[j]? = some u → W.cell? (ad.add j) = some u := fun j u hu => by
 cases M with
 | nil => simp [flatV] at hu
 | cons x N =>
  obtain ⟨b2, o2, e, _⟩ := h.at_ 0 x rfl
  simp only [Option.some.injEq] at e
  subst e
  exact (h.take k).news j u hu
def FrOwn (R : List (List GC)) (r c : Int) (s : Bool) (W : World) (e : Ending) (w' : World) : Prop :=
 ∃ a cap, e = .returned (.agg #[.slice a R.length cap, .int .i64 r, .int .i64 c, .bool s]) ∧ RowsF (fun b => W.heap.size ≤ b) w' a R.length R ∧ (R.length ≤ cap ∧ cap ≤ maxLen) ∧ Below W.heap.size W w'
set_option maxRecDepth 100000 in
set_option maxHeartbeats 16000000 in
theorem frame11_any {W : World} {a : Option Addr} {n cap : Nat} {R : List (List GC)} (hR : RowsAt W a n R) (hn : n ≤ cap) (hcap : cap ≤ maxLen) (r c : Int) (s : Bool) :
    Calls Tryz.prog 11 #[.agg #[.slice a n cap, .int .i64 r, .int .i64 c, .bool s]] W (FrOwn (frG R) r c s W) := by
 obtain ⟨i0, hi, hz0, hz1, hz2⟩ := info_parts infoCells
 obtain ⟨i1, hi1, hz01, hz11, hz21⟩ := info_parts infoCell
 unfold maxLen at hcap
 have hl := hR.len
 have HR := Lib.hid hR
 have HFG := frG_len R
 clear hR
 obtain ⟨k, hk⟩ : ∃ k, k = (frG R).length := ⟨_, rfl⟩
 rw [← hk] at HFG
 have HFG2 := Lib.hid HFG
 clear HFG
 have t1 : FBI (W.alloc (.cells #[.slice a n cap, .int .i64 r, .int .i64 c, .bool s] 42)) W.heap.size (.slice a n cap) r c s := World.alloc_heap_new W _
 go_enter Tryz.func11, Tryz.ntmps11
 go_upto_region 1 with (fail)
 obtain ⟨X1, hX1⟩ : ∃ X, W.alloc (.cells #[.slice a n cap, .int .i64 r, .int .i64 c, .bool s] 42) = X := ⟨_, rfl⟩
 have s1 : X1.heap.size = W.heap.size + 1 := by rw [← hX1]; simp
 have b1 : Below W.heap.size W X1 := by rw [← hX1]; exact (Below.refl _ _).alloc (Nat.le_refl _) _
 rw [hX1] at t1 ⊢
 clear hX1
 have bX1 : Below X1.heap.size X1 (X1.alloc (.cells #[.slice none 0 0, .int .i64 0, .int .i64 0, .bool false] 42)) := (Below.refl _ _).alloc (Nat.le_refl _) _
 have t2 : FBI (X1.alloc (.cells #[.slice none 0 0, .int .i64 0, .int .i64 0, .bool false] 42)) (W.heap.size + 1) (.slice none 0 0) 0 0 false := by rw [← s1]; exact World.alloc_heap_new X1 _
 obtain ⟨X, hX⟩ : ∃ X, X1.alloc (.cells #[.slice none 0 0, .int .i64 0, .int .i64 0, .bool false] 42) = X := ⟨_, rfl⟩
 have s2 : X.heap.size = W.heap.size + 1 + 1 := by rw [← hX]; simp [s1]
 rw [hX] at bX1 t2
 rw [hX]
 clear hX
 replace t1 := t1.below bX1
 have bX := bto b1 bX1 b1.size
 clear b1 bX1 s1
 go_wp2
 go_loopw [3, 4] (fun v iv wr => ∃ (j : Nat) (av : Option Addr) (cv : Nat), j ≤ k ∧ v = .slice av j cv ∧ iv = .int .i64 j ∧ FBI wr W.heap.size (.slice a n cap) r c s ∧ FBI wr (W.heap.size + 1) (.slice none 0 0) 0 0 false ∧ CRow (fun b => W.heap.size + 1 + 1 ≤ b) (W.heap.size + 1 + 1) wr (.slice av j cv) j ((frG R).take j) ∧ Below W.heap.size W wr) (fun _ iv _ => k - (intOf iv).toNat)
 case atStart => exact ⟨0, none, 0, Nat.zero_le _, rfl, rfl, t1, t2, CRow.nil _ _ _, bX⟩
 case round =>
  obtain ⟨j, av, cv, hj, rfl, rfl, x1, x2, hcr0, hb⟩ := hrel
  have hx2 := x2.lt
  have HCR := Lib.hid hcr0
  by_cases hlt : j < k
  ·have hj62 : j < 62 := by have := HFG2.out; omega
   have hjn : j < n := by have := HFG2.out; omega
   obtain ⟨M, hM⟩ : ∃ M, M = nth [] R j := ⟨_, rfl⟩
   have hM' : R[j]? = some M := by rw [hM, nth_eq _ _ _ (by omega)]; exact List.getElem?_eq_getElem (by omega)
   obtain ⟨b, off, a2, c2, rfl, hbl, hc0, ⟨hc1, hc2⟩, hcell⟩ := HR.out.at_ j M hM'
   have hF := frG_get hM' hj62
   have HSN : Hid ((frG R).take (j + 1) = (frG R).take j ++ [M.take 510]) := Lib.hid (by
    rw [List.take_succ_eq_append_getElem (by rw [← hk]; exact hlt)]
    congr 2
    exact (List.getElem?_eq_some_iff.1 hF).2)
   obtain ⟨m, hm⟩ : ∃ m, m = M.length := ⟨_, rfl⟩
   rw [← hm] at hc0 hc1
   unfold maxLen at hc2
   have hcr := (hb.cell (p := ⟨b, off + j, none⟩) hbl).trans hc0
   have hbs := hb.size
   obtain ⟨q, hq⟩ : ∃ q, wr.drew = q := ⟨_, rfl⟩
   have dB : Below wr.heap.size wr q := by rw [← hq]; exact (Below.refl _ _).drew
   have hblr : b < wr.heap.size := Nat.lt_of_lt_of_le hbl hb.size
   have hSq : (FwS W.heap.size (.slice (some ⟨b, off, none⟩) n cap) r c s b (off + j) (.slice a2 m c2)) q := ⟨x1.below dB, (dB.cell (p := ⟨b, off + j, none⟩) hblr).trans hcr⟩
   have hS0 : (FwS W.heap.size (.slice (some ⟨b, off, none⟩) n cap) r c s b (off + j) (.slice a2 m c2)) wr.drew := by rw [hq]; exact hSq
   have HQ := Lib.hid hq
   have hbq : b < q.heap.size := Nat.lt_of_lt_of_le hblr dB.size
   have hji : (j : Int) < (n : Int) := by omega
   have hji2 : (j : Int) < 62 := by omega
   obtain ⟨u0, u1, u2, u3⟩ := x1.cells
   cases a2 with
   | none =>
    have hm0 : m = 0 := by
     cases M with
     | nil => simpa using hm
     | cons x N =>
      obtain ⟨_, _, e, _⟩ := hcell.at_ 0 x rfl
      cases e
    have hM0 : M = [] := List.length_eq_zero_iff.1 (by omega)
    subst hm0
    have HNIL : Hid (flatV (M.take 510) = []) := Lib.hid (by rw [hM0]; rfl)
    have HKL : Hid ((M.take 510).length = 0) := Lib.hid (by rw [hM0]; rfl)
    have HKM : Hid (min ((0 : Nat) : Int) 510 = ((0 : Nat) : Int)) := Lib.hid (by omega)
    clear hM hM' hF hm hq hc0 hcell hcr0 u1 u2 u3 hM0
    go_wp2_with fail
    refine wp_region_mix2 [(true, 0), (true, 2), (true, 3), (true, 4), (true, 5), (true, 6), (true, 7), (true, 8), (true, 9), (true, 10), (true, 11), (true, 12), (true, 13), (true, 14), (false, 1), (false, 15), (false, 16), (false, 17), (true, 18)] ((FwS W.heap.size (.slice (some ⟨b, off, none⟩) n cap) r c s b (off + j) (.slice none 0 c2))) (by kernel_rfl) (by kernel_rfl) (by rfl) (by kernel_rfl) (by kernel_rfl) (fun _ _ d _ _ h => by cases d <;> exact h) hS0 ?_
    simp only [mixL, List.getElem?_cons_succ, List.getElem?_cons_zero]
    rw [HQ.out]
    refine' wpMix2_read (v := _) rfl ?_ ?_
    rotate_left 1
    ·intro w' hw'; obtain ⟨g0, g1, g2, g3⟩ := hw'.1.cells; have gr := hw'.2; go_simp; try with_reducible rfl
    try simp only [Act.put, List.setIfInBounds_toArray, List.set_cons_zero, List.set_cons_succ]
    refine' wpMix2_read (v := _) rfl ?_ ?_
    rotate_left 1
    ·intro w' hw'; obtain ⟨g0, g1, g2, g3⟩ := hw'.1.cells; have gr := hw'.2; go_simp; try with_reducible rfl
    try simp only [Act.put, List.setIfInBounds_toArray, List.set_cons_zero, List.set_cons_succ]
    refine' wpMix2_read (v := _) rfl ?_ ?_
    rotate_left 1
    ·intro w' hw'; obtain ⟨g0, g1, g2, g3⟩ := hw'.1.cells; have gr := hw'.2; go_simp; try with_reducible rfl
    try simp only [Act.put, List.setIfInBounds_toArray, List.set_cons_zero, List.set_cons_succ]
    refine' wpMix2_read (v := _) rfl ?_ ?_
    rotate_left 1
    ·intro w' hw'; obtain ⟨g0, g1, g2, g3⟩ := hw'.1.cells; have gr := hw'.2; go_simp; try with_reducible rfl
    try simp only [Act.put, List.setIfInBounds_toArray, List.set_cons_zero, List.set_cons_succ]
    refine' wpMix2_read (v := _) rfl ?_ ?_
    rotate_left 1
    ·intro w' hw'; obtain ⟨g0, g1, g2, g3⟩ := hw'.1.cells; have gr := hw'.2; go_simp; try with_reducible rfl
    try simp only [Act.put, List.setIfInBounds_toArray, List.set_cons_zero, List.set_cons_succ]
    refine' wpMix2_read (v := _) rfl ?_ ?_
    rotate_left 1
    ·intro w' hw'; obtain ⟨g0, g1, g2, g3⟩ := hw'.1.cells; have gr := hw'.2; go_simp; try with_reducible rfl
    try simp only [Act.put, List.setIfInBounds_toArray, List.set_cons_zero, List.set_cons_succ]
    refine' wpMix2_read (v := _) rfl ?_ ?_
    rotate_left 1
    ·intro w' hw'; obtain ⟨g0, g1, g2, g3⟩ := hw'.1.cells; have gr := hw'.2; go_simp; try with_reducible rfl
    try simp only [Act.put, List.setIfInBounds_toArray, List.set_cons_zero, List.set_cons_succ]
    refine' wpMix2_read (v := _) rfl ?_ ?_
    rotate_left 1
    ·intro w' hw'; obtain ⟨g0, g1, g2, g3⟩ := hw'.1.cells; have gr := hw'.2; go_simp; try with_reducible rfl
    try simp only [Act.put, List.setIfInBounds_toArray, List.set_cons_zero, List.set_cons_succ]
    refine' wpMix2_read (v := _) rfl ?_ ?_
    rotate_left 1
    ·intro w' hw'; obtain ⟨g0, g1, g2, g3⟩ := hw'.1.cells; have gr := hw'.2; go_simp; try with_reducible rfl
    try simp only [Act.put, List.setIfInBounds_toArray, List.set_cons_zero, List.set_cons_succ]
    refine' wpMix2_read (v := _) rfl ?_ ?_
    rotate_left 1
    ·intro w' hw'; obtain ⟨g0, g1, g2, g3⟩ := hw'.1.cells; have gr := hw'.2; go_simp; try with_reducible rfl
    try simp only [Act.put, List.setIfInBounds_toArray, List.set_cons_zero, List.set_cons_succ]
    refine' wpMix2_read (v := _) rfl ?_ ?_
    rotate_left 1
    ·intro w' hw'; obtain ⟨g0, g1, g2, g3⟩ := hw'.1.cells; have gr := hw'.2; go_simp; try with_reducible rfl
    try simp only [Act.put, List.setIfInBounds_toArray, List.set_cons_zero, List.set_cons_succ]
    refine' wpMix2_read (v := _) rfl ?_ ?_
    rotate_left 1
    ·intro w' hw'; obtain ⟨g0, g1, g2, g3⟩ := hw'.1.cells; have gr := hw'.2; go_simp; try with_reducible rfl
    try simp only [Act.put, List.setIfInBounds_toArray, List.set_cons_zero, List.set_cons_succ]
    refine' wpMix2_read (v := (.int .i64 0)) rfl ?_ ?_
    ·intro w' hw'; go_simp; try (first | rw [HKM.out] | omega | decide)
    try simp only [Act.put, List.setIfInBounds_toArray, List.set_cons_zero, List.set_cons_succ]
    refine' wpMix2_read (v := (.slice none 0 c2)) rfl ?_ ?_
    ·intro w' hw'; go_simp; try (intro hlt; exfalso; omega)
    try simp only [Act.put, List.setIfInBounds_toArray, List.set_cons_zero, List.set_cons_succ]
    refine wpMix2_act (fun K hK => ?_)
    go_wp2
    have oE := World.ownsRow_made (base := q.heap.size) (e := 88) (size := 7) q #[] 0 (Nat.le_refl _) (by unfold maxLen; omega) rfl
    obtain ⟨q1, hq1⟩ : ∃ Y, q.alloc (.cells #[] 88) = Y := ⟨_, rfl⟩
    have d1 : Below q.heap.size q q1 := by rw [← hq1]; exact (Below.refl _ _).alloc (Nat.le_refl _) _
    have e1 := d1.size
    rw [hq1] at oE
    try rw [hq1]
    have hS1 : (FwS W.heap.size (.slice (some ⟨b, off, none⟩) n cap) r c s b (off + j) (.slice none 0 c2)) q1 := ⟨hSq.1.below d1, (d1.cell (p := ⟨b, off + j, none⟩) hbq).trans hSq.2⟩
    refine hK _ _ hS1 ?_
    clear hK K hq1
    refine wpMix2_act (fun K hK => ?_)
    go_wp2_with (at_builtin; refine wpList_append_nilG rfl _ _ 46 rfl q.heap.size 88 i1 7 Tryz.underlying46 hi1 _ _ _ _ rfl oE rfl ?_)
    obtain ⟨q2, hq2⟩ : ∃ x, x = q1 := ⟨_, rfl⟩
    subst hq2
    have d2 := d1
    have oC : q2.ownsRow q.heap.size 88 7 (.slice (some ⟨q.heap.size, 0, none⟩) 0 0) 0 (flatV (M.take 510)) := by rw [HNIL.out]; exact oE
    refine hK _ _ hS1 ?_
    clear hK K
    obtain ⟨ax, hax⟩ : ∃ x, x = (some ⟨q.heap.size, 0, none⟩ : Option Addr) := ⟨_, rfl⟩
    obtain ⟨cx, hcx⟩ : ∃ x, x = (0 : Nat) := ⟨_, rfl⟩
    refine wpMix2_act (fun K hK => ?_)
    go_wp2
    obtain ⟨hC, hcx1, hcx2⟩ := CellsAt.of_own (by rw [HKL.out]) oC
    have ha3 : ∀ b o, (some (⟨q.heap.size, 0, none⟩ : Addr)) = some ⟨b, o, none⟩ → b < q2.heap.size ∧ q.heap.size ≤ b := fun b o e => by
     obtain ⟨g1, cur, g2⟩ := own_cells oC b (congrArg (fun x => (Value.slice x 0 0).ownBlock) e)
     exact ⟨(Array.getElem?_eq_some_iff.1 g2).1, g1⟩
    have hcn := row_oneK q2 (.slice (some ⟨q.heap.size, 0, none⟩) 0 0) 46
    obtain ⟨q3, hq3⟩ : ∃ Y, q2.alloc (.cells #[.slice (some ⟨q.heap.size, 0, none⟩) 0 0] 46) = Y := ⟨_, rfl⟩
    have d3' : Below q2.heap.size q2 q3 := by rw [← hq3]; exact (Below.refl _ _).alloc (Nat.le_refl _) _
    have e3 := d3'.size
    rw [hq3] at hcn
    try rw [hq3]
    have d3 := bto d2 d3' d2.size
    have hS3 : (FwS W.heap.size (.slice (some ⟨b, off, none⟩) n cap) r c s b (off + j) (.slice none 0 c2)) q3 := ⟨hSq.1.below d3, (d3.cell (p := ⟨b, off + j, none⟩) hbq).trans hSq.2⟩
    refine hK _ _ hS3 ?_
    clear hK K hq3
    refine wpMix2_act (fun K hK => ?_)
    have dW := bto dB d3 dB.size
    have s2 := d2.size
    have ds := dB.size
    have HOWN := Lib.hid (fun b o (e : (some (⟨q.heap.size, 0, none⟩ : Addr)) = some ⟨b, o, none⟩) => (by
     obtain ⟨h1, h2⟩ := ha3 b o e
     refine ⟨by omega, by omega, fun e2 => ?_⟩
     have := (HCR.out.own b e2).2
     omega : b < q3.heap.size ∧ W.heap.size + 1 + 1 ≤ b ∧ (Value.slice av j cv).ownBlock ≠ some b))
    go_wp2_with (at_builtin; (refine wpList_append_cells rfl _ _ rfl (fun b => W.heap.size + 1 + 1 ≤ b) (W.heap.size + 1 + 1) (.slice av j cv) j ((frG R).take j) rfl (HCR.out.below dW) q2.heap.size rfl (some (⟨q.heap.size, 0, none⟩ : Addr)) 0 0 (M.take 510) hcn (hC.below d3') (by rw [HKL.out]) ⟨hcx1, hcx2⟩ (fun b o e => HOWN.out b o e) (by omega) (by omega) ?_; intro gq c' w5 hR5 hg5 hb5))
    have hS5 : (FwS W.heap.size (.slice (some ⟨b, off, none⟩) n cap) r c s b (off + j) (.slice none 0 c2)) w5 := ⟨(hb5.block _ (by omega)).trans hS3.1, (hb5.cell (p := ⟨b, off + j, none⟩) (by show b < _; omega)).trans hS3.2⟩
    have z5 : FBI w5 (W.heap.size + 1) (.slice none 0 0) 0 0 false := (hb5.block _ (by omega)).trans ((x2.below dB).below d3)
    refine hK _ _ hS5 ?_
    clear hK K
    refine' wpMix2_read (v := _) rfl ?_ ?_
    rotate_left 1
    ·intro w' hw'; obtain ⟨g0, g1, g2, g3⟩ := hw'.1.cells; have gr := hw'.2; go_simp; try with_reducible rfl
    try simp only [Act.put, List.setIfInBounds_toArray, List.set_cons_zero, List.set_cons_succ]
    refine wpMix2_nil ?_
    go_wp2
    go_roundw
    case rel => exact ⟨j + 1, some ⟨gq, 0, none⟩, c', hlt, rfl, by go_num, hS5.1, z5, by rw [HSN.out]; exact hR5, (bto hb dW hb.size).trans (hb5.mono (by omega))⟩
    case measure => simp [intOf]; omega
   | some ad =>
    obtain ⟨km, hkm⟩ : ∃ q, q = (M.take 510).length := ⟨_, rfl⟩
    have hkm2 : km = min 510 m := by rw [hkm, hm, List.length_take]
    have HKM : Hid (min (m : Int) 510 = (km : Int)) := Lib.hid (by omega)
    have HKL : Hid ((M.take 510).length = km) := Lib.hid hkm.symm
    have HFL : Hid ((flatV (M.take 510)).length = km * 7) := Lib.hid (by rw [flatV_length, ← hkm, Nat.mul_comm])
    have hkmc : km ≤ c2 := by omega
    have hkm5 : km ≤ 510 := by omega
    have HC2 := Lib.hid (fun (Y : World) (hY : Below wr.heap.size wr Y) => ((hcell.below (bto hb hY hb.size)).newsT 510))
    clear hM hM' hF hm hkm hkm2 hq hc0 hcell hcr0 u1 u2 u3
    go_wp2_with fail
    refine wp_region_mix2 [(true, 0), (true, 2), (true, 3), (true, 4), (true, 5), (true, 6), (true, 7), (true, 8), (true, 9), (true, 10), (true, 11), (true, 12), (true, 13), (true, 14), (false, 1), (false, 15), (false, 16), (false, 17), (true, 18)] ((FwS W.heap.size (.slice (some ⟨b, off, none⟩) n cap) r c s b (off + j) (.slice (some ad) m c2))) (by kernel_rfl) (by kernel_rfl) (by rfl) (by kernel_rfl) (by kernel_rfl) (fun _ _ d _ _ h => by cases d <;> exact h) hS0 ?_
    simp only [mixL, List.getElem?_cons_succ, List.getElem?_cons_zero]
    rw [HQ.out]
    refine' wpMix2_read (v := _) rfl ?_ ?_
    rotate_left 1
    ·intro w' hw'; obtain ⟨g0, g1, g2, g3⟩ := hw'.1.cells; have gr := hw'.2; go_simp; try with_reducible rfl
    try simp only [Act.put, List.setIfInBounds_toArray, List.set_cons_zero, List.set_cons_succ]
    refine' wpMix2_read (v := _) rfl ?_ ?_
    rotate_left 1
    ·intro w' hw'; obtain ⟨g0, g1, g2, g3⟩ := hw'.1.cells; have gr := hw'.2; go_simp; try with_reducible rfl
    try simp only [Act.put, List.setIfInBounds_toArray, List.set_cons_zero, List.set_cons_succ]
    refine' wpMix2_read (v := _) rfl ?_ ?_
    rotate_left 1
    ·intro w' hw'; obtain ⟨g0, g1, g2, g3⟩ := hw'.1.cells; have gr := hw'.2; go_simp; try with_reducible rfl
    try simp only [Act.put, List.setIfInBounds_toArray, List.set_cons_zero, List.set_cons_succ]
    refine' wpMix2_read (v := _) rfl ?_ ?_
    rotate_left 1
    ·intro w' hw'; obtain ⟨g0, g1, g2, g3⟩ := hw'.1.cells; have gr := hw'.2; go_simp; try with_reducible rfl
    try simp only [Act.put, List.setIfInBounds_toArray, List.set_cons_zero, List.set_cons_succ]
    refine' wpMix2_read (v := _) rfl ?_ ?_
    rotate_left 1
    ·intro w' hw'; obtain ⟨g0, g1, g2, g3⟩ := hw'.1.cells; have gr := hw'.2; go_simp; try with_reducible rfl
    try simp only [Act.put, List.setIfInBounds_toArray, List.set_cons_zero, List.set_cons_succ]
    refine' wpMix2_read (v := _) rfl ?_ ?_
    rotate_left 1
    ·intro w' hw'; obtain ⟨g0, g1, g2, g3⟩ := hw'.1.cells; have gr := hw'.2; go_simp; try with_reducible rfl
    try simp only [Act.put, List.setIfInBounds_toArray, List.set_cons_zero, List.set_cons_succ]
    refine' wpMix2_read (v := _) rfl ?_ ?_
    rotate_left 1
    ·intro w' hw'; obtain ⟨g0, g1, g2, g3⟩ := hw'.1.cells; have gr := hw'.2; go_simp; try with_reducible rfl
    try simp only [Act.put, List.setIfInBounds_toArray, List.set_cons_zero, List.set_cons_succ]
    refine' wpMix2_read (v := _) rfl ?_ ?_
    rotate_left 1
    ·intro w' hw'; obtain ⟨g0, g1, g2, g3⟩ := hw'.1.cells; have gr := hw'.2; go_simp; try with_reducible rfl
    try simp only [Act.put, List.setIfInBounds_toArray, List.set_cons_zero, List.set_cons_succ]
    refine' wpMix2_read (v := _) rfl ?_ ?_
    rotate_left 1
    ·intro w' hw'; obtain ⟨g0, g1, g2, g3⟩ := hw'.1.cells; have gr := hw'.2; go_simp; try with_reducible rfl
    try simp only [Act.put, List.setIfInBounds_toArray, List.set_cons_zero, List.set_cons_succ]
    refine' wpMix2_read (v := _) rfl ?_ ?_
    rotate_left 1
    ·intro w' hw'; obtain ⟨g0, g1, g2, g3⟩ := hw'.1.cells; have gr := hw'.2; go_simp; try with_reducible rfl
    try simp only [Act.put, List.setIfInBounds_toArray, List.set_cons_zero, List.set_cons_succ]
    refine' wpMix2_read (v := _) rfl ?_ ?_
    rotate_left 1
    ·intro w' hw'; obtain ⟨g0, g1, g2, g3⟩ := hw'.1.cells; have gr := hw'.2; go_simp; try with_reducible rfl
    try simp only [Act.put, List.setIfInBounds_toArray, List.set_cons_zero, List.set_cons_succ]
    refine' wpMix2_read (v := _) rfl ?_ ?_
    rotate_left 1
    ·intro w' hw'; obtain ⟨g0, g1, g2, g3⟩ := hw'.1.cells; have gr := hw'.2; go_simp; try with_reducible rfl
    try simp only [Act.put, List.setIfInBounds_toArray, List.set_cons_zero, List.set_cons_succ]
    refine' wpMix2_read (v := (.int .i64 km)) rfl ?_ ?_
    ·intro w' hw'; go_simp; try (first | rw [HKM.out] | omega | decide)
    try simp only [Act.put, List.setIfInBounds_toArray, List.set_cons_zero, List.set_cons_succ]
    refine' wpMix2_read (v := (.slice (some ad) km c2)) rfl ?_ ?_
    ·intro w' hw'; go_simp; try (intro hlt; exfalso; omega)
    try simp only [Act.put, List.setIfInBounds_toArray, List.set_cons_zero, List.set_cons_succ]
    refine wpMix2_act (fun K hK => ?_)
    go_wp2
    have oE := World.ownsRow_made (base := q.heap.size) (e := 88) (size := 7) q #[] 0 (Nat.le_refl _) (by unfold maxLen; omega) rfl
    obtain ⟨q1, hq1⟩ : ∃ Y, q.alloc (.cells #[] 88) = Y := ⟨_, rfl⟩
    have d1 : Below q.heap.size q q1 := by rw [← hq1]; exact (Below.refl _ _).alloc (Nat.le_refl _) _
    have e1 := d1.size
    rw [hq1] at oE
    try rw [hq1]
    have hS1 : (FwS W.heap.size (.slice (some ⟨b, off, none⟩) n cap) r c s b (off + j) (.slice (some ad) m c2)) q1 := ⟨hSq.1.below d1, (d1.cell (p := ⟨b, off + j, none⟩) hbq).trans hSq.2⟩
    refine hK _ _ hS1 ?_
    clear hK K hq1
    refine wpMix2_act (fun K hK => ?_)
    go_wp2_with (at_builtin; refine wpList_append_own_at _ rfl _ _ 46 rfl q.heap.size 88 i1 GC.zero.v 7 48 Tryz.underlying46 hi1 hz01 hz11 hz21 rfl (by decide) _ _ _ rfl oE ad km c2 (flatV (M.take 510)) rfl HFL.out (HC2.out _ (bto dB d1 dB.size)) (flatV_one _) (by unfold maxLen; omega) (by omega) (by omega) ?_; intro v2 q2 oC hg2 _ _)
    rw [Nat.zero_add, List.nil_append] at oC
    have d2 : Below q.heap.size q q2 := d1.grown hg2 (by omega) (fun k e => by have h' : some q.heap.size = some k := e; injection h' with h'; omega)
    have hS2 : (FwS W.heap.size (.slice (some ⟨b, off, none⟩) n cap) r c s b (off + j) (.slice (some ad) m c2)) q2 := ⟨hSq.1.below d2, (d2.cell (p := ⟨b, off + j, none⟩) hbq).trans hSq.2⟩
    obtain ⟨ax, cx, rfl⟩ := own_sliceF oC
    refine hK _ _ hS2 ?_
    clear hK K hS1
    have hS1 := hS2
    clear hS2
    refine wpMix2_act (fun K hK => ?_)
    go_wp2
    obtain ⟨hC, hcx1, hcx2⟩ := CellsAt.of_own (by rw [HKL.out]) oC
    have ha3 : ∀ b o, ax = some ⟨b, o, none⟩ → b < q2.heap.size ∧ q.heap.size ≤ b := fun b o e => by
     obtain ⟨g1, cur, g2⟩ := own_cells oC b (congrArg (fun x => (Value.slice x km cx).ownBlock) e)
     exact ⟨(Array.getElem?_eq_some_iff.1 g2).1, g1⟩
    have hcn := row_oneK q2 (.slice ax km cx) 46
    obtain ⟨q3, hq3⟩ : ∃ Y, q2.alloc (.cells #[.slice ax km cx] 46) = Y := ⟨_, rfl⟩
    have d3' : Below q2.heap.size q2 q3 := by rw [← hq3]; exact (Below.refl _ _).alloc (Nat.le_refl _) _
    have e3 := d3'.size
    rw [hq3] at hcn
    try rw [hq3]
    have d3 := bto d2 d3' d2.size
    have hS3 : (FwS W.heap.size (.slice (some ⟨b, off, none⟩) n cap) r c s b (off + j) (.slice (some ad) m c2)) q3 := ⟨hSq.1.below d3, (d3.cell (p := ⟨b, off + j, none⟩) hbq).trans hSq.2⟩
    refine hK _ _ hS3 ?_
    clear hK K hq3
    refine wpMix2_act (fun K hK => ?_)
    have dW := bto dB d3 dB.size
    have s2 := d2.size
    have ds := dB.size
    have HOWN := Lib.hid (fun b o (e : ax = some ⟨b, o, none⟩) => (by
     obtain ⟨h1, h2⟩ := ha3 b o e
     refine ⟨by omega, by omega, fun e2 => ?_⟩
     have := (HCR.out.own b e2).2
     omega : b < q3.heap.size ∧ W.heap.size + 1 + 1 ≤ b ∧ (Value.slice av j cv).ownBlock ≠ some b))
    go_wp2_with (at_builtin; (refine wpList_append_cells rfl _ _ rfl (fun b => W.heap.size + 1 + 1 ≤ b) (W.heap.size + 1 + 1) (.slice av j cv) j ((frG R).take j) rfl (HCR.out.below dW) q2.heap.size rfl ax km cx (M.take 510) hcn (hC.below d3') (by rw [HKL.out]) ⟨hcx1, hcx2⟩ (fun b o e => HOWN.out b o e) (by omega) (by omega) ?_; intro gq c' w5 hR5 hg5 hb5))
    have hS5 : (FwS W.heap.size (.slice (some ⟨b, off, none⟩) n cap) r c s b (off + j) (.slice (some ad) m c2)) w5 := ⟨(hb5.block _ (by omega)).trans hS3.1, (hb5.cell (p := ⟨b, off + j, none⟩) (by show b < _; omega)).trans hS3.2⟩
    have z5 : FBI w5 (W.heap.size + 1) (.slice none 0 0) 0 0 false := (hb5.block _ (by omega)).trans ((x2.below dB).below d3)
    refine hK _ _ hS5 ?_
    clear hK K
    refine' wpMix2_read (v := _) rfl ?_ ?_
    rotate_left 1
    ·intro w' hw'; obtain ⟨g0, g1, g2, g3⟩ := hw'.1.cells; have gr := hw'.2; go_simp; try with_reducible rfl
    try simp only [Act.put, List.setIfInBounds_toArray, List.set_cons_zero, List.set_cons_succ]
    refine wpMix2_nil ?_
    go_wp2
    go_roundw
    case rel => exact ⟨j + 1, some ⟨gq, 0, none⟩, c', hlt, rfl, by go_num, hS5.1, z5, by rw [HSN.out]; exact hR5, (bto hb dW hb.size).trans (hb5.mono (by omega))⟩
    case measure => simp [intOf]; omega
  ·obtain rfl : j = k := by omega
   rw [List.take_of_length_le (by omega)] at hcr0
   obtain ⟨Y1, hY1⟩ : ∃ Y, wr.setCell ⟨W.heap.size, 0, none⟩ (.slice av j cv) = Y := ⟨_, rfl⟩
   have v1 : FBI Y1 W.heap.size (.slice av j cv) r c s := by rw [← hY1]; exact x1.setRows _
   have v2 : FBI Y1 (W.heap.size + 1) (.slice none 0 0) 0 0 false := by rw [← hY1]; exact x2.oth (by omega) _
   have vo : CRow (fun b => W.heap.size + 1 + 1 ≤ b) (W.heap.size + 1 + 1) Y1 (.slice av j cv) j (frG R) := by rw [← hY1]; exact hcr0.setCell (b := W.heap.size) (by omega) (by omega) 0 _
   have vb : Below W.heap.size W Y1 := by rw [← hY1]; exact hb.setCell (p := ⟨W.heap.size, 0, none⟩) (Nat.le_refl _) _
   obtain ⟨Y, hY⟩ : ∃ Y, (((Y1.setCell ⟨W.heap.size + 1, 0, none⟩ (.slice av j cv)).setCell ⟨W.heap.size + 1, 1, none⟩ (.int .i64 r)).setCell ⟨W.heap.size + 1, 2, none⟩ (.int .i64 c)).setCell ⟨W.heap.size + 1, 3, none⟩ (.bool s) = Y := ⟨_, rfl⟩
   obtain ⟨zY, oY⟩ := v2.fillK (.slice av j cv) r c s Y hY
   have yo : CRow (fun b => W.heap.size + 1 + 1 ≤ b) (W.heap.size + 1 + 1) Y (.slice av j cv) j (frG R) := by
    rw [← hY]
    exact (((vo.setCell (b := W.heap.size + 1) (by omega) (by omega) 0 _).setCell (b := W.heap.size + 1) (by omega) (by omega) 1 _).setCell (b := W.heap.size + 1) (by omega) (by omega) 2 _).setCell (b := W.heap.size + 1) (by omega) (by omega) 3 _
   obtain ⟨ro, rc1, rc2⟩ := (yo.mono (F' := fun b => W.heap.size ≤ b) (fun b hb => by omega)).rows hk.symm (fun b hb => by omega)
   have yb := vb.trans (oY.below (by simp) vb.size)
   have HRO := Lib.hid ro
   have HY1 := Lib.hid hY1
   have HY := Lib.hid hY
   have HKE := Lib.hid hk
   obtain ⟨u0, u1, u2, u3⟩ := x1.cells
   have f0 := x1.frozK 0
   obtain ⟨e0, e1, e2, e3⟩ := v1.cells
   have f4 := v2.frozK 0
   have f5 := v2.frozK 1
   have f6 := v2.frozK 2
   have f7 := v2.frozK 3
   obtain ⟨d0, d1, d2, d3⟩ := v2.cells
   have hor : j = n ∨ (j = 62 ∧ j < n) := by have := HFG2.out; omega
   clear hY1 hY oY hcr0 x2 hk yo vo ro HCR
   rcases hor with h | ⟨h, h'⟩
   ·subst h
    have hni : ¬ ((j : Int) < (j : Int)) := by omega
    go_upto_region 7 with (fail)
    try rw [HY1.out]
    go_wp2
    try rw [HY.out]
    refine bodyPost_ret (results_cell_row rfl _ _ (W.heap.size + 1) 42 _ (0, 0) _ rfl zY Tryz.underlying42 rfl (by kernel_rfl)) rfl ?_
    exact ⟨av, cv, by rw [← HKE.out], by rw [← HKE.out]; exact HRO.out, by rw [← HKE.out]; exact ⟨rc1, rc2⟩, yb⟩
   ·have hji : (j : Int) < (n : Int) := by omega
    have hni : ¬ ((j : Int) < 62) := by omega
    clear h h' hj
    go_upto_region 7 with (fail)
    try rw [HY1.out]
    go_wp2
    try rw [HY.out]
    refine bodyPost_ret (results_cell_row rfl _ _ (W.heap.size + 1) 42 _ (0, 0) _ rfl zY Tryz.underlying42 rfl (by kernel_rfl)) rfl ?_
    exact ⟨av, cv, by rw [← HKE.out], by rw [← HKE.out]; exact HRO.out, by rw [← HKE.out]; exact ⟨rc1, rc2⟩, yb⟩
set_option maxRecDepth 100000 in
set_option maxHeartbeats 16000000 in
theorem gkept_any {W : World} {a : Option Addr} {n cap : Nat} {R : List (List GC)} (hR : RowsAt W a n R) (hn : n ≤ 1000) (hne : ∀ M ∈ R, M ≠ [] ∧ M.length ≤ 1000) (r c : Int) (s : Bool) :
    Calls Tryz.prog 40 #[.agg #[.slice a n cap, .int .i64 r, .int .i64 c, .bool s]] W (FrOwn R r c s W) := by
 obtain ⟨i0, hi, hz0, hz1, hz2⟩ := info_parts infoCells
 obtain ⟨i1, hi1, hz01, hz11, hz21⟩ := info_parts infoCell
 have hl := hR.len
 have HR := Lib.hid hR
 have HNE := Lib.hid hne
 clear hR hne
 have t1 : FBI (W.alloc (.cells #[.slice a n cap, .int .i64 r, .int .i64 c, .bool s] 42)) W.heap.size (.slice a n cap) r c s := World.alloc_heap_new W _
 go_enter Tryz.func40, Tryz.ntmps40
 go_upto_region 1 with (fail)
 obtain ⟨X1, hX1⟩ : ∃ X, W.alloc (.cells #[.slice a n cap, .int .i64 r, .int .i64 c, .bool s] 42) = X := ⟨_, rfl⟩
 have s1 : X1.heap.size = W.heap.size + 1 := by rw [← hX1]; simp
 have b1 : Below W.heap.size W X1 := by rw [← hX1]; exact (Below.refl _ _).alloc (Nat.le_refl _) _
 rw [hX1] at t1 ⊢
 clear hX1
 have bX1 : Below X1.heap.size X1 (X1.alloc (.cells #[.slice none 0 0, .int .i64 0, .int .i64 0, .bool false] 42)) := (Below.refl _ _).alloc (Nat.le_refl _) _
 have t2 : FBI (X1.alloc (.cells #[.slice none 0 0, .int .i64 0, .int .i64 0, .bool false] 42)) (W.heap.size + 1) (.slice none 0 0) 0 0 false := by rw [← s1]; exact World.alloc_heap_new X1 _
 obtain ⟨X, hX⟩ : ∃ X, X1.alloc (.cells #[.slice none 0 0, .int .i64 0, .int .i64 0, .bool false] 42) = X := ⟨_, rfl⟩
 have s2 : X.heap.size = W.heap.size + 1 + 1 := by rw [← hX]; simp [s1]
 rw [hX] at bX1 t2
 rw [hX]
 clear hX
 replace t1 := t1.below bX1
 have bX := bto b1 bX1 b1.size
 clear b1 bX1 s1
 obtain ⟨u0, u1, u2, u3⟩ := t1.cells
 obtain ⟨Y, hmk, oY, gY⟩ := run_make_own (P := Tryz.prog) X (W.heap.size + 1 + 1) 40 46 i0 (.slice none 0 0) 1 Tryz.underlying40 hi hz0 hz1 .i64 .i64 n (by rw [hz2]; omega) (by unfold maxLen; omega) (by omega)
 have bY0 : Below X.heap.size X Y := (Below.refl _ X).grown gY (Nat.le_refl _) (fun k e => by cases e)
 rw [s2] at oY hmk
 go_upto_region 2 with (fail)
 have bY := bY0
 have y1 := t1.below bY
 have y2 := t2.below bY
 have bWY := bto bX bY bX.size
 have CR0 : CRow (fun b => W.heap.size + 1 + 1 ≤ b) (W.heap.size + 1 + 1) Y (.slice (some ⟨W.heap.size + 1 + 1, 0, none⟩) 0 n) 0 [] := ⟨[], fun _ => False, oY, VRows.nil _ _, fun _ h => h.elim, fun _ _ h => h⟩
 clear u0 u1 u2 u3 t1 t2 oY gY
 obtain ⟨u0, u1, u2, u3⟩ := y1.cells
 have hYs := bY.size
 go_wp2
 clear u0 u1 u2 u3
 go_loopw [3, 13] (fun v iv wr => ∃ (j : Nat) (av : Option Addr) (cv : Nat), j ≤ n ∧ v = .slice av j cv ∧ iv = .int .i64 j ∧ FBI wr W.heap.size (.slice a n cap) r c s ∧ FBI wr (W.heap.size + 1) (.slice none 0 0) 0 0 false ∧ CRow (fun b => W.heap.size + 1 + 1 ≤ b) (W.heap.size + 1 + 1) wr (.slice av j cv) j (R.take j) ∧ Below W.heap.size W wr) (fun _ iv _ => n - (intOf iv).toNat)
 case atStart => exact ⟨0, _, _, Nat.zero_le _, rfl, rfl, y1, y2, CR0, bWY⟩
 case round =>
  obtain ⟨j, av, cv, hj, rfl, rfl, x1, x2, hcr0, hb⟩ := hrel
  have hx2 := x2.lt
  have HCR := Lib.hid hcr0
  by_cases hlt : j < n
  ·obtain ⟨M, hM⟩ : ∃ M, M = nth [] R j := ⟨_, rfl⟩
   have hM' : R[j]? = some M := by rw [hM, nth_eq _ _ _ (by omega)]; exact List.getElem?_eq_getElem (by omega)
   obtain ⟨hMne, hMl⟩ := HNE.out M (List.mem_of_getElem? hM')
   obtain ⟨b, off, a2, c2, rfl, hbl, hc0, ⟨hc1, hc2⟩, hcell⟩ := HR.out.at_ j M hM'
   have HSN : Hid (R.take (j + 1) = R.take j ++ [M]) := Lib.hid (by
    rw [List.take_succ_eq_append_getElem (by omega)]
    congr 2
    exact (List.getElem?_eq_some_iff.1 hM').2)
   obtain ⟨m, hm⟩ : ∃ m, m = M.length := ⟨_, rfl⟩
   have hm1 : 1 ≤ m := by cases M with | nil => exact absurd rfl hMne | cons _ _ => rw [hm]; simp
   rw [← hm] at hc0 hc1 hMl
   unfold maxLen at hc2
   obtain ⟨b2, o2, rfl, _⟩ := hcell.addr (by omega)
   have hcr := (hb.cell (p := ⟨b, off + j, none⟩) hbl).trans hc0
   have hji : (j : Int) < (n : Int) := by omega
   have HFL : Hid ((flatV M).length = m * 7) := Lib.hid (by rw [flatV_length, ← hm, Nat.mul_comm])
   have HC2 := Lib.hid (fun (Y : World) (hY : Below wr.heap.size wr Y) => (hcell.below (bto hb hY hb.size)).news)
   have HM := Lib.hid hm
   have oE := World.ownsRow_made (base := wr.heap.size) (e := 88) (size := 7) wr #[] 0 (Nat.le_refl _) (by unfold maxLen; omega) rfl
   obtain ⟨q1, hq1⟩ : ∃ Y, wr.alloc (.cells #[] 88) = Y := ⟨_, rfl⟩
   have d1 : Below wr.heap.size wr q1 := by rw [← hq1]; exact (Below.refl _ _).alloc (Nat.le_refl _) _
   have e1 := d1.size
   rw [hq1] at oE
   clear hM hM' hm hc0 hcell hMne hcr0
   go_upto_region 5 with (fail)
   go_wp2_with (first
    | (at_builtin
       refine wpList_append_own_at _ rfl _ _ 46 rfl wr.heap.size 88 i1 GC.zero.v 7 48 Tryz.underlying46 hi1 hz01 hz11 hz21 rfl (by decide) _ _ _ rfl oE ⟨b2, o2, none⟩ m c2 (flatV M) rfl HFL.out (HC2.out _ d1) (flatV_one _) (by unfold maxLen; omega) (by omega) (by omega) ?_; intro v2 q2 oC hg2 _ _
       rw [Nat.zero_add, List.nil_append] at oC
       have d2 : Below wr.heap.size wr q2 := d1.grown hg2 (by omega) (fun k e => by have h' : some wr.heap.size = some k := e; injection h' with h'; omega)
       obtain ⟨ax, cx, rfl⟩ := own_sliceF oC
       obtain ⟨hC, hcx1, hcx2⟩ := CellsAt.of_own HM.out.symm oC
       have ha3 : ∀ b o, ax = some ⟨b, o, none⟩ → b < q2.heap.size ∧ wr.heap.size ≤ b := fun b o e => by
        obtain ⟨g1, cur, g2⟩ := own_cells oC b (congrArg (fun x => (Value.slice x m cx).ownBlock) e)
        exact ⟨(Array.getElem?_eq_some_iff.1 g2).1, g1⟩
       have hcn := row_oneK q2 (.slice ax m cx) 46
       obtain ⟨q3, hq3⟩ : ∃ Y, q2.alloc (.cells #[.slice ax m cx] 46) = Y := ⟨_, rfl⟩
       have d3' : Below q2.heap.size q2 q3 := by rw [← hq3]; exact (Below.refl _ _).alloc (Nat.le_refl _) _
       have e3 := d3'.size
       rw [hq3] at hcn
       have d3 := bto d2 d3' d2.size
       have hbs := hb.size
       have hs2 := d2.size
       have HOWN := Lib.hid (fun b o (e : ax = some ⟨b, o, none⟩) => (by
        obtain ⟨h1, h2⟩ := ha3 b o e
        refine ⟨by omega, by omega, fun e2 => ?_⟩
        have := (HCR.out.own b e2).2
        omega : b < q3.heap.size ∧ W.heap.size + 1 + 1 ≤ b ∧ (Value.slice av j cv).ownBlock ≠ some b))
       have HC3 := Lib.hid (hC.below d3')
       clear hC ha3 hg2 oC oE)
    | (at_builtin; refine wpList_append_cells rfl _ _ rfl (fun b => W.heap.size + 1 + 1 ≤ b) (W.heap.size + 1 + 1) (.slice av j cv) j (R.take j) rfl (HCR.out.below d3) q2.heap.size rfl ax m cx M hcn HC3.out HM.out.symm ⟨hcx1, hcx2⟩ (fun b o e => HOWN.out b o e) (by omega) (by omega) ?_; intro gq c' w5 hR5 hg5 hb5))
   have x5 : FBI w5 W.heap.size (.slice (some ⟨b, off, none⟩) n cap) r c s := (hb5.block _ (by omega)).trans (x1.below d3)
   have z5 : FBI w5 (W.heap.size + 1) (.slice none 0 0) 0 0 false := (hb5.block _ (by omega)).trans (x2.below d3)
   go_roundw
   case rel => exact ⟨j + 1, some ⟨gq, 0, none⟩, c', hlt, rfl, by go_num, x5, z5, by rw [HSN.out]; exact hR5, (bto hb d3 hb.size).trans (hb5.mono (by omega))⟩
   case measure => simp [intOf]; omega
  ·obtain rfl : j = n := by omega
   rw [List.take_of_length_le (by omega)] at hcr0
   obtain ⟨Y1, hY1⟩ : ∃ Y, wr.setCell ⟨W.heap.size, 0, none⟩ (.slice av j cv) = Y := ⟨_, rfl⟩
   have v1 : FBI Y1 W.heap.size (.slice av j cv) r c s := by rw [← hY1]; exact x1.setRows _
   have v2 : FBI Y1 (W.heap.size + 1) (.slice none 0 0) 0 0 false := by rw [← hY1]; exact x2.oth (by omega) _
   have vo : CRow (fun b => W.heap.size + 1 + 1 ≤ b) (W.heap.size + 1 + 1) Y1 (.slice av j cv) j R := by rw [← hY1]; exact hcr0.setCell (b := W.heap.size) (by omega) (by omega) 0 _
   have vb : Below W.heap.size W Y1 := by rw [← hY1]; exact hb.setCell (p := ⟨W.heap.size, 0, none⟩) (Nat.le_refl _) _
   obtain ⟨Y, hY⟩ : ∃ Y, (((Y1.setCell ⟨W.heap.size + 1, 0, none⟩ (.slice av j cv)).setCell ⟨W.heap.size + 1, 1, none⟩ (.int .i64 r)).setCell ⟨W.heap.size + 1, 2, none⟩ (.int .i64 c)).setCell ⟨W.heap.size + 1, 3, none⟩ (.bool s) = Y := ⟨_, rfl⟩
   obtain ⟨zY, oY⟩ := v2.fillK (.slice av j cv) r c s Y hY
   have yo : CRow (fun b => W.heap.size + 1 + 1 ≤ b) (W.heap.size + 1 + 1) Y (.slice av j cv) j R := by
    rw [← hY]
    exact (((vo.setCell (b := W.heap.size + 1) (by omega) (by omega) 0 _).setCell (b := W.heap.size + 1) (by omega) (by omega) 1 _).setCell (b := W.heap.size + 1) (by omega) (by omega) 2 _).setCell (b := W.heap.size + 1) (by omega) (by omega) 3 _
   obtain ⟨ro, rc1, rc2⟩ := (yo.mono (F' := fun b => W.heap.size ≤ b) (fun b hb => by omega)).rows hl (fun b hb => by omega)
   have yb := vb.trans (oY.below (by simp) vb.size)
   have HRO := Lib.hid ro
   have HY1 := Lib.hid hY1
   have HY := Lib.hid hY
   have HKE := Lib.hid hl
   obtain ⟨u0, u1, u2, u3⟩ := x1.cells
   have f0 := x1.frozK 0
   obtain ⟨e0, e1, e2, e3⟩ := v1.cells
   have f4 := v2.frozK 0
   have f5 := v2.frozK 1
   have f6 := v2.frozK 2
   have f7 := v2.frozK 3
   obtain ⟨d0, d1, d2, d3⟩ := v2.cells
   clear hY1 hY oY hcr0 x2 yo vo ro HCR hl
   go_upto_region 8 with (fail)
   try rw [HY1.out]
   go_wp2
   try rw [HY.out]
   refine bodyPost_ret (results_cell_row rfl _ _ (W.heap.size + 1) 42 _ (0, 0) _ rfl zY Tryz.underlying42 rfl (by kernel_rfl)) rfl ?_
   exact ⟨av, cv, by rw [HKE.out], by rw [HKE.out]; exact HRO.out, by rw [HKE.out]; exact ⟨rc1, rc2⟩, yb⟩
end Go.Proofs.YtjkajojjehgmdaaGreat
