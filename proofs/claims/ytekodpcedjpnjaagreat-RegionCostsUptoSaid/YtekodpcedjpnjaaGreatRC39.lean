/- Rows that stand in an array that the call owns; the append of one row. No condition. The law's frame: a frame copied, not larger than is looked at, in memory of its own. No condition. Printed by gen_rnf.py. -/
import Derived.Test.YtekodpcedjpnjaaGreatRC08
import Derived.Test.YtekodpcedjpnjaaGreatRC23
import Derived.Test.YtekodpcedjpnjaaGreatRC25
set_option linter.unusedVariables false
set_option linter.unusedSimpArgs false
namespace Go.Proofs.YtekodpcedjpnjaaGreat
open Go.RowKit Go.Shelf Go.Maps
def CRow (F : Nat → Prop) (n₀ : Nat) (W : World) (v : Value) (k : Nat) (R : List (List GC)) : Prop :=
  ∃ vs G, W.ownsRow n₀ 60 1 v k vs ∧ VRows G W vs R ∧ (∀ b, G b → F b) ∧ ∀ g, v.ownBlock = some g → ¬ G g
theorem CRow.nil (F : Nat → Prop) (n₀ : Nat) (W : World) : CRow F n₀ W (.slice none 0 0) 0 [] :=
  ⟨[], fun _ => False, World.ownsRow_nil _ _ _ _, VRows.nil _ _, fun _ h => h.elim, fun _ _ h => h⟩
theorem CRow.slice {F : Nat → Prop} {n₀ : Nat} {W : World} {v : Value} {k : Nat} {R : List (List GC)} (h : CRow F n₀ W v k R) : ∃ a c, v = .slice a k c := by
  obtain ⟨vs, _, ho, _⟩ := h
  exact own_sliceF ho
theorem CRow.below {F : Nat → Prop} {n₀ : Nat} {W Y : World} {v : Value} {k : Nat} {R : List (List GC)} (h : CRow F n₀ W v k R) (hb : Below W.heap.size W Y) : CRow F n₀ Y v k R := by
  obtain ⟨vs, G, ho, hv, hG, hn⟩ := h
  exact ⟨vs, G, own_belowF ho hb, hv.below hb, hG, hn⟩
theorem CRow.setCell {F : Nat → Prop} {n₀ : Nat} {W : World} {v : Value} {k : Nat} {R : List (List GC)} (h : CRow F n₀ W v k R) {b : Nat} (hb : b < n₀) (hF : ¬ F b) (o : Nat) (u : Value) : CRow F n₀ (W.setCell ⟨b, o, none⟩ u) v k R := by
  obtain ⟨vs, G, ho, hv, hG, hn⟩ := h
  exact ⟨vs, G, ownsRow_setCell_below ho hb u, hv.keep (by simp [World.setCell]) (fun b' hb' _ => Below.heap_setCell _ _ _ _ (fun e => hF (by subst e; exact hG _ hb'))), hG, hn⟩
theorem CRow.app {F : Nat → Prop} {n₀ : Nat} {W W' : World} {v v' : Value} {k : Nat} {R : List (List GC)} {vs : List Value} {G : Nat → Prop} {a : Option Addr} {n c : Nat} {M : List GC}
    (hv : VRows G W vs R) (hG : ∀ b, G b → F b) (hn : ∀ g, v.ownBlock = some g → ¬ G g) (hlt : ∀ g, v.ownBlock = some g → g < W.heap.size)
    (hM : CellsAt W a n M) (hnM : M.length = n) (hc : n ≤ c ∧ c ≤ maxLen) (ha : ∀ b o, a = some ⟨b, o, none⟩ → b < W.heap.size ∧ F b ∧ v.ownBlock ≠ some b)
    (hgr : W.grownBy W' v.ownBlock) (ho : W'.ownsRow n₀ 60 1 v' (k + 1) (vs ++ [.slice a n c])) (hob : v'.ownBlock = v.ownBlock ∨ v'.ownBlock = some W.heap.size) : CRow F n₀ W' v' (k + 1) (R ++ [M]) := by
  have hkeep : ∀ b, b < W.heap.size → v.ownBlock ≠ some b → W'.heap[b]? = W.heap[b]? := fun b hb hne => hgr.block b hb (fun e => hne e.symm)
  have hv1 := hv.mono (F' := fun b => G b ∧ b < W.heap.size) (fun b h1 h2 => ⟨h1, h2⟩)
  have hv2 := (hv1.keep hgr.size (fun b hb hlt' => hkeep b hlt' (fun e => hn b e hb.1)))
  have hv3 := hv2.mono (F' := fun b => G b ∧ b < W.heap.size ∨ ∃ o, a = some ⟨b, o, none⟩) (fun b h1 _ => .inl h1)
  have hM2 := hM.keep hgr.size (fun b o e hb => hkeep b hb (ha b o e).2.2)
  refine ⟨vs ++ [.slice a n c], _, ho, hv3.snoc hnM hc hM2 (fun b o e => ⟨Nat.lt_of_lt_of_le (ha b o e).1 hgr.size, .inr ⟨o, e⟩⟩), ?_, ?_⟩
  · rintro b (h1 | ⟨o, e⟩)
    · exact hG b h1.1
    · exact (ha b o e).2.1
  · rintro g hg (h1 | ⟨o, e⟩)
    · rcases hob with h2 | h2
      · exact hn g (h2 ▸ hg) h1.1
      · rw [h2] at hg; cases hg; exact absurd h1.2 (Nat.lt_irrefl _)
    · rcases hob with h2 | h2
      · exact (ha g o e).2.2 (h2 ▸ hg)
      · rw [h2] at hg; cases hg; exact absurd (ha _ o e).1 (Nat.lt_irrefl _)
theorem CRow.rows {F : Nat → Prop} {n₀ : Nat} {W : World} {a : Option Addr} {k c : Nat} {R : List (List GC)} (h : CRow F n₀ W (.slice a k c) k R) (hR : R.length = k) (hF : ∀ b, n₀ ≤ b → F b) : RowsF F W a k R ∧ k ≤ c ∧ c ≤ maxLen := by
  obtain ⟨vs, G, ho, hv, hG, hn⟩ := h
  obtain ⟨h1, h2, h3⟩ := own_row_at ho
  exact ⟨RowsF.of_vals hR (hv.mono (fun b hb _ => hG b hb)) h1 (fun b o e => by subst e; exact hF b (own_cells ho b rfl).1), h2, h3⟩
theorem wpList_append_cells {ops : Array Oper} {rest : List Oper} {o : Oper} {a : Act} {w : World} {Q : Exit → Act → World → Prop} (hgd : o.guard = none) (s x : Operand)
    (ho : o.op = .call { callee := .builtin .append, args := #[s, x], argTypes := #[50, 50] }) (F : Nat → Prop) (n₀ : Nat) (v : Value) (k : Nat) (R : List (List GC)) (hs : a.eval s = v) (hR : CRow F n₀ w v k R)
    (b : Nat) (hx : a.eval x = .slice (some ⟨b, 0, none⟩) 1 1) (a3 : Option Addr) (n c : Nat) (M : List GC) (hcell : ∀ j u, [Value.slice a3 n c][j]? = some u → w.cell? ((⟨b, 0, none⟩ : Addr).add j) = some u) (hM : CellsAt w a3 n M) (hnM : M.length = n) (hc : n ≤ c ∧ c ≤ maxLen)
    (ha : ∀ b o, a3 = some ⟨b, o, none⟩ → b < w.heap.size ∧ F b ∧ v.ownBlock ≠ some b) (hk : k + 1 ≤ 1000000) (hbase : n₀ ≤ w.heap.size)
    (h : ∀ g c' w', CRow F n₀ w' (.slice (some ⟨g, 0, none⟩) (k + 1) c') (k + 1) (R ++ [M]) → w.grownBy w' v.ownBlock → Below n₀ w w' → wpList Tryz.prog ops Q rest (a.put o.dst (.slice (some ⟨g, 0, none⟩) (k + 1) c')) w') :
    wpList Tryz.prog ops Q (o :: rest) a w := by
  obtain ⟨i0, hi, hz0, hz1, hz2⟩ := info_parts infoCells
  obtain ⟨vs, G, hown, hv, hG, hn⟩ := hR
  refine wpList_append_own_at _ hgd s x 50 ho n₀ 60 i0 (.slice none 0 0) 1 24 Tryz.underlying50 hi hz0 hz1 hz2 rfl (by decide) v k vs hs hown ⟨b, 0, none⟩ 1 1 [.slice a3 n c] hx rfl hcell (by intro u hu; rw [List.mem_singleton.1 hu]; rfl) (by unfold maxLen; omega) (by omega) hbase ?_
  intro v' w1 ho' hg' _ hob
  obtain ⟨g, c', rfl⟩ := ownsRow_succ ho'
  exact h _ _ _ (CRow.app hv hG hn (fun g e => by obtain ⟨_, cur, h2⟩ := own_cells hown g e; exact (Array.getElem?_eq_some_iff.1 h2).1) hM hnM hc ha hg' ho' hob) hg' ((Below.refl n₀ w).grown hg' hbase (fun k e => (own_cells hown k e).1))
theorem CRow.own {F : Nat → Prop} {n₀ : Nat} {W : World} {v : Value} {k : Nat} {R : List (List GC)} (h : CRow F n₀ W v k R) : ∀ g, v.ownBlock = some g → n₀ ≤ g ∧ g < W.heap.size := fun g e => by
  obtain ⟨vs, G, hown, _⟩ := h
  obtain ⟨h1, cur, h2⟩ := own_cells hown g e
  exact ⟨h1, (Array.getElem?_eq_some_iff.1 h2).1⟩
theorem CRow.mono {F F' : Nat → Prop} {n₀ : Nat} {W : World} {v : Value} {k : Nat} {R : List (List GC)} (h : CRow F n₀ W v k R) (hF : ∀ b, F b → F' b) : CRow F' n₀ W v k R := by
  obtain ⟨vs, G, ho, hv, hG, hn⟩ := h
  exact ⟨vs, G, ho, hv, fun b hb => hF b (hG b hb), hn⟩
theorem RowsF.at {F : Nat → Prop} {W : World} {a : Option Addr} {n : Nat} {R : List (List GC)} (h : RowsF F W a n R) : RowsAt W a n R :=
  ⟨h.len, fun i M hi => by obtain ⟨b, off, a2, c2, h1, h2, h3, h4, h5, _⟩ := h.at_ i M hi; exact ⟨b, off, a2, c2, h1, h2.1, h3, h4, h5⟩⟩
end Go.Proofs.YtekodpcedjpnjaaGreat
namespace Go.Proofs.YtekodpcedjpnjaaGreat
open Go.RowKit Go.Shelf Go.Maps
def frG (R : List (List GC)) : List (List GC) := (R.take 62).map (List.take 510)
theorem frG_len (R : List (List GC)) : (frG R).length = min 62 R.length := by
  unfold frG
  rw [List.length_map, List.length_take]
theorem frG_get {R : List (List GC)} {j : Nat} {M : List GC} (h : R[j]? = some M) (hj : j < 62) : (frG R)[j]? = some (M.take 510) := by
  unfold frG
  rw [List.getElem?_map, List.getElem?_take, if_pos hj, h]
  rfl
theorem run_append_nilG {w : World} {P : Program} {base : Nat} (t ty e : TypeId) (i : TypeInfo) (size : Nat) (ht : P.underlying t = some (.slice e)) (hi : P.info? e = some i) (v : Value) (n : Nat) (xs : List Value) (c : Nat) (hown : w.ownsRow base e size v n xs) :
    (Builtin.append_ #[t, t] ty #[v, .slice none 0 c]).run P w = .ok v w := by
  rcases hown.2 with ⟨rfl, rfl⟩ | ⟨g, cap, cur, rfl, _, _, hnc, _⟩
  · simp [Builtin.append_, run_underlying ht, sizeOf, typeInfo, hi, Builtin.lenOf, Builtin.firstCells]
  · simp [Builtin.append_, run_underlying ht, sizeOf, typeInfo, hi, Builtin.lenOf, Builtin.firstCells, hnc, storeCells]
theorem wpList_append_nilG {P : Program} {w : World} {ops : Array Oper} {rest : List Oper} {o : Oper} {a : Act} {Q : Exit → Act → World → Prop} (hgd : o.guard = none) (s x : Operand) (t : TypeId)
    (ho : o.op = .call { callee := .builtin .append, args := #[s, x], argTypes := #[t, t] })
    (base : Nat) (e : TypeId) (i : TypeInfo) (size : Nat) (ht : P.underlying t = some (.slice e)) (hi : P.info? e = some i)
    (v : Value) (n : Nat) (xs : List Value) (c : Nat) (hs : a.eval s = v) (hown : w.ownsRow base e size v n xs) (hx : a.eval x = .slice none 0 c)
    (h : wpList P ops Q rest (a.put o.dst v) w) : wpList P ops Q (o :: rest) a w := by
  refine wpList_plain hgd fun K hK => ?_
  have hrun := run_append_nilG (P := P) (w := w) (base := base) t o.type e i size ht hi v n xs c hown
  unfold Oper.wp
  simp [execOp, ho, resolve, invoke, builtin, hs, hx, hrun, Result.andThen]
  exact hK _ _ h
theorem CellsAt.newsT {W : World} {ad : Addr} {n : Nat} {M : List GC} (h : CellsAt W (some ad) n M) (k : Nat) : ∀ j u, (flatV (M.take k))[j]? = some u → W.cell? (ad.add j) = some u := fun j u hu => by
  cases M with
  | nil => simp [flatV] at hu
  | cons x N =>
    obtain ⟨b2, o2, e, _⟩ := h.at_ 0 x rfl
    simp only [Option.some.injEq] at e
    subst e
    exact (h.take k).news j u hu
def FrOwn (R : List (List GC)) (r c : Int) (s : Bool) (W : World) (e : Ending) (w' : World) : Prop :=
  ∃ a cap, e = .returned (.agg #[.slice a R.length cap, .int .i64 r, .int .i64 c, .bool s]) ∧ RowsF (fun b => W.heap.size ≤ b) w' a R.length R ∧ (R.length ≤ cap ∧ cap ≤ maxLen) ∧ Below W.heap.size W w'
set_option maxRecDepth 100000 in
set_option maxHeartbeats 16000000 in
theorem frame11_any {W : World} {a : Option Addr} {n cap : Nat} {R : List (List GC)} (hR : RowsAt W a n R) (hn : n ≤ cap) (hcap : cap ≤ maxLen) (r c : Int) (s : Bool) :
    Calls Tryz.prog 63 #[.agg #[.slice a n cap, .int .i64 r, .int .i64 c, .bool s]] W (FrOwn (frG R) r c s W) := by
  obtain ⟨i0, hi, hz0, hz1, hz2⟩ := info_parts infoCells
  obtain ⟨i1, hi1, hz01, hz11, hz21⟩ := info_parts infoCell
  unfold maxLen at hcap
  have hl := hR.len
  have HR := Lib.hid hR
  have HFG := frG_len R
  clear hR
  obtain ⟨k, hk⟩ : ∃ k, k = (frG R).length := ⟨_, rfl⟩
  rw [← hk] at HFG
  have HFG2 := Lib.hid HFG
  clear HFG
  have t1 : FBI (W.alloc (.cells #[.slice a n cap, .int .i64 r, .int .i64 c, .bool s] 52)) W.heap.size (.slice a n cap) r c s := World.alloc_heap_new W _
  go_enter Tryz.func63, Tryz.ntmps63
  go_upto_region 1 with (fail)
  obtain ⟨X1, hX1⟩ : ∃ X, W.alloc (.cells #[.slice a n cap, .int .i64 r, .int .i64 c, .bool s] 52) = X := ⟨_, rfl⟩
  have s1 : X1.heap.size = W.heap.size + 1 := by rw [← hX1]; simp
  have b1 : Below W.heap.size W X1 := by rw [← hX1]; exact (Below.refl _ _).alloc (Nat.le_refl _) _
  rw [hX1] at t1 ⊢
  clear hX1
  have bX1 : Below X1.heap.size X1 (X1.alloc (.cells #[.slice none 0 0, .int .i64 0, .int .i64 0, .bool false] 52)) := (Below.refl _ _).alloc (Nat.le_refl _) _
  have t2 : FBI (X1.alloc (.cells #[.slice none 0 0, .int .i64 0, .int .i64 0, .bool false] 52)) (W.heap.size + 1) (.slice none 0 0) 0 0 false := by rw [← s1]; exact World.alloc_heap_new X1 _
  obtain ⟨X, hX⟩ : ∃ X, X1.alloc (.cells #[.slice none 0 0, .int .i64 0, .int .i64 0, .bool false] 52) = X := ⟨_, rfl⟩
  have s2 : X.heap.size = W.heap.size + 1 + 1 := by rw [← hX]; simp [s1]
  rw [hX] at bX1 t2
  rw [hX]
  clear hX
  replace t1 := t1.below bX1
  have bX := bto b1 bX1 b1.size
  clear b1 bX1 s1
  go_wp2
  go_loopw [3, 4] (fun v iv wr => ∃ (j : Nat) (av : Option Addr) (cv : Nat), j ≤ k ∧ v = .slice av j cv ∧ iv = .int .i64 j ∧ FBI wr W.heap.size (.slice a n cap) r c s ∧ FBI wr (W.heap.size + 1) (.slice none 0 0) 0 0 false ∧ CRow (fun b => W.heap.size + 1 + 1 ≤ b) (W.heap.size + 1 + 1) wr (.slice av j cv) j ((frG R).take j) ∧ Below W.heap.size W wr) (fun _ iv _ => k - (intOf iv).toNat)
  case atStart => exact ⟨0, none, 0, Nat.zero_le _, rfl, rfl, t1, t2, CRow.nil _ _ _, bX⟩
  case round =>
    obtain ⟨j, av, cv, hj, rfl, rfl, x1, x2, hcr0, hb⟩ := hrel
    have hx2 := x2.lt
    have HCR := Lib.hid hcr0
    by_cases hlt : j < k
    · have hj62 : j < 62 := by have := HFG2.out; omega
      have hjn : j < n := by have := HFG2.out; omega
      obtain ⟨M, hM⟩ : ∃ M, M = nth [] R j := ⟨_, rfl⟩
      have hM' : R[j]? = some M := by rw [hM, nth_eq _ _ _ (by omega)]; exact List.getElem?_eq_getElem (by omega)
      obtain ⟨b, off, a2, c2, rfl, hbl, hc0, ⟨hc1, hc2⟩, hcell⟩ := HR.out.at_ j M hM'
      have hF := frG_get hM' hj62
      have HSN : Hid ((frG R).take (j + 1) = (frG R).take j ++ [M.take 510]) := Lib.hid (by
        rw [List.take_succ_eq_append_getElem (by rw [← hk]; exact hlt)]
        congr 2
        exact (List.getElem?_eq_some_iff.1 hF).2)
      obtain ⟨m, hm⟩ : ∃ m, m = M.length := ⟨_, rfl⟩
      rw [← hm] at hc0 hc1
      unfold maxLen at hc2
      have hcr := (hb.cell (p := ⟨b, off + j, none⟩) hbl).trans hc0
      have hbs := hb.size
      obtain ⟨q, hq⟩ : ∃ q, wr.drew = q := ⟨_, rfl⟩
      have dB : Below wr.heap.size wr q := by rw [← hq]; exact (Below.refl _ _).drew
      have hblr : b < wr.heap.size := Nat.lt_of_lt_of_le hbl hb.size
      have hSq : (FwS W.heap.size (.slice (some ⟨b, off, none⟩) n cap) r c s b (off + j) (.slice a2 m c2)) q := ⟨x1.below dB, (dB.cell (p := ⟨b, off + j, none⟩) hblr).trans hcr⟩
      have hS0 : (FwS W.heap.size (.slice (some ⟨b, off, none⟩) n cap) r c s b (off + j) (.slice a2 m c2)) wr.drew := by rw [hq]; exact hSq
      have HQ := Lib.hid hq
      have hbq : b < q.heap.size := Nat.lt_of_lt_of_le hblr dB.size
      have hji : (j : Int) < (n : Int) := by omega
      have hji2 : (j : Int) < 62 := by omega
      obtain ⟨u0, u1, u2, u3⟩ := x1.cells
      cases a2 with
      | none =>
        have hm0 : m = 0 := by
          cases M with
          | nil => simpa using hm
          | cons x N =>
            obtain ⟨_, _, e, _⟩ := hcell.at_ 0 x rfl
            cases e
        have hM0 : M = [] := List.length_eq_zero_iff.1 (by omega)
        subst hm0
        have HNIL : Hid (flatV (M.take 510) = []) := Lib.hid (by rw [hM0]; rfl)
        have HKL : Hid ((M.take 510).length = 0) := Lib.hid (by rw [hM0]; rfl)
        have HKM : Hid (min ((0 : Nat) : Int) 510 = ((0 : Nat) : Int)) := Lib.hid (by omega)
        clear hM hM' hF hm hq hc0 hcell hcr0 u1 u2 u3 hM0
        go_wp2_with fail
        refine wp_region_mix2 [(true, 0), (true, 2), (true, 3), (true, 4), (true, 5), (true, 6), (true, 7), (true, 8), (true, 9), (true, 10), (true, 11), (true, 12), (true, 13), (true, 14), (false, 1), (false, 15), (false, 16), (false, 17), (true, 18)] ((FwS W.heap.size (.slice (some ⟨b, off, none⟩) n cap) r c s b (off + j) (.slice none 0 c2))) (by kernel_rfl) (by kernel_rfl) (by rfl) (by kernel_rfl) (by kernel_rfl) (fun _ _ d _ _ h => by cases d <;> exact h) hS0 ?_
        simp only [mixL, List.getElem?_cons_succ, List.getElem?_cons_zero]
        rw [HQ.out]
        refine' wpMix2_read (v := _) rfl ?_ ?_
        rotate_left 1
        · intro w' hw'; obtain ⟨g0, g1, g2, g3⟩ := hw'.1.cells; have gr := hw'.2; go_simp; try with_reducible rfl
        try simp only [Act.put, List.setIfInBounds_toArray, List.set_cons_zero, List.set_cons_succ]
        refine' wpMix2_read (v := _) rfl ?_ ?_
        rotate_left 1
        · intro w' hw'; obtain ⟨g0, g1, g2, g3⟩ := hw'.1.cells; have gr := hw'.2; go_simp; try with_reducible rfl
        try simp only [Act.put, List.setIfInBounds_toArray, List.set_cons_zero, List.set_cons_succ]
        refine' wpMix2_read (v := _) rfl ?_ ?_
        rotate_left 1
        · intro w' hw'; obtain ⟨g0, g1, g2, g3⟩ := hw'.1.cells; have gr := hw'.2; go_simp; try with_reducible rfl
        try simp only [Act.put, List.setIfInBounds_toArray, List.set_cons_zero, List.set_cons_succ]
        refine' wpMix2_read (v := _) rfl ?_ ?_
        rotate_left 1
        · intro w' hw'; obtain ⟨g0, g1, g2, g3⟩ := hw'.1.cells; have gr := hw'.2; go_simp; try with_reducible rfl
        try simp only [Act.put, List.setIfInBounds_toArray, List.set_cons_zero, List.set_cons_succ]
        refine' wpMix2_read (v := _) rfl ?_ ?_
        rotate_left 1
        · intro w' hw'; obtain ⟨g0, g1, g2, g3⟩ := hw'.1.cells; have gr := hw'.2; go_simp; try with_reducible rfl
        try simp only [Act.put, List.setIfInBounds_toArray, List.set_cons_zero, List.set_cons_succ]
        refine' wpMix2_read (v := _) rfl ?_ ?_
        rotate_left 1
        · intro w' hw'; obtain ⟨g0, g1, g2, g3⟩ := hw'.1.cells; have gr := hw'.2; go_simp; try with_reducible rfl
        try simp only [Act.put, List.setIfInBounds_toArray, List.set_cons_zero, List.set_cons_succ]
        refine' wpMix2_read (v := _) rfl ?_ ?_
        rotate_left 1
        · intro w' hw'; obtain ⟨g0, g1, g2, g3⟩ := hw'.1.cells; have gr := hw'.2; go_simp; try with_reducible rfl
        try simp only [Act.put, List.setIfInBounds_toArray, List.set_cons_zero, List.set_cons_succ]
        refine' wpMix2_read (v := _) rfl ?_ ?_
        rotate_left 1
        · intro w' hw'; obtain ⟨g0, g1, g2, g3⟩ := hw'.1.cells; have gr := hw'.2; go_simp; try with_reducible rfl
        try simp only [Act.put, List.setIfInBounds_toArray, List.set_cons_zero, List.set_cons_succ]
        refine' wpMix2_read (v := _) rfl ?_ ?_
        rotate_left 1
        · intro w' hw'; obtain ⟨g0, g1, g2, g3⟩ := hw'.1.cells; have gr := hw'.2; go_simp; try with_reducible rfl
        try simp only [Act.put, List.setIfInBounds_toArray, List.set_cons_zero, List.set_cons_succ]
        refine' wpMix2_read (v := _) rfl ?_ ?_
        rotate_left 1
        · intro w' hw'; obtain ⟨g0, g1, g2, g3⟩ := hw'.1.cells; have gr := hw'.2; go_simp; try with_reducible rfl
        try simp only [Act.put, List.setIfInBounds_toArray, List.set_cons_zero, List.set_cons_succ]
        refine' wpMix2_read (v := _) rfl ?_ ?_
        rotate_left 1
        · intro w' hw'; obtain ⟨g0, g1, g2, g3⟩ := hw'.1.cells; have gr := hw'.2; go_simp; try with_reducible rfl
        try simp only [Act.put, List.setIfInBounds_toArray, List.set_cons_zero, List.set_cons_succ]
        refine' wpMix2_read (v := _) rfl ?_ ?_
        rotate_left 1
        · intro w' hw'; obtain ⟨g0, g1, g2, g3⟩ := hw'.1.cells; have gr := hw'.2; go_simp; try with_reducible rfl
        try simp only [Act.put, List.setIfInBounds_toArray, List.set_cons_zero, List.set_cons_succ]
        refine' wpMix2_read (v := (.int .i64 0)) rfl ?_ ?_
        · intro w' hw'; go_simp; try (first | rw [HKM.out] | omega | decide)
        try simp only [Act.put, List.setIfInBounds_toArray, List.set_cons_zero, List.set_cons_succ]
        refine' wpMix2_read (v := (.slice none 0 c2)) rfl ?_ ?_
        · intro w' hw'; go_simp; try (intro hlt; exfalso; omega)
        try simp only [Act.put, List.setIfInBounds_toArray, List.set_cons_zero, List.set_cons_succ]
        refine wpMix2_act (fun K hK => ?_)
        go_wp2
        have oE := World.ownsRow_made (base := q.heap.size) (e := 171) (size := 7) q #[] 0 (Nat.le_refl _) (by unfold maxLen; omega) rfl
        obtain ⟨q1, hq1⟩ : ∃ Y, q.alloc (.cells #[] 171) = Y := ⟨_, rfl⟩
        have d1 : Below q.heap.size q q1 := by rw [← hq1]; exact (Below.refl _ _).alloc (Nat.le_refl _) _
        have e1 := d1.size
        rw [hq1] at oE
        try rw [hq1]
        have hS1 : (FwS W.heap.size (.slice (some ⟨b, off, none⟩) n cap) r c s b (off + j) (.slice none 0 c2)) q1 := ⟨hSq.1.below d1, (d1.cell (p := ⟨b, off + j, none⟩) hbq).trans hSq.2⟩
        refine hK _ _ hS1 ?_
        clear hK K hq1
        refine wpMix2_act (fun K hK => ?_)
        go_wp2_with (at_builtin; refine wpList_append_nilG rfl _ _ 60 rfl q.heap.size 171 i1 7 Tryz.underlying60 hi1 _ _ _ _ rfl oE rfl ?_)
        obtain ⟨q2, hq2⟩ : ∃ x, x = q1 := ⟨_, rfl⟩
        subst hq2
        have d2 := d1
        have oC : q2.ownsRow q.heap.size 171 7 (.slice (some ⟨q.heap.size, 0, none⟩) 0 0) 0 (flatV (M.take 510)) := by rw [HNIL.out]; exact oE
        refine hK _ _ hS1 ?_
        clear hK K
        obtain ⟨ax, hax⟩ : ∃ x, x = (some ⟨q.heap.size, 0, none⟩ : Option Addr) := ⟨_, rfl⟩
        obtain ⟨cx, hcx⟩ : ∃ x, x = (0 : Nat) := ⟨_, rfl⟩
        refine wpMix2_act (fun K hK => ?_)
        go_wp2
        obtain ⟨hC, hcx1, hcx2⟩ := CellsAt.of_own (by rw [HKL.out]) oC
        have ha3 : ∀ b o, (some (⟨q.heap.size, 0, none⟩ : Addr)) = some ⟨b, o, none⟩ → b < q2.heap.size ∧ q.heap.size ≤ b := fun b o e => by
          obtain ⟨g1, cur, g2⟩ := own_cells oC b (congrArg (fun x => (Value.slice x 0 0).ownBlock) e)
          exact ⟨(Array.getElem?_eq_some_iff.1 g2).1, g1⟩
        have hcn := row_oneK q2 (.slice (some ⟨q.heap.size, 0, none⟩) 0 0) 60
        obtain ⟨q3, hq3⟩ : ∃ Y, q2.alloc (.cells #[.slice (some ⟨q.heap.size, 0, none⟩) 0 0] 60) = Y := ⟨_, rfl⟩
        have d3' : Below q2.heap.size q2 q3 := by rw [← hq3]; exact (Below.refl _ _).alloc (Nat.le_refl _) _
        have e3 := d3'.size
        rw [hq3] at hcn
        try rw [hq3]
        have d3 := bto d2 d3' d2.size
        have hS3 : (FwS W.heap.size (.slice (some ⟨b, off, none⟩) n cap) r c s b (off + j) (.slice none 0 c2)) q3 := ⟨hSq.1.below d3, (d3.cell (p := ⟨b, off + j, none⟩) hbq).trans hSq.2⟩
        refine hK _ _ hS3 ?_
        clear hK K hq3
        refine wpMix2_act (fun K hK => ?_)
        have dW := bto dB d3 dB.size
        have s2 := d2.size
        have ds := dB.size
        have HOWN := Lib.hid (fun b o (e : (some (⟨q.heap.size, 0, none⟩ : Addr)) = some ⟨b, o, none⟩) => (by
          obtain ⟨h1, h2⟩ := ha3 b o e
          refine ⟨by omega, by omega, fun e2 => ?_⟩
          have := (HCR.out.own b e2).2
          omega : b < q3.heap.size ∧ W.heap.size + 1 + 1 ≤ b ∧ (Value.slice av j cv).ownBlock ≠ some b))
        go_wp2_with (at_builtin; (refine wpList_append_cells rfl _ _ rfl (fun b => W.heap.size + 1 + 1 ≤ b) (W.heap.size + 1 + 1) (.slice av j cv) j ((frG R).take j) rfl (HCR.out.below dW) q2.heap.size rfl (some (⟨q.heap.size, 0, none⟩ : Addr)) 0 0 (M.take 510) hcn (hC.below d3') (by rw [HKL.out]) ⟨hcx1, hcx2⟩ (fun b o e => HOWN.out b o e) (by omega) (by omega) ?_; intro gq c' w5 hR5 hg5 hb5))
        have hS5 : (FwS W.heap.size (.slice (some ⟨b, off, none⟩) n cap) r c s b (off + j) (.slice none 0 c2)) w5 := ⟨(hb5.block _ (by omega)).trans hS3.1, (hb5.cell (p := ⟨b, off + j, none⟩) (by show b < _; omega)).trans hS3.2⟩
        have z5 : FBI w5 (W.heap.size + 1) (.slice none 0 0) 0 0 false := (hb5.block _ (by omega)).trans ((x2.below dB).below d3)
        refine hK _ _ hS5 ?_
        clear hK K
        refine' wpMix2_read (v := _) rfl ?_ ?_
        rotate_left 1
        · intro w' hw'; obtain ⟨g0, g1, g2, g3⟩ := hw'.1.cells; have gr := hw'.2; go_simp; try with_reducible rfl
        try simp only [Act.put, List.setIfInBounds_toArray, List.set_cons_zero, List.set_cons_succ]
        refine wpMix2_nil ?_
        go_wp2
        go_roundw
        case rel => exact ⟨j + 1, some ⟨gq, 0, none⟩, c', hlt, rfl, by go_num, hS5.1, z5, by rw [HSN.out]; exact hR5, (bto hb dW hb.size).trans (hb5.mono (by omega))⟩
        case measure => simp [intOf]; omega
      | some ad =>
        obtain ⟨km, hkm⟩ : ∃ q, q = (M.take 510).length := ⟨_, rfl⟩
        have hkm2 : km = min 510 m := by rw [hkm, hm, List.length_take]
        have HKM : Hid (min (m : Int) 510 = (km : Int)) := Lib.hid (by omega)
        have HKL : Hid ((M.take 510).length = km) := Lib.hid hkm.symm
        have HFL : Hid ((flatV (M.take 510)).length = km * 7) := Lib.hid (by rw [flatV_length, ← hkm, Nat.mul_comm])
        have hkmc : km ≤ c2 := by omega
        have hkm5 : km ≤ 510 := by omega
        have HC2 := Lib.hid (fun (Y : World) (hY : Below wr.heap.size wr Y) => ((hcell.below (bto hb hY hb.size)).newsT 510))
        clear hM hM' hF hm hkm hkm2 hq hc0 hcell hcr0 u1 u2 u3
        go_wp2_with fail
        refine wp_region_mix2 [(true, 0), (true, 2), (true, 3), (true, 4), (true, 5), (true, 6), (true, 7), (true, 8), (true, 9), (true, 10), (true, 11), (true, 12), (true, 13), (true, 14), (false, 1), (false, 15), (false, 16), (false, 17), (true, 18)] ((FwS W.heap.size (.slice (some ⟨b, off, none⟩) n cap) r c s b (off + j) (.slice (some ad) m c2))) (by kernel_rfl) (by kernel_rfl) (by rfl) (by kernel_rfl) (by kernel_rfl) (fun _ _ d _ _ h => by cases d <;> exact h) hS0 ?_
        simp only [mixL, List.getElem?_cons_succ, List.getElem?_cons_zero]
        rw [HQ.out]
        refine' wpMix2_read (v := _) rfl ?_ ?_
        rotate_left 1
        · intro w' hw'; obtain ⟨g0, g1, g2, g3⟩ := hw'.1.cells; have gr := hw'.2; go_simp; try with_reducible rfl
        try simp only [Act.put, List.setIfInBounds_toArray, List.set_cons_zero, List.set_cons_succ]
        refine' wpMix2_read (v := _) rfl ?_ ?_
        rotate_left 1
        · intro w' hw'; obtain ⟨g0, g1, g2, g3⟩ := hw'.1.cells; have gr := hw'.2; go_simp; try with_reducible rfl
        try simp only [Act.put, List.setIfInBounds_toArray, List.set_cons_zero, List.set_cons_succ]
        refine' wpMix2_read (v := _) rfl ?_ ?_
        rotate_left 1
        · intro w' hw'; obtain ⟨g0, g1, g2, g3⟩ := hw'.1.cells; have gr := hw'.2; go_simp; try with_reducible rfl
        try simp only [Act.put, List.setIfInBounds_toArray, List.set_cons_zero, List.set_cons_succ]
        refine' wpMix2_read (v := _) rfl ?_ ?_
        rotate_left 1
        · intro w' hw'; obtain ⟨g0, g1, g2, g3⟩ := hw'.1.cells; have gr := hw'.2; go_simp; try with_reducible rfl
        try simp only [Act.put, List.setIfInBounds_toArray, List.set_cons_zero, List.set_cons_succ]
        refine' wpMix2_read (v := _) rfl ?_ ?_
        rotate_left 1
        · intro w' hw'; obtain ⟨g0, g1, g2, g3⟩ := hw'.1.cells; have gr := hw'.2; go_simp; try with_reducible rfl
        try simp only [Act.put, List.setIfInBounds_toArray, List.set_cons_zero, List.set_cons_succ]
        refine' wpMix2_read (v := _) rfl ?_ ?_
        rotate_left 1
        · intro w' hw'; obtain ⟨g0, g1, g2, g3⟩ := hw'.1.cells; have gr := hw'.2; go_simp; try with_reducible rfl
        try simp only [Act.put, List.setIfInBounds_toArray, List.set_cons_zero, List.set_cons_succ]
        refine' wpMix2_read (v := _) rfl ?_ ?_
        rotate_left 1
        · intro w' hw'; obtain ⟨g0, g1, g2, g3⟩ := hw'.1.cells; have gr := hw'.2; go_simp; try with_reducible rfl
        try simp only [Act.put, List.setIfInBounds_toArray, List.set_cons_zero, List.set_cons_succ]
        refine' wpMix2_read (v := _) rfl ?_ ?_
        rotate_left 1
        · intro w' hw'; obtain ⟨g0, g1, g2, g3⟩ := hw'.1.cells; have gr := hw'.2; go_simp; try with_reducible rfl
        try simp only [Act.put, List.setIfInBounds_toArray, List.set_cons_zero, List.set_cons_succ]
        refine' wpMix2_read (v := _) rfl ?_ ?_
        rotate_left 1
        · intro w' hw'; obtain ⟨g0, g1, g2, g3⟩ := hw'.1.cells; have gr := hw'.2; go_simp; try with_reducible rfl
        try simp only [Act.put, List.setIfInBounds_toArray, List.set_cons_zero, List.set_cons_succ]
        refine' wpMix2_read (v := _) rfl ?_ ?_
        rotate_left 1
        · intro w' hw'; obtain ⟨g0, g1, g2, g3⟩ := hw'.1.cells; have gr := hw'.2; go_simp; try with_reducible rfl
        try simp only [Act.put, List.setIfInBounds_toArray, List.set_cons_zero, List.set_cons_succ]
        refine' wpMix2_read (v := _) rfl ?_ ?_
        rotate_left 1
        · intro w' hw'; obtain ⟨g0, g1, g2, g3⟩ := hw'.1.cells; have gr := hw'.2; go_simp; try with_reducible rfl
        try simp only [Act.put, List.setIfInBounds_toArray, List.set_cons_zero, List.set_cons_succ]
        refine' wpMix2_read (v := _) rfl ?_ ?_
        rotate_left 1
        · intro w' hw'; obtain ⟨g0, g1, g2, g3⟩ := hw'.1.cells; have gr := hw'.2; go_simp; try with_reducible rfl
        try simp only [Act.put, List.setIfInBounds_toArray, List.set_cons_zero, List.set_cons_succ]
        refine' wpMix2_read (v := (.int .i64 km)) rfl ?_ ?_
        · intro w' hw'; go_simp; try (first | rw [HKM.out] | omega | decide)
        try simp only [Act.put, List.setIfInBounds_toArray, List.set_cons_zero, List.set_cons_succ]
        refine' wpMix2_read (v := (.slice (some ad) km c2)) rfl ?_ ?_
        · intro w' hw'; go_simp; try (intro hlt; exfalso; omega)
        try simp only [Act.put, List.setIfInBounds_toArray, List.set_cons_zero, List.set_cons_succ]
        refine wpMix2_act (fun K hK => ?_)
        go_wp2
        have oE := World.ownsRow_made (base := q.heap.size) (e := 171) (size := 7) q #[] 0 (Nat.le_refl _) (by unfold maxLen; omega) rfl
        obtain ⟨q1, hq1⟩ : ∃ Y, q.alloc (.cells #[] 171) = Y := ⟨_, rfl⟩
        have d1 : Below q.heap.size q q1 := by rw [← hq1]; exact (Below.refl _ _).alloc (Nat.le_refl _) _
        have e1 := d1.size
        rw [hq1] at oE
        try rw [hq1]
        have hS1 : (FwS W.heap.size (.slice (some ⟨b, off, none⟩) n cap) r c s b (off + j) (.slice (some ad) m c2)) q1 := ⟨hSq.1.below d1, (d1.cell (p := ⟨b, off + j, none⟩) hbq).trans hSq.2⟩
        refine hK _ _ hS1 ?_
        clear hK K hq1
        refine wpMix2_act (fun K hK => ?_)
        go_wp2_with (at_builtin; refine wpList_append_own_at _ rfl _ _ 60 rfl q.heap.size 171 i1 GC.zero.v 7 48 Tryz.underlying60 hi1 hz01 hz11 hz21 rfl (by decide) _ _ _ rfl oE ad km c2 (flatV (M.take 510)) rfl HFL.out (HC2.out _ (bto dB d1 dB.size)) (flatV_one _) (by unfold maxLen; omega) (by omega) (by omega) ?_; intro v2 q2 oC hg2 _ _)
        rw [Nat.zero_add, List.nil_append] at oC
        have d2 : Below q.heap.size q q2 := d1.grown hg2 (by omega) (fun k e => by have h' : some q.heap.size = some k := e; injection h' with h'; omega)
        have hS2 : (FwS W.heap.size (.slice (some ⟨b, off, none⟩) n cap) r c s b (off + j) (.slice (some ad) m c2)) q2 := ⟨hSq.1.below d2, (d2.cell (p := ⟨b, off + j, none⟩) hbq).trans hSq.2⟩
        obtain ⟨ax, cx, rfl⟩ := own_sliceF oC
        refine hK _ _ hS2 ?_
        clear hK K hS1
        have hS1 := hS2
        clear hS2
        refine wpMix2_act (fun K hK => ?_)
        go_wp2
        obtain ⟨hC, hcx1, hcx2⟩ := CellsAt.of_own (by rw [HKL.out]) oC
        have ha3 : ∀ b o, ax = some ⟨b, o, none⟩ → b < q2.heap.size ∧ q.heap.size ≤ b := fun b o e => by
          obtain ⟨g1, cur, g2⟩ := own_cells oC b (congrArg (fun x => (Value.slice x km cx).ownBlock) e)
          exact ⟨(Array.getElem?_eq_some_iff.1 g2).1, g1⟩
        have hcn := row_oneK q2 (.slice ax km cx) 60
        obtain ⟨q3, hq3⟩ : ∃ Y, q2.alloc (.cells #[.slice ax km cx] 60) = Y := ⟨_, rfl⟩
        have d3' : Below q2.heap.size q2 q3 := by rw [← hq3]; exact (Below.refl _ _).alloc (Nat.le_refl _) _
        have e3 := d3'.size
        rw [hq3] at hcn
        try rw [hq3]
        have d3 := bto d2 d3' d2.size
        have hS3 : (FwS W.heap.size (.slice (some ⟨b, off, none⟩) n cap) r c s b (off + j) (.slice (some ad) m c2)) q3 := ⟨hSq.1.below d3, (d3.cell (p := ⟨b, off + j, none⟩) hbq).trans hSq.2⟩
        refine hK _ _ hS3 ?_
        clear hK K hq3
        refine wpMix2_act (fun K hK => ?_)
        have dW := bto dB d3 dB.size
        have s2 := d2.size
        have ds := dB.size
        have HOWN := Lib.hid (fun b o (e : ax = some ⟨b, o, none⟩) => (by
          obtain ⟨h1, h2⟩ := ha3 b o e
          refine ⟨by omega, by omega, fun e2 => ?_⟩
          have := (HCR.out.own b e2).2
          omega : b < q3.heap.size ∧ W.heap.size + 1 + 1 ≤ b ∧ (Value.slice av j cv).ownBlock ≠ some b))
        go_wp2_with (at_builtin; (refine wpList_append_cells rfl _ _ rfl (fun b => W.heap.size + 1 + 1 ≤ b) (W.heap.size + 1 + 1) (.slice av j cv) j ((frG R).take j) rfl (HCR.out.below dW) q2.heap.size rfl ax km cx (M.take 510) hcn (hC.below d3') (by rw [HKL.out]) ⟨hcx1, hcx2⟩ (fun b o e => HOWN.out b o e) (by omega) (by omega) ?_; intro gq c' w5 hR5 hg5 hb5))
        have hS5 : (FwS W.heap.size (.slice (some ⟨b, off, none⟩) n cap) r c s b (off + j) (.slice (some ad) m c2)) w5 := ⟨(hb5.block _ (by omega)).trans hS3.1, (hb5.cell (p := ⟨b, off + j, none⟩) (by show b < _; omega)).trans hS3.2⟩
        have z5 : FBI w5 (W.heap.size + 1) (.slice none 0 0) 0 0 false := (hb5.block _ (by omega)).trans ((x2.below dB).below d3)
        refine hK _ _ hS5 ?_
        clear hK K
        refine' wpMix2_read (v := _) rfl ?_ ?_
        rotate_left 1
        · intro w' hw'; obtain ⟨g0, g1, g2, g3⟩ := hw'.1.cells; have gr := hw'.2; go_simp; try with_reducible rfl
        try simp only [Act.put, List.setIfInBounds_toArray, List.set_cons_zero, List.set_cons_succ]
        refine wpMix2_nil ?_
        go_wp2
        go_roundw
        case rel => exact ⟨j + 1, some ⟨gq, 0, none⟩, c', hlt, rfl, by go_num, hS5.1, z5, by rw [HSN.out]; exact hR5, (bto hb dW hb.size).trans (hb5.mono (by omega))⟩
        case measure => simp [intOf]; omega
    · obtain rfl : j = k := by omega
      rw [List.take_of_length_le (by omega)] at hcr0
      obtain ⟨Y1, hY1⟩ : ∃ Y, wr.setCell ⟨W.heap.size, 0, none⟩ (.slice av j cv) = Y := ⟨_, rfl⟩
      have v1 : FBI Y1 W.heap.size (.slice av j cv) r c s := by rw [← hY1]; exact x1.setRows _
      have v2 : FBI Y1 (W.heap.size + 1) (.slice none 0 0) 0 0 false := by rw [← hY1]; exact x2.oth (by omega) _
      have vo : CRow (fun b => W.heap.size + 1 + 1 ≤ b) (W.heap.size + 1 + 1) Y1 (.slice av j cv) j (frG R) := by rw [← hY1]; exact hcr0.setCell (b := W.heap.size) (by omega) (by omega) 0 _
      have vb : Below W.heap.size W Y1 := by rw [← hY1]; exact hb.setCell (p := ⟨W.heap.size, 0, none⟩) (Nat.le_refl _) _
      obtain ⟨Y, hY⟩ : ∃ Y, (((Y1.setCell ⟨W.heap.size + 1, 0, none⟩ (.slice av j cv)).setCell ⟨W.heap.size + 1, 1, none⟩ (.int .i64 r)).setCell ⟨W.heap.size + 1, 2, none⟩ (.int .i64 c)).setCell ⟨W.heap.size + 1, 3, none⟩ (.bool s) = Y := ⟨_, rfl⟩
      obtain ⟨zY, oY⟩ := v2.fillK (.slice av j cv) r c s Y hY
      have yo : CRow (fun b => W.heap.size + 1 + 1 ≤ b) (W.heap.size + 1 + 1) Y (.slice av j cv) j (frG R) := by
        rw [← hY]
        exact (((vo.setCell (b := W.heap.size + 1) (by omega) (by omega) 0 _).setCell (b := W.heap.size + 1) (by omega) (by omega) 1 _).setCell (b := W.heap.size + 1) (by omega) (by omega) 2 _).setCell (b := W.heap.size + 1) (by omega) (by omega) 3 _
      obtain ⟨ro, rc1, rc2⟩ := (yo.mono (F' := fun b => W.heap.size ≤ b) (fun b hb => by omega)).rows hk.symm (fun b hb => by omega)
      have yb := vb.trans (oY.below (by simp) vb.size)
      have HRO := Lib.hid ro
      have HY1 := Lib.hid hY1
      have HY := Lib.hid hY
      have HKE := Lib.hid hk
      obtain ⟨u0, u1, u2, u3⟩ := x1.cells
      have f0 := x1.frozK 0
      obtain ⟨e0, e1, e2, e3⟩ := v1.cells
      have f4 := v2.frozK 0
      have f5 := v2.frozK 1
      have f6 := v2.frozK 2
      have f7 := v2.frozK 3
      obtain ⟨d0, d1, d2, d3⟩ := v2.cells
      have hor : j = n ∨ (j = 62 ∧ j < n) := by have := HFG2.out; omega
      clear hY1 hY oY hcr0 x2 hk yo vo ro HCR
      rcases hor with h | ⟨h, h'⟩
      · subst h
        have hni : ¬ ((j : Int) < (j : Int)) := by omega
        go_upto_region 7 with (fail)
        try rw [HY1.out]
        go_wp2
        try rw [HY.out]
        refine bodyPost_ret (results_cell_row rfl _ _ (W.heap.size + 1) 52 _ (0, 0) _ rfl zY Tryz.underlying52 rfl (by kernel_rfl)) rfl ?_
        exact ⟨av, cv, by rw [← HKE.out], by rw [← HKE.out]; exact HRO.out, by rw [← HKE.out]; exact ⟨rc1, rc2⟩, yb⟩
      · have hji : (j : Int) < (n : Int) := by omega
        have hni : ¬ ((j : Int) < 62) := by omega
        clear h h' hj
        go_upto_region 7 with (fail)
        try rw [HY1.out]
        go_wp2
        try rw [HY.out]
        refine bodyPost_ret (results_cell_row rfl _ _ (W.heap.size + 1) 52 _ (0, 0) _ rfl zY Tryz.underlying52 rfl (by kernel_rfl)) rfl ?_
        exact ⟨av, cv, by rw [← HKE.out], by rw [← HKE.out]; exact HRO.out, by rw [← HKE.out]; exact ⟨rc1, rc2⟩, yb⟩
end Go.Proofs.YtekodpcedjpnjaaGreat
