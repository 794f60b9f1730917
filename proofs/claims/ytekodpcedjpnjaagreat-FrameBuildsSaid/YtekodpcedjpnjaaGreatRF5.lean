/- The reference's builder of frames: Frame. No condition. The reference: two frames of the same rows. No condition. -/
import Derived.Test.YtekodpcedjpnjaaGreatRF3
import Derived.Test.YtekodpcedjpnjaaGreatFrame9
namespace Go.Proofs.YtekodpcedjpnjaaGreat
set_option linter.unusedVariables false
set_option linter.unusedSimpArgs false
open Go.RowKit Go.Shelf Go.Maps
/-- Rows that stand in an array that the call owns; the blocks of the rows are of F, and none of them is the array's. -/
def CRow (F : Nat → Prop) (n₀ : Nat) (W : World) (v : Value) (k : Nat) (R : List (List GC)) : Prop :=
  ∃ vs G, W.ownsRow n₀ 60 1 v k vs ∧ VRows G W vs R ∧ (∀ b, G b → F b) ∧ ∀ g, v.ownBlock = some g → ¬ G g
theorem CRow.nil (F : Nat → Prop) (n₀ : Nat) (W : World) : CRow F n₀ W (.slice none 0 0) 0 [] :=
  ⟨[], fun _ => False, World.ownsRow_nil _ _ _ _, VRows.nil _ _, fun _ h => h.elim, fun _ _ h => h⟩
theorem CRow.slice {F : Nat → Prop} {n₀ : Nat} {W : World} {v : Value} {k : Nat} {R : List (List GC)} (h : CRow F n₀ W v k R) : ∃ a c, v = .slice a k c := by
  obtain ⟨vs, _, ho, _⟩ := h
  exact own_sliceF ho
theorem CRow.below {F : Nat → Prop} {n₀ : Nat} {W Y : World} {v : Value} {k : Nat} {R : List (List GC)} (h : CRow F n₀ W v k R) (hb : Below W.heap.size W Y) : CRow F n₀ Y v k R := by
  obtain ⟨vs, G, ho, hv, hG, hn⟩ := h
  exact ⟨vs, G, own_belowF ho hb, hv.below hb, hG, hn⟩
/-- A box below the owned ones is written. -/
theorem CRow.setCell {F : Nat → Prop} {n₀ : Nat} {W : World} {v : Value} {k : Nat} {R : List (List GC)} (h : CRow F n₀ W v k R) {b : Nat} (hb : b < n₀) (hF : ¬ F b) (o : Nat) (u : Value) : CRow F n₀ (W.setCell ⟨b, o, none⟩ u) v k R := by
  obtain ⟨vs, G, ho, hv, hG, hn⟩ := h
  exact ⟨vs, G, ownsRow_setCell_below ho hb u, hv.keep (by simp [World.setCell]) (fun b' hb' _ => Below.heap_setCell _ _ _ _ (fun e => hF (by subst e; exact hG _ hb'))), hG, hn⟩
/-- A row is put behind them: the world W is that of the append. -/
theorem CRow.app {F : Nat → Prop} {n₀ : Nat} {W W' : World} {v v' : Value} {k : Nat} {R : List (List GC)} {vs : List Value} {G : Nat → Prop} {a : Option Addr} {n c : Nat} {M : List GC}
    (hv : VRows G W vs R) (hG : ∀ b, G b → F b) (hn : ∀ g, v.ownBlock = some g → ¬ G g) (hlt : ∀ g, v.ownBlock = some g → g < W.heap.size)
    (hM : CellsAt W a n M) (hnM : M.length = n) (hc : n ≤ c ∧ c ≤ maxLen) (ha : ∀ b o, a = some ⟨b, o, none⟩ → b < W.heap.size ∧ F b ∧ v.ownBlock ≠ some b)
    (hgr : W.grownBy W' v.ownBlock) (ho : W'.ownsRow n₀ 60 1 v' (k + 1) (vs ++ [.slice a n c])) (hob : v'.ownBlock = v.ownBlock ∨ v'.ownBlock = some W.heap.size) : CRow F n₀ W' v' (k + 1) (R ++ [M]) := by
  have hkeep : ∀ b, b < W.heap.size → v.ownBlock ≠ some b → W'.heap[b]? = W.heap[b]? := fun b hb hne => hgr.block b hb (fun e => hne e.symm)
  have hv1 := hv.mono (F' := fun b => G b ∧ b < W.heap.size) (fun b h1 h2 => ⟨h1, h2⟩)
  have hv2 := (hv1.keep hgr.size (fun b hb hlt' => hkeep b hlt' (fun e => hn b e hb.1)))
  have hv3 := hv2.mono (F' := fun b => G b ∧ b < W.heap.size ∨ ∃ o, a = some ⟨b, o, none⟩) (fun b h1 _ => .inl h1)
  have hM2 := hM.keep hgr.size (fun b o e hb => hkeep b hb (ha b o e).2.2)
  refine ⟨vs ++ [.slice a n c], _, ho, hv3.snoc hnM hc hM2 (fun b o e => ⟨Nat.lt_of_lt_of_le (ha b o e).1 hgr.size, .inr ⟨o, e⟩⟩), ?_, ?_⟩
  · rintro b (h1 | ⟨o, e⟩)
    · exact hG b h1.1
    · exact (ha b o e).2.1
  · rintro g hg (h1 | ⟨o, e⟩)
    · rcases hob with h2 | h2
      · exact hn g (h2 ▸ hg) h1.1
      · rw [h2] at hg; cases hg; exact absurd h1.2 (Nat.lt_irrefl _)
    · rcases hob with h2 | h2
      · exact (ha g o e).2.2 (h2 ▸ hg)
      · rw [h2] at hg; cases hg; exact absurd (ha _ o e).1 (Nat.lt_irrefl _)
/-- At the end. -/
theorem CRow.rows {F : Nat → Prop} {n₀ : Nat} {W : World} {a : Option Addr} {k c : Nat} {R : List (List GC)} (h : CRow F n₀ W (.slice a k c) k R) (hR : R.length = k) (hF : ∀ b, n₀ ≤ b → F b) : RowsF F W a k R ∧ k ≤ c ∧ c ≤ maxLen := by
  obtain ⟨vs, G, ho, hv, hG, hn⟩ := h
  obtain ⟨h1, h2, h3⟩ := own_row_at ho
  exact ⟨RowsF.of_vals hR (hv.mono (fun b hb _ => hG b hb)) h1 (fun b o e => by subst e; exact hF b (own_cells ho b rfl).1), h2, h3⟩
/-- The append of one row, as the walk meets it. -/
theorem wpList_append_cells {ops : Array Oper} {rest : List Oper} {o : Oper} {a : Act} {w : World} {Q : Exit → Act → World → Prop} (hgd : o.guard = none) (s x : Operand)
    (ho : o.op = .call { callee := .builtin .append, args := #[s, x], argTypes := #[50, 50] }) (F : Nat → Prop) (n₀ : Nat) (v : Value) (k : Nat) (R : List (List GC)) (hs : a.eval s = v) (hR : CRow F n₀ w v k R)
    (b : Nat) (hx : a.eval x = .slice (some ⟨b, 0, none⟩) 1 1) (a3 : Option Addr) (n c : Nat) (M : List GC) (hcell : ∀ j u, [Value.slice a3 n c][j]? = some u → w.cell? ((⟨b, 0, none⟩ : Addr).add j) = some u) (hM : CellsAt w a3 n M) (hnM : M.length = n) (hc : n ≤ c ∧ c ≤ maxLen)
    (ha : ∀ b o, a3 = some ⟨b, o, none⟩ → b < w.heap.size ∧ F b ∧ v.ownBlock ≠ some b) (hk : k + 1 ≤ 1000000) (hbase : n₀ ≤ w.heap.size)
    (h : ∀ g c' w', CRow F n₀ w' (.slice (some ⟨g, 0, none⟩) (k + 1) c') (k + 1) (R ++ [M]) → w.grownBy w' v.ownBlock → Below n₀ w w' → wpList Tryz.prog ops Q rest (a.put o.dst (.slice (some ⟨g, 0, none⟩) (k + 1) c')) w') :
    wpList Tryz.prog ops Q (o :: rest) a w := by
  obtain ⟨i0, hi, hz0, hz1, hz2⟩ := info_parts infoCells
  obtain ⟨vs, G, hown, hv, hG, hn⟩ := hR
  refine wpList_append_own_at _ hgd s x 50 ho n₀ 60 i0 (.slice none 0 0) 1 24 Tryz.underlying50 hi hz0 hz1 hz2 rfl (by decide) v k vs hs hown ⟨b, 0, none⟩ 1 1 [.slice a3 n c] hx rfl hcell (by intro u hu; rw [List.mem_singleton.1 hu]; rfl) (by unfold maxLen; omega) (by omega) hbase ?_
  intro v' w1 ho' hg' _ hob
  obtain ⟨g, c', rfl⟩ := ownsRow_succ ho'
  exact h _ _ _ (CRow.app hv hG hn (fun g e => by obtain ⟨_, cur, h2⟩ := own_cells hown g e; exact (Array.getElem?_eq_some_iff.1 h2).1) hM hnM hc ha hg' ho' hob) hg' ((Below.refl n₀ w).grown hg' hbase (fun k e => (own_cells hown k e).1))
theorem CRow.own {F : Nat → Prop} {n₀ : Nat} {W : World} {v : Value} {k : Nat} {R : List (List GC)} (h : CRow F n₀ W v k R) : ∀ g, v.ownBlock = some g → n₀ ≤ g ∧ g < W.heap.size := fun g e => by
  obtain ⟨vs, G, hown, _⟩ := h
  obtain ⟨h1, cur, h2⟩ := own_cells hown g e
  exact ⟨h1, (Array.getElem?_eq_some_iff.1 h2).1⟩
theorem CRow.mono {F F' : Nat → Prop} {n₀ : Nat} {W : World} {v : Value} {k : Nat} {R : List (List GC)} (h : CRow F n₀ W v k R) (hF : ∀ b, F b → F' b) : CRow F' n₀ W v k R := by
  obtain ⟨vs, G, ho, hv, hG, hn⟩ := h
  exact ⟨vs, G, ho, hv, fun b hb => hF b (hG b hb), hn⟩
theorem RowsF.at {F : Nat → Prop} {W : World} {a : Option Addr} {n : Nat} {R : List (List GC)} (h : RowsF F W a n R) : RowsAt W a n R :=
  ⟨h.len, fun i M hi => by obtain ⟨b, off, a2, c2, h1, h2, h3, h4, h5, _⟩ := h.at_ i M hi; exact ⟨b, off, a2, c2, h1, h2.1, h3, h4, h5⟩⟩
/-- The boxes with which Frame begins. -/
def FrIn (W : World) (cs : Array Value) (X : World) : Prop := BBx X W.heap.size cs ∧ FBox X (W.heap.size + 1) (.slice none 0 0) 0 0 false ∧ Below W.heap.size W X ∧ X.heap.size = W.heap.size + 1 + 1
theorem frin (W : World) (cs : Array Value) : FrIn W cs ((W.alloc (.cells cs 31)).alloc (.cells #[.slice none 0 0, .int .i64 0, .int .i64 0, .bool false] 52)) := by
  obtain ⟨X1, h1⟩ : ∃ X1, W.alloc (.cells cs 31) = X1 := ⟨_, rfl⟩
  have s1 : X1.heap.size = W.heap.size + 1 := by rw [← h1]; simp
  have t1 : BBx X1 W.heap.size cs := by rw [← h1]; exact BBx.new _ _
  have b1 : Below W.heap.size W X1 := by rw [← h1]; exact (Below.refl _ _).alloc (Nat.le_refl _) _
  rw [h1]
  refine ⟨t1.below ((Below.refl _ _).alloc (Nat.le_refl _) _), ?_, b1.alloc (by omega) _, by simp [s1]⟩
  have h2 := World.alloc_heap_new X1 (.cells #[.slice none 0 0, .int .i64 0, .int .i64 0, .bool false] 52)
  rw [s1] at h2
  exact h2
set_option maxRecDepth 100000 in
set_option maxHeartbeats 8000000 in
theorem rframe_any {F : Nat → Prop} {W : World} {a : Option Addr} {cap : Nat} {t : RBd} (g : RG F W a cap t.W t.H t.R) (hH : t.H ≤ 60) :
    Calls Tryz.prog 27 #[.agg (bCells a cap t)] W (FrPost t.R t.row t.col t.seen W) := by
  obtain ⟨i0, hi, hz0, hz1, hz2⟩ := info_parts infoCells
  have g0 : RG (fun b => b < W.heap.size) W a cap t.W t.H t.R := g.mono (fun b _ h => h)
  have hRn := g.ok.n
  have CC := Lib.hid (fun (X : World) (hX : Below W.heap.size W X) (k : Nat) (hk : k < t.H) => rcells_ok (g0.below hX) (k : Int) (by omega) (by omega))
  have OKG := Lib.hid g.ok
  clear g g0
  go_enter Tryz.func27, Tryz.ntmps27
  go_upto_region 0 with (fail)
  go_cut [1, 2] (fun u v wx => u = .pointer (some ⟨W.heap.size, 0, none⟩) ∧ v = .pointer (some ⟨W.heap.size + 1, 0, none⟩) ∧ FrIn W (bCells a cap t) wx)
  case first =>
    go_wp2
    go_meet
    exact ⟨rfl, rfl, frin W _⟩
  case rest =>
    obtain ⟨rfl, rfl, p1, p2, bX, sX⟩ := hcut
    obtain ⟨c0, c1, c2, c3, c4, c5, fz⟩ := p1.tc
    obtain ⟨X2, hX2⟩ : ∃ X2, wc.alloc (.cells #[.slice none 0 0, .int .i64 t.row, .int .i64 t.col, .bool t.seen] 52) = X2 := ⟨_, rfl⟩
    have f3 : FBox X2 (W.heap.size + 1 + 1) (.slice none 0 0) t.row t.col t.seen := by rw [← hX2, ← sX]; exact World.alloc_heap_new wc _
    have bb : Below wc.heap.size wc X2 := by rw [← hX2]; exact (Below.refl _ _).alloc (Nat.le_refl _) _
    have q1 := p1.below bb
    have q2 := p2.below bb
    have b2 := bto bX bb bX.size
    have HX2 := Lib.hid hX2
    clear hX2 bb
    go_wp2
    try rw [HX2.out]
    try rw [sX]
    clear c0 c1 c2 c3 c4 c5 fz p1 p2 HX2
    go_loopw [4] (fun i wr => ∃ (k : Nat) (av : Option Addr) (cv : Nat), k ≤ t.H ∧ i = .int .i64 k ∧ FBox wr (W.heap.size + 1 + 1) (.slice av k cv) t.row t.col t.seen ∧ FBox wr (W.heap.size + 1) (.slice none 0 0) 0 0 false ∧ BBx wr W.heap.size (bCells a cap t) ∧ CRow (fun b => b < W.heap.size) (W.heap.size + 1 + 1 + 1) wr (.slice av k cv) k (t.R.take k) ∧ Below W.heap.size W wr) (fun i _ => t.H - (intOf i).toNat)
    case atStart => exact ⟨0, none, 0, Nat.zero_le _, rfl, f3, q2, q1, CRow.nil _ _ _, b2⟩
    case round =>
      obtain ⟨k, av, cv, hk, rfl, pf, pr, pb, hR, hb⟩ := hrel
      have hlt2 := pf.lt
      by_cases hlt : k < t.H
      · have HSN : Hid (t.R.take (k + 1) = t.R.take k ++ [nth [] t.R k]) := Lib.hid (by rw [List.take_succ_eq_append_getElem (by omega), nth_eq _ _ _ (by omega)])
        obtain ⟨c0, c1, c2, c3, c4, c5, fz⟩ := pb.tc
        clear c2 c3 c4 c5
        have hML : (nth [] t.R k).length = t.W := OKG.out.at hlt
        have CCk := Lib.hid (CC.out wr.drew (hb.trans (Below.refl _ _).drew) k hlt)
        rw [Int.toNat_natCast] at CCk
        obtain ⟨M, hM⟩ : ∃ M, M = nth [] t.R k := ⟨_, rfl⟩
        rw [← hM] at CCk HSN hML
        obtain ⟨R, hRR⟩ : ∃ R, R = t.R.take k := ⟨_, rfl⟩
        rw [← hRR] at hR HSN
        clear hRR
        have HML := Lib.hid hML
        clear hM hML
        go_wp2
        clear c0 c1 fz
        refine wp_region_mix [(true, 0), (true, 1), (true, 2), (true, 3), (true, 4), (false, 5), (false, 6), (false, 7), (true, 8), (false, 9)] (fun w' => FBox w' (W.heap.size + 1 + 1) (.slice av k cv) t.row t.col t.seen ∧ BBx w' W.heap.size (bCells a cap t)) (by kernel_rfl) (by kernel_rfl) (by rfl) (by kernel_rfl) (by kernel_rfl) (fun _ _ d _ _ h => by cases d <;> exact h) ⟨pf.below (Below.refl _ _).drew, pb.below (Below.refl _ _).drew⟩ ?_
        simp only [mixL, List.getElem?_cons_succ, List.getElem?_cons_zero]
        repeat (refine' wpMix_read (v := _) rfl ?_ ?_; rotate_left 1; (intro w' hw'; obtain ⟨q0, q1, q2, q3, q4⟩ := hw'.1.cells; obtain ⟨c0, c1, c2, c3, c4, c5, fz⟩ := hw'.2.tc; go_simp; try with_reducible rfl); try simp only [Act.put, List.setIfInBounds_toArray, List.set_cons_zero, List.set_cons_succ])
        refine wpMix_act (fun K hK => ?_)
        go_wp2_with fail
        refine CCk.out.mono ?_
        rintro e w3 ⟨a3, c3, rfl, hM3, hc3, hb3⟩
        have hbw3 : Below wr.heap.size wr w3 := (Below.refl _ _).drew.trans hb3
        have pf3 := pf.below hbw3
        have pb3 := pb.below hbw3
        go_wp2
        refine hK _ _ (fun _ => ⟨pf3, pb3⟩) ?_
        clear hK K
        refine wpMix_act (fun K hK => ?_)
        go_wp2
        have bA : Below w3.heap.size w3 (w3.alloc (.cells #[.slice a3 t.W c3] 60)) := (Below.refl _ _).alloc (Nat.le_refl _) _
        refine hK _ _ (fun _ => ⟨pf3.below bA, pb3.below bA⟩) ?_
        clear hK K
        refine wpMix_act (fun K hK => ?_)
        have hs3 := hbw3.size
        have hbs := hb.size
        have ha3 : ∀ b o, a3 = some ⟨b, o, none⟩ → b < w3.heap.size ∧ b < W.heap.size ∧ (Value.slice av k cv).ownBlock ≠ some b := fun b o e => by
          obtain ⟨h1, h2⟩ := hc3.2 b o e
          exact ⟨by omega, h2, fun e2 => by have := (hR.own b e2).1; omega⟩
        refine wpList_append_cells rfl _ _ rfl (fun b => b < W.heap.size) (W.heap.size + 1 + 1 + 1) (.slice av k cv) k R rfl ((hR.below hbw3).below bA) w3.heap.size rfl a3 t.W c3 M (row_one w3 _ _) (hM3.below bA) HML.out hc3.1 (fun b o e => by obtain ⟨h1, h2⟩ := ha3 b o e; exact ⟨by simp; omega, h2⟩) (by omega) (by simp; omega) ?_
        intro gq c' w5 hR5 hg5 hb5
        have hb35 : Below (W.heap.size + 1 + 1 + 1) w3 w5 := ((Below.refl _ _).alloc (by omega) _).trans hb5
        have pf5 : FBox w5 (W.heap.size + 1 + 1) (.slice av k cv) t.row t.col t.seen := (hb35.block _ (by omega)).trans pf3
        have pr5 : FBox w5 (W.heap.size + 1) (.slice none 0 0) 0 0 false := (hb35.block _ (by omega)).trans (pr.below hbw3)
        have pb5 : BBx w5 W.heap.size (bCells a cap t) := (hb35.block _ (by omega)).trans pb3
        refine hK _ _ (fun _ => ⟨pf5, pb5⟩) ?_
        clear hK K hg5
        repeat (refine' wpMix_read (v := _) rfl ?_ ?_; rotate_left 1; (intro w' hw'; obtain ⟨q0, q1, q2, q3, q4⟩ := hw'.1.cells; go_simp; try with_reducible rfl); try simp only [Act.put, List.setIfInBounds_toArray, List.set_cons_zero, List.set_cons_succ])
        refine wpMix_act (fun K hK => ?_)
        obtain ⟨t0, t1, t2, t3, t4⟩ := pf5.cells
        go_wp2
        refine hK _ _ (fun h => absurd rfl h) ?_
        clear hK K
        refine wpMix_nil ?_
        have pY := pf5.set (.slice (some ⟨gq, 0, none⟩) (k + 1) c')
        have oY : Only [W.heap.size + 1 + 1] w5 (w5.setCell ⟨W.heap.size + 1 + 1, 0, none⟩ (.slice (some ⟨gq, 0, none⟩) (k + 1) c')) := (Only.refl _ w5).setCell (.inl (by simp)) _
        have hRY := hR5.setCell (b := W.heap.size + 1 + 1) (by omega) (by omega) 0 (.slice (some ⟨gq, 0, none⟩) (k + 1) c')
        have prY : FBox (w5.setCell ⟨W.heap.size + 1 + 1, 0, none⟩ (.slice (some ⟨gq, 0, none⟩) (k + 1) c')) (W.heap.size + 1) (.slice none 0 0) 0 0 false := oY.heap pr5 (by simp)
        have pbY := pb5.only oY (by simp; omega)
        have hbw5 : Below W.heap.size W w5 := (bto hb hbw3 hb.size).trans (hb35.mono (by omega))
        have bY := hbw5.trans (oY.below (by simp; omega) hbw5.size)
        go_wp2
        go_roundw
        case rel => exact ⟨k + 1, some ⟨gq, 0, none⟩, c', hlt, by go_num, pY, prY, pbY, by rw [HSN.out]; exact hRY, bY⟩
        case measure => simp [intOf]; omega
      · obtain rfl : k = t.H := by omega
        have hRt : t.R.take t.H = t.R := List.take_of_length_le (by omega)
        rw [hRt] at hR
        obtain ⟨h1, h2, h3⟩ := (hR.mono (F' := fun _ => True) (fun _ _ => trivial)).rows hRn (fun _ _ => trivial)
        have hA := h1.at
        obtain ⟨Y, hY⟩ : ∃ Y, ((((wr.setCell ⟨W.heap.size + 1, 0, none⟩ (.slice av t.H cv)).setCell ⟨W.heap.size + 1, 1, none⟩ (.int .i64 t.row)).setCell ⟨W.heap.size + 1, 2, none⟩ (.int .i64 t.col)).setCell ⟨W.heap.size + 1, 3, none⟩ (.bool t.seen)) = Y := ⟨_, rfl⟩
        obtain ⟨pY, oY⟩ := pr.fill _ _ _ _ Y hY
        have hRY : CRow (fun b => b < W.heap.size) (W.heap.size + 1 + 1 + 1) Y (.slice av t.H cv) t.H t.R := by
          rw [← hY]
          exact (((hR.setCell (b := W.heap.size + 1) (by omega) (by omega) 0 _).setCell (b := W.heap.size + 1) (by omega) (by omega) 1 _).setCell (b := W.heap.size + 1) (by omega) (by omega) 2 _).setCell (b := W.heap.size + 1) (by omega) (by omega) 3 _
        obtain ⟨h1, h2, h3⟩ := (hRY.mono (F' := fun _ => True) (fun _ _ => trivial)).rows hRn (fun _ _ => trivial)
        have hA := h1.at
        have HY := Lib.hid hY
        have bY := hb.trans (oY.below (by simp) hb.size)
        obtain ⟨q0, q1, q2, q3, q4⟩ := pf.cells
        obtain ⟨t0, t1, t2, t3, t4⟩ := pr.cells
        obtain ⟨c0, c1, c2, c3, c4, c5, fz⟩ := pb.tc
        clear hY hR hRY h1 c0 c2 c3 c4 c5
        go_wp2
        rw [HY.out]
        refine bodyPost_ret (results_cell_row rfl _ _ (W.heap.size + 1) 52 _ (0, 0) _ rfl pY Tryz.underlying52 rfl (by kernel_rfl)) rfl ?_
        exact ⟨av, cv, by rw [hRn], by rw [hRn]; exact hA, by rw [hRn]; exact ⟨h2, h3⟩, bY⟩
end Go.Proofs.YtekodpcedjpnjaaGreat
namespace Go.Proofs.YtekodpcedjpnjaaGreat
set_option linter.unusedVariables false
set_option linter.unusedSimpArgs false
open Go.RowKit Go.Shelf Go.Maps
/-- What the reads of a round need. -/
def SaS (W : World) (a1 a2 : Option Addr) (n c1 c2 r c : Nat) (s : Bool) (b3 o3 : Nat) (u3 : Option Addr) (d3 b4 o4 : Nat) (u4 : Option Addr) (d4 m k : Nat) (X : World) : Prop :=
  FBox X W.heap.size (.slice a1 n c1) r c s ∧ FBox X (W.heap.size + 1) (.slice a2 n c2) r c s ∧ X.cell? ⟨b3, o3 + k, none⟩ = some (.slice u3 m d3) ∧ X.cell? ⟨b4, o4 + k, none⟩ = some (.slice u4 m d4)
set_option maxRecDepth 100000 in
set_option maxHeartbeats 8000000 in
theorem rsame_true {W : World} {a1 a2 : Option Addr} {n c1 c2 : Nat} {R : List (List GC)} (h1 : RowsAt W a1 n R) (h2 : RowsAt W a2 n R) (hn : n ≤ 1000) (hw : ∀ M ∈ R, M.length ≤ 1000) (r c : Nat) (s : Bool) :
    Calls Tryz.prog 25 #[.agg #[.slice a1 n c1, .int .i64 r, .int .i64 c, .bool s], .agg #[.slice a2 n c2, .int .i64 r, .int .i64 c, .bool s]] W fun e w' => e = .returned (.bool true) ∧ Below W.heap.size W w' := by
  have hl := h1.len
  have CS := Lib.hid (fun (X : World) (hX : Below W.heap.size W X) (k : Nat) (hk : k < n) => (by
    obtain ⟨b1, o1, u1, d1, e1, f1, g1, _, k1⟩ := (h1.below hX).at_ k (nth [] R k) (by rw [nth_eq _ _ _ (by omega)]; exact List.getElem?_eq_getElem (by omega))
    obtain ⟨b2, o2, u2, d2, e2, f2, g2, _, k2⟩ := (h2.below hX).at_ k (nth [] R k) (by rw [nth_eq _ _ _ (by omega)]; exact List.getElem?_eq_getElem (by omega))
    have hm : (nth [] R k).length ≤ 1000 := hw _ (by rw [nth_eq _ _ _ (by omega)]; exact List.getElem_mem _)
    have hc := sameCells_any (c1 := d1) (c2 := d2) k1 k2 (by omega) (by omega)
    rw [eqL_self] at hc
    exact ⟨b1, o1, u1, d1, b2, o2, u2, d2, (nth [] R k).length, e1, f1, g1, e2, f2, g2, hc⟩ :
    ∃ b1 o1 u1 d1 b2 o2 u2 d2 m, a1 = some ⟨b1, o1, none⟩ ∧ b1 < X.heap.size ∧ X.cell? ⟨b1, o1 + k, none⟩ = some (.slice u1 m d1) ∧ a2 = some ⟨b2, o2, none⟩ ∧ b2 < X.heap.size ∧ X.cell? ⟨b2, o2 + k, none⟩ = some (.slice u2 m d2) ∧
      Calls Tryz.prog 65 #[.slice u1 m d1, .slice u2 m d2] X fun e w' => e = .returned (.bool true) ∧ Below X.heap.size X w'))
  clear h1 h2 hw hl
  have z1 : FBox (W.alloc (.cells #[.slice a1 n c1, .int .i64 r, .int .i64 c, .bool s] 52)) W.heap.size (.slice a1 n c1) r c s := World.alloc_heap_new W _
  have b1 : Below W.heap.size W (W.alloc (.cells #[.slice a1 n c1, .int .i64 r, .int .i64 c, .bool s] 52)) := (Below.refl _ _).alloc (Nat.le_refl _) _
  obtain ⟨X1, hX1⟩ : ∃ X1, W.alloc (.cells #[.slice a1 n c1, .int .i64 r, .int .i64 c, .bool s] 52) = X1 := ⟨_, rfl⟩
  have s1 : X1.heap.size = W.heap.size + 1 := by rw [← hX1]; simp
  rw [hX1] at z1 b1
  obtain ⟨X2, hX2⟩ : ∃ X2, X1.alloc (.cells #[.slice a2 n c2, .int .i64 r, .int .i64 c, .bool s] 52) = X2 := ⟨_, rfl⟩
  have z2 : FBox X2 (W.heap.size + 1) (.slice a2 n c2) r c s := by rw [← hX2, ← s1]; exact World.alloc_heap_new X1 _
  have b12 : Below X1.heap.size X1 X2 := by rw [← hX2]; exact (Below.refl _ _).alloc (Nat.le_refl _) _
  have q1 := z1.below b12
  have b2 := bto b1 b12 b1.size
  have HX1 := Lib.hid hX1
  have HX2 := Lib.hid hX2
  have S1 := Lib.hid s1
  clear hX1 hX2 s1 z1 b1 b12
  obtain ⟨x0, x1, x2, x3, x4⟩ := q1.cells
  obtain ⟨y0, y1, y2, y3, y4⟩ := z2.cells
  go_enter Tryz.func25, Tryz.ntmps25
  go_upto_region 1 with (fail)
  try rw [HX1.out]
  try rw [HX2.out]
  try rw [S1.out]
  go_wp2
  go_loopw [5] (fun i wr => ∃ k : Nat, k ≤ n ∧ i = .int .i64 k ∧ FBox wr W.heap.size (.slice a1 n c1) r c s ∧ FBox wr (W.heap.size + 1) (.slice a2 n c2) r c s ∧ Below W.heap.size W wr) (fun i _ => n - (intOf i).toNat)
  case atStart => exact ⟨0, Nat.zero_le _, rfl, q1, z2, b2⟩
  case round =>
    obtain ⟨k, hk, rfl, p1, p2, hb⟩ := hrel
    obtain ⟨x0, x1, x2, x3, x4⟩ := p1.cells
    have hlt := p2.lt
    by_cases hkn : k < n
    · obtain ⟨b3, o3, u3, d3, b4, o4, u4, d4, m, rfl, hb3, hc3, rfl, hb4, hc4, hcall⟩ := CS.out wr.drew (hb.trans (Below.refl _ _).drew) k hkn
      have HC := Lib.hid hcall
      clear hcall
      go_wp2
      have dB : Below wr.heap.size wr wr.drew := (Below.refl _ _).drew
      have hSd : SaS W (some ⟨b3, o3, none⟩) (some ⟨b4, o4, none⟩) n c1 c2 r c s b3 o3 u3 d3 b4 o4 u4 d4 m k wr.drew := ⟨p1.below dB, p2.below dB, hc3, hc4⟩
      obtain ⟨SS, hSS⟩ : ∃ SS, SS = SaS W (some ⟨b3, o3, none⟩) (some ⟨b4, o4, none⟩) n c1 c2 r c s b3 o3 u3 d3 b4 o4 u4 d4 m k := ⟨_, rfl⟩
      rw [← hSS] at hSd
      refine wp_region_tree (fun _ y1 y2 => SS y1 → SS y2) (by kernel_rfl) ?_
      simp only [List.size_toArray, List.length_cons, List.length_nil, Nat.reduceAdd]
      refine' wpAnyY_read 0 SS [] (v := _) (by kernel_rfl) (fun _ _ d _ _ h => by cases d <;> exact h) (by kernel_rfl) rfl (fun _ _ _ _ h hs => h hs) (fun _ h => h) hSd rfl ?_ ?_
      rotate_left 1
      · intro w' hw'; rw [hSS] at hw'; obtain ⟨k1, k2, k3, k4⟩ := hw'; obtain ⟨x0, x1, x2, x3, x4⟩ := k1.cells; obtain ⟨y0, y1, y2, y3, y4⟩ := k2.cells; go_simp; try with_reducible rfl
      try simp only [Act.put, List.setIfInBounds_toArray, List.set_cons_zero, List.set_cons_succ]
      refine' wpAnyY_read 1 SS [] (v := _) (by kernel_rfl) (fun _ _ d _ _ h => by cases d <;> exact h) (by kernel_rfl) rfl (fun _ _ _ _ h hs => h hs) (fun _ h => h) hSd rfl ?_ ?_
      rotate_left 1
      · intro w' hw'; rw [hSS] at hw'; obtain ⟨k1, k2, k3, k4⟩ := hw'; obtain ⟨x0, x1, x2, x3, x4⟩ := k1.cells; obtain ⟨y0, y1, y2, y3, y4⟩ := k2.cells; go_simp; try with_reducible rfl
      try simp only [Act.put, List.setIfInBounds_toArray, List.set_cons_zero, List.set_cons_succ]
      refine' wpAnyY_read 2 SS [] (v := _) (by kernel_rfl) (fun _ _ d _ _ h => by cases d <;> exact h) (by kernel_rfl) rfl (fun _ _ _ _ h hs => h hs) (fun _ h => h) hSd rfl ?_ ?_
      rotate_left 1
      · intro w' hw'; rw [hSS] at hw'; obtain ⟨k1, k2, k3, k4⟩ := hw'; obtain ⟨x0, x1, x2, x3, x4⟩ := k1.cells; obtain ⟨y0, y1, y2, y3, y4⟩ := k2.cells; go_simp; try with_reducible rfl
      try simp only [Act.put, List.setIfInBounds_toArray, List.set_cons_zero, List.set_cons_succ]
      refine' wpAnyY_read 3 SS [] (v := _) (by kernel_rfl) (fun _ _ d _ _ h => by cases d <;> exact h) (by kernel_rfl) rfl (fun _ _ _ _ h hs => h hs) (fun _ h => h) hSd rfl ?_ ?_
      rotate_left 1
      · intro w' hw'; rw [hSS] at hw'; obtain ⟨k1, k2, k3, k4⟩ := hw'; obtain ⟨x0, x1, x2, x3, x4⟩ := k1.cells; obtain ⟨y0, y1, y2, y3, y4⟩ := k2.cells; go_simp; try with_reducible rfl
      try simp only [Act.put, List.setIfInBounds_toArray, List.set_cons_zero, List.set_cons_succ]
      refine' wpAnyY_read 4 SS [] (v := _) (by kernel_rfl) (fun _ _ d _ _ h => by cases d <;> exact h) (by kernel_rfl) rfl (fun _ _ _ _ h hs => h hs) (fun _ h => h) hSd rfl ?_ ?_
      rotate_left 1
      · intro w' hw'; rw [hSS] at hw'; obtain ⟨k1, k2, k3, k4⟩ := hw'; obtain ⟨x0, x1, x2, x3, x4⟩ := k1.cells; obtain ⟨y0, y1, y2, y3, y4⟩ := k2.cells; go_simp; try with_reducible rfl
      try simp only [Act.put, List.setIfInBounds_toArray, List.set_cons_zero, List.set_cons_succ]
      refine' wpAnyY_read 5 SS [] (v := _) (by kernel_rfl) (fun _ _ d _ _ h => by cases d <;> exact h) (by kernel_rfl) rfl (fun _ _ _ _ h hs => h hs) (fun _ h => h) hSd rfl ?_ ?_
      rotate_left 1
      · intro w' hw'; rw [hSS] at hw'; obtain ⟨k1, k2, k3, k4⟩ := hw'; obtain ⟨x0, x1, x2, x3, x4⟩ := k1.cells; obtain ⟨y0, y1, y2, y3, y4⟩ := k2.cells; go_simp; try with_reducible rfl
      try simp only [Act.put, List.setIfInBounds_toArray, List.set_cons_zero, List.set_cons_succ]
      refine' wpAnyY_read 6 SS [] (v := _) (by kernel_rfl) (fun _ _ d _ _ h => by cases d <;> exact h) (by kernel_rfl) rfl (fun _ _ _ _ h hs => h hs) (fun _ h => h) hSd rfl ?_ ?_
      rotate_left 1
      · intro w' hw'; rw [hSS] at hw'; obtain ⟨k1, k2, k3, k4⟩ := hw'; obtain ⟨x0, x1, x2, x3, x4⟩ := k1.cells; obtain ⟨y0, y1, y2, y3, y4⟩ := k2.cells; go_simp; try with_reducible rfl
      try simp only [Act.put, List.setIfInBounds_toArray, List.set_cons_zero, List.set_cons_succ]
      refine' wpAnyY_read 7 SS [] (v := _) (by kernel_rfl) (fun _ _ d _ _ h => by cases d <;> exact h) (by kernel_rfl) rfl (fun _ _ _ _ h hs => h hs) (fun _ h => h) hSd rfl ?_ ?_
      rotate_left 1
      · intro w' hw'; rw [hSS] at hw'; obtain ⟨k1, k2, k3, k4⟩ := hw'; obtain ⟨x0, x1, x2, x3, x4⟩ := k1.cells; obtain ⟨y0, y1, y2, y3, y4⟩ := k2.cells; go_simp; try with_reducible rfl
      try simp only [Act.put, List.setIfInBounds_toArray, List.set_cons_zero, List.set_cons_succ]
      refine' wpAnyY_read 8 SS [] (v := _) (by kernel_rfl) (fun _ _ d _ _ h => by cases d <;> exact h) (by kernel_rfl) rfl (fun _ _ _ _ h hs => h hs) (fun _ h => h) hSd rfl ?_ ?_
      rotate_left 1
      · intro w' hw'; rw [hSS] at hw'; obtain ⟨k1, k2, k3, k4⟩ := hw'; obtain ⟨x0, x1, x2, x3, x4⟩ := k1.cells; obtain ⟨y0, y1, y2, y3, y4⟩ := k2.cells; go_simp; try with_reducible rfl
      try simp only [Act.put, List.setIfInBounds_toArray, List.set_cons_zero, List.set_cons_succ]
      refine' wpAnyY_read 9 SS [] (v := _) (by kernel_rfl) (fun _ _ d _ _ h => by cases d <;> exact h) (by kernel_rfl) rfl (fun _ _ _ _ h hs => h hs) (fun _ h => h) hSd rfl ?_ ?_
      rotate_left 1
      · intro w' hw'; rw [hSS] at hw'; obtain ⟨k1, k2, k3, k4⟩ := hw'; obtain ⟨x0, x1, x2, x3, x4⟩ := k1.cells; obtain ⟨y0, y1, y2, y3, y4⟩ := k2.cells; go_simp; try with_reducible rfl
      try simp only [Act.put, List.setIfInBounds_toArray, List.set_cons_zero, List.set_cons_succ]
      refine wpAnyY_one (i := 10) (by kernel_rfl) rfl (fun K hK => ?_)
      simp only [List.getElem_toArray, List.getElem_cons_succ, List.getElem_cons_zero]
      go_wp2_with fail
      refine HC.out.mono ?_
      rintro e w3 ⟨rfl, hb5⟩
      have hbw : Below wr.heap.size wr w3 := dB.trans hb5
      go_wp2
      refine hK _ _ (fun _ => by rw [hSS]; exact ⟨p1.below hbw, p2.below hbw, by rw [← hc3]; simp only [World.cell?, hb5.block b3 hb3], by rw [← hc4]; simp only [World.cell?, hb5.block b4 hb4]⟩) ?_
      clear hK K
      refine' wpAnyY_read 11 (fun _ => True) [] (v := _) (by kernel_rfl) (fun _ _ d _ _ h => by cases d <;> exact h) (by kernel_rfl) rfl (fun _ _ _ _ _ _ => trivial) (fun _ h => h) trivial rfl ?_ ?_
      rotate_left 1
      · intro w' hw'; go_simp; try with_reducible rfl
      try simp only [Act.put, List.setIfInBounds_toArray, List.set_cons_zero, List.set_cons_succ]
      refine wpAnyY_end (by kernel_rfl) ?_
      have q1 := p1.below hbw
      have q2 := p2.below hbw
      have b5 := bto hb hbw hb.size
      clear p1 p2 x0 x1 x2 x3 x4 hc3 hc4 hSd
      go_wp2
      go_roundw
      case rel => exact ⟨k + 1, hkn, by go_num, q1, q2, b5⟩
      case measure => simp [intOf]; omega
    · obtain rfl : k = n := by omega
      go_wp2
      go_ret
      exact ⟨rfl, hb⟩
end Go.Proofs.YtekodpcedjpnjaaGreat
