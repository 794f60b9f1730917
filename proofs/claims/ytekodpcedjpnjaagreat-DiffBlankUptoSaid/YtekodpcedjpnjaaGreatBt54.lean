/- Rows that stand in an array that the call owns; the append of one row. No condition. placardref10.Blank: a frame of blanks. No condition. -/
import Derived.Test.YtekodpcedjpnjaaGreatBt11
import Derived.Test.YtekodpcedjpnjaaGreatBt18
import Derived.Test.YtekodpcedjpnjaaGreatBt44
set_option linter.unusedVariables false
set_option linter.unusedSimpArgs false
namespace Go.Proofs.YtekodpcedjpnjaaGreat
open Go.RowKit Go.Shelf Go.Maps
def CRow (F : Nat → Prop) (n₀ : Nat) (W : World) (v : Value) (k : Nat) (R : List (List GC)) : Prop :=
  ∃ vs G, W.ownsRow n₀ 60 1 v k vs ∧ VRows G W vs R ∧ (∀ b, G b → F b) ∧ ∀ g, v.ownBlock = some g → ¬ G g
theorem CRow.nil (F : Nat → Prop) (n₀ : Nat) (W : World) : CRow F n₀ W (.slice none 0 0) 0 [] :=
  ⟨[], fun _ => False, World.ownsRow_nil _ _ _ _, VRows.nil _ _, fun _ h => h.elim, fun _ _ h => h⟩
theorem CRow.slice {F : Nat → Prop} {n₀ : Nat} {W : World} {v : Value} {k : Nat} {R : List (List GC)} (h : CRow F n₀ W v k R) : ∃ a c, v = .slice a k c := by
  obtain ⟨vs, _, ho, _⟩ := h
  exact own_sliceF ho
theorem CRow.below {F : Nat → Prop} {n₀ : Nat} {W Y : World} {v : Value} {k : Nat} {R : List (List GC)} (h : CRow F n₀ W v k R) (hb : Below W.heap.size W Y) : CRow F n₀ Y v k R := by
  obtain ⟨vs, G, ho, hv, hG, hn⟩ := h
  exact ⟨vs, G, own_belowF ho hb, hv.below hb, hG, hn⟩
theorem CRow.setCell {F : Nat → Prop} {n₀ : Nat} {W : World} {v : Value} {k : Nat} {R : List (List GC)} (h : CRow F n₀ W v k R) {b : Nat} (hb : b < n₀) (hF : ¬ F b) (o : Nat) (u : Value) : CRow F n₀ (W.setCell ⟨b, o, none⟩ u) v k R := by
  obtain ⟨vs, G, ho, hv, hG, hn⟩ := h
  exact ⟨vs, G, ownsRow_setCell_below ho hb u, hv.keep (by simp [World.setCell]) (fun b' hb' _ => Below.heap_setCell _ _ _ _ (fun e => hF (by subst e; exact hG _ hb'))), hG, hn⟩
theorem CRow.app {F : Nat → Prop} {n₀ : Nat} {W W' : World} {v v' : Value} {k : Nat} {R : List (List GC)} {vs : List Value} {G : Nat → Prop} {a : Option Addr} {n c : Nat} {M : List GC}
    (hv : VRows G W vs R) (hG : ∀ b, G b → F b) (hn : ∀ g, v.ownBlock = some g → ¬ G g) (hlt : ∀ g, v.ownBlock = some g → g < W.heap.size)
    (hM : CellsAt W a n M) (hnM : M.length = n) (hc : n ≤ c ∧ c ≤ maxLen) (ha : ∀ b o, a = some ⟨b, o, none⟩ → b < W.heap.size ∧ F b ∧ v.ownBlock ≠ some b)
    (hgr : W.grownBy W' v.ownBlock) (ho : W'.ownsRow n₀ 60 1 v' (k + 1) (vs ++ [.slice a n c])) (hob : v'.ownBlock = v.ownBlock ∨ v'.ownBlock = some W.heap.size) : CRow F n₀ W' v' (k + 1) (R ++ [M]) := by
  have hkeep : ∀ b, b < W.heap.size → v.ownBlock ≠ some b → W'.heap[b]? = W.heap[b]? := fun b hb hne => hgr.block b hb (fun e => hne e.symm)
  have hv1 := hv.mono (F' := fun b => G b ∧ b < W.heap.size) (fun b h1 h2 => ⟨h1, h2⟩)
  have hv2 := (hv1.keep hgr.size (fun b hb hlt' => hkeep b hlt' (fun e => hn b e hb.1)))
  have hv3 := hv2.mono (F' := fun b => G b ∧ b < W.heap.size ∨ ∃ o, a = some ⟨b, o, none⟩) (fun b h1 _ => .inl h1)
  have hM2 := hM.keep hgr.size (fun b o e hb => hkeep b hb (ha b o e).2.2)
  refine ⟨vs ++ [.slice a n c], _, ho, hv3.snoc hnM hc hM2 (fun b o e => ⟨Nat.lt_of_lt_of_le (ha b o e).1 hgr.size, .inr ⟨o, e⟩⟩), ?_, ?_⟩
  · rintro b (h1 | ⟨o, e⟩)
    · exact hG b h1.1
    · exact (ha b o e).2.1
  · rintro g hg (h1 | ⟨o, e⟩)
    · rcases hob with h2 | h2
      · exact hn g (h2 ▸ hg) h1.1
      · rw [h2] at hg; cases hg; exact absurd h1.2 (Nat.lt_irrefl _)
    · rcases hob with h2 | h2
      · exact (ha g o e).2.2 (h2 ▸ hg)
      · rw [h2] at hg; cases hg; exact absurd (ha _ o e).1 (Nat.lt_irrefl _)
theorem CRow.rows {F : Nat → Prop} {n₀ : Nat} {W : World} {a : Option Addr} {k c : Nat} {R : List (List GC)} (h : CRow F n₀ W (.slice a k c) k R) (hR : R.length = k) (hF : ∀ b, n₀ ≤ b → F b) : RowsF F W a k R ∧ k ≤ c ∧ c ≤ maxLen := by
  obtain ⟨vs, G, ho, hv, hG, hn⟩ := h
  obtain ⟨h1, h2, h3⟩ := own_row_at ho
  exact ⟨RowsF.of_vals hR (hv.mono (fun b hb _ => hG b hb)) h1 (fun b o e => by subst e; exact hF b (own_cells ho b rfl).1), h2, h3⟩
theorem wpList_append_cells {ops : Array Oper} {rest : List Oper} {o : Oper} {a : Act} {w : World} {Q : Exit → Act → World → Prop} (hgd : o.guard = none) (s x : Operand)
    (ho : o.op = .call { callee := .builtin .append, args := #[s, x], argTypes := #[50, 50] }) (F : Nat → Prop) (n₀ : Nat) (v : Value) (k : Nat) (R : List (List GC)) (hs : a.eval s = v) (hR : CRow F n₀ w v k R)
    (b : Nat) (hx : a.eval x = .slice (some ⟨b, 0, none⟩) 1 1) (a3 : Option Addr) (n c : Nat) (M : List GC) (hcell : ∀ j u, [Value.slice a3 n c][j]? = some u → w.cell? ((⟨b, 0, none⟩ : Addr).add j) = some u) (hM : CellsAt w a3 n M) (hnM : M.length = n) (hc : n ≤ c ∧ c ≤ maxLen)
    (ha : ∀ b o, a3 = some ⟨b, o, none⟩ → b < w.heap.size ∧ F b ∧ v.ownBlock ≠ some b) (hk : k + 1 ≤ 1000000) (hbase : n₀ ≤ w.heap.size)
    (h : ∀ g c' w', CRow F n₀ w' (.slice (some ⟨g, 0, none⟩) (k + 1) c') (k + 1) (R ++ [M]) → w.grownBy w' v.ownBlock → Below n₀ w w' → wpList Tryz.prog ops Q rest (a.put o.dst (.slice (some ⟨g, 0, none⟩) (k + 1) c')) w') :
    wpList Tryz.prog ops Q (o :: rest) a w := by
  obtain ⟨i0, hi, hz0, hz1, hz2⟩ := info_parts infoCells
  obtain ⟨vs, G, hown, hv, hG, hn⟩ := hR
  refine wpList_append_own_at _ hgd s x 50 ho n₀ 60 i0 (.slice none 0 0) 1 24 Tryz.underlying50 hi hz0 hz1 hz2 rfl (by decide) v k vs hs hown ⟨b, 0, none⟩ 1 1 [.slice a3 n c] hx rfl hcell (by intro u hu; rw [List.mem_singleton.1 hu]; rfl) (by unfold maxLen; omega) (by omega) hbase ?_
  intro v' w1 ho' hg' _ hob
  obtain ⟨g, c', rfl⟩ := ownsRow_succ ho'
  exact h _ _ _ (CRow.app hv hG hn (fun g e => by obtain ⟨_, cur, h2⟩ := own_cells hown g e; exact (Array.getElem?_eq_some_iff.1 h2).1) hM hnM hc ha hg' ho' hob) hg' ((Below.refl n₀ w).grown hg' hbase (fun k e => (own_cells hown k e).1))
theorem CRow.own {F : Nat → Prop} {n₀ : Nat} {W : World} {v : Value} {k : Nat} {R : List (List GC)} (h : CRow F n₀ W v k R) : ∀ g, v.ownBlock = some g → n₀ ≤ g ∧ g < W.heap.size := fun g e => by
  obtain ⟨vs, G, hown, _⟩ := h
  obtain ⟨h1, cur, h2⟩ := own_cells hown g e
  exact ⟨h1, (Array.getElem?_eq_some_iff.1 h2).1⟩
theorem CRow.mono {F F' : Nat → Prop} {n₀ : Nat} {W : World} {v : Value} {k : Nat} {R : List (List GC)} (h : CRow F n₀ W v k R) (hF : ∀ b, F b → F' b) : CRow F' n₀ W v k R := by
  obtain ⟨vs, G, ho, hv, hG, hn⟩ := h
  exact ⟨vs, G, ho, hv, fun b hb => hF b (hG b hb), hn⟩
theorem RowsF.at {F : Nat → Prop} {W : World} {a : Option Addr} {n : Nat} {R : List (List GC)} (h : RowsF F W a n R) : RowsAt W a n R :=
  ⟨h.len, fun i M hi => by obtain ⟨b, off, a2, c2, h1, h2, h3, h4, h5, _⟩ := h.at_ i M hi; exact ⟨b, off, a2, c2, h1, h2.1, h3, h4, h5⟩⟩
end Go.Proofs.YtekodpcedjpnjaaGreat
namespace Go.Proofs.YtekodpcedjpnjaaGreat
open Go.RowKit Go.Shelf Go.Maps
set_option maxRecDepth 100000 in
theorem rblank10_bad (a b : Int) (h : ¬ (1 ≤ a ∧ a ≤ 500 ∧ 1 ≤ b ∧ b ≤ 60)) (W : World) :
    Calls Tryz.prog 39 #[.int .i64 a, .int .i64 b] W fun e w' => e = .returned (.tuple #[.agg #[.slice none 0 0, .int .i64 0, .int .i64 0, .bool false], .int .i64 100]) ∧ Below W.heap.size W w' := by
  have z0 : FBI (W.alloc (.cells #[.slice none 0 0, .int .i64 0, .int .i64 0, .bool false] 52)) W.heap.size (.slice none 0 0) 0 0 false := World.alloc_heap_new W _
  have b0 : Below W.heap.size W (W.alloc (.cells #[.slice none 0 0, .int .i64 0, .int .i64 0, .bool false] 52)) := (Below.refl _ _).alloc (Nat.le_refl _) _
  go_enter Tryz.func39, Tryz.ntmps39
  go_upto_region 1 with (fail)
  obtain ⟨X, hX⟩ : ∃ X, W.alloc (.cells #[.slice none 0 0, .int .i64 0, .int .i64 0, .bool false] 52) = X := ⟨_, rfl⟩
  rw [hX] at z0 b0 ⊢
  clear hX
  go_cut [23] (fun v wx => v = .bool true ∧ wx = X)
  case first =>
    by_cases h1 : a < 1
    · go_wp2
      go_meet
      exact ⟨rfl, rfl⟩
    · by_cases h2 : 500 < a
      · go_wp2
        go_meet
        exact ⟨rfl, rfl⟩
      · by_cases h3 : b < 1
        · go_wp2
          go_meet
          exact ⟨rfl, rfl⟩
        · have h4 : 60 < b := by omega
          go_wp2
          go_meet
          exact ⟨rfl, rfl⟩
  case rest =>
    obtain ⟨rfl, rfl⟩ := hcut
    obtain ⟨Y, hY⟩ : ∃ Y, (((wc.setCell ⟨W.heap.size, 0, none⟩ (.slice none 0 0)).setCell ⟨W.heap.size, 1, none⟩ (.int .i64 0)).setCell ⟨W.heap.size, 2, none⟩ (.int .i64 0)).setCell ⟨W.heap.size, 3, none⟩ (.bool false) = Y := ⟨_, rfl⟩
    obtain ⟨zY, oY⟩ := z0.fill (.slice none 0 0) 0 0 false Y hY
    have HY := Lib.hid hY
    obtain ⟨u0, u1, u2, u3⟩ := z0.cells
    have f0 := z0.froz 0
    have f1 := z0.froz 1
    have f2 := z0.froz 2
    have f3 := z0.froz 3
    have bY := b0.trans (oY.below (by simp) b0.size)
    clear hY oY
    go_wp2
    rw [HY.out]
    refine bodyPost_ret (results_row2 rfl _ _ W.heap.size _ rfl zY.load) rfl ?_
    exact ⟨rfl, bY⟩
def cellBL (k : Nat) : List GC := List.replicate k GC.blank
set_option maxRecDepth 100000 in
set_option maxHeartbeats 8000000 in
theorem rblank10_ok (a n : Nat) (h : 1 ≤ a ∧ a ≤ 500 ∧ 1 ≤ n ∧ n ≤ 60) (W : World) :
    Calls Tryz.prog 39 #[.int .i64 a, .int .i64 n] W (FrPost2 (blankM a n) 0 0 true W) := by
  obtain ⟨i0, hi0, hz0, hz1, hz2⟩ := info_parts infoCell
  obtain ⟨h1, h2, h3, h4⟩ := h
  have z0 : FBox (W.alloc (.cells #[.slice none 0 0, .int .i64 0, .int .i64 0, .bool false] 52)) W.heap.size (.slice none 0 0) 0 0 false := World.alloc_heap_new W _
  have b0 : Below W.heap.size W (W.alloc (.cells #[.slice none 0 0, .int .i64 0, .int .i64 0, .bool false] 52)) := (Below.refl _ _).alloc (Nat.le_refl _) _
  go_enter Tryz.func39, Tryz.ntmps39
  go_upto_region 1 with (fail)
  obtain ⟨X, hX⟩ : ∃ X, W.alloc (.cells #[.slice none 0 0, .int .i64 0, .int .i64 0, .bool false] 52) = X := ⟨_, rfl⟩
  have hsX : X.heap.size = W.heap.size + 1 := by rw [← hX]; simp
  rw [hX] at z0 b0 ⊢
  clear hX
  obtain ⟨X2, hX2⟩ : ∃ X2, X.alloc (.cells #[.slice none 0 0, .int .i64 0, .int .i64 0, .bool true] 52) = X2 := ⟨_, rfl⟩
  have p0 : FBox X2 (W.heap.size + 1) (.slice none 0 0) 0 0 true := by rw [← hX2, ← hsX]; exact World.alloc_heap_new X _
  have bb : Below X.heap.size X X2 := by rw [← hX2]; exact (Below.refl _ _).alloc (Nat.le_refl _) _
  have hs2 : X2.heap.size = W.heap.size + 1 + 1 := by rw [← hX2]; simp [hsX]
  have q0 := z0.below bb
  have b2 := bto b0 bb b0.size
  have HX2 := Lib.hid hX2
  clear hX2 bb z0 b0
  go_wp2
  try rw [HX2.out]
  try rw [hsX]
  clear HX2
  go_loopw [7] (fun i wr => ∃ (k : Nat) (av : Option Addr) (cv : Nat), k ≤ n ∧ i = .int .i64 k ∧ FBox wr (W.heap.size + 1) (.slice av k cv) 0 0 true ∧ FBox wr W.heap.size (.slice none 0 0) 0 0 false ∧ CRow (fun b => W.heap.size + 1 + 1 ≤ b) (W.heap.size + 1 + 1) wr (.slice av k cv) k (List.replicate k (cellBL a)) ∧ Below W.heap.size W wr) (fun i _ => n - (intOf i).toNat)
  case atStart => exact ⟨0, none, 0, Nat.zero_le _, rfl, p0, q0, CRow.nil _ _ _, b2⟩
  case round =>
    obtain ⟨k, av, cv, hk, rfl, pf, pr, hR, hb⟩ := hrel
    have hlt2 := pf.lt
    have HR := Lib.hid hR
    clear hR
    obtain ⟨wo, hwo⟩ : ∃ x, x = wr := ⟨_, rfl⟩
    subst hwo
    by_cases hlt : k < n
    · have hki : (k : Int) < (n : Int) := by omega
      go_wp2
      go_loopw [8, 9] (fun v i wr => ∃ j : Nat, j ≤ a ∧ i = .int .i64 j ∧ wr.ownsRow wo.heap.size 171 7 v j (flatV (cellBL j)) ∧ Below wo.heap.size wo wr) (fun _ i _ => a - (intOf i).toNat)
      case atStart => exact ⟨0, Nat.zero_le _, rfl, World.ownsRow_nil _ _ _ _, Below.refl _ _⟩
      case round =>
        obtain ⟨j, hj, rfl, hown, hbx⟩ := hrel
        obtain ⟨ax, cx, rfl⟩ := own_sliceF hown
        have hs := hbx.size
        by_cases hlx : j < a
        · have g1 := GBlk.made wr [GC.blank]
          have HSN : Hid (flatV (cellBL (j + 1)) = flatV (cellBL j) ++ flatV [GC.blank]) := Lib.hid (by unfold cellBL; rw [List.replicate_succ', flatV_append])
          have hji : (j : Int) < (a : Int) := by omega
          go_wp2_with (at_builtin; refine wpList_append_own_at _ rfl _ _ 60 rfl wo.heap.size 171 i0 GC.zero.v 7 48 Tryz.underlying60 hi0 hz0 hz1 hz2 rfl (by decide) _ _ _ rfl (hown.alloc _) ⟨wr.heap.size, 0, none⟩ 1 1 (flatV [GC.blank]) rfl rfl g1.news (flatV_one _) (by unfold maxLen; omega) (by omega) (by simp; omega) ?_; intro v' w1 hown' hgrow _ _)
          have hB1 : Below wo.heap.size wr w1 := ((Below.refl wo.heap.size wr).alloc (by omega) _).grown hgrow (by simp; omega) (fun k e => (own_cells hown k e).1)
          go_roundw
          case rel => exact ⟨j + 1, hlx, by go_num, by rw [HSN.out]; exact hown', hbx.trans hB1⟩
          case measure => simp [intOf]; omega
        · obtain rfl : j = a := by omega
          obtain ⟨hC, hc1, hc2⟩ := CellsAt.of_own (by unfold cellBL; rw [List.length_replicate]) hown
          have pfx := pf.below hbx
          have prx := pr.below hbx
          have hRx := HR.out.below hbx
          have hbs := hb.size
          have ha3 : ∀ b o, ax = some ⟨b, o, none⟩ → b < wr.heap.size ∧ W.heap.size + 1 + 1 ≤ b ∧ (Value.slice av k cv).ownBlock ≠ some b := fun b o e => by
            obtain ⟨g1, cur, g2⟩ := own_cells hown b (by rw [e]; rfl)
            have g3 := (Array.getElem?_eq_some_iff.1 g2).1
            refine ⟨g3, ?_, fun e2 => ?_⟩
            · omega
            · have := (HR.out.own b e2).2; omega
          obtain ⟨t0, t1, t2, t3, t4⟩ := pfx.cells
          have bA : Below wr.heap.size wr (wr.alloc (.cells #[.slice ax j cx] 60)) := (Below.refl _ _).alloc (Nat.le_refl _) _
          have HC := Lib.hid hC
          have HSR : Hid (List.replicate (k + 1) (cellBL j) = List.replicate k (cellBL j) ++ [cellBL j]) := Lib.hid List.replicate_succ'
          clear hown hC t1 t2 t3
          go_wp2_with (at_builtin; refine wpList_append_cells rfl _ _ rfl (fun b => W.heap.size + 1 + 1 ≤ b) (W.heap.size + 1 + 1) (.slice av k cv) k (List.replicate k (cellBL j)) rfl (hRx.below bA) wr.heap.size rfl ax j cx (cellBL j) (row_one wr _ _) (HC.out.below bA) (by unfold cellBL; rw [List.length_replicate]) ⟨hc1, hc2⟩ (fun b o e => by obtain ⟨h1, h2⟩ := ha3 b o e; exact ⟨by simp; omega, h2⟩) (by omega) (by simp; omega) ?_; intro gq c' w5 hR5 hg5 hb5; have hb35 : Below (W.heap.size + 1 + 1) wr w5 := ((Below.refl _ _).alloc (by omega) _).trans hb5; have pf5 : FBox w5 (W.heap.size + 1) (.slice av k cv) 0 0 true := (hb35.block _ (by omega)).trans pfx; obtain ⟨t0, t1, t2, t3, t4⟩ := pf5.cells)
          have pr5 : FBox w5 W.heap.size (.slice none 0 0) 0 0 false := (hb35.block _ (by omega)).trans prx
          have pY := pf5.set (.slice (some ⟨gq, 0, none⟩) (k + 1) c')
          have oY : Only [W.heap.size + 1] w5 (w5.setCell ⟨W.heap.size + 1, 0, none⟩ (.slice (some ⟨gq, 0, none⟩) (k + 1) c')) := (Only.refl _ w5).setCell (.inl (by simp)) _
          have hRY := hR5.setCell (b := W.heap.size + 1) (by omega) (by omega) 0 (.slice (some ⟨gq, 0, none⟩) (k + 1) c')
          have prY : FBox (w5.setCell ⟨W.heap.size + 1, 0, none⟩ (.slice (some ⟨gq, 0, none⟩) (k + 1) c')) W.heap.size (.slice none 0 0) 0 0 false := oY.heap pr5 (by simp)
          have hbw5 : Below W.heap.size W w5 := (bto hb hbx hb.size).trans (hb35.mono (by omega))
          have bY := hbw5.trans (oY.below (by simp) hbw5.size)
          go_roundw
          case rel => exact ⟨k + 1, some ⟨gq, 0, none⟩, c', hlt, by go_num, pY, prY, by rw [HSR.out]; exact hRY, bY⟩
          case measure => simp [intOf]; omega
    · obtain rfl : k = n := by omega
      obtain ⟨Y, hY⟩ : ∃ Y, ((((wo.setCell ⟨W.heap.size, 0, none⟩ (.slice av k cv)).setCell ⟨W.heap.size, 1, none⟩ (.int .i64 0)).setCell ⟨W.heap.size, 2, none⟩ (.int .i64 0)).setCell ⟨W.heap.size, 3, none⟩ (.bool true)) = Y := ⟨_, rfl⟩
      obtain ⟨pY, oY⟩ := pr.fill _ 0 0 _ Y hY
      have hRY : CRow (fun b => W.heap.size + 1 + 1 ≤ b) (W.heap.size + 1 + 1) Y (.slice av k cv) k (List.replicate k (cellBL a)) := by
        rw [← hY]
        exact (((HR.out.setCell (b := W.heap.size) (by omega) (by omega) 0 _).setCell (b := W.heap.size) (by omega) (by omega) 1 _).setCell (b := W.heap.size) (by omega) (by omega) 2 _).setCell (b := W.heap.size) (by omega) (by omega) 3 _
      obtain ⟨k1, k2, k3⟩ := (hRY.mono (F' := fun _ => True) (fun _ _ => trivial)).rows List.length_replicate (fun _ _ => trivial)
      have hA := k1.at
      have HY := Lib.hid hY
      have bY := hb.trans (oY.below (by simp) hb.size)
      obtain ⟨q0, q1, q2, q3, q4⟩ := pf.cells
      obtain ⟨t0, t1, t2, t3, t4⟩ := pr.cells
      clear hY hRY k1
      go_wp2
      rw [HY.out]
      refine bodyPost_ret (results_row2 rfl _ _ W.heap.size _ rfl (show FBI Y W.heap.size (.slice av k cv) ((0 : Nat) : Int) ((0 : Nat) : Int) true from pY).load) rfl ?_
      have hlM : (blankM a k).length = k := by unfold blankM; rw [List.length_replicate]
      exact ⟨av, cv, by rw [hlM]; rfl, by rw [hlM]; exact hA, by rw [hlM]; exact ⟨k2, k3⟩, bY⟩
end Go.Proofs.YtekodpcedjpnjaaGreat
