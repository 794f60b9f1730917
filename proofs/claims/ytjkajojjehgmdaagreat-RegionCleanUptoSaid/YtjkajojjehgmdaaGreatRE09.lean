/- Rows that stand in an array that the call owns; the append of one row. No condition. -/
import Derived.Test.YtjkajojjehgmdaaGreatRE04
import Derived.Test.YtjkajojjehgmdaaGreatRE08
set_option linter.unusedVariables false
set_option linter.unusedSimpArgs false
namespace Go.Proofs.YtjkajojjehgmdaaGreat
open Go.RowKit Go.Shelf Go.Maps
def CRow (F : Nat → Prop) (n₀ : Nat) (W : World) (v : Value) (k : Nat) (R : List (List GC)) : Prop :=
 ∃ vs G, W.ownsRow n₀ 46 1 v k vs ∧ VRows G W vs R ∧ (∀ b, G b → F b) ∧ ∀ g, v.ownBlock = some g → ¬ G g
theorem CRow.nil (F : Nat → Prop) (n₀ : Nat) (W : World) : CRow F n₀ W (.slice none 0 0) 0 [] :=
 ⟨[], fun _ => False, World.ownsRow_nil _ _ _ _, VRows.nil _ _, fun _ h => h.elim, fun _ _ h => h⟩
theorem CRow.slice {F : Nat → Prop} {n₀ : Nat} {W : World} {v : Value} {k : Nat} {R : List (List GC)} (h : CRow F n₀ W v k R) : ∃ a c, v = .slice a k c := by
 obtain ⟨vs, _, ho, _⟩ := h
 exact own_sliceF ho
theorem CRow.below {F : Nat → Prop} {n₀ : Nat} {W Y : World} {v : Value} {k : Nat} {R : List (List GC)} (h : CRow F n₀ W v k R) (hb : Below W.heap.size W Y) : CRow F n₀ Y v k R := by
 obtain ⟨vs, G, ho, hv, hG, hn⟩ := h
 exact ⟨vs, G, own_belowF ho hb, hv.below hb, hG, hn⟩
theorem CRow.setCell {F : Nat → Prop} {n₀ : Nat} {W : World} {v : Value} {k : Nat} {R : List (List GC)} (h : CRow F n₀ W v k R) {b : Nat} (hb : b < n₀) (hF : ¬ F b) (o : Nat) (u : Value) : CRow F n₀ (W.setCell ⟨b, o, none⟩ u) v k R := by
 obtain ⟨vs, G, ho, hv, hG, hn⟩ := h
 exact ⟨vs, G, ownsRow_setCell_below ho hb u, hv.keep (by simp [World.setCell]) (fun b' hb' _ => Below.heap_setCell _ _ _ _ (fun e => hF (by subst e; exact hG _ hb'))), hG, hn⟩
theorem CRow.app {F : Nat → Prop} {n₀ : Nat} {W W' : World} {v v' : Value} {k : Nat} {R : List (List GC)} {vs : List Value} {G : Nat → Prop} {a : Option Addr} {n c : Nat} {M : List GC}
    (hv : VRows G W vs R) (hG : ∀ b, G b → F b) (hn : ∀ g, v.ownBlock = some g → ¬ G g) (hlt : ∀ g, v.ownBlock = some g → g < W.heap.size)
    (hM : CellsAt W a n M) (hnM : M.length = n) (hc : n ≤ c ∧ c ≤ maxLen) (ha : ∀ b o, a = some ⟨b, o, none⟩ → b < W.heap.size ∧ F b ∧ v.ownBlock ≠ some b)
    (hgr : W.grownBy W' v.ownBlock) (ho : W'.ownsRow n₀ 46 1 v' (k + 1) (vs ++ [.slice a n c])) (hob : v'.ownBlock = v.ownBlock ∨ v'.ownBlock = some W.heap.size) : CRow F n₀ W' v' (k + 1) (R ++ [M]) := by
 have hkeep : ∀ b, b < W.heap.size → v.ownBlock ≠ some b → W'.heap[b]? = W.heap[b]? := fun b hb hne => hgr.block b hb (fun e => hne e.symm)
 have hv1 := hv.mono (F' := fun b => G b ∧ b < W.heap.size) (fun b h1 h2 => ⟨h1, h2⟩)
 have hv2 := (hv1.keep hgr.size (fun b hb hlt' => hkeep b hlt' (fun e => hn b e hb.1)))
 have hv3 := hv2.mono (F' := fun b => G b ∧ b < W.heap.size ∨ ∃ o, a = some ⟨b, o, none⟩) (fun b h1 _ => .inl h1)
 have hM2 := hM.keep hgr.size (fun b o e hb => hkeep b hb (ha b o e).2.2)
 refine ⟨vs ++ [.slice a n c], _, ho, hv3.snoc hnM hc hM2 (fun b o e => ⟨Nat.lt_of_lt_of_le (ha b o e).1 hgr.size, .inr ⟨o, e⟩⟩), ?_, ?_⟩
 ·rintro b (h1 | ⟨o, e⟩)
  ·exact hG b h1.1
  ·exact (ha b o e).2.1
 ·rintro g hg (h1 | ⟨o, e⟩)
  ·rcases hob with h2 | h2
   ·exact hn g (h2 ▸ hg) h1.1
   ·rw [h2] at hg; cases hg; exact absurd h1.2 (Nat.lt_irrefl _)
  ·rcases hob with h2 | h2
   ·exact (ha g o e).2.2 (h2 ▸ hg)
   ·rw [h2] at hg; cases hg; exact absurd (ha _ o e).1 (Nat.lt_irrefl _)
theorem CRow.rows {F : Nat → Prop} {n₀ : Nat} {W : World} {a : Option Addr} {k c : Nat} {R : List (List GC)} (h : CRow F n₀ W (.slice a k c) k R) (hR : R.length = k) (hF : ∀ b, n₀ ≤ b → F b) : RowsF F W a k R ∧ k ≤ c ∧ c ≤ maxLen := by
 obtain ⟨vs, G, ho, hv, hG, hn⟩ := h
 obtain ⟨h1, h2, h3⟩ := own_row_at ho
 exact ⟨RowsF.of_vals hR (hv.mono (fun b hb _ => hG b hb)) h1 (fun b o e => by subst e; exact hF b (own_cells ho b rfl).1), h2, h3⟩
theorem wpList_append_cells {ops : Array Oper} {rest : List Oper} {o : Oper} {a : Act} {w : World} {Q : Exit → Act → World → Prop} (hgd : o.guard = none) (s x : Operand)
    (ho : o.op = .call { callee := .builtin .append, args := #[s, x], argTypes := #[40, 40] }) (F : Nat → Prop) (n₀ : Nat) (v : Value) (k : Nat) (R : List (List GC)) (hs : a.eval s = v) (hR : CRow F n₀ w v k R)
    (b : Nat) (hx : a.eval x = .slice (some ⟨b, 0, none⟩) 1 1) (a3 : Option Addr) (n c : Nat) (M : List GC) (hcell : ∀ j u, [Value.slice a3 n c][j]? = some u → w.cell? ((⟨b, 0, none⟩ : Addr).add j) = some u) (hM : CellsAt w a3 n M) (hnM : M.length = n) (hc : n ≤ c ∧ c ≤ maxLen)
    (ha : ∀ b o, a3 = some ⟨b, o, none⟩ → b < w.heap.size ∧ F b ∧ v.ownBlock ≠ some b) (hk : k + 1 ≤ 1000000) (hbase : n₀ ≤ w.heap.size)
    (h : ∀ g c' w', CRow F n₀ w' (.slice (some ⟨g, 0, none⟩) (k + 1) c') (k + 1) (R ++ [M]) → w.grownBy w' v.ownBlock → Below n₀ w w' → wpList Tryz.prog ops Q rest (a.put o.dst (.slice (some ⟨g, 0, none⟩) (k + 1) c')) w') :
    wpList Tryz.prog ops Q (o :: rest) a w := by
 obtain ⟨i0, hi, hz0, hz1, hz2⟩ := info_parts infoCells
 obtain ⟨vs, G, hown, hv, hG, hn⟩ := hR
 refine wpList_append_own_at _ hgd s x 40 ho n₀ 46 i0 (.slice none 0 0) 1 24 Tryz.underlying40 hi hz0 hz1 hz2 rfl (by decide) v k vs hs hown ⟨b, 0, none⟩ 1 1 [.slice a3 n c] hx rfl hcell (by intro u hu; rw [List.mem_singleton.1 hu]; rfl) (by unfold maxLen; omega) (by omega) hbase ?_
 intro v' w1 ho' hg' _ hob
 obtain ⟨g, c', rfl⟩ := ownsRow_succ ho'
 exact h _ _ _ (CRow.app hv hG hn (fun g e => by obtain ⟨_, cur, h2⟩ := own_cells hown g e; exact (Array.getElem?_eq_some_iff.1 h2).1) hM hnM hc ha hg' ho' hob) hg' ((Below.refl n₀ w).grown hg' hbase (fun k e => (own_cells hown k e).1))
theorem CRow.own {F : Nat → Prop} {n₀ : Nat} {W : World} {v : Value} {k : Nat} {R : List (List GC)} (h : CRow F n₀ W v k R) : ∀ g, v.ownBlock = some g → n₀ ≤ g ∧ g < W.heap.size := fun g e => by
 obtain ⟨vs, G, hown, _⟩ := h
 obtain ⟨h1, cur, h2⟩ := own_cells hown g e
 exact ⟨h1, (Array.getElem?_eq_some_iff.1 h2).1⟩
theorem CRow.mono {F F' : Nat → Prop} {n₀ : Nat} {W : World} {v : Value} {k : Nat} {R : List (List GC)} (h : CRow F n₀ W v k R) (hF : ∀ b, F b → F' b) : CRow F' n₀ W v k R := by
 obtain ⟨vs, G, ho, hv, hG, hn⟩ := h
 exact ⟨vs, G, ho, hv, fun b hb => hF b (hG b hb), hn⟩
theorem RowsF.at {F : Nat → Prop} {W : World} {a : Option Addr} {n : Nat} {R : List (List GC)} (h : RowsF F W a n R) : RowsAt W a n R :=
 ⟨h.len, fun i M hi => by obtain ⟨b, off, a2, c2, h1, h2, h3, h4, h5, _⟩ := h.at_ i M hi; exact ⟨b, off, a2, c2, h1, h2.1, h3, h4, h5⟩⟩
end Go.Proofs.YtjkajojjehgmdaaGreat
