/- A region that draws its order: reads are taken where they stand ready and free; of the acts, each that may come next. R i: what operation i must keep, so that the reads that may still come are true. No condition. The law's lines: the first lines that the iterator yields, and of which texts. No condition. -/
import Derived.Test.YtmdpmjabjijjiaaRegZ
import Derived.Test.YtmdpmjabjijjiaaWrap10
import Derived.Test.YtmdpmjabjijjiaaRClus6
import Derived.Maps.AppendAt
namespace Go.Proofs.Ytmdpmjabjijjiaa
set_option linter.unusedVariables false
set_option linter.unusedSimpArgs false
section
variable {P : Program} {ops : Array Oper} {Q : Exit → Act → World → Prop} {md : Region.Mode} {R : Nat → World → World → Prop}
def wpAnyY (P : Program) (md : Region.Mode) (ops : Array Oper) (Q : Exit → Act → World → Prop) (R : Nat → World → World → Prop) : Nat → Array Bool → Act → World → Prop
  | 0, listed, a, w => Region.ready md ops listed = [] ∧ Q .normal a w
  | fuel + 1, listed, a, w =>
    (Region.ready md ops listed = [] → Q .normal a w) ∧
    ∀ i ∈ Region.ready md ops listed, wpOp P ops Q i (fun a' w' => R i w w' ∧ wpAnyY P md ops Q R fuel (listed.setIfInBounds i true) a' w') a w
theorem wpAny_of_Y : ∀ (fuel : Nat) (listed : Array Bool) (a : Act) (w : World), wpAnyY P md ops Q R fuel listed a w → wpAny P md ops Q fuel listed a w
  | 0, _, _, _, h => h
  | fuel + 1, _, _, _, h => ⟨h.1, fun i hi => wpOp_mono (fun a' w' h' => wpAny_of_Y fuel _ a' w' h'.2) (h.2 i hi)⟩
theorem wpAnyY_first {S : World → Prop} {i : Nat} {oi : Oper} {v : Value} (hi : ops[i]? = some oi) (hsel : ∀ (j : Nat) (o : Oper) cs b, ops[j]? = some o → o.op ≠ .select cs b)
    (hQ : ∀ c a w, Q (.panic c) (a.put oi.dst v) w → Q (.panic c) a w) (hz : ∀ j oj w w', ops[j]? = some oj → (∀ e ∈ oj.after, Region.binds md e = true → e.on ≠ i) → R j w w' → S w → S w') :
    ∀ (fuel : Nat) (listed : Array Bool) (a : Act) (w : World),
      (∀ j oj, ops[j]? = some oj → j ≠ i → listed.getD j true = false → (∀ e ∈ oj.after, Region.binds md e = true → e.on ≠ i) → oi.apart ops oj = true) →
      i ∈ Region.ready md ops listed → YieldsIf P ops S oi v a → S w → (∀ w, R i w w) →
      wpAnyY P md ops Q R fuel (listed.setIfInBounds i true) (a.put oi.dst v) w → wpAnyY P md ops Q R (fuel + 1) listed a w := by
  intro fuel
  induction fuel with
  | zero =>
    intro listed a w _ hr hy hS hRi H
    refine ⟨fun h => (by rw [h] at hr; cases hr), fun j hj => ?_⟩
    by_cases hji : j = i
    · subst hji; exact hy.wpOp hi hS ⟨hRi _, H⟩
    · have := ready_mono hj hji
      rw [H.1] at this
      cases this
  | succ fuel ih =>
    intro listed a w hfree hr hy hS hRi H
    refine ⟨fun h => (by rw [h] at hr; cases hr), fun j hj => ?_⟩
    by_cases hji : j = i
    · subst hji; exact hy.wpOp hi hS ⟨hRi _, H⟩
    · have h1 := H.2 j (ready_mono hj hji)
      obtain ⟨hjun, oj, hoj, hall⟩ := mem_ready.1 hj
      have hnot : ∀ e ∈ oj.after, Region.binds md e = true → e.on ≠ i := fun e he hb heq => by
        have h1 := hall e he hb
        have h0 := (mem_ready.1 hr).1
        rw [heq] at h1
        rcases Nat.lt_or_ge i listed.size with h' | h'
        · simp [h'] at h0 h1; rw [h0] at h1; cases h1
        · simp [Array.getElem?_eq_none h'] at h1
      have hjz := hz j oj
      have h2 := wpOp_putIf hoj (hfree j oj hoj hji hjun hnot) (fun cs b => hsel i oi cs b hi) (fun cs b => hsel j oj cs b hoj) hQ hy h1
      have hfree' : ∀ k ok, ops[k]? = some ok → k ≠ i → (listed.setIfInBounds j true).getD k true = false →
          (∀ e ∈ ok.after, Region.binds md e = true → e.on ≠ i) → oi.apart ops ok = true := fun k ok hk hki hun hno => by
        refine hfree k ok hk hki ?_ hno
        by_cases hjk : j = k
        · subst hjk; exact hjun
        · rw [getD_set_ne true hjk] at hun; exact hun
      refine wpOp_mono (fun a' w' h3 => ⟨h3.2.1, ih (listed.setIfInBounds j true) a' w' hfree' (ready_mono hr (Ne.symm hji)) h3.1 (hjz w w' hoj hnot h3.2.1 hS) hRi ?_⟩) h2
      rw [Array.setIfInBounds_comm _ _ hji]
      exact h3.2.2
/-- One read, taken first; the acts of zs wait for it, behind all others what it reads abides. -/
theorem wpAnyY_read (i : Nat) (S : World → Prop) (zs : List Nat) {oi : Oper} {v : Value} {fuel : Nat} {listed : Array Bool} {a : Act} {w : World} (hs : Region.noSelect ops = true) (hQ : ∀ c a d v w, Q (.panic c) (Act.put a d v) w → Q (.panic c) a w)
    (hB : ((Region.ready md ops listed).contains i && (Region.free md ops listed i && zs.all fun z => waitsB md ops z i)) = true) (hi : ops[i]? = some oi) (hR : ∀ j w w', j ∉ zs → R j w w' → S w → S w') (hRi : ∀ w, R i w w) (hS : S w)
    (hw : Region.wanted oi (yielded ops a.tmps) = true) (hy : ∀ w, S w → (execOp a.eval oi).run P w = .ok (.value v) w)
    (h : wpAnyY P md ops Q R fuel (listed.setIfInBounds i true) (a.put oi.dst v) w) : wpAnyY P md ops Q R (fuel + 1) listed a w := by
  simp only [Bool.and_eq_true, List.all_eq_true] at hB
  obtain ⟨h1, h2, h3⟩ := hB
  refine wpAnyY_first hi (Region.noSelect_spec hs) (fun c a w => hQ c a _ _ w) (fun j oj w w' hoj hnot hr hs => hR j w w' (fun hjz => ?_) hr hs) _ _ _ _ (Region.free_spec hi h2) (by simpa using h1) (.inl ⟨hw, hy⟩) hS hRi h
  obtain ⟨e, he, hb, heq⟩ := waitsB_spec (h3 j hjz) oj hoj
  exact hnot e he hb heq
/-- One act, which must come next. -/
theorem wpAnyY_one {i : Nat} {oi : Oper} {fuel : Nat} {listed : Array Bool} {a : Act} {w : World} (hr : Region.ready md ops listed = [i]) (hi : ops[i]? = some oi)
    (h : ∀ K : Act → World → Prop, (∀ a w', R i w w' → wpAnyY P md ops Q R fuel (listed.setIfInBounds i true) a w' → K a w') → wpList P ops (Exit.then K Q) [oi] a w) : wpAnyY P md ops Q R (fuel + 1) listed a w := by
  refine ⟨fun h1 => (by rw [hr] at h1; cases h1), fun j hj => ?_⟩
  rw [hr] at hj
  obtain rfl : j = i := by simpa using hj
  exact wpOp_of_list hi (h _ fun _ _ h1 h2 => ⟨h1, h2⟩)
/-- Two acts, either of which may come next. -/
theorem wpAnyY_two {i j : Nat} {oi oj : Oper} {fuel : Nat} {listed : Array Bool} {a : Act} {w : World} (hr : Region.ready md ops listed = [i, j]) (hi : ops[i]? = some oi) (hj : ops[j]? = some oj)
    (h1 : ∀ K : Act → World → Prop, (∀ a w', R i w w' → wpAnyY P md ops Q R fuel (listed.setIfInBounds i true) a w' → K a w') → wpList P ops (Exit.then K Q) [oi] a w)
    (h2 : ∀ K : Act → World → Prop, (∀ a w', R j w w' → wpAnyY P md ops Q R fuel (listed.setIfInBounds j true) a w' → K a w') → wpList P ops (Exit.then K Q) [oj] a w) : wpAnyY P md ops Q R (fuel + 1) listed a w := by
  refine ⟨fun h => (by rw [hr] at h; cases h), fun k hk => ?_⟩
  rw [hr] at hk
  simp only [List.mem_cons, List.not_mem_nil, or_false] at hk
  rcases hk with rfl | rfl
  · exact wpOp_of_list hi (h1 _ fun _ _ h3 h4 => ⟨h3, h4⟩)
  · exact wpOp_of_list hj (h2 _ fun _ _ h3 h4 => ⟨h3, h4⟩)
theorem wpAnyY_end {fuel : Nat} {listed : Array Bool} {a : Act} {w : World} (hr : Region.ready md ops listed = []) (h : Q .normal a w) : wpAnyY P md ops Q R fuel listed a w := by
  cases fuel with
  | zero => exact ⟨hr, h⟩
  | succ n => exact ⟨fun _ => h, fun i hi => (by rw [hr] at hi; cases hi)⟩
theorem wpIn_region_tree {id : Nat} {a : Act} {w : World} {l : List Oper} {l₀ : Option Nat} {n : Nat} (R : Nat → World → World → Prop) (hm : P.follows .mixedOrders = true)
    (hd : noDefer l.toArray = true) (ho : ∀ a w, ¬ Q .outgrown a w) (h : wpAnyY P .any l.toArray Q R l.toArray.size (Array.replicate l.toArray.size false) a w.drew) : (Code.region id l.toArray true).wpIn (wideAt l₀) n P Q a w :=
  wpIn_region_any hm (wpAnyIn_of_wpAny ho hd _ _ _ _ (wpAny_of_Y _ _ _ _ h))
theorem wp_region_tree {id : Nat} {a : Act} {w : World} {l : List Oper} (R : Nat → World → World → Prop) (hm : P.follows .mixedOrders = true)
    (h : wpAnyY P .any l.toArray Q R l.toArray.size (Array.replicate l.toArray.size false) a w.drew) : (Code.region id l.toArray true).wp P Q a w :=
  wp_region_any hm (wpAny_of_Y _ _ _ _ h)
end
end Go.Proofs.Ytmdpmjabjijjiaa
namespace Go.Proofs.Ytmdpmjabjijjiaa
set_option linter.unusedVariables false
set_option linter.unusedSimpArgs false
open Go.RowKit Go.Shelf Go.Maps
attribute [local go_sem] Oper.semAt_some
def natV (l : List Nat) : List Value := l.map fun (n : Nat) => Value.int .i64 (n : Int)
theorem natV_len (l : List Nat) : (natV l).length = l.length := by simp [natV]
theorem infoIntL : (Try.prog.info? 3).map (fun i => (i.zero, i.size, i.bytes)) = some (some (.int .i64 0), 1, 8) := by kernel_rfl
theorem lne : (9 : TypeId) ≠ 3 := by decide
structure LQ (w : World) (n₀ most g : Nat) (v0 u0 : Value) (W0 W : World) (v u : Value) (p q : List Value) : Prop where
  but : But n₀ (w.heap.size + 1) W0 W
  hg : W.heap[g]? = W0.heap[g]?
  gl : g < W.heap.size
  b1 : Boxed W (w.heap.size + 1) 23 v0
  b2 : Boxed W (w.heap.size + 1 + 1) 73 u0
  b0 : Boxed W w.heap.size 3 (.int .i64 most)
  ov : W.ownsRow n₀ 9 1 v p.length p
  ou : W.ownsRow n₀ 3 1 u q.length q
  vg : v.ownBlock ≠ some g
  ug : u.ownBlock ≠ some g
  nl : w.heap.size + 1 + 1 < n₀ ∧ n₀ ≤ W.heap.size
theorem LQ.drew {w W0 W : World} {n₀ most g : Nat} {v0 u0 v u : Value} {p q : List Value} (h : LQ w n₀ most g v0 u0 W0 W v u p q) : LQ w n₀ most g v0 u0 W0 W.drew v u p q :=
  ⟨h.but.drew, h.hg, h.gl, h.b1, h.b2, h.b0, own_far h.ov (row := none) ⟨rfl, rfl, rfl, Nat.le_refl _, fun _ _ _ => rfl⟩ (fun k e => by cases e), own_far h.ou (row := none) ⟨rfl, rfl, rfl, Nat.le_refl _, fun _ _ _ => rfl⟩ (fun k e => by cases e), h.vg, h.ug, h.nl⟩
theorem LQ.alloc {w W0 W : World} {n₀ most g : Nat} {v0 u0 v u : Value} {p q : List Value} (h : LQ w n₀ most g v0 u0 W0 W v u p q) (o : Obj) : LQ w n₀ most g v0 u0 W0 (W.alloc o) v u p q :=
  ⟨h.but.alloc h.nl.2 o, (Below.heap_alloc _ _ _ h.gl).trans h.hg, by have := h.gl; simp; omega, h.b1.alloc _, h.b2.alloc _, h.b0.alloc _, h.ov.alloc _, h.ou.alloc _, h.vg, h.ug, h.nl.1, by have := h.nl.2; simp; omega⟩
theorem own_new {W : World} {g : Nat} {v v' : Value} (hg : g < W.heap.size) (hv : v.ownBlock ≠ some g) (h : v'.ownBlock = v.ownBlock ∨ v'.ownBlock = some W.heap.size) : v'.ownBlock ≠ some g := by
  rcases h with h | h
  · rw [h]; exact hv
  · rw [h]; intro e; injection e with e; omega
theorem LQ.appV {w W0 W W' : World} {n₀ most g : Nat} {v0 u0 v u v' : Value} {p q : List Value} {x : Value} (h : LQ w n₀ most g v0 u0 W0 W v u p q) (hgr : W.grownBy W' v.ownBlock)
    (ho : W'.ownsRow n₀ 9 1 v' (p.length + 1) (p ++ [x])) (hob : v'.ownBlock = v.ownBlock ∨ v'.ownBlock = some W.heap.size) : LQ w n₀ most g v0 u0 W0 W' v' u (p ++ [x]) q :=
  ⟨h.but.grown h.nl.2 hgr (fun k e => by obtain ⟨h1, cur', h2⟩ := own_cells h.ov k e; exact ⟨h1, _, h2, rfl⟩), (hgr.block g h.gl (fun e => h.vg e.symm)).trans h.hg, Nat.lt_of_lt_of_le h.gl hgr.size,
    h.b1.kept hgr (h.b1.not_row (by decide) h.ov), h.b2.kept hgr (h.b2.not_row (by decide) h.ov), h.b0.kept hgr (h.b0.not_row (by decide) h.ov), by rw [List.length_append]; exact ho,
    own_but h.ou hgr (fun k e => by obtain ⟨_, cur, h2⟩ := own_cells h.ov k e; exact .inr ⟨cur, _, _, lne, h2⟩), own_new h.gl h.vg hob, h.ug, h.nl.1, Nat.le_trans h.nl.2 hgr.size⟩
theorem LQ.appU {w W0 W W' : World} {n₀ most g : Nat} {v0 u0 v u u' : Value} {p q : List Value} {x : Value} (h : LQ w n₀ most g v0 u0 W0 W v u p q) (hgr : W.grownBy W' u.ownBlock)
    (ho : W'.ownsRow n₀ 3 1 u' (q.length + 1) (q ++ [x])) (hob : u'.ownBlock = u.ownBlock ∨ u'.ownBlock = some W.heap.size) (hne : u.ownBlock ≠ some w.heap.size) : LQ w n₀ most g v0 u0 W0 W' v u' p (q ++ [x]) :=
  ⟨h.but.grown h.nl.2 hgr (fun k e => by obtain ⟨h1, cur', h2⟩ := own_cells h.ou k e; exact ⟨h1, _, h2, rfl⟩), (hgr.block g h.gl (fun e => h.ug e.symm)).trans h.hg, Nat.lt_of_lt_of_le h.gl hgr.size,
    h.b1.kept hgr (h.b1.not_row (by decide) h.ou), h.b2.kept hgr (h.b2.not_row (by decide) h.ou), h.b0.kept hgr (fun e => hne e.symm), own_but h.ov hgr (fun k e => by obtain ⟨_, cur, h2⟩ := own_cells h.ou k e; exact .inr ⟨cur, _, _, lne.symm, h2⟩),
    by rw [List.length_append]; exact ho, h.vg, own_new h.gl h.ug hob, h.nl.1, Nat.le_trans h.nl.2 hgr.size⟩
theorem LQ.ne {w W0 W : World} {n₀ most g : Nat} {v0 u0 v u : Value} {p q : List Value} (h : LQ w n₀ most g v0 u0 W0 W v u p q) : u.ownBlock ≠ some w.heap.size := fun e => by
  have := (own_cells h.ou _ e).1
  have := h.nl.1
  omega
theorem boxed_news {W : World} {b : Nat} {t : TypeId} {x : Value} (h : Boxed W b t x) : ∀ j u, [x][j]? = some u → W.cell? ((⟨b, 0, none⟩ : Addr).add j) = some u := fun j u hj => by
  cases j with
  | zero =>
    simp only [List.getElem?_cons_zero, Option.some.injEq] at hj
    subst hj
    exact h.cell
  | succ j => simp at hj
/-- What abides in the law's loop. -/
def LI (w : World) (n₀ most : Nat) (g : Nat) (pre : List (Nat × List UInt8)) (W : World) : Prop :=
  (∃ v u, Boxed W (w.heap.size + 1) 23 v ∧ Boxed W (w.heap.size + 1 + 1) 73 u ∧ W.ownsRow n₀ 9 1 v pre.length (strV (pre.map (·.2))) ∧ W.ownsRow n₀ 3 1 u pre.length (natV (pre.map (·.1))) ∧ v.ownBlock ≠ some g ∧ u.ownBlock ≠ some g) ∧
  (pre.length ≤ most ∧ Boxed W w.heap.size 3 (.int .i64 most)) ∧ Below w.heap.size w W
theorem LI.own {w : World} {n₀ most g B : Nat} (hB : w.heap.size ≤ B) : OwnFrom B (LI w n₀ most g) := fun s X Y row ⟨⟨v, u, h1, h2, h3, h4, h5, h6⟩, ⟨h7, h8⟩, h9⟩ hg hr =>
  have hr' := fun k e => (hr k e).2
  ⟨⟨v, u, boxed_own h1 hg hr', boxed_own h2 hg hr', own_far h3 hg hr', own_far h4 hg hr', h5, h6⟩, ⟨h7, boxed_own h8 hg hr'⟩, ownFrom_below (β := List (Nat × List UInt8)) (n₀ := w.heap.size) (w₀ := w) (Nat.le_refl _) hB s X Y row h9 hg hr⟩
theorem LI.sw {w : World} {n₀ most g g' : Nat} {pre : List (Nat × List UInt8)} {W : World} (h : LI w n₀ most g pre W) (hg : W.heap.size ≤ g') : LI w n₀ most g' pre W := by
  obtain ⟨⟨v, u, h1, h2, h3, h4, h5, h6⟩, h7, h9⟩ := h
  refine ⟨⟨v, u, h1, h2, h3, h4, fun e => ?_, fun e => ?_⟩, h7, h9⟩
  · have := (h3.lt _ e).2; omega
  · have := (h4.lt _ e).2; omega
theorem ghost_ownN {β : Type} {B : Nat} (A : List β → Prop) (g : Nat) : OwnFrom B (fun (p : List β) W => A p ∧ ∃ cur, W.heap[g]? = some (.cells cur 9 (0, 0))) := fun s W W' row hs hg hr => ⟨hs.1, by
  obtain ⟨cur, hc⟩ := hs.2
  refine ⟨cur, ?_⟩
  have hl := (Array.getElem?_eq_some_iff.1 hc).1
  rw [hg.block g hl (fun e => ?_)]
  · exact hc
  · obtain ⟨_, o, ho, hcl⟩ := hr g e.symm
    rw [hc] at ho; cases ho; cases hcl⟩
theorem LQ.fin {w W0 W : World} {n₀ most g : Nat} {v0 u0 v u : Value} {pre : List (Nat × List UInt8)} (A B C : Nat) (h : LQ w n₀ most g v0 u0 W0 W v u (strV (pre.map (·.2))) (natV (pre.map (·.1)))) (hA : A < n₀ ∧ A ≠ w.heap.size + 1 ∧ A ≠ w.heap.size + 1 + 1) (hB : B < n₀ ∧ B ≠ w.heap.size + 1 ∧ B ≠ w.heap.size + 1 + 1) (hC : C < n₀ ∧ C ≠ w.heap.size + 1 ∧ C ≠ w.heap.size + 1 + 1)
    (hW : Below w.heap.size w W0) (hp : pre.length ≤ most) (hgl : w.heap.size + 1 + 1 < g) (W' : World) (hW' : (W.setCell ⟨w.heap.size + 1, 0, none⟩ v).setCell ⟨w.heap.size + 1 + 1, 0, none⟩ u = W') (m : Nat) :
    KeepsFrom m W0 W' ∧ (K3 A B C W0 W' ∧ W'.heap[g]? = W0.heap[g]?) ∧ LI w n₀ most g pre W' := by
  have n0 := h.nl
  have b1 : But n₀ (w.heap.size + 1) W0 (W.setCell ⟨w.heap.size + 1, 0, none⟩ v) := h.but.setCell 0 v
  have b2 : But n₀ (w.heap.size + 1 + 1) (W.setCell ⟨w.heap.size + 1, 0, none⟩ v) W' := by rw [← hW']; exact (But.refl _ _ _).setCell 0 u
  have ov := own_set (off := 0) (own_set (off := 0) h.ov (show w.heap.size + 1 < n₀ by omega) v) (show w.heap.size + 1 + 1 < n₀ by omega) u
  have ou := own_set (off := 0) (own_set (off := 0) h.ou (show w.heap.size + 1 < n₀ by omega) v) (show w.heap.size + 1 + 1 < n₀ by omega) u
  have q1 := boxed_put (h.b1.set v) (k := w.heap.size + 1 + 1) (by omega) u
  have q2 := (boxed_put h.b2 (k := w.heap.size + 1) (by omega) v).set u
  have q0 := boxed_put (boxed_put h.b0 (k := w.heap.size + 1) (by omega) v) (k := w.heap.size + 1 + 1) (by omega) u
  rw [hW'] at ov ou q1 q2 q0
  rw [strV_len, List.length_map] at ov
  rw [natV_len, List.length_map] at ou
  refine ⟨(b1.others.trans b2.others).from _, ⟨⟨(b2.block A hA.1 hA.2.2).trans (b1.block A hA.1 hA.2.1), (b2.block B hB.1 hB.2.2).trans (b1.block B hB.1 hB.2.1), (b2.block C hC.1 hC.2.2).trans (b1.block C hC.1 hC.2.1), Nat.le_trans b1.size b2.size⟩, ?_⟩, ⟨v, u, q1, q2, ov, ou, h.vg, h.ug⟩, ⟨hp, q0⟩, hW.trans ((b1.below (by omega) (by omega)).trans (b2.below (by omega) (by omega)))⟩
  rw [← hW', Below.heap_setCell _ _ _ _ (by show g ≠ w.heap.size + 1 + 1; omega), Below.heap_setCell _ _ _ _ (by show g ≠ w.heap.size + 1; omega)]
  exact h.hg
/-- The first lines, and of which texts. -/
def TwoR (L : List (Nat × List UInt8)) (w : World) (e : Ending) (w' : World) : Prop :=
  ∃ a c a2 c2, e = .returned (.tuple #[.slice a L.length c, .slice a2 L.length c2]) ∧ (L.length ≤ c ∧ c ≤ maxLen ∧ L.length ≤ c2 ∧ c2 ≤ maxLen) ∧ RowAt w'.heap.size w' a (strV (L.map (·.2))) ∧ RowAt w'.heap.size w' a2 (natV (L.map (·.1))) ∧ Below w.heap.size w w'
theorem lines_fin {w W : World} {n₀ D most : Nat} {L ys : List (Nat × List UInt8)} {a1 a2 : Option Addr} {c1 c2 : Nat} (hall : ys = L.take most) (ho1 : W.ownsRow n₀ 9 1 (.slice a1 ys.length c1) ys.length (strV (ys.map (·.2)))) (ho2 : W.ownsRow n₀ 3 1 (.slice a2 ys.length c2) ys.length (natV (ys.map (·.1)))) (hB : Below w.heap.size w W) (hD : w.heap.size ≤ D) (hK : W.heap[D]? = some (.deferred (some []))) :
    TwoR (L.take most) w (.returned (.tuple #[.slice a1 ys.length c1, .slice a2 ys.length c2])) (W.putObj D (.deferred none)) := by
  have o1 := ownsRow_putObj ho1 (.deferred none) hK rfl
  have o2 := ownsRow_putObj ho2 (.deferred none) hK rfl
  obtain ⟨hr1, hn1, hm1⟩ := own_row_at o1
  obtain ⟨hr2, hn2, hm2⟩ := own_row_at o2
  rw [← hall]
  exact ⟨a1, c1, a2, c2, rfl, ⟨hn1, hm1, hn2, hm2⟩, hr1, hr2, hB.trans (belowK_b (w := w) (Nat.le_refl _) W D _ _ hD hK rfl rfl)⟩
set_option maxRecDepth 100000 in
set_option maxHeartbeats 16000000 in
theorem lines17_any (few : CL) (m : Int) (hf : few.length ≤ 6) (hfs : ∀ s ∈ few, s.length ≤ 400) (hm : -9223372036854775808 ≤ m ∧ m ≤ 1000) (most : Nat) (hmost : most ≤ 1100000) (a : Option Addr) (c : Nat) (hcn : few.length ≤ c) (hcm : c ≤ 9223372036854775807) (w : World) (hrow : RowAt w.heap.size w a (strV few)) :
    Calls Try.prog 68 #[.int .i64 m, .slice a few.length c, .int .i64 most] w (TwoR ((linesP few m few.length).take most) w) := by
  have CA := Lib.hid (fun W => wlines_any m a few.length c W)
  obtain ⟨i0, hi, hz0, hz1, hz2⟩ := info_parts infoStrc
  obtain ⟨j0, hj, hy0, hy1, hy2⟩ := info_parts infoIntL
  have hfn : ∀ (fn : Fn) (a b : Array Value) (w : World), (binOp .eql 97 (.func fn a b) .nilFunc).run Try.prog w = .ok (.bool false) w := fun _ _ _ _ => by kernel_rfl
  refine (callsIn_wide (n := 9)).1 ?_
  have h1 : 1 ≤ 9 := by omega
  refine callsIn_of_wp_marks Try.func68 rfl trivial ?_ rfl
  simp only [Try.ntmps68, List.size_toArray, List.length_cons, List.length_nil, Nat.reduceAdd, Nat.reduceSub, Array.replicate_succ, Array.replicate_zero, List.push_toArray, List.append_toArray, List.nil_append, List.cons_append]
  gi_wp2_with (refine ⟨trivial, ?_⟩; gi_at_call 111; refine (callsIn_wide.2 (CA.out _)).mono ?_; rintro e w2 ⟨rfl, hw2⟩)
  obtain ⟨X, hX⟩ : ∃ X, ((w.alloc (.cells #[.int .i64 most] 3)).alloc (.cells #[.slice none 0 0] 23)).alloc (.cells #[.slice none 0 0] 73) = X := ⟨_, rfl⟩
  have p0 : Boxed X w.heap.size 3 (.int .i64 most) := hX ▸ ((Boxed.new w _ _).alloc _).alloc _
  have p1 : Boxed X (w.heap.size + 1) 23 (.slice none 0 0) := by
    have := (Boxed.new (w.alloc (.cells #[.int .i64 most] 3)) 23 (.slice none 0 0)).alloc (.cells #[.slice none 0 0] 73)
    rw [hX, World.size_alloc] at this; exact this
  have p2 : Boxed X (w.heap.size + 1 + 1) 73 (.slice none 0 0) := by
    have := Boxed.new ((w.alloc (.cells #[.int .i64 most] 3)).alloc (.cells #[.slice none 0 0] 23)) 73 (.slice none 0 0)
    rw [hX, World.size_alloc, World.size_alloc] at this; exact this
  have hsX : X.heap.size = w.heap.size + 1 + 1 + 1 := by rw [← hX]; simp
  have hbX : Below w.heap.size w X := hX ▸ (((Below.refl _ _).alloc (Nat.le_refl _) _).alloc (by simp) _).alloc (by simp; omega) _
  rw [hX] at hw2
  clear hX
  obtain ⟨Y, hY⟩ : ∃ Y, X.alloc (.cells #[.int .i64 m] 3) = Y := ⟨_, rfl⟩
  have hsY : Y.heap.size = w.heap.size + 1 + 1 + 1 + 1 := by rw [← hY]; simp [hsX]
  have q0 : Boxed Y (w.heap.size + 1 + 1 + 1) 3 (.int .i64 m) := by have := Boxed.new X 3 (.int .i64 m); rw [hY, hsX] at this; exact this
  replace p0 : Boxed Y _ _ _ := hY ▸ p0.alloc _
  replace p1 : Boxed Y _ _ _ := hY ▸ p1.alloc _
  replace p2 : Boxed Y _ _ _ := hY ▸ p2.alloc _
  have hbY : Below w.heap.size w Y := hY ▸ hbX.alloc (by omega) _
  rw [hY] at hw2
  clear hY hbX
  have q1 : Boxed w2 (w.heap.size + 1 + 1 + 1 + 1) 23 (.slice a few.length c) := by have := Boxed.new Y 23 (.slice a few.length c); rw [hw2, hsY] at this; exact this
  have hs2 : w2.heap.size = w.heap.size + 1 + 1 + 1 + 1 + 1 := by rw [← hw2]; simp [hsY]
  replace q0 : Boxed w2 _ _ _ := hw2 ▸ q0.alloc _
  replace p0 : Boxed w2 _ _ _ := hw2 ▸ p0.alloc _
  replace p1 : Boxed w2 _ _ _ := hw2 ▸ p1.alloc _
  replace p2 : Boxed w2 _ _ _ := hw2 ▸ p2.alloc _
  have hb2 : Below w.heap.size w w2 := hw2 ▸ hbY.alloc (by omega) _
  clear hw2 hbY
  obtain ⟨Bf, off, hBf, hcells⟩ : ∃ Bf off, Bf ≤ w.heap.size ∧ ∀ k, k < few.length → a = some ⟨Bf, off, none⟩ ∧ w2.cell? ⟨Bf, off + k, none⟩ = some (.string (S (nth [] few k))) := by
    by_cases h0 : 0 < few.length
    · obtain ⟨b, o, rfl, hb, _⟩ := strs_at hrow 0 h0
      refine ⟨b, o, by omega, fun k hk => ⟨rfl, ?_⟩⟩
      obtain ⟨b', o', e, hb', hc'⟩ := strs_at hrow k hk
      simp only [Option.some.injEq, Addr.mk.injEq] at e
      obtain ⟨rfl, rfl, _⟩ := e
      exact (hb2.cell (p := ⟨b, o + k, none⟩) hb').trans hc'
    · exact ⟨w.heap.size, 0, Nat.le_refl _, fun k hk => by omega⟩
  clear hrow
  have HCELLS := Lib.hid hcells
  have hseq := lines1_seq few m hf hfs hm (w.heap.size + 1 + 1 + 1) (w.heap.size + 1 + 1 + 1 + 1) Bf off c a hcn hcm w2 (by omega) (by omega) (by omega) q0.cell q1.cell hcells (9 - 1) (by omega)
  have HSEQ := Lib.hid hseq
  clear hseq hcells q0 q1
  refine wpIn_rangeFunc_GS rfl h1 (gf := 134) (lb := #[.pointer (some ⟨w.heap.size + 1 + 1 + 1 + 1, 0, none⟩), .pointer (some ⟨w.heap.size + 1 + 1 + 1, 0, none⟩)]) (by first | rfl | simp [hsX, hsY]) trivial (enters_of Try.func134 (by kernel_rfl) rfl)
    HSEQ.out K3.trans (K3.put (by omega) (by omega) (by omega)) (Below.refl _ _) (fun _ => rfl)
    (LI w w2.heap.size most)
    (fun g cd pre W => ∃ q x, cd = .exit 0 ∧ pre = q ++ [x] ∧ q.length = most ∧ LI w w2.heap.size most g q W)
    (fun g => LI.own (by omega))
    (fun g cd s X Y row hs hg hr => by obtain ⟨q, x, e1, e2, e3, h⟩ := hs; exact ⟨q, x, e1, e2, e3, LI.own (by omega) q X Y row h hg hr⟩)
    (fun g g' pre W h hg => h.sw hg)
    (fun g x => ghost_ownN _ g)
    (fun g hg => ⟨⟨_, _, p1, p2, World.ownsRow_nil _ _ _ _, World.ownsRow_nil _ _ _ _, by simp [Value.ownBlock], by simp [Value.ownBlock]⟩, ⟨by simp, p0⟩, hb2⟩)
    ?_ ?_ ?_ ?_ ?_
  rotate_left 1
  · intro Lq x W K hK
    dsimp only [encN]
    gi_wp2
    exact hK
  · rintro Lq g pre x W hLq1 hLq2 hg ⟨⟨v, u, r1, r2, ho1, ho2, hvg, hug⟩, ⟨hpm, r0⟩, hB⟩ ⟨hpx, cur, hcur⟩ hpl
    obtain ⟨a1, c1, rfl⟩ := own_slice ho1
    obtain ⟨a2, c2, rfl⟩ := own_slice ho2
    have hc0 := r0.cell
    have hc1 := r1.cell
    by_cases hge : pre.length = most
    · have hd : (most : Int) ≤ (pre.length : Int) := by omega
      have Hge := Lib.hid hge
      clear hge hpx
      gi_wp2
      exact ⟨KeepsFrom.refl _ _, pre, x, rfl, rfl, Hge.out, ⟨⟨_, _, r1, r2, ho1, ho2, hvg, hug⟩, ⟨hpm, r0⟩, hB⟩⟩
    · have hd : (pre.length : Int) < (most : Int) := by omega
      have hgl := (Array.getElem?_eq_some_iff.1 hcur).1
      have hwl := hB.size
      have hnl : w2.heap.size ≤ W.heap.size := by omega
      have hq0 : LQ w w2.heap.size most g (.slice a1 pre.length c1) (.slice a2 pre.length c2) W W (.slice a1 pre.length c1) (.slice a2 pre.length c2) (strV (pre.map (·.2))) (natV (pre.map (·.1))) :=
        ⟨But.refl _ _ _, rfl, hgl, r1, r2, r0, by rw [strV_len, List.length_map]; exact ho1, by rw [natV_len, List.length_map]; exact ho2, hvg, hug, by omega, hnl⟩
      have hs1 : strV ((pre ++ [x]).map (·.2)) = strV (pre.map (·.2)) ++ [.string (S x.2)] := by rw [List.map_append]; exact strV_snoc _ _
      have hs2' : natV ((pre ++ [x]).map (·.1)) = natV (pre.map (·.1)) ++ [.int .i64 (x.1 : Nat)] := by unfold natV; rw [List.map_append, List.map_append]; rfl
      have hpm1 : (pre ++ [x]).length ≤ most := by rw [List.length_append]; simp; omega
      have HFIN := Lib.hid (fun (v u : Value) (W3 W' : World) (h : LQ w w2.heap.size most g (.slice a1 pre.length c1) (.slice a2 pre.length c2) W W3 v u (strV (pre.map (·.2)) ++ [.string (S x.2)]) (natV (pre.map (·.1)) ++ [.int .i64 (x.1 : Nat)])) (hW' : (W3.setCell ⟨w.heap.size + 1, 0, none⟩ v).setCell ⟨w.heap.size + 1 + 1, 0, none⟩ u = W') (mq : Nat) =>
        LQ.fin (pre := pre ++ [x]) (w.heap.size + 1 + 1 + 1) (w.heap.size + 1 + 1 + 1 + 1) Bf (by rw [hs1, hs2']; exact h) (by omega) (by omega) (by omega) hB hpm1 (by omega) W' hW' mq)
      obtain ⟨p, hp⟩ : ∃ p, p = strV (pre.map (·.2)) := ⟨_, rfl⟩
      obtain ⟨q, hq⟩ : ∃ q, q = natV (pre.map (·.1)) := ⟨_, rfl⟩
      have hpl1 : p.length = pre.length := by rw [hp, strV_len, List.length_map]
      have hql1 : q.length = pre.length := by rw [hq, natV_len, List.length_map]
      rw [← hp, ← hq] at hq0 HFIN
      obtain ⟨s, hs⟩ : ∃ s, s = x.2 := ⟨_, rfl⟩
      obtain ⟨i, hi'⟩ : ∃ i, i = x.1 := ⟨_, rfl⟩
      rw [← hs, ← hi'] at HFIN ⊢
      have HPL := Lib.hid hpl1
      have HQL := Lib.hid hql1
      clear hs hi' hp hq hs1 hs2' hpm1 hge hpx hcur hpl1 hql1 ho1 ho2 r0 r1 r2 hvg hug p0 p1 p2
      gi_wp2_with fail
      clear hc0 hc1
      have hq1 := hq0.drew
      obtain ⟨W1, hW1⟩ : ∃ W1, W.drew = W1 := ⟨_, rfl⟩
      rw [hW1] at hq1
      refine wpIn_region_tree (l₀ := some Lq) (fun j y y' => (j ∉ [8, 9] → y.cell? ⟨w.heap.size + 1, 0, none⟩ = some (.slice a1 pre.length c1) → y'.cell? ⟨w.heap.size + 1, 0, none⟩ = some (.slice a1 pre.length c1)) ∧ (j ∉ [9] → y.cell? ⟨w.heap.size + 1 + 1, 0, none⟩ = some (.slice a2 pre.length c2) → y'.cell? ⟨w.heap.size + 1 + 1, 0, none⟩ = some (.slice a2 pre.length c2))) (by kernel_rfl) (by kernel_rfl) (fun _ _ h => h) ?_
      rw [hW1]
      clear hq0 hW1
      simp only [List.size_toArray, List.length_cons, List.length_nil, Nat.reduceAdd]
      refine' wpAnyY_read 0 (fun w' => w'.cell? ⟨w.heap.size + 1, 0, none⟩ = some (.slice a1 pre.length c1)) [8, 9] (v := _) (by kernel_rfl) (fun _ _ d _ _ h => by cases d <;> exact h) (by kernel_rfl) rfl (fun j y y' hj h hs => h.1 hj hs) (fun _ => ⟨fun _ h => h, fun _ h => h⟩) hq1.b1.cell rfl ?_ ?_
      rotate_left 1
      · intro w' hw'; go_simp; try with_reducible rfl
      try simp only [Act.put, List.setIfInBounds_toArray, List.set_cons_zero, List.set_cons_succ]
      refine' wpAnyY_read 1 (fun _ => True) [] (v := _) (by kernel_rfl) (fun _ _ d _ _ h => by cases d <;> exact h) (by kernel_rfl) rfl (fun _ _ _ _ _ _ => trivial) (fun _ => ⟨fun _ h => h, fun _ h => h⟩) trivial rfl ?_ ?_
      rotate_left 1
      · intro w' hw'; go_simp; try with_reducible rfl
      try simp only [Act.put, List.setIfInBounds_toArray, List.set_cons_zero, List.set_cons_succ]
      refine' wpAnyY_read 4 (fun w' => w'.cell? ⟨w.heap.size + 1 + 1, 0, none⟩ = some (.slice a2 pre.length c2)) [9] (v := _) (by kernel_rfl) (fun _ _ d _ _ h => by cases d <;> exact h) (by kernel_rfl) rfl (fun j y y' hj h hs => h.2 hj hs) (fun _ => ⟨fun _ h => h, fun _ h => h⟩) hq1.b2.cell rfl ?_ ?_
      rotate_left 1
      · intro w' hw'; go_simp; try with_reducible rfl
      try simp only [Act.put, List.setIfInBounds_toArray, List.set_cons_zero, List.set_cons_succ]
      refine' wpAnyY_read 5 (fun _ => True) [] (v := _) (by kernel_rfl) (fun _ _ d _ _ h => by cases d <;> exact h) (by kernel_rfl) rfl (fun _ _ _ _ _ _ => trivial) (fun _ => ⟨fun _ h => h, fun _ h => h⟩) trivial rfl ?_ ?_
      rotate_left 1
      · intro w' hw'; go_simp; try with_reducible rfl
      try simp only [Act.put, List.setIfInBounds_toArray, List.set_cons_zero, List.set_cons_succ]
      refine wpAnyY_two (i := 2) (j := 6) (by kernel_rfl) rfl rfl (fun K hK => ?_) (fun K hK => ?_)
      · go_wp2
        have h1 := hq1.alloc (.cells #[.string (S s)] 9)
        have t2 := Boxed.new W1 9 (.string (S s))
        refine hK _ _ ⟨fun _ _ => h1.b1.cell, fun _ _ => h1.b2.cell⟩ ?_
        clear hK K
        generalize hg1 : W1.alloc (.cells #[.string (S s)] 9) = X1 at h1 t2 ⊢
        clear hg1
        refine wpAnyY_two (i := 3) (j := 6) (by kernel_rfl) rfl rfl (fun K hK => ?_) (fun K hK => ?_)
        · simp only [List.getElem_toArray, List.getElem_cons_succ, List.getElem_cons_zero]
          have hn2 := boxed_news t2
          go_wp2_with (at_builtin; refine wpList_append_own_at _ rfl _ _ 23 rfl w2.heap.size 9 i0 (.string ⟨#[]⟩) 1 16 Try.underlying23 hi hz0 hz1 hz2 rfl (by decide) _ _ _ rfl h1.ov _ 1 1 [.string (S s)] rfl rfl hn2 (by simp [Value.oneCell']) (by unfold maxLen; have := HPL.out; omega) (by have := HPL.out; omega) h1.nl.2 ?_; intro v' Y hov hgrow _ hob)
          have h2 := h1.appV hgrow hov hob
          obtain ⟨gv, cv, rfl⟩ := ownsRow_succ hov
          refine hK _ _ ⟨fun _ _ => h2.b1.cell, fun _ _ => h2.b2.cell⟩ ?_
          clear hK K hgrow hov hob hn2
          refine wpAnyY_one (i := 6) (by kernel_rfl) rfl (fun K hK => ?_)
          go_wp2
          have h3 := h2.alloc (.cells #[.int .i64 (i : Nat)] 3)
          have t6 := Boxed.new Y 3 (.int .i64 (i : Nat))
          refine hK _ _ ⟨fun _ _ => h3.b1.cell, fun _ _ => h3.b2.cell⟩ ?_
          clear hK K
          generalize hg3 : Y.alloc (.cells #[.int .i64 (i : Nat)] 3) = X3 at h3 t6 ⊢
          clear hg3
          refine wpAnyY_one (i := 7) (by kernel_rfl) rfl (fun K hK => ?_)
          simp only [List.getElem_toArray, List.getElem_cons_succ, List.getElem_cons_zero]
          have hn6 := boxed_news t6
          go_wp2_with (at_builtin; refine wpList_append_own_at _ rfl _ _ 73 rfl w2.heap.size 3 j0 (.int .i64 0) 1 8 Try.underlying73 hj hy0 hy1 hy2 rfl (by decide) _ _ _ rfl h3.ou _ 1 1 [.int .i64 (i : Nat)] rfl rfl hn6 (by simp [Value.oneCell']) (by unfold maxLen; have := HQL.out; omega) (by have := HQL.out; omega) h3.nl.2 ?_; intro u' Z hou hgrow _ hob)
          have h4 := h3.appU hgrow hou hob h3.ne
          obtain ⟨gu, cu, rfl⟩ := ownsRow_succ hou
          refine hK _ _ ⟨fun _ _ => h4.b1.cell, fun _ _ => h4.b2.cell⟩ ?_
          clear hK K hgrow hou hob hn6
          refine wpAnyY_one (i := 8) (by kernel_rfl) rfl (fun K hK => ?_)
          have c8 := h4.b1.cell
          have f8 := h4.b1.frozen
          go_wp2
          have b9 := boxed_put h4.b2 (k := w.heap.size + 1) (by omega) (.slice (some ⟨gv, 0, none⟩) (p.length + 1) cv)
          have c9 := b9.cell
          have f9 := b9.frozen
          refine hK _ _ ⟨fun hn => absurd (by decide) hn, fun _ _ => c9⟩ ?_
          clear hK K c8 f8
          refine wpAnyY_one (i := 9) (by kernel_rfl) rfl (fun K hK => ?_)
          go_wp2
          refine hK _ _ ⟨fun hn => absurd (by decide) hn, fun hn => absurd (by decide) hn⟩ (wpAnyY_end (by kernel_rfl) ?_)
          clear hK K c9 f9 b9
          exact HFIN.out _ _ _ _ h4 rfl _
        · go_wp2
          have h2 := h1.alloc (.cells #[.int .i64 (i : Nat)] 3)
          have t6 := Boxed.new X1 3 (.int .i64 (i : Nat))
          replace t2 := t2.alloc (.cells #[.int .i64 (i : Nat)] 3)
          refine hK _ _ ⟨fun _ _ => h2.b1.cell, fun _ _ => h2.b2.cell⟩ ?_
          clear hK K
          generalize hg2 : X1.alloc (.cells #[.int .i64 (i : Nat)] 3) = X2 at h2 t6 t2 ⊢
          clear hg2
          refine wpAnyY_one (i := 3) (by kernel_rfl) rfl (fun K hK => ?_)
          simp only [List.getElem_toArray, List.getElem_cons_succ, List.getElem_cons_zero]
          have hn2 := boxed_news t2
          go_wp2_with (at_builtin; refine wpList_append_own_at _ rfl _ _ 23 rfl w2.heap.size 9 i0 (.string ⟨#[]⟩) 1 16 Try.underlying23 hi hz0 hz1 hz2 rfl (by decide) _ _ _ rfl h2.ov _ 1 1 [.string (S s)] rfl rfl hn2 (by simp [Value.oneCell']) (by unfold maxLen; have := HPL.out; omega) (by have := HPL.out; omega) h2.nl.2 ?_; intro v' Y hov hgrow _ hob)
          have h3 := h2.appV hgrow hov hob
          replace t6 := t6.kept hgrow (t6.not_row (by decide) h2.ov)
          obtain ⟨gv, cv, rfl⟩ := ownsRow_succ hov
          refine hK _ _ ⟨fun _ _ => h3.b1.cell, fun _ _ => h3.b2.cell⟩ ?_
          clear hK K hgrow hov hob hn2
          refine wpAnyY_one (i := 7) (by kernel_rfl) rfl (fun K hK => ?_)
          simp only [List.getElem_toArray, List.getElem_cons_succ, List.getElem_cons_zero]
          have hn6 := boxed_news t6
          go_wp2_with (at_builtin; refine wpList_append_own_at _ rfl _ _ 73 rfl w2.heap.size 3 j0 (.int .i64 0) 1 8 Try.underlying73 hj hy0 hy1 hy2 rfl (by decide) _ _ _ rfl h3.ou _ 1 1 [.int .i64 (i : Nat)] rfl rfl hn6 (by simp [Value.oneCell']) (by unfold maxLen; have := HQL.out; omega) (by have := HQL.out; omega) h3.nl.2 ?_; intro u' Z hou hgrow _ hob)
          have h4 := h3.appU hgrow hou hob h3.ne
          obtain ⟨gu, cu, rfl⟩ := ownsRow_succ hou
          refine hK _ _ ⟨fun _ _ => h4.b1.cell, fun _ _ => h4.b2.cell⟩ ?_
          clear hK K hgrow hou hob hn6
          refine wpAnyY_one (i := 8) (by kernel_rfl) rfl (fun K hK => ?_)
          have c8 := h4.b1.cell
          have f8 := h4.b1.frozen
          go_wp2
          have b9 := boxed_put h4.b2 (k := w.heap.size + 1) (by omega) (.slice (some ⟨gv, 0, none⟩) (p.length + 1) cv)
          have c9 := b9.cell
          have f9 := b9.frozen
          refine hK _ _ ⟨fun hn => absurd (by decide) hn, fun _ _ => c9⟩ ?_
          clear hK K c8 f8
          refine wpAnyY_one (i := 9) (by kernel_rfl) rfl (fun K hK => ?_)
          go_wp2
          refine hK _ _ ⟨fun hn => absurd (by decide) hn, fun hn => absurd (by decide) hn⟩ (wpAnyY_end (by kernel_rfl) ?_)
          clear hK K c9 f9 b9
          exact HFIN.out _ _ _ _ h4 rfl _
      · go_wp2
        have h1 := hq1.alloc (.cells #[.int .i64 (i : Nat)] 3)
        have t6 := Boxed.new W1 3 (.int .i64 (i : Nat))
        refine hK _ _ ⟨fun _ _ => h1.b1.cell, fun _ _ => h1.b2.cell⟩ ?_
        clear hK K
        generalize hg1 : W1.alloc (.cells #[.int .i64 (i : Nat)] 3) = X1 at h1 t6 ⊢
        clear hg1
        refine wpAnyY_one (i := 2) (by kernel_rfl) rfl (fun K hK => ?_)
        go_wp2
        have h2 := h1.alloc (.cells #[.string (S s)] 9)
        have t2 := Boxed.new X1 9 (.string (S s))
        replace t6 := t6.alloc (.cells #[.string (S s)] 9)
        refine hK _ _ ⟨fun _ _ => h2.b1.cell, fun _ _ => h2.b2.cell⟩ ?_
        clear hK K
        generalize hg2 : X1.alloc (.cells #[.string (S s)] 9) = X2 at h2 t2 t6 ⊢
        clear hg2
        refine wpAnyY_one (i := 3) (by kernel_rfl) rfl (fun K hK => ?_)
        simp only [List.getElem_toArray, List.getElem_cons_succ, List.getElem_cons_zero]
        have hn2 := boxed_news t2
        go_wp2_with (at_builtin; refine wpList_append_own_at _ rfl _ _ 23 rfl w2.heap.size 9 i0 (.string ⟨#[]⟩) 1 16 Try.underlying23 hi hz0 hz1 hz2 rfl (by decide) _ _ _ rfl h2.ov _ 1 1 [.string (S s)] rfl rfl hn2 (by simp [Value.oneCell']) (by unfold maxLen; have := HPL.out; omega) (by have := HPL.out; omega) h2.nl.2 ?_; intro v' Y hov hgrow _ hob)
        have h3 := h2.appV hgrow hov hob
        replace t6 := t6.kept hgrow (t6.not_row (by decide) h2.ov)
        obtain ⟨gv, cv, rfl⟩ := ownsRow_succ hov
        refine hK _ _ ⟨fun _ _ => h3.b1.cell, fun _ _ => h3.b2.cell⟩ ?_
        clear hK K hgrow hov hob hn2
        refine wpAnyY_one (i := 7) (by kernel_rfl) rfl (fun K hK => ?_)
        simp only [List.getElem_toArray, List.getElem_cons_succ, List.getElem_cons_zero]
        have hn6 := boxed_news t6
        go_wp2_with (at_builtin; refine wpList_append_own_at _ rfl _ _ 73 rfl w2.heap.size 3 j0 (.int .i64 0) 1 8 Try.underlying73 hj hy0 hy1 hy2 rfl (by decide) _ _ _ rfl h3.ou _ 1 1 [.int .i64 (i : Nat)] rfl rfl hn6 (by simp [Value.oneCell']) (by unfold maxLen; have := HQL.out; omega) (by have := HQL.out; omega) h3.nl.2 ?_; intro u' Z hou hgrow _ hob)
        have h4 := h3.appU hgrow hou hob h3.ne
        obtain ⟨gu, cu, rfl⟩ := ownsRow_succ hou
        refine hK _ _ ⟨fun _ _ => h4.b1.cell, fun _ _ => h4.b2.cell⟩ ?_
        clear hK K hgrow hou hob hn6
        refine wpAnyY_one (i := 8) (by kernel_rfl) rfl (fun K hK => ?_)
        have c8 := h4.b1.cell
        have f8 := h4.b1.frozen
        go_wp2
        have b9 := boxed_put h4.b2 (k := w.heap.size + 1) (by omega) (.slice (some ⟨gv, 0, none⟩) (p.length + 1) cv)
        have c9 := b9.cell
        have f9 := b9.frozen
        refine hK _ _ ⟨fun hn => absurd (by decide) hn, fun _ _ => c9⟩ ?_
        clear hK K c8 f8
        refine wpAnyY_one (i := 9) (by kernel_rfl) rfl (fun K hK => ?_)
        go_wp2
        refine hK _ _ ⟨fun hn => absurd (by decide) hn, fun hn => absurd (by decide) hn⟩ (wpAnyY_end (by kernel_rfl) ?_)
        clear hK K c9 f9 b9
        exact HFIN.out _ _ _ _ h4 rfl _
  · rintro D g ys W hD rfl ⟨⟨v, u, r1, r2, ho1, ho2, _, _⟩, ⟨hpm, r0⟩, hB⟩ hK
    obtain ⟨a1, c1, rfl⟩ := own_slice ho1
    obtain ⟨a2, c2, rfl⟩ := own_slice ho2
    have hc1 := r1.cell
    have hc2 := r2.cell
    have HT := Lib.hid ((List.take_of_length_le hpm).symm)
    have HF := Lib.hid (lines_fin (W := W.drew) (L := linesP few m few.length) (most := most) HT.out (own_far ho1 (row := none) ⟨rfl, rfl, rfl, Nat.le_refl _, fun _ _ _ => rfl⟩ (fun k e => by cases e)) (own_far ho2 (row := none) ⟨rfl, rfl, rfl, Nat.le_refl _, fun _ _ _ => rfl⟩ (fun k e => by cases e)) hB.drew (by omega : w.heap.size ≤ D) hK)
    have hKd : W.drew.heap[D]? = some (.deferred (some [])) := hK
    gi_wp2
    gi_region
    gi_wp2
    refine ⟨by simp, .inl ⟨_, _, rfl, run_takeDeferred hKd, ?_⟩⟩
    refine ⟨_, results_tmp2 rfl _ _ _, ?_⟩
    exact HF.out
  · rintro D g cd pre W hD hpre ⟨ys, x, rfl, rfl, hym, ⟨v, u, r1, r2, ho1, ho2, _, _⟩, ⟨hpm, r0⟩, hB⟩ hK
    obtain ⟨a1, c1, rfl⟩ := own_slice ho1
    obtain ⟨a2, c2, rfl⟩ := own_slice ho2
    have hc1 := r1.cell
    have hc2 := r2.cell
    have hall : ys = (linesP few m few.length).take most := by
      have h2 : ys <+: linesP few m few.length := (List.prefix_append ys [x]).trans hpre
      rw [← hym]
      exact List.prefix_iff_eq_take.1 h2
    have HF := Lib.hid (lines_fin (W := W.drew) (L := linesP few m few.length) (most := most) hall (own_far ho1 (row := none) ⟨rfl, rfl, rfl, Nat.le_refl _, fun _ _ _ => rfl⟩ (fun k e => by cases e)) (own_far ho2 (row := none) ⟨rfl, rfl, rfl, Nat.le_refl _, fun _ _ _ => rfl⟩ (fun k e => by cases e)) hB.drew (by omega : w.heap.size ≤ D) hK)
    have HY := Lib.hid hym
    clear hall hpre hym
    have hKd : W.drew.heap[D]? = some (.deferred (some [])) := hK
    gi_wp2
    gi_region
    gi_wp2
    refine ⟨by simp, .inl ⟨_, _, rfl, run_takeDeferred hKd, ?_⟩⟩
    refine ⟨_, results_tmp2 rfl _ _ _, ?_⟩
    exact HF.out
end Go.Proofs.Ytmdpmjabjijjiaa
