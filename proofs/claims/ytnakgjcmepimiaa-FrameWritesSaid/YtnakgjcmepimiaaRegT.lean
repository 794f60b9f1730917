/- A region that draws its order: reads are taken where they stand ready and free; of the acts, each that may come next. R i: what operation i must keep, so that the reads that may still come are true. No condition. -/
import Derived.Test.YtnakgjcmepimiaaRegZ
namespace Go.Proofs.Ytnakgjcmepimiaa
set_option linter.unusedVariables false
set_option linter.unusedSimpArgs false
section
variable {P : Program} {ops : Array Oper} {Q : Exit → Act → World → Prop} {md : Region.Mode} {R : Nat → World → World → Prop}
def wpAnyY (P : Program) (md : Region.Mode) (ops : Array Oper) (Q : Exit → Act → World → Prop) (R : Nat → World → World → Prop) : Nat → Array Bool → Act → World → Prop
  | 0, listed, a, w => Region.ready md ops listed = [] ∧ Q .normal a w
  | fuel + 1, listed, a, w =>
    (Region.ready md ops listed = [] → Q .normal a w) ∧
    ∀ i ∈ Region.ready md ops listed, wpOp P ops Q i (fun a' w' => R i w w' ∧ wpAnyY P md ops Q R fuel (listed.setIfInBounds i true) a' w') a w
theorem wpAny_of_Y : ∀ (fuel : Nat) (listed : Array Bool) (a : Act) (w : World), wpAnyY P md ops Q R fuel listed a w → wpAny P md ops Q fuel listed a w
  | 0, _, _, _, h => h
  | fuel + 1, _, _, _, h => ⟨h.1, fun i hi => wpOp_mono (fun a' w' h' => wpAny_of_Y fuel _ a' w' h'.2) (h.2 i hi)⟩
theorem wpAnyY_first {S : World → Prop} {i : Nat} {oi : Oper} {v : Value} (hi : ops[i]? = some oi) (hsel : ∀ (j : Nat) (o : Oper) cs b, ops[j]? = some o → o.op ≠ .select cs b)
    (hQ : ∀ c a w, Q (.panic c) (a.put oi.dst v) w → Q (.panic c) a w) (hz : ∀ j oj w w', ops[j]? = some oj → (∀ e ∈ oj.after, Region.binds md e = true → e.on ≠ i) → R j w w' → S w → S w') :
    ∀ (fuel : Nat) (listed : Array Bool) (a : Act) (w : World),
      (∀ j oj, ops[j]? = some oj → j ≠ i → listed.getD j true = false → (∀ e ∈ oj.after, Region.binds md e = true → e.on ≠ i) → oi.apart ops oj = true) →
      i ∈ Region.ready md ops listed → YieldsIf P ops S oi v a → S w → (∀ w, R i w w) →
      wpAnyY P md ops Q R fuel (listed.setIfInBounds i true) (a.put oi.dst v) w → wpAnyY P md ops Q R (fuel + 1) listed a w := by
  intro fuel
  induction fuel with
  | zero =>
    intro listed a w _ hr hy hS hRi H
    refine ⟨fun h => (by rw [h] at hr; cases hr), fun j hj => ?_⟩
    by_cases hji : j = i
    · subst hji; exact hy.wpOp hi hS ⟨hRi _, H⟩
    · have := ready_mono hj hji
      rw [H.1] at this
      cases this
  | succ fuel ih =>
    intro listed a w hfree hr hy hS hRi H
    refine ⟨fun h => (by rw [h] at hr; cases hr), fun j hj => ?_⟩
    by_cases hji : j = i
    · subst hji; exact hy.wpOp hi hS ⟨hRi _, H⟩
    · have h1 := H.2 j (ready_mono hj hji)
      obtain ⟨hjun, oj, hoj, hall⟩ := mem_ready.1 hj
      have hnot : ∀ e ∈ oj.after, Region.binds md e = true → e.on ≠ i := fun e he hb heq => by
        have h1 := hall e he hb
        have h0 := (mem_ready.1 hr).1
        rw [heq] at h1
        rcases Nat.lt_or_ge i listed.size with h' | h'
        · simp [h'] at h0 h1; rw [h0] at h1; cases h1
        · simp [Array.getElem?_eq_none h'] at h1
      have hjz := hz j oj
      have h2 := wpOp_putIf hoj (hfree j oj hoj hji hjun hnot) (fun cs b => hsel i oi cs b hi) (fun cs b => hsel j oj cs b hoj) hQ hy h1
      have hfree' : ∀ k ok, ops[k]? = some ok → k ≠ i → (listed.setIfInBounds j true).getD k true = false →
          (∀ e ∈ ok.after, Region.binds md e = true → e.on ≠ i) → oi.apart ops ok = true := fun k ok hk hki hun hno => by
        refine hfree k ok hk hki ?_ hno
        by_cases hjk : j = k
        · subst hjk; exact hjun
        · rw [getD_set_ne true hjk] at hun; exact hun
      refine wpOp_mono (fun a' w' h3 => ⟨h3.2.1, ih (listed.setIfInBounds j true) a' w' hfree' (ready_mono hr (Ne.symm hji)) h3.1 (hjz w w' hoj hnot h3.2.1 hS) hRi ?_⟩) h2
      rw [Array.setIfInBounds_comm _ _ hji]
      exact h3.2.2
/-- One read, taken first; the acts of zs wait for it, behind all others what it reads abides. -/
theorem wpAnyY_read (i : Nat) (S : World → Prop) (zs : List Nat) {oi : Oper} {v : Value} {fuel : Nat} {listed : Array Bool} {a : Act} {w : World} (hs : Region.noSelect ops = true) (hQ : ∀ c a d v w, Q (.panic c) (Act.put a d v) w → Q (.panic c) a w)
    (hB : ((Region.ready md ops listed).contains i && (Region.free md ops listed i && zs.all fun z => waitsB md ops z i)) = true) (hi : ops[i]? = some oi) (hR : ∀ j w w', j ∉ zs → R j w w' → S w → S w') (hRi : ∀ w, R i w w) (hS : S w)
    (hw : Region.wanted oi (yielded ops a.tmps) = true) (hy : ∀ w, S w → (execOp a.eval oi).run P w = .ok (.value v) w)
    (h : wpAnyY P md ops Q R fuel (listed.setIfInBounds i true) (a.put oi.dst v) w) : wpAnyY P md ops Q R (fuel + 1) listed a w := by
  simp only [Bool.and_eq_true, List.all_eq_true] at hB
  obtain ⟨h1, h2, h3⟩ := hB
  refine wpAnyY_first hi (Region.noSelect_spec hs) (fun c a w => hQ c a _ _ w) (fun j oj w w' hoj hnot hr hs => hR j w w' (fun hjz => ?_) hr hs) _ _ _ _ (Region.free_spec hi h2) (by simpa using h1) (.inl ⟨hw, hy⟩) hS hRi h
  obtain ⟨e, he, hb, heq⟩ := waitsB_spec (h3 j hjz) oj hoj
  exact hnot e he hb heq
/-- One act, which must come next. -/
theorem wpAnyY_one {i : Nat} {oi : Oper} {fuel : Nat} {listed : Array Bool} {a : Act} {w : World} (hr : Region.ready md ops listed = [i]) (hi : ops[i]? = some oi)
    (h : ∀ K : Act → World → Prop, (∀ a w', R i w w' → wpAnyY P md ops Q R fuel (listed.setIfInBounds i true) a w' → K a w') → wpList P ops (Exit.then K Q) [oi] a w) : wpAnyY P md ops Q R (fuel + 1) listed a w := by
  refine ⟨fun h1 => (by rw [hr] at h1; cases h1), fun j hj => ?_⟩
  rw [hr] at hj
  obtain rfl : j = i := by simpa using hj
  exact wpOp_of_list hi (h _ fun _ _ h1 h2 => ⟨h1, h2⟩)
/-- Two acts, either of which may come next. -/
theorem wpAnyY_two {i j : Nat} {oi oj : Oper} {fuel : Nat} {listed : Array Bool} {a : Act} {w : World} (hr : Region.ready md ops listed = [i, j]) (hi : ops[i]? = some oi) (hj : ops[j]? = some oj)
    (h1 : ∀ K : Act → World → Prop, (∀ a w', R i w w' → wpAnyY P md ops Q R fuel (listed.setIfInBounds i true) a w' → K a w') → wpList P ops (Exit.then K Q) [oi] a w)
    (h2 : ∀ K : Act → World → Prop, (∀ a w', R j w w' → wpAnyY P md ops Q R fuel (listed.setIfInBounds j true) a w' → K a w') → wpList P ops (Exit.then K Q) [oj] a w) : wpAnyY P md ops Q R (fuel + 1) listed a w := by
  refine ⟨fun h => (by rw [hr] at h; cases h), fun k hk => ?_⟩
  rw [hr] at hk
  simp only [List.mem_cons, List.not_mem_nil, or_false] at hk
  rcases hk with rfl | rfl
  · exact wpOp_of_list hi (h1 _ fun _ _ h3 h4 => ⟨h3, h4⟩)
  · exact wpOp_of_list hj (h2 _ fun _ _ h3 h4 => ⟨h3, h4⟩)
theorem wpAnyY_end {fuel : Nat} {listed : Array Bool} {a : Act} {w : World} (hr : Region.ready md ops listed = []) (h : Q .normal a w) : wpAnyY P md ops Q R fuel listed a w := by
  cases fuel with
  | zero => exact ⟨hr, h⟩
  | succ n => exact ⟨fun _ => h, fun i hi => (by rw [hr] at hi; cases hi)⟩
theorem wpIn_region_tree {id : Nat} {a : Act} {w : World} {l : List Oper} {l₀ : Option Nat} {n : Nat} (R : Nat → World → World → Prop) (hm : P.follows .mixedOrders = true)
    (hd : noDefer l.toArray = true) (ho : ∀ a w, ¬ Q .outgrown a w) (h : wpAnyY P .any l.toArray Q R l.toArray.size (Array.replicate l.toArray.size false) a w.drew) : (Code.region id l.toArray true).wpIn (wideAt l₀) n P Q a w :=
  wpIn_region_any hm (wpAnyIn_of_wpAny ho hd _ _ _ _ (wpAny_of_Y _ _ _ _ h))
theorem wp_region_tree {id : Nat} {a : Act} {w : World} {l : List Oper} (R : Nat → World → World → Prop) (hm : P.follows .mixedOrders = true)
    (h : wpAnyY P .any l.toArray Q R l.toArray.size (Array.replicate l.toArray.size false) a w.drew) : (Code.region id l.toArray true).wp P Q a w :=
  wp_region_any hm (wpAny_of_Y _ _ _ _ h)
end
end Go.Proofs.Ytnakgjcmepimiaa
