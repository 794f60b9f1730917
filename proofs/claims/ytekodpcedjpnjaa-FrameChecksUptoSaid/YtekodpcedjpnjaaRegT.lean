/- A region that draws its order: first operations that read, then acts in one forced order, the last of which may write what was read. No condition. A region that draws its order: operations that read are taken where they stand ready and free; the others one after the other in a forced order, the last of which may write what was read. No condition. A drawn region inside a fence: reads, then acts; boxes and rows that abide. No condition. A region that draws its order: reads are taken where they stand ready and free; of the acts, each that may come next. R i: what operation i must keep, so that the reads that may still come are true. No condition. -/
import Derived.Test.YtekodpcedjpnjaaBase
import Derived.OrdersHeld
import Derived.Deep.RegionHeldLaw
import Derived.Test.YtekodpcedjpnjaaBut
import Derived.RangeFuncBox
import Derived.Maps.OwnIn
namespace Go.Proofs.Ytekodpcedjpnjaa
set_option linter.unusedVariables false
set_option linter.unusedSimpArgs false
section
variable {P : Program} {ops : Array Oper} {Q : Exit → Act → World → Prop} {md : Region.Mode} {S : World → Prop} {z : Nat}
/-- Whatever order is picked from here on; S holds behind every operation but number z. -/
def wpAnyZ (P : Program) (md : Region.Mode) (ops : Array Oper) (Q : Exit → Act → World → Prop) (S : World → Prop) (z : Nat) : Nat → Array Bool → Act → World → Prop
  | 0, listed, a, w => Region.ready md ops listed = [] ∧ Q .normal a w
  | fuel + 1, listed, a, w =>
    (Region.ready md ops listed = [] → Q .normal a w) ∧
    ∀ i ∈ Region.ready md ops listed, wpOp P ops Q i (fun a' w' => (i ≠ z → S w') ∧ wpAnyZ P md ops Q S z fuel (listed.setIfInBounds i true) a' w') a w
theorem wpAny_of_Z : ∀ (fuel : Nat) (listed : Array Bool) (a : Act) (w : World), wpAnyZ P md ops Q S z fuel listed a w → wpAny P md ops Q fuel listed a w
  | 0, _, _, _, h => h
  | fuel + 1, _, _, _, h => ⟨h.1, fun i hi => wpOp_mono (fun a' w' h' => wpAny_of_Z fuel _ a' w' h'.2) (h.2 i hi)⟩
theorem wpAnyZ_first {i : Nat} {oi : Oper} {v : Value} (hi : ops[i]? = some oi) (hsel : ∀ (j : Nat) (o : Oper) cs b, ops[j]? = some o → o.op ≠ .select cs b)
    (hQ : ∀ c a w, Q (.panic c) (a.put oi.dst v) w → Q (.panic c) a w) (hz : ∀ oz, ops[z]? = some oz → ∃ e ∈ oz.after, Region.binds md e = true ∧ e.on = i) :
    ∀ (fuel : Nat) (listed : Array Bool) (a : Act) (w : World),
      (∀ j oj, ops[j]? = some oj → j ≠ i → listed.getD j true = false → (∀ e ∈ oj.after, Region.binds md e = true → e.on ≠ i) → oi.apart ops oj = true) →
      i ∈ Region.ready md ops listed → YieldsIf P ops S oi v a → S w →
      wpAnyZ P md ops Q S z fuel (listed.setIfInBounds i true) (a.put oi.dst v) w → wpAnyZ P md ops Q S z (fuel + 1) listed a w := by
  intro fuel
  induction fuel with
  | zero =>
    intro listed a w _ hr hy hS H
    refine ⟨fun h => (by rw [h] at hr; cases hr), fun j hj => ?_⟩
    by_cases hji : j = i
    · subst hji; exact hy.wpOp hi hS ⟨fun _ => hS, H⟩
    · have := ready_mono hj hji
      rw [H.1] at this
      cases this
  | succ fuel ih =>
    intro listed a w hfree hr hy hS H
    refine ⟨fun h => (by rw [h] at hr; cases hr), fun j hj => ?_⟩
    by_cases hji : j = i
    · subst hji; exact hy.wpOp hi hS ⟨fun _ => hS, H⟩
    · have h1 := H.2 j (ready_mono hj hji)
      obtain ⟨hjun, oj, hoj, hall⟩ := mem_ready.1 hj
      have hnot : ∀ e ∈ oj.after, Region.binds md e = true → e.on ≠ i := fun e he hb heq => by
        have h1 := hall e he hb
        have h0 := (mem_ready.1 hr).1
        rw [heq] at h1
        rcases Nat.lt_or_ge i listed.size with h' | h'
        · simp [h'] at h0 h1; rw [h0] at h1; cases h1
        · simp [Array.getElem?_eq_none h'] at h1
      have hjz : j ≠ z := fun e => by
        subst e
        obtain ⟨e, he, hb, heq⟩ := hz oj hoj
        exact hnot e he hb heq
      have h2 := wpOp_putIf hoj (hfree j oj hoj hji hjun hnot) (fun cs b => hsel i oi cs b hi) (fun cs b => hsel j oj cs b hoj) hQ hy h1
      have hfree' : ∀ k ok, ops[k]? = some ok → k ≠ i → (listed.setIfInBounds j true).getD k true = false →
          (∀ e ∈ ok.after, Region.binds md e = true → e.on ≠ i) → oi.apart ops ok = true := fun k ok hk hki hun hno => by
        refine hfree k ok hk hki ?_ hno
        by_cases hjk : j = k
        · subst hjk; exact hjun
        · rw [getD_set_ne true hjk] at hun; exact hun
      refine wpOp_mono (fun a' w' h3 => ⟨fun _ => h3.2.1 hjz, ih (listed.setIfInBounds j true) a' w' hfree' (ready_mono hr (Ne.symm hji)) h3.1 (h3.2.1 hjz) ?_⟩) h2
      rw [Array.setIfInBounds_comm _ _ hji]
      exact h3.2.2
/-! ### the reads, in the order of the text -/
def wpRead (P : Program) (ops : Array Oper) (S : World → Prop) (K : Act → Prop) : List Oper → Act → Prop
  | [], a => K a
  | o :: rest, a => ∃ v, YieldsIf P ops S o v a ∧ wpRead P ops S K rest (a.put o.dst v)
theorem wpRead_nil {K : Act → Prop} {a : Act} (h : K a) : wpRead P ops S K [] a := h
theorem wpRead_step {K : Act → Prop} {o : Oper} {rest : List Oper} {a : Act} {v : Value} (hw : Region.wanted o (yielded ops a.tmps) = true) (hy : ∀ w, S w → (execOp a.eval o).run P w = .ok (.value v) w)
    (h : wpRead P ops S K rest (a.put o.dst v)) : wpRead P ops S K (o :: rest) a := ⟨v, .inl ⟨hw, hy⟩, h⟩
theorem wpRead_skip {K : Act → Prop} {o : Oper} {rest : List Oper} {a : Act} (hw : Region.wanted o (yielded ops a.tmps) = false)
    (h : wpRead P ops S K rest (a.put o.dst undef)) : wpRead P ops S K (o :: rest) a := ⟨undef, .inr ⟨hw, rfl⟩, h⟩
/-! ### the acts, in their forced order -/
def wpActs (P : Program) (ops : Array Oper) (Q : Exit → Act → World → Prop) (S : World → Prop) : List Oper → Act → World → Prop
  | [], a, w => Q .normal a w
  | [o], a, w => wpList P ops Q [o] a w
  | o :: o' :: rest, a, w => wpList P ops (Exit.then (fun a' w' => S w' ∧ wpActs P ops Q S (o' :: rest) a' w') Q) [o] a w
theorem upon_then {o : Oper} {a : Act} {K next : Act → World → Prop} {r : Result Next} (h : o.upon P a next (Exit.then K Q) r) : o.upon P a next Q r := by
  cases r with
  | ok x w' =>
    cases x with
    | enter f args => exact Calls.mono h (fun e w'' he => by cases e <;> exact he)
    | _ => exact h
  | halt x w' => cases x <;> exact h
theorem wpOp_of_list {i : Nat} {o : Oper} {a : Act} {w : World} {K : Act → World → Prop} (ho : ops[i]? = some o) (h : wpList P ops (Exit.then K Q) [o] a w) : wpOp P ops Q i K a w := by
  unfold wpList at h
  unfold wpOp
  simp only [ho]
  split
  · rename_i hw
    rw [if_pos hw] at h
    rcases h with h | ⟨h1, h2⟩
    · exact .inl (upon_then h)
    · exact .inr ⟨h1, h2⟩
  · rename_i hw
    rw [if_neg hw] at h
    exact h
theorem wpList_then_self {o : Oper} {a : Act} {w : World} (h : wpList P ops Q [o] a w) : wpList P ops (Exit.then (fun a w => Q .normal a w) Q) [o] a w := by
  have e : Exit.then (fun a w => Q .normal a w) Q = Q := by
    funext e a w
    cases e <;> rfl
  rw [e]; exact h
theorem wpAnyZ_acts : ∀ (l : List Oper) (k : Nat) (listed : Array Bool) (a : Act) (w : World), (∀ j, l[j]? = ops[k + j]?) → k + l.length = z + 1 →
    Region.seqB md ops l.length k listed = true → wpActs P ops Q S l a w → wpAnyZ P md ops Q S z l.length listed a w
  | [], _, _, _, _, _, _, hB, h => ⟨by simpa [Region.seqB] using hB, h⟩
  | [o], k, listed, a, w, hl, hk, hB, h => by
    have h0 : ops[k]? = some o := by simpa using (hl 0).symm
    simp only [List.length_cons, List.length_nil, Region.seqB, Bool.and_eq_true, decide_eq_true_eq] at hB
    refine ⟨fun h1 => (by rw [hB.1] at h1; cases h1), fun i hi => ?_⟩
    rw [hB.1] at hi
    obtain rfl : i = k := by simpa using hi
    have hz : i = z := by simpa using hk
    refine wpOp_mono (fun a' w' h' => ⟨fun hne => absurd hz hne, ⟨by simpa [Region.seqB] using hB.2, h'⟩⟩) (wpOp_of_list h0 (wpList_then_self h))
  | o :: o' :: l, k, listed, a, w, hl, hk, hB, h => by
    have h0 : ops[k]? = some o := by simpa using (hl 0).symm
    have hB' : Region.seqB md ops ((o' :: l).length + 1) k listed = true := hB
    simp only [Region.seqB, Bool.and_eq_true, decide_eq_true_eq] at hB'
    refine ⟨fun h1 => (by rw [hB'.1] at h1; cases h1), fun i hi => ?_⟩
    rw [hB'.1] at hi
    obtain rfl : i = k := by simpa using hi
    refine wpOp_mono (fun a' w' h' => ⟨fun _ => h'.1, wpAnyZ_acts (o' :: l) (i + 1) _ a' w' (fun j => by have := hl (j + 1); simpa [Nat.add_assoc, Nat.add_comm 1 j] using this) (by simp at hk ⊢; omega) hB'.2 h'.2⟩) (wpOp_of_list h0 h)
/-- Number z waits for number i. -/
def waitsB (md : Region.Mode) (ops : Array Oper) (z i : Nat) : Bool := match ops[z]? with | some oz => oz.after.toList.any fun e => Region.binds md e && Nat.beq e.on i | none => false
def readsB (md : Region.Mode) (ops : Array Oper) (z : Nat) : Nat → Nat → Array Bool → Bool
  | 0, k, listed => Region.seqB md ops (ops.size - k) k listed
  | m + 1, k, listed => (Region.ready md ops listed).contains k && (Region.free md ops listed k && (waitsB md ops z k && readsB md ops z m (k + 1) (listed.setIfInBounds k true)))
theorem waitsB_spec {i : Nat} (h : waitsB md ops z i = true) : ∀ oz, ops[z]? = some oz → ∃ e ∈ oz.after, Region.binds md e = true ∧ e.on = i := fun oz hoz => by
  unfold waitsB at h
  rw [hoz] at h
  dsimp only at h
  rw [List.any_eq_true] at h
  obtain ⟨e, he, hb⟩ := h
  rw [Bool.and_eq_true] at hb
  exact ⟨e, by simpa using he, hb.1, Nat.eq_of_beq_eq_true hb.2⟩
theorem wpAnyZ_reads (hs : Region.noSelect ops = true) (hQ : ∀ c a d v w, Q (.panic c) (Act.put a d v) w → Q (.panic c) a w) : ∀ (l : List Oper) (k g : Nat) (listed : Array Bool) (a : Act) (w : World), (∀ j, j < l.length → l[j]? = ops[k + j]?) →
    readsB md ops z l.length k listed = true → S w → k + l.length + g = ops.size → wpRead P ops S (fun a' => ∀ listed', Region.seqB md ops g (k + l.length) listed' = true → wpAnyZ P md ops Q S z g listed' a' w) l a → wpAnyZ P md ops Q S z (l.length + g) listed a w
  | [], k, g, listed, a, w, _, hB, _, hg, h => by
    simp only [readsB, List.length_nil, Nat.add_zero] at hB hg h ⊢
    rw [show ops.size - k = g by omega] at hB
    rw [Nat.zero_add]
    exact h listed hB
  | o :: l, k, g, listed, a, w, hl, hB, hS, hg, ⟨v, hy, h⟩ => by
    have h0 : ops[k]? = some o := by simpa using (hl 0 (by simp)).symm
    simp only [List.length_cons, readsB, Bool.and_eq_true] at hB
    obtain ⟨h1, h2, h3, h4⟩ := hB
    rw [show (o :: l).length + g = (l.length + g) + 1 by simp; omega]
    refine wpAnyZ_first h0 (Region.noSelect_spec hs) (fun c a w => hQ c a _ _ w) (waitsB_spec h3) _ _ _ _ (Region.free_spec h0 h2) (by simpa using h1) hy hS ?_
    refine wpAnyZ_reads hs hQ l (k + 1) g _ _ w (fun j hj => by have := hl (j + 1) (by simp; omega); simpa [Nat.add_assoc, Nat.add_comm 1 j] using this) h4 hS (by simp at hg; omega) ?_
    have e : k + 1 + l.length = k + (o :: l).length := by simp; omega
    rw [e]; exact h
/-- **The law.** -/
theorem wp_region_reads {id : Nat} {a : Act} {w : World} {l : List Oper} (n₁ : Nat) (S : World → Prop) (hm : P.follows .mixedOrders = true) (hs : Region.noSelect l.toArray = true) (hn : Nat.blt n₁ l.length = true) (hB : readsB .any l.toArray (l.length - 1) n₁ 0 (Array.replicate l.length false) = true)
    (hQ : ∀ c a d v w, Q (.panic c) (Act.put a d v) w → Q (.panic c) a w) (hS : S w.drew)
    (h : wpRead P l.toArray S (fun a' => wpActs P l.toArray Q S (l.drop n₁) a' w.drew) (l.take n₁) a) : (Code.region id l.toArray true).wp P Q a w := by
  have hn : n₁ < l.length := by simpa [Nat.blt_eq] using hn
  refine wp_region_any hm (wpAny_of_Z (S := S) (z := l.length - 1) _ _ _ _ ?_)
  have htl : (l.take n₁).length = n₁ := by simp; omega
  have hdl : (l.drop n₁).length = l.length - n₁ := by simp
  have mono : ∀ (K K' : Act → Prop), (∀ a, K a → K' a) → ∀ (q : List Oper) (a : Act), wpRead P l.toArray S K q a → wpRead P l.toArray S K' q a := by
    intro K K' hK q
    induction q with
    | nil => intro a h; exact hK a h
    | cons o q ih => intro a ⟨v, hy, h⟩; exact ⟨v, hy, ih _ h⟩
  have := wpAnyZ_reads (md := .any) (z := l.length - 1) (P := P) (Q := Q) (S := S) hs hQ (l.take n₁) 0 (l.length - n₁) (Array.replicate l.length false) a w.drew (fun j hj => by
      rw [htl] at hj
      simp [hj]) (by rw [htl]; exact hB) hS (by rw [htl]; simp; omega) (mono _ _ (fun a' ha' listed' hq => by
        rw [htl, Nat.zero_add] at hq
        have := wpAnyZ_acts (md := .any) (z := l.length - 1) (l.drop n₁) n₁ listed' a' w.drew (fun j => by simp [List.getElem?_drop]) (by rw [hdl]; omega) (by rw [hdl]; exact hq) ha'
        rwa [hdl] at this) _ _ h)
  rw [htl, show n₁ + (l.length - n₁) = l.length by omega] at this
  simpa using this
theorem wpActs_step {o o' : Oper} {rest : List Oper} {a : Act} {w : World} (h : ∀ K : Act → World → Prop, (∀ a w, S w → wpActs P ops Q S (o' :: rest) a w → K a w) → wpList P ops (Exit.then K Q) [o] a w) : wpActs P ops Q S (o :: o' :: rest) a w :=
  h _ (fun _ _ h1 h2 => ⟨h1, h2⟩)
theorem wpActs_last {o : Oper} {a : Act} {w : World} (h : wpList P ops Q [o] a w) : wpActs P ops Q S [o] a w := h
end
end Go.Proofs.Ytekodpcedjpnjaa
namespace Go.Proofs.Ytekodpcedjpnjaa
set_option linter.unusedVariables false
set_option linter.unusedSimpArgs false
section
variable {P : Program} {ops : Array Oper} {Q : Exit → Act → World → Prop} {md : Region.Mode} {S : World → Prop} {z : Nat}
/-- Marked true: a read; marked false: an act. -/
def mixB (md : Region.Mode) (ops : Array Oper) (z : Nat) : List (Bool × Nat) → Array Bool → Bool
  | [], listed => (Region.ready md ops listed).isEmpty
  | (true, k) :: r, listed => (Region.ready md ops listed).contains k && (Region.free md ops listed k && (waitsB md ops z k && mixB md ops z r (listed.setIfInBounds k true)))
  | (false, k) :: r, listed => decide (Region.ready md ops listed = [k]) && ((!r.isEmpty || Nat.beq k z) && mixB md ops z r (listed.setIfInBounds k true))
def wpMix (P : Program) (ops : Array Oper) (Q : Exit → Act → World → Prop) (S : World → Prop) : List (Bool × Oper) → Act → World → Prop
  | [], a, w => Q .normal a w
  | (true, o) :: rest, a, w => ∃ v, YieldsIf P ops S o v a ∧ wpMix P ops Q S rest (a.put o.dst v) w
  | (false, o) :: rest, a, w => wpList P ops (Exit.then (fun a' w' => (rest ≠ [] → S w') ∧ wpMix P ops Q S rest a' w') Q) [o] a w
theorem wpAnyZ_mix (hs : Region.noSelect ops = true) (hQ : ∀ c a d v w, Q (.panic c) (Act.put a d v) w → Q (.panic c) a w) : ∀ (is : List (Bool × Nat)) (l : List (Bool × Oper)) (listed : Array Bool) (a : Act) (w : World),
    is.map (fun p => (p.1, ops[p.2]?)) = l.map (fun p => (p.1, some p.2)) → mixB md ops z is listed = true → (l ≠ [] → S w) → wpMix P ops Q S l a w → wpAnyZ P md ops Q S z l.length listed a w
  | [], l, listed, a, w, hl, hB, hS, h => by
    have e : l = [] := by
      rw [List.map_nil] at hl
      exact List.map_eq_nil_iff.1 hl.symm
    subst e
    exact ⟨by simpa [mixB] using hB, h⟩
  | (b, k) :: is, l, listed, a, w, hl, hB, hS, h => by
    obtain ⟨⟨b', o⟩, l, rfl⟩ : ∃ o l', l = o :: l' := by
      match l, hl with
      | [], hl => simp at hl
      | o :: l', _ => exact ⟨o, l', rfl⟩
    rw [List.map_cons, List.map_cons] at hl
    obtain ⟨hp, hl'⟩ := List.cons.inj hl
    have hb : b = b' := congrArg Prod.fst hp
    have h0 : ops[k]? = some o := congrArg Prod.snd hp
    clear hp
    subst hb
    have hSw := hS (by simp)
    have hle : is.length = l.length := by have := congrArg List.length hl'; simpa using this
    cases b with
    | true =>
      obtain ⟨v, hy, h⟩ := h
      simp only [mixB, Bool.and_eq_true] at hB
      obtain ⟨h1, h2, h3, h4⟩ := hB
      exact wpAnyZ_first h0 (Region.noSelect_spec hs) (fun c a w => hQ c a _ _ w) (waitsB_spec h3) _ _ _ _ (Region.free_spec h0 h2) (by simpa using h1) hy hSw
        (wpAnyZ_mix hs hQ is l _ _ w hl' h4 (fun _ => hSw) h)
    | false =>
      simp only [mixB, Bool.and_eq_true, decide_eq_true_eq] at hB
      obtain ⟨h1, h2, h3⟩ := hB
      refine ⟨fun h4 => (by rw [h1] at h4; cases h4), fun i hi => ?_⟩
      rw [h1] at hi
      obtain rfl : i = k := by simpa using hi
      refine wpOp_mono (fun a' w' h' => ⟨fun hne => h'.1 (fun e => hne ?_), wpAnyZ_mix hs hQ is l _ a' w' hl' h3 h'.1 h'.2⟩) (wpOp_of_list h0 h)
      have e2 : is = [] := by
        rw [e] at hle
        exact List.length_eq_zero_iff.1 hle
      rw [e2] at h2
      simpa using h2
def mixL (l : List Oper) : List (Bool × Nat) → List (Bool × Oper)
  | [] => []
  | (b, i) :: r => match l[i]? with
    | some o => (b, o) :: mixL l r
    | none => mixL l r
/-- **The law.** -/
theorem wp_region_mix {id : Nat} {a : Act} {w : World} {l : List Oper} (is : List (Bool × Nat)) (S : World → Prop) (hm : P.follows .mixedOrders = true) (hs : Region.noSelect l.toArray = true)
    (hr : is.map (fun p => (p.1, l.toArray[p.2]?)) = (mixL l is).map (fun p => (p.1, some p.2))) (hn : Nat.beq (mixL l is).length l.length = true)
    (hB : mixB .any l.toArray (l.length - 1) is (Array.replicate l.length false) = true)
    (hQ : ∀ c a d v w, Q (.panic c) (Act.put a d v) w → Q (.panic c) a w) (hS : S w.drew)
    (h : wpMix P l.toArray Q S (mixL l is) a w.drew) : (Code.region id l.toArray true).wp P Q a w := by
  have hn := Nat.eq_of_beq_eq_true hn
  refine wp_region_any hm (wpAny_of_Z (S := S) (z := l.length - 1) _ _ _ _ ?_)
  have := wpAnyZ_mix (md := .any) (z := l.length - 1) (P := P) (Q := Q) (S := S) hs hQ is (mixL l is) (Array.replicate l.length false) a w.drew hr hB (fun _ => hS) h
  rw [hn] at this
  simpa using this
theorem wpMix_read {o : Oper} {rest : List (Bool × Oper)} {a : Act} {w : World} {v : Value} (hw : Region.wanted o (yielded ops a.tmps) = true) (hy : ∀ w, S w → (execOp a.eval o).run P w = .ok (.value v) w)
    (h : wpMix P ops Q S rest (a.put o.dst v) w) : wpMix P ops Q S ((true, o) :: rest) a w := ⟨v, .inl ⟨hw, hy⟩, h⟩
theorem wpMix_skip {o : Oper} {rest : List (Bool × Oper)} {a : Act} {w : World} (hw : Region.wanted o (yielded ops a.tmps) = false)
    (h : wpMix P ops Q S rest (a.put o.dst undef) w) : wpMix P ops Q S ((true, o) :: rest) a w := ⟨undef, .inr ⟨hw, rfl⟩, h⟩
theorem wpMix_act {o : Oper} {rest : List (Bool × Oper)} {a : Act} {w : World} (h : ∀ K : Act → World → Prop, (∀ a w, (rest ≠ [] → S w) → wpMix P ops Q S rest a w → K a w) → wpList P ops (Exit.then K Q) [o] a w) :
    wpMix P ops Q S ((false, o) :: rest) a w := h _ (fun _ _ h1 h2 => ⟨h1, h2⟩)
theorem wpMix_nil {a : Act} {w : World} (h : Q .normal a w) : wpMix P ops Q S [] a w := h
/-! ### where nothing is written that is read: S abides behind all acts -/
def mixB2 (md : Region.Mode) (ops : Array Oper) : List (Bool × Nat) → Array Bool → Bool
  | [], listed => (Region.ready md ops listed).isEmpty
  | (true, k) :: r, listed => (Region.ready md ops listed).contains k && (Region.free md ops listed k && mixB2 md ops r (listed.setIfInBounds k true))
  | (false, k) :: r, listed => decide (Region.ready md ops listed = [k]) && mixB2 md ops r (listed.setIfInBounds k true)
def wpMix2 (P : Program) (ops : Array Oper) (Q : Exit → Act → World → Prop) (S : World → Prop) : List (Bool × Oper) → Act → World → Prop
  | [], a, w => Q .normal a w
  | (true, o) :: rest, a, w => ∃ v, YieldsIf P ops S o v a ∧ wpMix2 P ops Q S rest (a.put o.dst v) w
  | (false, o) :: rest, a, w => wpList P ops (Exit.then (fun a' w' => S w' ∧ wpMix2 P ops Q S rest a' w') Q) [o] a w
theorem wpAnyZ_mix2 (hs : Region.noSelect ops = true) (hQ : ∀ c a d v w, Q (.panic c) (Act.put a d v) w → Q (.panic c) a w) (hz : ops[z]? = none) : ∀ (is : List (Bool × Nat)) (l : List (Bool × Oper)) (listed : Array Bool) (a : Act) (w : World),
    is.map (fun p => (p.1, ops[p.2]?)) = l.map (fun p => (p.1, some p.2)) → mixB2 md ops is listed = true → S w → wpMix2 P ops Q S l a w → wpAnyZ P md ops Q S z l.length listed a w
  | [], l, listed, a, w, hl, hB, hS, h => by
    have e : l = [] := by
      rw [List.map_nil] at hl
      exact List.map_eq_nil_iff.1 hl.symm
    subst e
    exact ⟨by simpa [mixB2] using hB, h⟩
  | (b, k) :: is, l, listed, a, w, hl, hB, hS, h => by
    obtain ⟨⟨b', o⟩, l, rfl⟩ : ∃ o l', l = o :: l' := by
      match l, hl with
      | [], hl => simp at hl
      | o :: l', _ => exact ⟨o, l', rfl⟩
    rw [List.map_cons, List.map_cons] at hl
    obtain ⟨hp, hl'⟩ := List.cons.inj hl
    have hb : b = b' := congrArg Prod.fst hp
    have h0 : ops[k]? = some o := congrArg Prod.snd hp
    clear hp
    subst hb
    cases b with
    | true =>
      obtain ⟨v, hy, h⟩ := h
      simp only [mixB2, Bool.and_eq_true] at hB
      obtain ⟨h1, h2, h4⟩ := hB
      exact wpAnyZ_first h0 (Region.noSelect_spec hs) (fun c a w => hQ c a _ _ w) (fun oz hoz => by rw [hz] at hoz; cases hoz) _ _ _ _ (Region.free_spec h0 h2) (by simpa using h1) hy hS
        (wpAnyZ_mix2 hs hQ hz is l _ _ w hl' h4 hS h)
    | false =>
      simp only [mixB2, Bool.and_eq_true, decide_eq_true_eq] at hB
      obtain ⟨h1, h3⟩ := hB
      refine ⟨fun h4 => (by rw [h1] at h4; cases h4), fun i hi => ?_⟩
      rw [h1] at hi
      obtain rfl : i = k := by simpa using hi
      exact wpOp_mono (fun a' w' h' => ⟨fun _ => h'.1, wpAnyZ_mix2 hs hQ hz is l _ a' w' hl' h3 h'.1 h'.2⟩) (wpOp_of_list h0 h)
/-- **The law**, where nothing is written that is read. -/
theorem wp_region_mix2 {id : Nat} {a : Act} {w : World} {l : List Oper} (is : List (Bool × Nat)) (S : World → Prop) (hm : P.follows .mixedOrders = true) (hs : Region.noSelect l.toArray = true)
    (hr : is.map (fun p => (p.1, l.toArray[p.2]?)) = (mixL l is).map (fun p => (p.1, some p.2))) (hn : Nat.beq (mixL l is).length l.length = true)
    (hB : mixB2 .any l.toArray is (Array.replicate l.length false) = true)
    (hQ : ∀ c a d v w, Q (.panic c) (Act.put a d v) w → Q (.panic c) a w) (hS : S w.drew)
    (h : wpMix2 P l.toArray Q S (mixL l is) a w.drew) : (Code.region id l.toArray true).wp P Q a w := by
  have hn := Nat.eq_of_beq_eq_true hn
  refine wp_region_any hm (wpAny_of_Z (S := S) (z := l.length) _ _ _ _ ?_)
  have := wpAnyZ_mix2 (md := .any) (z := l.length) (P := P) (Q := Q) (S := S) hs hQ (by simp) is (mixL l is) (Array.replicate l.length false) a w.drew hr hB hS h
  rw [hn] at this
  simpa using this
theorem wpMix2_read {o : Oper} {rest : List (Bool × Oper)} {a : Act} {w : World} {v : Value} (hw : Region.wanted o (yielded ops a.tmps) = true) (hy : ∀ w, S w → (execOp a.eval o).run P w = .ok (.value v) w)
    (h : wpMix2 P ops Q S rest (a.put o.dst v) w) : wpMix2 P ops Q S ((true, o) :: rest) a w := ⟨v, .inl ⟨hw, hy⟩, h⟩
theorem wpMix2_skip {o : Oper} {rest : List (Bool × Oper)} {a : Act} {w : World} (hw : Region.wanted o (yielded ops a.tmps) = false)
    (h : wpMix2 P ops Q S rest (a.put o.dst undef) w) : wpMix2 P ops Q S ((true, o) :: rest) a w := ⟨undef, .inr ⟨hw, rfl⟩, h⟩
theorem wpMix2_act {o : Oper} {rest : List (Bool × Oper)} {a : Act} {w : World} (h : ∀ K : Act → World → Prop, (∀ a w, S w → wpMix2 P ops Q S rest a w → K a w) → wpList P ops (Exit.then K Q) [o] a w) :
    wpMix2 P ops Q S ((false, o) :: rest) a w := h _ (fun _ _ h1 h2 => ⟨h1, h2⟩)
theorem wpMix2_nil {a : Act} {w : World} (h : Q .normal a w) : wpMix2 P ops Q S [] a w := h
end
end Go.Proofs.Ytekodpcedjpnjaa
namespace Go.Proofs.Ytekodpcedjpnjaa
set_option linter.unusedVariables false
set_option linter.unusedSimpArgs false
open Go.RowKit Go.Shelf Go.Maps
/-- A region that draws its order inside a fence that lets all in: first operations that read, then acts in one forced order, the last of which may write what was read. -/
theorem wpIn_region_reads {P : Program} {Q : Exit → Act → World → Prop} {id : Nat} {a : Act} {w : World} {l : List Oper} {l₀ : Option Nat} {n : Nat} (n₁ : Nat) (S : World → Prop) (hm : P.follows .mixedOrders = true) (hs : Region.noSelect l.toArray = true) (hn : Nat.blt n₁ l.length = true) (hB : readsB .any l.toArray (l.length - 1) n₁ 0 (Array.replicate l.toArray.size false) = true)
    (hd : noDefer l.toArray = true) (ho : ∀ a w, ¬ Q .outgrown a w) (hQ : ∀ c a d v w, Q (.panic c) (Act.put a d v) w → Q (.panic c) a w) (hS : S w.drew)
    (h : wpRead P l.toArray S (fun a' => wpActs P l.toArray Q S (l.drop n₁) a' w.drew) (l.take n₁) a) : (Code.region id l.toArray true).wpIn (wideAt l₀) n P Q a w := by
  have hn : n₁ < l.length := by simpa [Nat.blt_eq] using hn
  refine wpIn_region_any hm (wpAnyIn_of_wpAny ho hd _ _ _ _ (wpAny_of_Z (S := S) (z := l.length - 1) _ _ _ _ ?_))
  have htl : (l.take n₁).length = n₁ := by simp; omega
  have hdl : (l.drop n₁).length = l.length - n₁ := by simp
  have mono : ∀ (K K' : Act → Prop), (∀ a, K a → K' a) → ∀ (q : List Oper) (a : Act), wpRead P l.toArray S K q a → wpRead P l.toArray S K' q a := by
    intro K K' hK q
    induction q with
    | nil => intro a h; exact hK a h
    | cons o q ih => intro a ⟨v, hy, h⟩; exact ⟨v, hy, ih _ h⟩
  have := wpAnyZ_reads (md := .any) (z := l.length - 1) (P := P) (Q := Q) (S := S) hs hQ (l.take n₁) 0 (l.length - n₁) (Array.replicate l.toArray.size false) a w.drew (fun j hj => by
      rw [htl] at hj
      simp [hj]) (by rw [htl]; exact hB) hS (by rw [htl]; simp; omega) (mono _ _ (fun a' ha' listed' hq => by
        rw [htl, Nat.zero_add] at hq
        have := wpAnyZ_acts (md := .any) (z := l.length - 1) (l.drop n₁) n₁ listed' a' w.drew (fun j => by simp [List.getElem?_drop]) (by rw [hdl]; omega) (by rw [hdl]; exact hq) ha'
        rwa [hdl] at this) _ _ h)
  rw [htl, show n₁ + (l.length - n₁) = l.length by omega] at this
  simpa using this
theorem boxed_own {X Y : World} {b : Nat} {t : TypeId} {v : Value} {row : Option Nat} (h : Boxed X b t v) (hg : X.grownBy Y row) (hr : ∀ r, row = some r → ∃ o, X.heap[r]? = some o ∧ o.isCells = false) : Boxed Y b t v :=
  h.kept hg fun e => by
    obtain ⟨o, ho, hc⟩ := hr b e.symm
    rw [show X.heap[b]? = _ from h] at ho
    cases ho
    cases hc
theorem boxed_put {X : World} {b : Nat} {t : TypeId} {v : Value} (h : Boxed X b t v) {k : Nat} (hk : b ≠ k) (u : Value) : Boxed (X.setCell ⟨k, 0, none⟩ u) b t v := (Below.heap_setCell _ _ _ _ (by exact hk)).trans h
theorem own_far {W W' : World} {n₀ : Nat} {e : TypeId} {size : Nat} {v : Value} {n : Nat} {xs : List Value} {row : Option Nat} (h : W.ownsRow n₀ e size v n xs) (hg : W.grownBy W' row) (hr : ∀ r, row = some r → ∃ o : Obj, W.heap[r]? = some o ∧ o.isCells = false) : W'.ownsRow n₀ e size v n xs := by
  refine h.kept hg ?_
  cases hv : v.ownBlock with
  | none => exact .inl rfl
  | some k =>
    refine .inr (fun e' => ?_)
    obtain ⟨h1, cur, h2⟩ := own_cells h k hv
    obtain ⟨o, h3, h4⟩ := hr k e'.symm
    rw [h2] at h3; cases h3; cases h4
end Go.Proofs.Ytekodpcedjpnjaa
namespace Go.Proofs.Ytekodpcedjpnjaa
set_option linter.unusedVariables false
set_option linter.unusedSimpArgs false
section
variable {P : Program} {ops : Array Oper} {Q : Exit → Act → World → Prop} {md : Region.Mode} {R : Nat → World → World → Prop}
def wpAnyY (P : Program) (md : Region.Mode) (ops : Array Oper) (Q : Exit → Act → World → Prop) (R : Nat → World → World → Prop) : Nat → Array Bool → Act → World → Prop
  | 0, listed, a, w => Region.ready md ops listed = [] ∧ Q .normal a w
  | fuel + 1, listed, a, w =>
    (Region.ready md ops listed = [] → Q .normal a w) ∧
    ∀ i ∈ Region.ready md ops listed, wpOp P ops Q i (fun a' w' => R i w w' ∧ wpAnyY P md ops Q R fuel (listed.setIfInBounds i true) a' w') a w
theorem wpAny_of_Y : ∀ (fuel : Nat) (listed : Array Bool) (a : Act) (w : World), wpAnyY P md ops Q R fuel listed a w → wpAny P md ops Q fuel listed a w
  | 0, _, _, _, h => h
  | fuel + 1, _, _, _, h => ⟨h.1, fun i hi => wpOp_mono (fun a' w' h' => wpAny_of_Y fuel _ a' w' h'.2) (h.2 i hi)⟩
theorem wpAnyY_first {S : World → Prop} {i : Nat} {oi : Oper} {v : Value} (hi : ops[i]? = some oi) (hsel : ∀ (j : Nat) (o : Oper) cs b, ops[j]? = some o → o.op ≠ .select cs b)
    (hQ : ∀ c a w, Q (.panic c) (a.put oi.dst v) w → Q (.panic c) a w) (hz : ∀ j oj w w', ops[j]? = some oj → (∀ e ∈ oj.after, Region.binds md e = true → e.on ≠ i) → R j w w' → S w → S w') :
    ∀ (fuel : Nat) (listed : Array Bool) (a : Act) (w : World),
      (∀ j oj, ops[j]? = some oj → j ≠ i → listed.getD j true = false → (∀ e ∈ oj.after, Region.binds md e = true → e.on ≠ i) → oi.apart ops oj = true) →
      i ∈ Region.ready md ops listed → YieldsIf P ops S oi v a → S w → (∀ w, R i w w) →
      wpAnyY P md ops Q R fuel (listed.setIfInBounds i true) (a.put oi.dst v) w → wpAnyY P md ops Q R (fuel + 1) listed a w := by
  intro fuel
  induction fuel with
  | zero =>
    intro listed a w _ hr hy hS hRi H
    refine ⟨fun h => (by rw [h] at hr; cases hr), fun j hj => ?_⟩
    by_cases hji : j = i
    · subst hji; exact hy.wpOp hi hS ⟨hRi _, H⟩
    · have := ready_mono hj hji
      rw [H.1] at this
      cases this
  | succ fuel ih =>
    intro listed a w hfree hr hy hS hRi H
    refine ⟨fun h => (by rw [h] at hr; cases hr), fun j hj => ?_⟩
    by_cases hji : j = i
    · subst hji; exact hy.wpOp hi hS ⟨hRi _, H⟩
    · have h1 := H.2 j (ready_mono hj hji)
      obtain ⟨hjun, oj, hoj, hall⟩ := mem_ready.1 hj
      have hnot : ∀ e ∈ oj.after, Region.binds md e = true → e.on ≠ i := fun e he hb heq => by
        have h1 := hall e he hb
        have h0 := (mem_ready.1 hr).1
        rw [heq] at h1
        rcases Nat.lt_or_ge i listed.size with h' | h'
        · simp [h'] at h0 h1; rw [h0] at h1; cases h1
        · simp [Array.getElem?_eq_none h'] at h1
      have hjz := hz j oj
      have h2 := wpOp_putIf hoj (hfree j oj hoj hji hjun hnot) (fun cs b => hsel i oi cs b hi) (fun cs b => hsel j oj cs b hoj) hQ hy h1
      have hfree' : ∀ k ok, ops[k]? = some ok → k ≠ i → (listed.setIfInBounds j true).getD k true = false →
          (∀ e ∈ ok.after, Region.binds md e = true → e.on ≠ i) → oi.apart ops ok = true := fun k ok hk hki hun hno => by
        refine hfree k ok hk hki ?_ hno
        by_cases hjk : j = k
        · subst hjk; exact hjun
        · rw [getD_set_ne true hjk] at hun; exact hun
      refine wpOp_mono (fun a' w' h3 => ⟨h3.2.1, ih (listed.setIfInBounds j true) a' w' hfree' (ready_mono hr (Ne.symm hji)) h3.1 (hjz w w' hoj hnot h3.2.1 hS) hRi ?_⟩) h2
      rw [Array.setIfInBounds_comm _ _ hji]
      exact h3.2.2
/-- One read, taken first; the acts of zs wait for it, behind all others what it reads abides. -/
theorem wpAnyY_read (i : Nat) (S : World → Prop) (zs : List Nat) {oi : Oper} {v : Value} {fuel : Nat} {listed : Array Bool} {a : Act} {w : World} (hs : Region.noSelect ops = true) (hQ : ∀ c a d v w, Q (.panic c) (Act.put a d v) w → Q (.panic c) a w)
    (hB : ((Region.ready md ops listed).contains i && (Region.free md ops listed i && zs.all fun z => waitsB md ops z i)) = true) (hi : ops[i]? = some oi) (hR : ∀ j w w', j ∉ zs → R j w w' → S w → S w') (hRi : ∀ w, R i w w) (hS : S w)
    (hw : Region.wanted oi (yielded ops a.tmps) = true) (hy : ∀ w, S w → (execOp a.eval oi).run P w = .ok (.value v) w)
    (h : wpAnyY P md ops Q R fuel (listed.setIfInBounds i true) (a.put oi.dst v) w) : wpAnyY P md ops Q R (fuel + 1) listed a w := by
  simp only [Bool.and_eq_true, List.all_eq_true] at hB
  obtain ⟨h1, h2, h3⟩ := hB
  refine wpAnyY_first hi (Region.noSelect_spec hs) (fun c a w => hQ c a _ _ w) (fun j oj w w' hoj hnot hr hs => hR j w w' (fun hjz => ?_) hr hs) _ _ _ _ (Region.free_spec hi h2) (by simpa using h1) (.inl ⟨hw, hy⟩) hS hRi h
  obtain ⟨e, he, hb, heq⟩ := waitsB_spec (h3 j hjz) oj hoj
  exact hnot e he hb heq
/-- One act, which must come next. -/
theorem wpAnyY_one {i : Nat} {oi : Oper} {fuel : Nat} {listed : Array Bool} {a : Act} {w : World} (hr : Region.ready md ops listed = [i]) (hi : ops[i]? = some oi)
    (h : ∀ K : Act → World → Prop, (∀ a w', R i w w' → wpAnyY P md ops Q R fuel (listed.setIfInBounds i true) a w' → K a w') → wpList P ops (Exit.then K Q) [oi] a w) : wpAnyY P md ops Q R (fuel + 1) listed a w := by
  refine ⟨fun h1 => (by rw [hr] at h1; cases h1), fun j hj => ?_⟩
  rw [hr] at hj
  obtain rfl : j = i := by simpa using hj
  exact wpOp_of_list hi (h _ fun _ _ h1 h2 => ⟨h1, h2⟩)
/-- Two acts, either of which may come next. -/
theorem wpAnyY_two {i j : Nat} {oi oj : Oper} {fuel : Nat} {listed : Array Bool} {a : Act} {w : World} (hr : Region.ready md ops listed = [i, j]) (hi : ops[i]? = some oi) (hj : ops[j]? = some oj)
    (h1 : ∀ K : Act → World → Prop, (∀ a w', R i w w' → wpAnyY P md ops Q R fuel (listed.setIfInBounds i true) a w' → K a w') → wpList P ops (Exit.then K Q) [oi] a w)
    (h2 : ∀ K : Act → World → Prop, (∀ a w', R j w w' → wpAnyY P md ops Q R fuel (listed.setIfInBounds j true) a w' → K a w') → wpList P ops (Exit.then K Q) [oj] a w) : wpAnyY P md ops Q R (fuel + 1) listed a w := by
  refine ⟨fun h => (by rw [hr] at h; cases h), fun k hk => ?_⟩
  rw [hr] at hk
  simp only [List.mem_cons, List.not_mem_nil, or_false] at hk
  rcases hk with rfl | rfl
  · exact wpOp_of_list hi (h1 _ fun _ _ h3 h4 => ⟨h3, h4⟩)
  · exact wpOp_of_list hj (h2 _ fun _ _ h3 h4 => ⟨h3, h4⟩)
theorem wpAnyY_end {fuel : Nat} {listed : Array Bool} {a : Act} {w : World} (hr : Region.ready md ops listed = []) (h : Q .normal a w) : wpAnyY P md ops Q R fuel listed a w := by
  cases fuel with
  | zero => exact ⟨hr, h⟩
  | succ n => exact ⟨fun _ => h, fun i hi => (by rw [hr] at hi; cases hi)⟩
theorem wpIn_region_tree {id : Nat} {a : Act} {w : World} {l : List Oper} {l₀ : Option Nat} {n : Nat} (R : Nat → World → World → Prop) (hm : P.follows .mixedOrders = true)
    (hd : noDefer l.toArray = true) (ho : ∀ a w, ¬ Q .outgrown a w) (h : wpAnyY P .any l.toArray Q R l.toArray.size (Array.replicate l.toArray.size false) a w.drew) : (Code.region id l.toArray true).wpIn (wideAt l₀) n P Q a w :=
  wpIn_region_any hm (wpAnyIn_of_wpAny ho hd _ _ _ _ (wpAny_of_Y _ _ _ _ h))
theorem wp_region_tree {id : Nat} {a : Act} {w : World} {l : List Oper} (R : Nat → World → World → Prop) (hm : P.follows .mixedOrders = true)
    (h : wpAnyY P .any l.toArray Q R l.toArray.size (Array.replicate l.toArray.size false) a w.drew) : (Code.region id l.toArray true).wp P Q a w :=
  wp_region_any hm (wpAny_of_Y _ _ _ _ h)
end
end Go.Proofs.Ytekodpcedjpnjaa
