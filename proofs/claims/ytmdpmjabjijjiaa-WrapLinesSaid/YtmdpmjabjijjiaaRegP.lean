/- A region that draws its order: operations that read are taken where they stand ready and free; the others one after the other in a forced order, the last of which may write what was read. No condition. -/
import Derived.Test.YtmdpmjabjijjiaaRegZ
namespace Go.Proofs.Ytmdpmjabjijjiaa
set_option linter.unusedVariables false
set_option linter.unusedSimpArgs false
section
variable {P : Program} {ops : Array Oper} {Q : Exit → Act → World → Prop} {md : Region.Mode} {S : World → Prop} {z : Nat}
/-- Marked true: a read; marked false: an act. -/
def mixB (md : Region.Mode) (ops : Array Oper) (z : Nat) : List (Bool × Nat) → Array Bool → Bool
  | [], listed => (Region.ready md ops listed).isEmpty
  | (true, k) :: r, listed => (Region.ready md ops listed).contains k && (Region.free md ops listed k && (waitsB md ops z k && mixB md ops z r (listed.setIfInBounds k true)))
  | (false, k) :: r, listed => decide (Region.ready md ops listed = [k]) && ((!r.isEmpty || Nat.beq k z) && mixB md ops z r (listed.setIfInBounds k true))
def wpMix (P : Program) (ops : Array Oper) (Q : Exit → Act → World → Prop) (S : World → Prop) : List (Bool × Oper) → Act → World → Prop
  | [], a, w => Q .normal a w
  | (true, o) :: rest, a, w => ∃ v, YieldsIf P ops S o v a ∧ wpMix P ops Q S rest (a.put o.dst v) w
  | (false, o) :: rest, a, w => wpList P ops (Exit.then (fun a' w' => (rest ≠ [] → S w') ∧ wpMix P ops Q S rest a' w') Q) [o] a w
theorem wpAnyZ_mix (hs : Region.noSelect ops = true) (hQ : ∀ c a d v w, Q (.panic c) (Act.put a d v) w → Q (.panic c) a w) : ∀ (is : List (Bool × Nat)) (l : List (Bool × Oper)) (listed : Array Bool) (a : Act) (w : World),
    is.map (fun p => (p.1, ops[p.2]?)) = l.map (fun p => (p.1, some p.2)) → mixB md ops z is listed = true → (l ≠ [] → S w) → wpMix P ops Q S l a w → wpAnyZ P md ops Q S z l.length listed a w
  | [], l, listed, a, w, hl, hB, hS, h => by
    have e : l = [] := by
      rw [List.map_nil] at hl
      exact List.map_eq_nil_iff.1 hl.symm
    subst e
    exact ⟨by simpa [mixB] using hB, h⟩
  | (b, k) :: is, l, listed, a, w, hl, hB, hS, h => by
    obtain ⟨⟨b', o⟩, l, rfl⟩ : ∃ o l', l = o :: l' := by
      match l, hl with
      | [], hl => simp at hl
      | o :: l', _ => exact ⟨o, l', rfl⟩
    rw [List.map_cons, List.map_cons] at hl
    obtain ⟨hp, hl'⟩ := List.cons.inj hl
    have hb : b = b' := congrArg Prod.fst hp
    have h0 : ops[k]? = some o := congrArg Prod.snd hp
    clear hp
    subst hb
    have hSw := hS (by simp)
    have hle : is.length = l.length := by have := congrArg List.length hl'; simpa using this
    cases b with
    | true =>
      obtain ⟨v, hy, h⟩ := h
      simp only [mixB, Bool.and_eq_true] at hB
      obtain ⟨h1, h2, h3, h4⟩ := hB
      exact wpAnyZ_first h0 (Region.noSelect_spec hs) (fun c a w => hQ c a _ _ w) (waitsB_spec h3) _ _ _ _ (Region.free_spec h0 h2) (by simpa using h1) hy hSw
        (wpAnyZ_mix hs hQ is l _ _ w hl' h4 (fun _ => hSw) h)
    | false =>
      simp only [mixB, Bool.and_eq_true, decide_eq_true_eq] at hB
      obtain ⟨h1, h2, h3⟩ := hB
      refine ⟨fun h4 => (by rw [h1] at h4; cases h4), fun i hi => ?_⟩
      rw [h1] at hi
      obtain rfl : i = k := by simpa using hi
      refine wpOp_mono (fun a' w' h' => ⟨fun hne => h'.1 (fun e => hne ?_), wpAnyZ_mix hs hQ is l _ a' w' hl' h3 h'.1 h'.2⟩) (wpOp_of_list h0 h)
      have e2 : is = [] := by
        rw [e] at hle
        exact List.length_eq_zero_iff.1 hle
      rw [e2] at h2
      simpa using h2
def mixL (l : List Oper) : List (Bool × Nat) → List (Bool × Oper)
  | [] => []
  | (b, i) :: r => match l[i]? with
    | some o => (b, o) :: mixL l r
    | none => mixL l r
/-- **The law.** -/
theorem wp_region_mix {id : Nat} {a : Act} {w : World} {l : List Oper} (is : List (Bool × Nat)) (S : World → Prop) (hm : P.follows .mixedOrders = true) (hs : Region.noSelect l.toArray = true)
    (hr : is.map (fun p => (p.1, l.toArray[p.2]?)) = (mixL l is).map (fun p => (p.1, some p.2))) (hn : Nat.beq (mixL l is).length l.length = true)
    (hB : mixB .any l.toArray (l.length - 1) is (Array.replicate l.length false) = true)
    (hQ : ∀ c a d v w, Q (.panic c) (Act.put a d v) w → Q (.panic c) a w) (hS : S w.drew)
    (h : wpMix P l.toArray Q S (mixL l is) a w.drew) : (Code.region id l.toArray true).wp P Q a w := by
  have hn := Nat.eq_of_beq_eq_true hn
  refine wp_region_any hm (wpAny_of_Z (S := S) (z := l.length - 1) _ _ _ _ ?_)
  have := wpAnyZ_mix (md := .any) (z := l.length - 1) (P := P) (Q := Q) (S := S) hs hQ is (mixL l is) (Array.replicate l.length false) a w.drew hr hB (fun _ => hS) h
  rw [hn] at this
  simpa using this
theorem wpMix_read {o : Oper} {rest : List (Bool × Oper)} {a : Act} {w : World} {v : Value} (hw : Region.wanted o (yielded ops a.tmps) = true) (hy : ∀ w, S w → (execOp a.eval o).run P w = .ok (.value v) w)
    (h : wpMix P ops Q S rest (a.put o.dst v) w) : wpMix P ops Q S ((true, o) :: rest) a w := ⟨v, .inl ⟨hw, hy⟩, h⟩
theorem wpMix_skip {o : Oper} {rest : List (Bool × Oper)} {a : Act} {w : World} (hw : Region.wanted o (yielded ops a.tmps) = false)
    (h : wpMix P ops Q S rest (a.put o.dst undef) w) : wpMix P ops Q S ((true, o) :: rest) a w := ⟨undef, .inr ⟨hw, rfl⟩, h⟩
theorem wpMix_act {o : Oper} {rest : List (Bool × Oper)} {a : Act} {w : World} (h : ∀ K : Act → World → Prop, (∀ a w, (rest ≠ [] → S w) → wpMix P ops Q S rest a w → K a w) → wpList P ops (Exit.then K Q) [o] a w) :
    wpMix P ops Q S ((false, o) :: rest) a w := h _ (fun _ _ h1 h2 => ⟨h1, h2⟩)
theorem wpMix_nil {a : Act} {w : World} (h : Q .normal a w) : wpMix P ops Q S [] a w := h
/-! ### where nothing is written that is read: S abides behind all acts -/
def mixB2 (md : Region.Mode) (ops : Array Oper) : List (Bool × Nat) → Array Bool → Bool
  | [], listed => (Region.ready md ops listed).isEmpty
  | (true, k) :: r, listed => (Region.ready md ops listed).contains k && (Region.free md ops listed k && mixB2 md ops r (listed.setIfInBounds k true))
  | (false, k) :: r, listed => decide (Region.ready md ops listed = [k]) && mixB2 md ops r (listed.setIfInBounds k true)
def wpMix2 (P : Program) (ops : Array Oper) (Q : Exit → Act → World → Prop) (S : World → Prop) : List (Bool × Oper) → Act → World → Prop
  | [], a, w => Q .normal a w
  | (true, o) :: rest, a, w => ∃ v, YieldsIf P ops S o v a ∧ wpMix2 P ops Q S rest (a.put o.dst v) w
  | (false, o) :: rest, a, w => wpList P ops (Exit.then (fun a' w' => S w' ∧ wpMix2 P ops Q S rest a' w') Q) [o] a w
theorem wpAnyZ_mix2 (hs : Region.noSelect ops = true) (hQ : ∀ c a d v w, Q (.panic c) (Act.put a d v) w → Q (.panic c) a w) (hz : ops[z]? = none) : ∀ (is : List (Bool × Nat)) (l : List (Bool × Oper)) (listed : Array Bool) (a : Act) (w : World),
    is.map (fun p => (p.1, ops[p.2]?)) = l.map (fun p => (p.1, some p.2)) → mixB2 md ops is listed = true → S w → wpMix2 P ops Q S l a w → wpAnyZ P md ops Q S z l.length listed a w
  | [], l, listed, a, w, hl, hB, hS, h => by
    have e : l = [] := by
      rw [List.map_nil] at hl
      exact List.map_eq_nil_iff.1 hl.symm
    subst e
    exact ⟨by simpa [mixB2] using hB, h⟩
  | (b, k) :: is, l, listed, a, w, hl, hB, hS, h => by
    obtain ⟨⟨b', o⟩, l, rfl⟩ : ∃ o l', l = o :: l' := by
      match l, hl with
      | [], hl => simp at hl
      | o :: l', _ => exact ⟨o, l', rfl⟩
    rw [List.map_cons, List.map_cons] at hl
    obtain ⟨hp, hl'⟩ := List.cons.inj hl
    have hb : b = b' := congrArg Prod.fst hp
    have h0 : ops[k]? = some o := congrArg Prod.snd hp
    clear hp
    subst hb
    cases b with
    | true =>
      obtain ⟨v, hy, h⟩ := h
      simp only [mixB2, Bool.and_eq_true] at hB
      obtain ⟨h1, h2, h4⟩ := hB
      exact wpAnyZ_first h0 (Region.noSelect_spec hs) (fun c a w => hQ c a _ _ w) (fun oz hoz => by rw [hz] at hoz; cases hoz) _ _ _ _ (Region.free_spec h0 h2) (by simpa using h1) hy hS
        (wpAnyZ_mix2 hs hQ hz is l _ _ w hl' h4 hS h)
    | false =>
      simp only [mixB2, Bool.and_eq_true, decide_eq_true_eq] at hB
      obtain ⟨h1, h3⟩ := hB
      refine ⟨fun h4 => (by rw [h1] at h4; cases h4), fun i hi => ?_⟩
      rw [h1] at hi
      obtain rfl : i = k := by simpa using hi
      exact wpOp_mono (fun a' w' h' => ⟨fun _ => h'.1, wpAnyZ_mix2 hs hQ hz is l _ a' w' hl' h3 h'.1 h'.2⟩) (wpOp_of_list h0 h)
/-- **The law**, where nothing is written that is read. -/
theorem wp_region_mix2 {id : Nat} {a : Act} {w : World} {l : List Oper} (is : List (Bool × Nat)) (S : World → Prop) (hm : P.follows .mixedOrders = true) (hs : Region.noSelect l.toArray = true)
    (hr : is.map (fun p => (p.1, l.toArray[p.2]?)) = (mixL l is).map (fun p => (p.1, some p.2))) (hn : Nat.beq (mixL l is).length l.length = true)
    (hB : mixB2 .any l.toArray is (Array.replicate l.length false) = true)
    (hQ : ∀ c a d v w, Q (.panic c) (Act.put a d v) w → Q (.panic c) a w) (hS : S w.drew)
    (h : wpMix2 P l.toArray Q S (mixL l is) a w.drew) : (Code.region id l.toArray true).wp P Q a w := by
  have hn := Nat.eq_of_beq_eq_true hn
  refine wp_region_any hm (wpAny_of_Z (S := S) (z := l.length) _ _ _ _ ?_)
  have := wpAnyZ_mix2 (md := .any) (z := l.length) (P := P) (Q := Q) (S := S) hs hQ (by simp) is (mixL l is) (Array.replicate l.length false) a w.drew hr hB hS h
  rw [hn] at this
  simpa using this
theorem wpMix2_read {o : Oper} {rest : List (Bool × Oper)} {a : Act} {w : World} {v : Value} (hw : Region.wanted o (yielded ops a.tmps) = true) (hy : ∀ w, S w → (execOp a.eval o).run P w = .ok (.value v) w)
    (h : wpMix2 P ops Q S rest (a.put o.dst v) w) : wpMix2 P ops Q S ((true, o) :: rest) a w := ⟨v, .inl ⟨hw, hy⟩, h⟩
theorem wpMix2_skip {o : Oper} {rest : List (Bool × Oper)} {a : Act} {w : World} (hw : Region.wanted o (yielded ops a.tmps) = false)
    (h : wpMix2 P ops Q S rest (a.put o.dst undef) w) : wpMix2 P ops Q S ((true, o) :: rest) a w := ⟨undef, .inr ⟨hw, rfl⟩, h⟩
theorem wpMix2_act {o : Oper} {rest : List (Bool × Oper)} {a : Act} {w : World} (h : ∀ K : Act → World → Prop, (∀ a w, S w → wpMix2 P ops Q S rest a w → K a w) → wpList P ops (Exit.then K Q) [o] a w) :
    wpMix2 P ops Q S ((false, o) :: rest) a w := h _ (fun _ _ h1 h2 => ⟨h1, h2⟩)
theorem wpMix2_nil {a : Act} {w : World} (h : Q .normal a w) : wpMix2 P ops Q S [] a w := h
end
end Go.Proofs.Ytmdpmjabjijjiaa
