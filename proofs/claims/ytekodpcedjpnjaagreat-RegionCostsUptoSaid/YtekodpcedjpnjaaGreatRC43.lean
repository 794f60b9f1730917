/- A region that draws its order: as the mixed law (RegT), but that the last act may wait through other operations for what was read. No condition. The program's terminal: between, plain, styled. No condition. The program's terminal: numbers (the iterator), firstTwo. No condition. The program's terminal: firstTwo, modes. No condition. The program's terminal: modes, and obey of a style. No condition. The program's terminal: obey. No condition but that the counters are not at their ends. The program's terminal: obey, of moves and erasing; of styles. No condition but that the counters are not at their ends. The program's terminal: obey, of styles; obey. No condition but that the counters are not at their ends. The program's terminal: sequence. No condition but that the counters are not at their ends. The program's terminal: escape, take. No condition but that the counters are not at their ends. -/
import Derived.Deep.RegionHeldLaw
import Derived.Deep.DeepCutAuto
import Derived.OwnWalkIn
import Derived.Deep.CutBlock
import Derived.Test.YtekodpcedjpnjaaGreatRC05
import Derived.Test.YtekodpcedjpnjaaGreatRC06
import Derived.Test.YtekodpcedjpnjaaGreatRC08
import Derived.Test.YtekodpcedjpnjaaGreatRC09
import Derived.Test.YtekodpcedjpnjaaGreatRC13
import Derived.Test.YtekodpcedjpnjaaGreatRC24
set_option linter.unusedVariables false
set_option linter.unusedSimpArgs false
namespace Go.Proofs.YtekodpcedjpnjaaGreat
section
variable {P : Program} {ops : Array Oper} {Q : Exit → Act → World → Prop} {md : Region.Mode} {S : World → Prop} {z : Nat}
def ClosedL (md : Region.Mode) (ops : Array Oper) (listed : Array Bool) : Prop := ∀ (k : Nat) (ok : Oper), ops[k]? = some ok → listed.getD k false = true → ∀ e ∈ ok.after, Region.binds md e = true → listed.getD e.on false = true
theorem ClosedL.start (n : Nat) : ClosedL md ops (Array.replicate n false) := fun k ok _ h => by
  exfalso
  rcases Nat.lt_or_ge k n with h' | h'
  · simp [h'] at h
  · rw [Array.getD_eq_getD_getElem?, Array.getElem?_eq_none (by simpa using h')] at h
    cases h
theorem getD_set_f (listed : Array Bool) (i j : Nat) : (listed.setIfInBounds i true).getD j false = true ↔ listed.getD j false = true ∨ (i = j ∧ j < listed.size) := by
  simp only [Array.getD_eq_getD_getElem?, Array.getElem?_setIfInBounds]
  by_cases h : i = j
  · subst h
    by_cases h2 : i < listed.size <;> simp [h2]
  · simp [h]
theorem ClosedL.set {listed : Array Bool} (hc : ClosedL md ops listed) {i : Nat} (hi : i ∈ Region.ready md ops listed) : ClosedL md ops (listed.setIfInBounds i true) := fun k ok hk hl e he hb => by
  refine (getD_set_f _ _ _).2 (.inl ?_)
  rcases (getD_set_f _ _ _).1 hl with h1 | ⟨rfl, _⟩
  · exact hc k ok hk h1 e he hb
  · obtain ⟨_, oi, hoi, hall⟩ := mem_ready.1 hi
    rw [hk] at hoi
    cases hoi
    exact hall e he hb
def waitsTB (md : Region.Mode) (ops : Array Oper) : Nat → Nat → Nat → Bool
  | 0, _, _ => false
  | f + 1, z, i => match ops[z]? with
    | some oz => oz.after.toList.any fun e => Region.binds md e && (Nat.beq e.on i || waitsTB md ops f e.on i)
    | none => false
theorem waitsTB_listed {listed : Array Bool} (hc : ClosedL md ops listed) {i : Nat} : ∀ (f z : Nat), (∀ oz, ops[z]? = some oz → ∀ e ∈ oz.after, Region.binds md e = true → listed.getD e.on false = true) → waitsTB md ops f z i = true → listed.getD i false = true
  | 0, _, _, h => by cases h
  | f + 1, z, hz, h => by
    unfold waitsTB at h
    cases ho : ops[z]? with
    | none => rw [ho] at h; cases h
    | some oz =>
      rw [ho] at h
      dsimp only at h
      rw [List.any_eq_true] at h
      obtain ⟨e, he, hb⟩ := h
      rw [Bool.and_eq_true, Bool.or_eq_true] at hb
      have hl := hz oz ho e (by simpa using he) hb.1
      rcases hb.2 with h1 | h1
      · rw [← Nat.eq_of_beq_eq_true h1]; exact hl
      · exact waitsTB_listed hc f e.on (fun o2 ho2 e2 he2 hb2 => hc e.on o2 ho2 hl e2 he2 hb2) h1
theorem wpAnyZ_firstT {i f : Nat} {oi : Oper} {v : Value} (hi : ops[i]? = some oi) (hsel : ∀ (j : Nat) (o : Oper) cs b, ops[j]? = some o → o.op ≠ .select cs b)
    (hQ : ∀ c a w, Q (.panic c) (a.put oi.dst v) w → Q (.panic c) a w) (ht : waitsTB md ops f z i = true) :
    ∀ (fuel : Nat) (listed : Array Bool) (a : Act) (w : World), ClosedL md ops listed →
      (∀ j oj, ops[j]? = some oj → j ≠ i → listed.getD j true = false → (∀ e ∈ oj.after, Region.binds md e = true → e.on ≠ i) → oi.apart ops oj = true) →
      i ∈ Region.ready md ops listed → YieldsIf P ops S oi v a → S w →
      wpAnyZ P md ops Q S z fuel (listed.setIfInBounds i true) (a.put oi.dst v) w → wpAnyZ P md ops Q S z (fuel + 1) listed a w := by
  intro fuel
  induction fuel with
  | zero =>
    intro listed a w _ _ hr hy hS H
    refine ⟨fun h => (by rw [h] at hr; cases hr), fun j hj => ?_⟩
    by_cases hji : j = i
    · subst hji; exact hy.wpOp hi hS ⟨fun _ => hS, H⟩
    · have := ready_mono hj hji
      rw [H.1] at this
      cases this
  | succ fuel ih =>
    intro listed a w hcl hfree hr hy hS H
    refine ⟨fun h => (by rw [h] at hr; cases hr), fun j hj => ?_⟩
    by_cases hji : j = i
    · subst hji; exact hy.wpOp hi hS ⟨fun _ => hS, H⟩
    · have h1 := H.2 j (ready_mono hj hji)
      obtain ⟨hjun, oj, hoj, hall⟩ := mem_ready.1 hj
      have no : listed.getD i false = true → False := fun h1 => by
        have h0 := (mem_ready.1 hr).1
        rcases Nat.lt_or_ge i listed.size with h' | h'
        · simp [h'] at h0 h1; rw [h0] at h1; cases h1
        · simp [Array.getElem?_eq_none h'] at h1
      have hnot : ∀ e ∈ oj.after, Region.binds md e = true → e.on ≠ i := fun e he hb heq => by
        have h1 := hall e he hb
        rw [heq] at h1
        exact no h1
      have hjz : j ≠ z := fun e => by
        subst e
        exact no (waitsTB_listed hcl f j (fun oz hoz e he hb => by rw [hoj] at hoz; cases hoz; exact hall e he hb) ht)
      have h2 := wpOp_putIf hoj (hfree j oj hoj hji hjun hnot) (fun cs b => hsel i oi cs b hi) (fun cs b => hsel j oj cs b hoj) hQ hy h1
      have hfree' : ∀ k ok, ops[k]? = some ok → k ≠ i → (listed.setIfInBounds j true).getD k true = false →
          (∀ e ∈ ok.after, Region.binds md e = true → e.on ≠ i) → oi.apart ops ok = true := fun k ok hk hki hun hno => by
        refine hfree k ok hk hki ?_ hno
        by_cases hjk : j = k
        · subst hjk; exact hjun
        · rw [getD_set_ne true hjk] at hun; exact hun
      refine wpOp_mono (fun a' w' h3 => ⟨fun _ => h3.2.1 hjz, ih (listed.setIfInBounds j true) a' w' (hcl.set hj) hfree' (ready_mono hr (Ne.symm hji)) h3.1 (h3.2.1 hjz) ?_⟩) h2
      rw [Array.setIfInBounds_comm _ _ hji]
      exact h3.2.2
def mixBT (md : Region.Mode) (ops : Array Oper) (f z : Nat) : List (Bool × Nat) → Array Bool → Bool
  | [], listed => (Region.ready md ops listed).isEmpty
  | (true, k) :: r, listed => (Region.ready md ops listed).contains k && (Region.free md ops listed k && (waitsTB md ops f z k && mixBT md ops f z r (listed.setIfInBounds k true)))
  | (false, k) :: r, listed => decide (Region.ready md ops listed = [k]) && ((!r.isEmpty || Nat.beq k z) && mixBT md ops f z r (listed.setIfInBounds k true))
theorem wpAnyZ_mixT {f : Nat} (hs : Region.noSelect ops = true) (hQ : ∀ c a d v w, Q (.panic c) (Act.put a d v) w → Q (.panic c) a w) : ∀ (is : List (Bool × Nat)) (l : List (Bool × Oper)) (listed : Array Bool) (a : Act) (w : World), ClosedL md ops listed →
    is.map (fun p => (p.1, ops[p.2]?)) = l.map (fun p => (p.1, some p.2)) → mixBT md ops f z is listed = true → (l ≠ [] → S w) → wpMix P ops Q S l a w → wpAnyZ P md ops Q S z l.length listed a w
  | [], l, listed, a, w, _, hl, hB, hS, h => by
    have e : l = [] := by
      rw [List.map_nil] at hl
      exact List.map_eq_nil_iff.1 hl.symm
    subst e
    exact ⟨by simpa [mixBT] using hB, h⟩
  | (b, k) :: is, l, listed, a, w, hc, hl, hB, hS, h => by
    obtain ⟨⟨b', o⟩, l, rfl⟩ : ∃ o l', l = o :: l' := by
      match l, hl with
      | [], hl => simp at hl
      | o :: l', _ => exact ⟨o, l', rfl⟩
    rw [List.map_cons, List.map_cons] at hl
    obtain ⟨hp, hl'⟩ := List.cons.inj hl
    have hb : b = b' := congrArg Prod.fst hp
    have h0 : ops[k]? = some o := congrArg Prod.snd hp
    clear hp
    subst hb
    have hSw := hS (by simp)
    have hle : is.length = l.length := by have := congrArg List.length hl'; simpa using this
    cases b with
    | true =>
      obtain ⟨v, hy, h⟩ := h
      simp only [mixBT, Bool.and_eq_true] at hB
      obtain ⟨h1, h2, h3, h4⟩ := hB
      have h1 : k ∈ Region.ready md ops listed := by simpa using h1
      exact wpAnyZ_firstT h0 (Region.noSelect_spec hs) (fun c a w => hQ c a _ _ w) h3 _ _ _ _ hc (Region.free_spec h0 h2) h1 hy hSw
        (wpAnyZ_mixT hs hQ is l _ _ w (hc.set h1) hl' h4 (fun _ => hSw) h)
    | false =>
      simp only [mixBT, Bool.and_eq_true, decide_eq_true_eq] at hB
      obtain ⟨h1, h2, h3⟩ := hB
      refine ⟨fun h4 => (by rw [h1] at h4; cases h4), fun i hi => ?_⟩
      have hi' := hi
      rw [h1] at hi
      obtain rfl : i = k := by simpa using hi
      refine wpOp_mono (fun a' w' h' => ⟨fun hne => h'.1 (fun e => hne ?_), wpAnyZ_mixT hs hQ is l _ a' w' (hc.set hi') hl' h3 h'.1 h'.2⟩) (wpOp_of_list h0 h)
      have e2 : is = [] := by
        rw [e] at hle
        exact List.length_eq_zero_iff.1 hle
      rw [e2] at h2
      simpa using h2
theorem wp_region_mixT {id : Nat} {a : Act} {w : World} {l : List Oper} (f : Nat) (is : List (Bool × Nat)) (S : World → Prop) (hm : P.follows .mixedOrders = true) (hs : Region.noSelect l.toArray = true)
    (hr : is.map (fun p => (p.1, l.toArray[p.2]?)) = (mixL l is).map (fun p => (p.1, some p.2))) (hn : Nat.beq (mixL l is).length l.length = true)
    (hB : mixBT .any l.toArray f (l.length - 1) is (Array.replicate l.length false) = true)
    (hQ : ∀ c a d v w, Q (.panic c) (Act.put a d v) w → Q (.panic c) a w) (hS : S w.drew)
    (h : wpMix P l.toArray Q S (mixL l is) a w.drew) : (Code.region id l.toArray true).wp P Q a w := by
  have hn := Nat.eq_of_beq_eq_true hn
  refine wp_region_any hm (wpAny_of_Z (S := S) (z := l.length - 1) _ _ _ _ ?_)
  have := wpAnyZ_mixT (md := .any) (z := l.length - 1) (P := P) (Q := Q) (S := S) hs hQ is (mixL l is) (Array.replicate l.length false) a w.drew (ClosedL.start _) hr hB (fun _ => hS) h
  rw [hn] at this
  simpa using this
end
end Go.Proofs.YtekodpcedjpnjaaGreat
namespace Go.Proofs.YtekodpcedjpnjaaGreat
open Go.RowKit Go.Maps
def okPl (c : UInt8) : Bool := decide (c = 59) || decide (48 ≤ c.toNat ∧ c.toNat ≤ 57)
theorem plainB_drop (l : List UInt8) (k : Nat) (h : k < l.length) : plainB (l.drop k) = (okPl (nth 0 l k) && plainB (l.drop (k + 1))) := by
  rw [List.drop_eq_getElem_cons h, nth_eq _ _ _ h]
  rfl
theorem okPl_nat (c : UInt8) : okPl c = (decide (c.toNat = 59) || decide (48 ≤ c.toNat ∧ c.toNat ≤ 57)) := by
  unfold okPl
  congr 1
  rw [decide_eq_decide]
  exact ⟨fun h => by rw [h]; rfl, fun h => UInt8.toNat_inj.1 h⟩
end Go.Proofs.YtekodpcedjpnjaaGreat
namespace Go.Proofs.YtekodpcedjpnjaaGreat
open Go.RowKit Go.Shelf Go.Maps
attribute [local go_sem] Oper.semAt_some
theorem Only.own {S : List Nat} {w W W' : World} {row : Option Nat} {B : Nat} (h : Only S w W) (hB : w.heap.size ≤ B) (hg : W.grownBy W' row) (hr : ∀ r, row = some r → B ≤ r ∧ ∃ o : Obj, W.heap[r]? = some o ∧ o.isCells = false) : Only S w W' :=
  ⟨hg.os.trans h.os, hg.tape.trans h.tape, hg.output.trans h.output, Nat.le_trans h.size hg.size, fun k hk hs => (hg.block k (Nat.lt_of_lt_of_le hk h.size) (fun e => by have := (hr k e.symm).1; omega)).trans (h.block k hk hs)⟩
theorem num_ge (l : List UInt8) (a : Nat) : ∃ x t, numsT a l = x :: t := by
  induction l generalizing a with
  | nil => exact ⟨_, _, rfl⟩
  | cons c l ih =>
    unfold numsT
    split
    · exact ⟨_, _, rfl⟩
    · exact ih _
theorem numsT_le : ∀ (l : List UInt8) (a : Nat), a ≤ 9999 → ∀ x ∈ numsT a l, x ≤ 9999
  | [], a, h, x, hx => by rw [numsT, List.mem_singleton] at hx; omega
  | c :: l, a, h, x, hx => by
    unfold numsT at hx
    split at hx
    · rcases List.mem_cons.1 hx with h1 | h1
      · omega
      · exact numsT_le l 0 (by omega) x h1
    · exact numsT_le l _ (by omega) x hx
theorem nums_at (l : List UInt8) (k a : Nat) (h : k < l.length) : numsT a (l.drop k) = if (nth 0 l k).toNat = 59 then a :: numsT 0 (l.drop (k + 1)) else numsT (min 9999 (10 * a + ((nth 0 l k).toNat - 48))) (l.drop (k + 1)) := by
  rw [List.drop_eq_getElem_cons h, nth_eq _ _ _ h]
  have e : ((l[k]).toNat = 59) ↔ (l[k] = 59) := ⟨fun h => UInt8.toNat_inj.1 h, fun h => by rw [h]; rfl⟩
  conv => lhs; unfold numsT
  by_cases h1 : l[k] = 59
  · rw [if_pos h1, if_pos (e.2 h1)]
  · rw [if_neg h1, if_neg (fun h2 => h1 (e.1 h2))]
end Go.Proofs.YtekodpcedjpnjaaGreat
namespace Go.Proofs.YtekodpcedjpnjaaGreat
open Go.RowKit Go.Shelf Go.Maps
attribute [local go_sem] Oper.semAt_some
end Go.Proofs.YtekodpcedjpnjaaGreat
namespace Go.Proofs.YtekodpcedjpnjaaGreat
open Go.RowKit Go.Shelf Go.Maps
attribute [local go_sem] Oper.semAt_some
end Go.Proofs.YtekodpcedjpnjaaGreat
namespace Go.Proofs.YtekodpcedjpnjaaGreat
open Go.RowKit Go.Shelf Go.Maps
attribute [local go_sem] Oper.semAt_some
def TS.sty (t : TS) (n : Nat) : TS := { t with y := styT t.y n }
theorem Bys.tail {W : World} {g off : Nat} {c : UInt8} {r : List UInt8} (h : Bys W g off (c :: r)) : Bys W g (off + 1) r :=
  ⟨h.lt, fun j hj => by
    have := h.at_ (j + 1) (by simpa using hj)
    rw [show off + (j + 1) = off + 1 + j by omega] at this
    rw [this]; rfl⟩
theorem Bys.any {W : World} {g off : Nat} {c : UInt8} (h : Bys W g off [c]) (k : Nat) : Bys W g k [] := ⟨h.lt, fun j hj => by simp at hj⟩
theorem Bys.rest {W : World} {g off n cap : Nat} {c : UInt8} {r : List UInt8} (h : Bys W g off (c :: r)) (hn : r.length + 1 = n) (hc : n ≤ cap) : Bys W g (if cap = 1 then off else off + 1) r := by
  split
  · have : r = [] := List.eq_nil_of_length_eq_zero (by omega)
    subst this
    exact h.any _
  · exact h.tail
end Go.Proofs.YtekodpcedjpnjaaGreat
namespace Go.Proofs.YtekodpcedjpnjaaGreat
open Go.RowKit Go.Shelf Go.Maps
attribute [local go_sem] Oper.semAt_some
end Go.Proofs.YtekodpcedjpnjaaGreat
namespace Go.Proofs.YtekodpcedjpnjaaGreat
open Go.RowKit Go.Shelf Go.Maps
attribute [local go_sem] Oper.semAt_some
end Go.Proofs.YtekodpcedjpnjaaGreat
namespace Go.Proofs.YtekodpcedjpnjaaGreat
open Go.RowKit Go.Shelf Go.Maps
theorem span_at (f : UInt8 → Bool) (r : List UInt8) (k : Nat) (h : k < r.length) : spanN f (r.drop k) = if f (nth 0 r k) then spanN f (r.drop (k + 1)) + 1 else 0 := by
  rw [List.drop_eq_getElem_cons h, nth_eq _ _ _ h]
  rfl
theorem span_end (f : UInt8 → Bool) (r : List UInt8) (k : Nat) (h : r.length ≤ k) : spanN f (r.drop k) = 0 := by rw [List.drop_eq_nil_of_le h]; rfl
theorem parB_nat (c : UInt8) : parB c = decide ((48 : Int) ≤ (c.toNat : Int) ∧ (c.toNat : Int) ≤ 63) := by unfold parB; exact decide_eq_decide.2 (by omega)
theorem midB_nat (c : UInt8) : midB c = decide ((32 : Int) ≤ (c.toNat : Int) ∧ (c.toNat : Int) ≤ 47) := by unfold midB; exact decide_eq_decide.2 (by omega)
theorem endB_nat (c : UInt8) : endB c = decide ((64 : Int) ≤ (c.toNat : Int) ∧ (c.toNat : Int) ≤ 126) := by unfold endB; exact decide_eq_decide.2 (by omega)
theorem Bys.at2 {W : World} {g off : Nat} {c d : UInt8} {r : List UInt8} (h : Bys W g off (c :: d :: r)) {k : Nat} (h2 : 2 ≤ k) (hk : k < r.length + 2) : W.cell? ⟨g, off + k, none⟩ = some (.int .u8 ((nth 0 r (k - 2)).toNat : Int)) := by
  have := h.at_ k (by simpa using hk)
  obtain ⟨j, rfl⟩ : ∃ j, k = j + 2 := ⟨k - 2, by omega⟩
  rw [this]
  rfl
end Go.Proofs.YtekodpcedjpnjaaGreat
namespace Go.Proofs.YtekodpcedjpnjaaGreat
open Go.RowKit Go.Shelf Go.Maps
theorem first_ctl (t : TS) (c : UInt8) (r : List UInt8) (h27 : c.toNat ≠ 27) (h : c.toNat < 32 ∨ c.toNat = 127) : t.first (c :: r) = (t.control c.toNat, 1) := by
  unfold TS.first
  dsimp only
  rw [if_neg h27, if_pos h]
theorem first_more (t : TS) (c : UInt8) (r : List UInt8) (h27 : c.toNat ≠ 27) (h : ¬ (c.toNat < 32 ∨ c.toNat = 127)) (hm : moreL (c :: r) = true) : t.first (c :: r) = (t, 0) := by
  unfold TS.first
  dsimp only
  rw [if_neg h27, if_neg h, if_pos hm]
theorem first_one (t : TS) (c : UInt8) (r : List UInt8) (h27 : c.toNat ≠ 27) (h : ¬ (c.toNat < 32 ∨ c.toNat = 127)) (hm : moreL (c :: r) = false) : t.first (c :: r) = (t.rune (stepL (c :: r)).1, (stepL (c :: r)).2) := by
  unfold TS.first
  dsimp only
  rw [if_neg h27, if_neg h, if_neg (by rw [hm]; simp)]
end Go.Proofs.YtekodpcedjpnjaaGreat
