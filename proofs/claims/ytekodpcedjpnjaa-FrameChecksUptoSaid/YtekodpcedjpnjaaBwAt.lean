/- The order of a region in which the operations stand is a lexical one: a check that the kernel makes fast also where there are many operations. No condition. Regions that draw their order, at the class of all worlds that are as they were below a block. Regions that draw their order, from a world that is as another was below a block. No condition. -/
import Derived.Still
import Derived.Test.YtekodpcedjpnjaaBase
import Derived.Deep.QuietTactic
import Derived.Shelf.RegionOpenPlain
import Derived.BigQuiet
namespace Go.Proofs.Ytekodpcedjpnjaa
set_option linter.unusedVariables false
set_option linter.unusedSimpArgs false
section
variable {md : Region.Mode} {ops : Array Oper}
/-- Of the operations l, of which the first has the number k: each waits for earlier ones alone, and is apart from all later ones that do not wait for it. -/
def fastFrom (md : Region.Mode) (ops : Array Oper) : Nat → List Oper → Bool
  | _, [] => true
  | k, o :: l => (o.after.toList.all fun e => !Region.binds md e || Nat.blt e.on k) && ((l.all fun oj => oj.after.toList.any (fun e => Region.binds md e && Nat.beq e.on k) || o.apart ops oj) && fastFrom md ops (k + 1) l)
def fastB (md : Region.Mode) (ops : Array Oper) : Bool := Region.noSelect ops && fastFrom md ops 0 ops.toList
theorem fast_lex (l : List Oper) : ∀ (k : Nat) (listed : Array Bool), (∀ j, l[j]? = ops[k + j]?) → listed.size = ops.size → (∀ j, j < ops.size → listed[j]? = some (decide (j < k))) → k + l.length = ops.size →
    fastFrom md ops k l = true → Region.lexFrom md ops l.length k listed = true := by
  induction l with
  | nil =>
    intro k listed hl hs hj hk _
    simp only [List.length_nil, Nat.add_zero] at hk
    simp only [List.length_nil, Region.lexFrom, List.isEmpty_iff]
    unfold Region.ready
    rw [List.filter_eq_nil_iff]
    intro i hi
    have hi' := List.mem_range.1 hi
    have := hj i hi'
    have e : listed.getD i true = true := by rw [Array.getD_eq_getD_getElem?, this]; simp; omega
    simp [e]
  | cons o l ih =>
    intro k listed hl hs hj hk hB
    simp only [List.length_cons] at hk
    have h0 : ops[k]? = some o := by simpa using (hl 0).symm
    have hkn : k < ops.size := by omega
    simp only [fastFrom, Bool.and_eq_true] at hB
    obtain ⟨hA, hF, hR⟩ := hB
    have ek : listed.getD k true = false := by rw [Array.getD_eq_getD_getElem?, hj k hkn]; simp
    simp only [List.length_cons, Region.lexFrom, Bool.and_eq_true]
    refine ⟨⟨?_, ?_⟩, ?_⟩
    · rw [List.contains_iff_mem]
      unfold Region.ready
      rw [List.mem_filter]
      refine ⟨List.mem_range.2 hkn, ?_⟩
      rw [ek, h0]
      simp only [Bool.not_false, Bool.true_and, Option.map_some, Option.getD_some]
      rw [← Array.all_toList]
      rw [List.all_eq_true] at hA ⊢
      intro e he
      have := hA e he
      simp only [Bool.or_eq_true] at this ⊢
      rcases this with h | h
      · exact .inl h
      · have h' : e.on < k := by simpa [Nat.blt_eq] using h
        refine .inr ?_
        rw [Array.getD_eq_getD_getElem?, hj e.on (by omega)]
        simpa using h'
    · unfold Region.free
      simp only [h0]
      rw [List.all_eq_true]
      intro j hjr
      have hjn := List.mem_range.1 hjr
      by_cases h1 : j = k
      · simp [h1]
      · by_cases h2 : j < k
        · have : listed.getD j true = true := by rw [Array.getD_eq_getD_getElem?, hj j hjn]; simpa using h2
          simp [this]
        · have hoj : ops[j]? = some ops[j] := Array.getElem?_eq_getElem hjn
          have hm : ops[j] ∈ l := by
            have := hl (j - k)
            rw [show k + (j - k) = j by omega, hoj] at this
            obtain ⟨m, hm⟩ : ∃ m, j - k = m + 1 := ⟨j - k - 1, by omega⟩
            rw [hm, List.getElem?_cons_succ] at this
            exact List.mem_of_getElem? this
          have := (List.all_eq_true.1 hF) _ hm
          simp only [hoj, Bool.or_eq_true] at this ⊢
          refine .inr ?_
          rcases this with h | h
          · refine .inl ?_
            rw [← Array.any_toList]
            rw [List.any_eq_true] at h ⊢
            obtain ⟨e, he, hb⟩ := h
            refine ⟨e, he, ?_⟩
            simp only [Bool.and_eq_true] at hb ⊢
            exact ⟨hb.1, by simpa using Nat.eq_of_beq_eq_true hb.2⟩
          · exact .inr h
    · refine ih (k + 1) _ (fun j => by have := hl (j + 1); simpa [Nat.add_assoc, Nat.add_comm 1 j] using this) (by simpa using hs) (fun j hjn => ?_) (by omega) hR
      rw [Array.getElem?_setIfInBounds]
      by_cases h : k = j
      · subst h
        simp [hs, hjn]
      · rw [if_neg h, hj j hjn]
        congr 1
        rw [decide_eq_decide]
        omega
theorem lexB_fast (h : fastB md ops = true) : Region.lexB md ops = true := by
  simp only [fastB, Bool.and_eq_true] at h
  simp only [Region.lexB, Bool.and_eq_true]
  refine ⟨h.1, ?_⟩
  have := fast_lex ops.toList 0 (Array.replicate ops.size false) (by simp) (by simp) (fun j hj => by simp [hj]) (by simp) h.2
  simpa using this
end
end Go.Proofs.Ytekodpcedjpnjaa
namespace Go.Proofs.Ytekodpcedjpnjaa
set_option linter.unusedVariables false
set_option linter.unusedSimpArgs false
open Go.RowKit
/-- A world that is as w was below B. -/
structure BW (B : Nat) (w : World) where
  W : World
  h : Below B w W
instance instBW (B : Nat) (w : World) : Nonempty (BW B w) := ⟨⟨w, Below.refl _ _⟩⟩
theorem wp_region_bw {P : Program} {id : Nat} {Q : Exit → Act → World → Prop} {a : Act} {w : World} {l : List Oper} (B : Nat) (hm : P.follows .mixedOrders = true) (hB : Region.lexB .any l.toArray = true)
    (h : wpQuiet P l.toArray (fun w' => ∃ p : BW B w, w' = p.W) (fun a' => ∀ w', (∃ p : BW B w, w' = p.W) → Q .normal a' w') l a) : (Code.region id l.toArray true).wp P Q a w :=
  wp_region_quiet (C := fun w' => ∃ p : BW B w, w' = p.W) hm hB ⟨⟨{ w with drawn := w.drawn + 1 }, ⟨rfl, rfl, rfl, Nat.le_refl _, fun _ _ => rfl⟩⟩, rfl⟩ (by simpa using h)
theorem Calls.bw_of {P : Program} {f : FuncId} {args : Array Value} {B : Nat} {w : World} {p : BW B w} {v : Value} (hB : B ≤ w.heap.size)
    (h : Calls P f args p.W fun e w' => e = .returned v ∧ Below p.W.heap.size p.W w') : Calls P f args p.W fun e w'' => e = .returned v ∧ ∃ q : BW B w, w'' = q.W :=
  h.mono fun _ _ ⟨he, hb⟩ => ⟨he, ⟨_, bto p.h hb (Nat.le_trans hB p.h.size)⟩, rfl⟩
theorem BW.cell {B : Nat} {w : World} (p : BW B w) {a : Addr} {v : Value} (hb : a.block < B) (h : w.cell? a = some v) : p.W.cell? a = some v := (p.h.cell hb).trans h
end Go.Proofs.Ytekodpcedjpnjaa
namespace Go.Proofs.Ytekodpcedjpnjaa
set_option linter.unusedVariables false
set_option linter.unusedSimpArgs false
open Go.RowKit
theorem wp_region_bwFrom {P : Program} {id : Nat} {Q : Exit → Act → World → Prop} {a : Act} {wc : World} {l : List Oper} (B : Nat) (w : World) (h0 : Below B w wc) (hm : P.follows .mixedOrders = true) (hB : Region.lexB .any l.toArray = true)
    (h : wpQuiet P l.toArray (fun w' => ∃ p : BW B w, w' = p.W) (fun a' => ∀ w', (∃ p : BW B w, w' = p.W) → Q .normal a' w') l a) : (Code.region id l.toArray true).wp P Q a wc :=
  wp_region_quiet (C := fun w' => ∃ p : BW B w, w' = p.W) hm hB ⟨⟨{ wc with drawn := wc.drawn + 1 }, h0.trans ⟨rfl, rfl, rfl, Nat.le_refl _, fun _ _ => rfl⟩⟩, rfl⟩ (by simpa using h)
end Go.Proofs.Ytekodpcedjpnjaa
