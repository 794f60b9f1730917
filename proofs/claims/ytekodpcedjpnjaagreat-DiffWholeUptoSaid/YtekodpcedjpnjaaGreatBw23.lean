/- The program's terminal: the bytes that wait: came, taken. No condition but that they are not too many. The program's terminal: made, Write. No condition but that the counters are not at their ends and the bytes not too many. The program's terminal: New, and what it tells of itself. No condition. The law's example of a terminal: awake is true. No condition. -/
import Derived.Laws.AppendOwnNone
import Derived.Lib.SlBytesConst
import Derived.Test.YtekodpcedjpnjaaGreatBw03
import Derived.Test.YtekodpcedjpnjaaGreatBw04
import Derived.Test.YtekodpcedjpnjaaGreatBw05
import Derived.Test.YtekodpcedjpnjaaGreatBw09
import Derived.Test.YtekodpcedjpnjaaGreatBw19
import Derived.Test.YtekodpcedjpnjaaGreatBw20
import Derived.Test.YtekodpcedjpnjaaGreatBw22
namespace Go.Proofs.YtekodpcedjpnjaaGreat
set_option linter.unusedVariables false
set_option linter.unusedSimpArgs false
open Go.RowKit Go.Shelf Go.Maps
/-- The bytes that wait. -/
def Held (W : World) (n₀ : Nat) (hv : Value) (l : List UInt8) : Prop := W.ownsRow n₀ 5 1 hv l.length (u8v l)
theorem Held.type {W : World} {n₀ : Nat} {hv : Value} {l : List UInt8} (h : Held W n₀ hv l) : ∀ k, hv.ownBlock = some k → n₀ ≤ k ∧ ∃ cur, W.heap[k]? = some (.cells cur 5 (0, 0)) := own_cells h
/-- The terminal's blocks are none of the waiting bytes. -/
theorem TmAt.far {W : World} {b p q n₀ : Nat} {hv hw : Value} {t : TS} {l : List UInt8} (a : TmAt W b p q hv t) (h : Held W n₀ hw l) : hw.ownBlock ≠ some b ∧ hw.ownBlock ≠ some p ∧ hw.ownBlock ≠ some q := by
  refine ⟨fun e => ?_, fun e => ?_, fun e => ?_⟩
  · obtain ⟨_, cur, hc⟩ := h.type _ e
    rw [a.blk] at hc
    injection hc with h1
    injection h1 with _ h2
    exact absurd h2 (by decide)
  · obtain ⟨_, cur, hc⟩ := h.type _ e
    rw [a.g.head] at hc
    injection hc with h1
    injection h1 with _ h2
    exact absurd h2 (by decide)
  · obtain ⟨_, cur, hc⟩ := h.type _ e
    have hq : W.heap[q]? = _ := a.g.blk
    rw [hq] at hc
    injection hc with h1
    injection h1 with _ h2
    exact absurd h2 (by decide)
theorem TmAt.grow {W W' : World} {b p q n₀ : Nat} {hv hw : Value} {t : TS} {l : List UInt8} (a : TmAt W b p q hv t) (h : Held W n₀ hw l) (hg : W.grownBy W' hw.ownBlock) : TmAt W' b p q hv t := by
  obtain ⟨h1, h2, h3⟩ := a.far h
  have hl := a.lt
  exact ⟨(hg.block b hl.1 (fun e => h1 e.symm)).trans a.blk, { a.g with head := (hg.block p hl.2.1 (fun e => h2 e.symm)).trans a.g.head, blk := (hg.block q hl.2.2 (fun e => h3 e.symm)).trans a.g.blk }, a.bp, a.bq⟩
theorem Held.keep {W W' : World} {n₀ : Nat} {hv : Value} {l : List UInt8} {S : List Nat} (h : Held W n₀ hv l) (o : Only S W W') (hS : ∀ k, hv.ownBlock = some k → k ∉ S) : Held W' n₀ hv l := by
  rcases h with ⟨h0, h1 | ⟨g, cap, cur, h1, hg, hc, h2, h3, h4, h5⟩⟩
  · exact ⟨h0, .inl h1⟩
  · subst h1
    exact ⟨h0, .inr ⟨g, cap, cur, rfl, hg, o.heap hc (hS g rfl), h2, h3, h4, h5⟩⟩
theorem Held.bys {W : World} {n₀ g n c : Nat} {l : List UInt8} (h : Held W n₀ (.slice (some ⟨g, 0, none⟩) n c) l) : Bys W g 0 l ∧ l.length = n ∧ n ≤ c ∧ c ≤ maxLen := by
  have hs := own_shape h
  rcases hs with ⟨h1, _⟩ | ⟨g', c', h1, h2, h3, h4⟩
  · cases h1
  · simp only [Value.slice.injEq, Option.some.injEq, Addr.mk.injEq, true_and, and_true] at h1
    obtain ⟨rfl, rfl, rfl⟩ := h1
    obtain ⟨hr, _, hm⟩ := own_row_at h
    refine ⟨⟨h4, fun j hj => ?_⟩, rfl, h2, hm⟩
    obtain ⟨b, off, e, hb, hc⟩ := hr j (by simp [u8v]; exact hj)
    simp only [Option.some.injEq, Addr.mk.injEq] at e
    obtain ⟨rfl, rfl, _⟩ := e
    rw [hc]
    unfold u8v
    rw [nth_map _ 0 _ _ hj]
theorem bys_news {W : World} {g off : Nat} {l : List UInt8} (h : Bys W g off l) : ∀ j u, (u8v l)[j]? = some u → W.cell? ((⟨g, off, none⟩ : Addr).add j) = some u := fun j u hj => by
  have hl : j < l.length := by have := (List.getElem?_eq_some_iff.1 hj).1; simpa [u8v] using this
  have h1 := h.at_ j hl
  rw [Go.WideShapes.add_plain, h1, ← hj]
  unfold u8v
  rw [List.getElem?_map, List.getElem?_eq_getElem hl, nth_eq _ _ _ hl]
  rfl
theorem u8v_app (a b : List UInt8) : u8v (a ++ b) = u8v a ++ u8v b := by simp [u8v]
theorem TmAt.hv {W : World} {b p q : Nat} {hv : Value} {t : TS} (a : TmAt W b p q hv t) (v : Value) : TmAt (W.setCell ⟨b, 0, none⟩ v) b p q v t := a.put 0 v v t rfl rfl rfl rfl
theorem Held.set {W : World} {b p q n₀ : Nat} {hv hw : Value} {t : TS} {l : List UInt8} (h : Held W n₀ hw l) (a : TmAt W b p q hv t) (v : Value) : Held (W.setCell ⟨b, 0, none⟩ v) n₀ hw l :=
  h.keep (set_only W b 0 v) (fun k e => by simp only [List.mem_singleton]; rintro rfl; exact (a.far h).1 e)
end Go.Proofs.YtekodpcedjpnjaaGreat
namespace Go.Proofs.YtekodpcedjpnjaaGreat
set_option linter.unusedVariables false
set_option linter.unusedSimpArgs false
open Go.RowKit Go.Shelf Go.Maps
/-- What must not be touched by what is written. -/
def Far (b q : Nat) (hv : Value) (k : Nat) : Prop := k ≠ b ∧ k ≠ q ∧ hv.ownBlock ≠ some k
/-- A part of what is written. -/
def PartV (W : World) (b q : Nat) (hv : Value) (v : Value) (s : List UInt8) : Prop :=
  (v = .slice none 0 0 ∧ s = []) ∨ (∃ ad c, v = .slice (some ad) 0 c ∧ s = []) ∨ ∃ g off n c, v = .slice (some ⟨g, off, none⟩) n c ∧ s.length = n ∧ Bys W g off s ∧ Far b q hv g
structure PartsAt (W : World) (b q : Nat) (hv : Value) (pa : Option Addr) (np : Nat) (P : List (List UInt8)) : Prop where
  len : P.length = np
  at_ : ∀ i s, P[i]? = some s → ∃ bb off v, pa = some ⟨bb, off, none⟩ ∧ bb < W.heap.size ∧ Far b q hv bb ∧ W.cell? ⟨bb, off + i, none⟩ = some v ∧ PartV W b q hv v s
def runP (x : TS × List UInt8) (s : List UInt8) : TS × List UInt8 := runT x.1 (x.2 ++ s)
theorem Far.no {b q : Nat} {hv : Value} {k : Nat} (h : Far b q hv k) : k ∉ b :: q :: hv.ownBlock.toList := by
  intro hm
  rcases List.mem_cons.1 hm with h1 | h1
  · exact h.1 h1
  rcases List.mem_cons.1 h1 with h2 | h2
  · exact h.2.1 h2
  · apply h.2.2
    cases ho : hv.ownBlock with
    | none => rw [ho] at h2; simp at h2
    | some j => rw [ho] at h2; simp at h2; rw [h2]
/-- What was far stays far. -/
theorem Far.next {W : World} {b q : Nat} {hv hv' : Value} {k : Nat} (h : Far b q hv k) (hk : k < W.heap.size) (hh : ∀ k, hv'.ownBlock = some k → hv.ownBlock = some k ∨ W.heap.size ≤ k) : Far b q hv' k :=
  ⟨h.1, h.2.1, fun e => by rcases hh k e with h1 | h1; exact h.2.2 h1; omega⟩
/-- How much is counted, and how much waits. -/
structure Cnt (t : TS) (N : Nat) (x : TS × List UInt8) (m : Nat) : Prop where
  ok : TOk x.1
  gone : x.1.gone + x.2.length ≤ t.gone + N + m
  bells : x.1.bells + x.2.length ≤ t.bells + N + m
  len : x.2.length ≤ N + m
theorem run_cnt : ∀ (n : Nat) (t : TS) (b : List UInt8), b.length ≤ n → (runT t b).1.gone + (runT t b).2.length ≤ t.gone + b.length ∧ (runT t b).1.bells + (runT t b).2.length ≤ t.bells + b.length ∧ (runT t b).2.length ≤ b.length
  | n, t, b, hn => by
    by_cases h : (t.first b).2 = 0
    · rw [run_wait t b h]; exact ⟨Nat.le_refl _, Nat.le_refl _, Nat.le_refl _⟩
    · have hl := (t.first_le b).1
      have hc := t.first_cnt b
      cases n with
      | zero => omega
      | succ n =>
        rw [run_step t b h]
        have ih := run_cnt n (t.first b).1 (b.drop (t.first b).2) (by rw [List.length_drop]; omega)
        rw [List.length_drop] at ih
        omega
theorem Cnt.next {t : TS} {N m : Nat} {x : TS × List UInt8} (h : Cnt t N x m) (s : List UInt8) : Cnt t N (runP x s) (m + s.length) := by
  have h1 := run_cnt _ x.1 (x.2 ++ s) (Nat.le_refl _)
  rw [List.length_append] at h1
  have h2 := h.gone
  have h3 := h.bells
  have h4 := h.len
  unfold runP
  exact ⟨h.ok.run _, by omega, by omega, by omega⟩
end Go.Proofs.YtekodpcedjpnjaaGreat
namespace Go.Proofs.YtekodpcedjpnjaaGreat
set_option linter.unusedVariables false
set_option linter.unusedSimpArgs false
open Go.RowKit Go.Shelf Go.Maps
end Go.Proofs.YtekodpcedjpnjaaGreat
namespace Go.Proofs.YtekodpcedjpnjaaGreat
set_option linter.unusedVariables false
set_option linter.unusedSimpArgs false
open Go.RowKit Go.Shelf Go.Maps
end Go.Proofs.YtekodpcedjpnjaaGreat
