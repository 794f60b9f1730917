/- Text. The program's terminal: the bytes that wait: came, taken. No condition but that they are not too many. The program's terminal: made, Write. No condition but that the counters are not at their ends and the bytes not too many. The program's terminal: New, and what it tells of itself. No condition. The law's example of a terminal: awake is true. No condition. -/
import Derived.Lib.AppendStr
import Derived.Deep.RegionHeldLaw
import Derived.Deep.DeepCutAuto
import Derived.Laws.AppendOwnNone
import Derived.Lib.SlBytesConst
import Derived.Test.YtekodpcedjpnjaaGreatRC04
import Derived.Test.YtekodpcedjpnjaaGreatRC05
import Derived.Test.YtekodpcedjpnjaaGreatRC06
import Derived.Test.YtekodpcedjpnjaaGreatRC08
import Derived.Test.YtekodpcedjpnjaaGreatRC09
import Derived.Test.YtekodpcedjpnjaaGreatRC10
import Derived.Test.YtekodpcedjpnjaaGreatRC13
import Derived.Test.YtekodpcedjpnjaaGreatRC24
import Derived.Test.YtekodpcedjpnjaaGreatRC43
set_option linter.unusedVariables false
set_option linter.unusedSimpArgs false
namespace Go.Proofs.YtekodpcedjpnjaaGreat
open Go.RowKit
def textL (M : List GC) : List UInt8 := M.flatMap fun c => c.s.data.toList
def trimN (l : List UInt8) : Nat → Nat
  | 0 => 0
  | n + 1 => if nth 0 l n = 32 then trimN l n else n + 1
def trimL (l : List UInt8) : List UInt8 := l.take (trimN l l.length)
end Go.Proofs.YtekodpcedjpnjaaGreat
namespace Go.Proofs.YtekodpcedjpnjaaGreat
open Go.RowKit Go.Shelf Go.Maps
def Held (W : World) (n₀ : Nat) (hv : Value) (l : List UInt8) : Prop := W.ownsRow n₀ 5 1 hv l.length (u8v l)
theorem Held.type {W : World} {n₀ : Nat} {hv : Value} {l : List UInt8} (h : Held W n₀ hv l) : ∀ k, hv.ownBlock = some k → n₀ ≤ k ∧ ∃ cur, W.heap[k]? = some (.cells cur 5 (0, 0)) := own_cells h
theorem Held.keep {W W' : World} {n₀ : Nat} {hv : Value} {l : List UInt8} {S : List Nat} (h : Held W n₀ hv l) (o : Only S W W') (hS : ∀ k, hv.ownBlock = some k → k ∉ S) : Held W' n₀ hv l := by
  rcases h with ⟨h0, h1 | ⟨g, cap, cur, h1, hg, hc, h2, h3, h4, h5⟩⟩
  · exact ⟨h0, .inl h1⟩
  · subst h1
    exact ⟨h0, .inr ⟨g, cap, cur, rfl, hg, o.heap hc (hS g rfl), h2, h3, h4, h5⟩⟩
theorem Held.bys {W : World} {n₀ g n c : Nat} {l : List UInt8} (h : Held W n₀ (.slice (some ⟨g, 0, none⟩) n c) l) : Bys W g 0 l ∧ l.length = n ∧ n ≤ c ∧ c ≤ maxLen := by
  have hs := own_shape h
  rcases hs with ⟨h1, _⟩ | ⟨g', c', h1, h2, h3, h4⟩
  · cases h1
  · simp only [Value.slice.injEq, Option.some.injEq, Addr.mk.injEq, true_and, and_true] at h1
    obtain ⟨rfl, rfl, rfl⟩ := h1
    obtain ⟨hr, _, hm⟩ := own_row_at h
    refine ⟨⟨h4, fun j hj => ?_⟩, rfl, h2, hm⟩
    obtain ⟨b, off, e, hb, hc⟩ := hr j (by simp [u8v]; exact hj)
    simp only [Option.some.injEq, Addr.mk.injEq] at e
    obtain ⟨rfl, rfl, _⟩ := e
    rw [hc]
    unfold u8v
    rw [nth_map _ 0 _ _ hj]
theorem bys_news {W : World} {g off : Nat} {l : List UInt8} (h : Bys W g off l) : ∀ j u, (u8v l)[j]? = some u → W.cell? ((⟨g, off, none⟩ : Addr).add j) = some u := fun j u hj => by
  have hl : j < l.length := by have := (List.getElem?_eq_some_iff.1 hj).1; simpa [u8v] using this
  have h1 := h.at_ j hl
  rw [Go.WideShapes.add_plain, h1, ← hj]
  unfold u8v
  rw [List.getElem?_map, List.getElem?_eq_getElem hl, nth_eq _ _ _ hl]
  rfl
theorem u8v_app (a b : List UInt8) : u8v (a ++ b) = u8v a ++ u8v b := by simp [u8v]
end Go.Proofs.YtekodpcedjpnjaaGreat
namespace Go.Proofs.YtekodpcedjpnjaaGreat
open Go.RowKit Go.Shelf Go.Maps
end Go.Proofs.YtekodpcedjpnjaaGreat
namespace Go.Proofs.YtekodpcedjpnjaaGreat
open Go.RowKit Go.Shelf Go.Maps
end Go.Proofs.YtekodpcedjpnjaaGreat
namespace Go.Proofs.YtekodpcedjpnjaaGreat
open Go.RowKit Go.Shelf Go.Maps
end Go.Proofs.YtekodpcedjpnjaaGreat
