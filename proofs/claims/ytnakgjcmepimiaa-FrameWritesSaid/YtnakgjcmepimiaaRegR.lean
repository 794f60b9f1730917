/- A drawn region inside a fence: reads, then acts; boxes and rows that abide. No condition. -/
import Derived.Test.YtnakgjcmepimiaaRegZ
import Derived.Test.YtnakgjcmepimiaaKB
import Derived.Test.YtnakgjcmepimiaaBut
import Derived.RangeFuncBox
import Derived.Maps.OwnIn
namespace Go.Proofs.Ytnakgjcmepimiaa
set_option linter.unusedVariables false
set_option linter.unusedSimpArgs false
open Go.RowKit Go.Shelf Go.Maps
/-- A region that draws its order inside a fence that lets all in: first operations that read, then acts in one forced order, the last of which may write what was read. -/
theorem wpIn_region_reads {P : Program} {Q : Exit → Act → World → Prop} {id : Nat} {a : Act} {w : World} {l : List Oper} {l₀ : Option Nat} {n : Nat} (n₁ : Nat) (S : World → Prop) (hm : P.follows .mixedOrders = true) (hs : Region.noSelect l.toArray = true) (hn : Nat.blt n₁ l.length = true) (hB : readsB .any l.toArray (l.length - 1) n₁ 0 (Array.replicate l.toArray.size false) = true)
    (hd : noDefer l.toArray = true) (ho : ∀ a w, ¬ Q .outgrown a w) (hQ : ∀ c a d v w, Q (.panic c) (Act.put a d v) w → Q (.panic c) a w) (hS : S w.drew)
    (h : wpRead P l.toArray S (fun a' => wpActs P l.toArray Q S (l.drop n₁) a' w.drew) (l.take n₁) a) : (Code.region id l.toArray true).wpIn (wideAt l₀) n P Q a w := by
  have hn : n₁ < l.length := by simpa [Nat.blt_eq] using hn
  refine wpIn_region_any hm (wpAnyIn_of_wpAny ho hd _ _ _ _ (wpAny_of_Z (S := S) (z := l.length - 1) _ _ _ _ ?_))
  have htl : (l.take n₁).length = n₁ := by simp; omega
  have hdl : (l.drop n₁).length = l.length - n₁ := by simp
  have mono : ∀ (K K' : Act → Prop), (∀ a, K a → K' a) → ∀ (q : List Oper) (a : Act), wpRead P l.toArray S K q a → wpRead P l.toArray S K' q a := by
    intro K K' hK q
    induction q with
    | nil => intro a h; exact hK a h
    | cons o q ih => intro a ⟨v, hy, h⟩; exact ⟨v, hy, ih _ h⟩
  have := wpAnyZ_reads (md := .any) (z := l.length - 1) (P := P) (Q := Q) (S := S) hs hQ (l.take n₁) 0 (l.length - n₁) (Array.replicate l.toArray.size false) a w.drew (fun j hj => by
      rw [htl] at hj
      simp [hj]) (by rw [htl]; exact hB) hS (by rw [htl]; simp; omega) (mono _ _ (fun a' ha' listed' hq => by
        rw [htl, Nat.zero_add] at hq
        have := wpAnyZ_acts (md := .any) (z := l.length - 1) (l.drop n₁) n₁ listed' a' w.drew (fun j => by simp [List.getElem?_drop]) (by rw [hdl]; omega) (by rw [hdl]; exact hq) ha'
        rwa [hdl] at this) _ _ h)
  rw [htl, show n₁ + (l.length - n₁) = l.length by omega] at this
  simpa using this
theorem boxed_own {X Y : World} {b : Nat} {t : TypeId} {v : Value} {row : Option Nat} (h : Boxed X b t v) (hg : X.grownBy Y row) (hr : ∀ r, row = some r → ∃ o, X.heap[r]? = some o ∧ o.isCells = false) : Boxed Y b t v :=
  h.kept hg fun e => by
    obtain ⟨o, ho, hc⟩ := hr b e.symm
    rw [show X.heap[b]? = _ from h] at ho
    cases ho
    cases hc
theorem boxed_put {X : World} {b : Nat} {t : TypeId} {v : Value} (h : Boxed X b t v) {k : Nat} (hk : b ≠ k) (u : Value) : Boxed (X.setCell ⟨k, 0, none⟩ u) b t v := (Below.heap_setCell _ _ _ _ (by exact hk)).trans h
theorem own_far {W W' : World} {n₀ : Nat} {e : TypeId} {size : Nat} {v : Value} {n : Nat} {xs : List Value} {row : Option Nat} (h : W.ownsRow n₀ e size v n xs) (hg : W.grownBy W' row) (hr : ∀ r, row = some r → ∃ o : Obj, W.heap[r]? = some o ∧ o.isCells = false) : W'.ownsRow n₀ e size v n xs := by
  refine h.kept hg ?_
  cases hv : v.ownBlock with
  | none => exact .inl rfl
  | some k =>
    refine .inr (fun e' => ?_)
    obtain ⟨h1, cur, h2⟩ := own_cells h k hv
    obtain ⟨o, h3, h4⟩ := hr k e'.symm
    rw [h2] at h3; cases h3; cases h4
end Go.Proofs.Ytnakgjcmepimiaa
