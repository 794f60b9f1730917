/- Wrap in plain Lean: words, the page that is filled, lines. No condition. -/
import Derived.Test.YtmdpmjabjijjiaaWrap1
namespace Go.Proofs.Ytmdpmjabjijjiaa
set_option linter.unusedVariables false
set_option linter.unusedSimpArgs false
open Go.RowKit Go.Shelf Go.Maps
abbrev Pg := List (List UInt8) × List UInt8 × Int
def endG (st : Pg) : Pg := if 0 < st.2.2 then (st.1 ++ [st.2.1], [], 0) else (st.1, [], 0)
def putS (st : Pg) (c : List UInt8) : Pg := (st.1, st.2.1 ++ c, st.2.2 + colsL c)
def putG (w : Int) (st : Pg) (c : List UInt8) : Pg := if w < colsL c then st else if w - st.2.2 < colsL c then putS (endG st) c else putS st c
def addG (w : Int) (st : Pg) (x : List (List UInt8)) : Pg := x.foldl (putG w) (if 0 < st.2.2 ∧ sumC x ≤ w - st.2.2 - 1 then putG w st [32] else endG st)
def b32 (c : List UInt8) : Bool := decide ((nth 0 c 0).toNat = 32)
abbrev Ws := List (List (List UInt8))
def snocW (o : Ws) (c : List UInt8) : Ws := match o.getLast? with | some x => o.dropLast ++ [x ++ [c]] | none => []
def wordS (st : Ws × Bool) (c : List UInt8) : Ws × Bool := if b32 c then (st.1, false) else if st.2 then (snocW st.1 c, true) else (st.1 ++ [[c]], true)
def wordsL (l : List (List UInt8)) : Ws := (l.foldl wordS ([], false)).1
def wrapL (s : List UInt8) (w : Int) : List (List UInt8) := if w < 1 then [] else (endG ((wordsL (cutL (flatL s))).foldl (addG w) ([], [], 0))).1
theorem snocW_eq (o : Ws) (x : List (List UInt8)) (c : List UInt8) : snocW (o ++ [x]) c = o ++ [x ++ [c]] := by
  unfold snocW; simp
/-! ### what is wide and long -/
structure PgOk (w : Int) (st : Pg) : Prop where
  used : 0 ≤ st.2.2 ∧ st.2.2 ≤ w
  zero : st.2.2 = 0 → st.2.1 = []
theorem endG_ok {w : Int} {st : Pg} (h : PgOk w st) : PgOk w (endG st) := by
  have hw := h.used
  unfold endG
  split
  · exact ⟨⟨Int.le_refl _, by show (0 : Int) ≤ w; omega⟩, fun _ => rfl⟩
  · exact ⟨⟨Int.le_refl _, by show (0 : Int) ≤ w; omega⟩, fun _ => rfl⟩
theorem endG_used (st : Pg) : (endG st).2.2 = 0 := by unfold endG; split <;> rfl
theorem endG_line (st : Pg) : (endG st).2.1 = [] := by unfold endG; split <;> rfl
theorem putG_ok {w : Int} {st : Pg} {c : List UInt8} (h : PgOk w st) (hc : 1 ≤ colsL c) : PgOk w (putG w st c) := by
  have hu := h.used
  unfold putG
  split
  · exact h
  · rename_i h1
    split
    · rename_i h2
      have := endG_used st
      refine ⟨⟨by unfold putS; dsimp only; omega, by unfold putS; dsimp only; omega⟩, fun e => ?_⟩
      unfold putS at e; dsimp only at e; omega
    · rename_i h2
      refine ⟨⟨by unfold putS; dsimp only; omega, by unfold putS; dsimp only; omega⟩, fun e => ?_⟩
      unfold putS at e; dsimp only at e; omega
theorem cols32 : colsL [32] = 1 := by decide +kernel
theorem foldPut_ok {w : Int} : ∀ (x : List (List UInt8)) (st : Pg), PgOk w st → (∀ c ∈ x, 1 ≤ colsL c) → PgOk w (x.foldl (putG w) st)
  | [], _, h, _ => h
  | c :: x, st, h, hx => foldPut_ok x _ (putG_ok h (hx c (List.mem_cons_self ..))) (fun y hy => hx y (List.mem_cons_of_mem _ hy))
theorem addG_ok {w : Int} {st : Pg} {x : List (List UInt8)} (h : PgOk w st) (hx : ∀ c ∈ x, 1 ≤ colsL c) : PgOk w (addG w st x) := by
  unfold addG
  refine foldPut_ok _ _ ?_ hx
  split
  · exact putG_ok h (by rw [cols32]; omega)
  · exact endG_ok h
/-- What abides on a page: m lines at the most. -/
structure PgI (w : Int) (m : Nat) (st : Pg) : Prop where
  ok : PgOk w st
  ln : 0 < st.2.2 → st.2.1 ≠ []
  lb : (st.2.1.length : Int) ≤ 64 * st.2.2
  db : st.1.length ≤ m
theorem endG_I {w : Int} {m : Nat} {st : Pg} (h : PgI w m st) : PgI w (m + 1) (endG st) := by
  have h2 := endG_used st
  have h3 := endG_line st
  refine ⟨endG_ok h.ok, fun e => by omega, by rw [h2, h3]; simp, ?_⟩
  have := h.db
  unfold endG
  split <;> simp <;> omega
theorem putS_I {w : Int} {m : Nat} {st : Pg} {c : List UInt8} (h : PgI w m st) (hc : Clu c) (hw : st.2.2 + colsL c ≤ w) : PgI w m (putS st c) := by
  have h1 := hc.len
  have h2 := hc.cols
  have h3 := h.ok.used
  have h4 := h.lb
  refine ⟨⟨by unfold putS; dsimp only; omega, fun e => by unfold putS at e; dsimp only at e; omega⟩, fun _ e => ?_, ?_, h.db⟩
  · have e2 : st.2.1 ++ c = [] := e
    rw [(List.append_eq_nil_iff.1 e2).2] at h1
    simp at h1
  · show ((st.2.1 ++ c).length : Int) ≤ 64 * (st.2.2 + colsL c)
    rw [List.length_append]; omega
theorem putG_I {w : Int} {m : Nat} {st : Pg} {c : List UInt8} (h : PgI w m st) (hc : Clu c) : PgI w (m + 1) (putG w st c) := by
  have hu := h.ok.used
  have up : ∀ {X : Pg}, PgI w m X → PgI w (m + 1) X := fun k => ⟨k.ok, k.ln, k.lb, Nat.le_succ_of_le k.db⟩
  unfold putG
  split
  · exact up h
  · rename_i h1
    split
    · have h2 := endG_used st
      exact putS_I (endG_I h) hc (by omega)
    · exact up (putS_I h hc (by omega))
theorem clu32 : Clu [32] := clu_mem (l := [32]) (by rw [show cutL [32] = [[32]] by decide +kernel]; simp)
theorem foldPut_I {w : Int} : ∀ (x : List (List UInt8)) (m : Nat) (st : Pg), PgI w m st → (∀ c ∈ x, Clu c) → PgI w (m + x.length) (x.foldl (putG w) st)
  | [], _, _, h, _ => h
  | c :: x, m, st, h, hx => by
    have := foldPut_I x (m + 1) _ (putG_I h (hx c (List.mem_cons_self ..))) (fun y hy => hx y (List.mem_cons_of_mem _ hy))
    rw [List.length_cons, show m + (x.length + 1) = m + 1 + x.length by omega]
    exact this
def startG (w : Int) (st : Pg) (x : List (List UInt8)) : Pg := if 0 < st.2.2 ∧ sumC x ≤ w - st.2.2 - 1 then putG w st [32] else endG st
theorem addG_start (w : Int) (st : Pg) (x : List (List UInt8)) : addG w st x = x.foldl (putG w) (startG w st x) := rfl
theorem startG_I {w : Int} {m : Nat} {st : Pg} {x : List (List UInt8)} (h : PgI w m st) : PgI w (m + 1) (startG w st x) := by
  unfold startG
  split
  · exact putG_I h clu32
  · exact endG_I h
theorem addG_I {w : Int} {m : Nat} {st : Pg} {x : List (List UInt8)} (h : PgI w m st) (hx : ∀ c ∈ x, Clu c) : PgI w (m + 1 + x.length) (addG w st x) :=
  foldPut_I x _ _ (startG_I h) hx
end Go.Proofs.Ytmdpmjabjijjiaa
