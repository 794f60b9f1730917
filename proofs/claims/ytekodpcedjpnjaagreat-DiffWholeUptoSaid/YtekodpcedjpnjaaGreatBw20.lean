/- The program's terminal in memory; feed and moveTo. No condition but that the counters are not at their ends. The program's terminal: control. No condition but that the counters are not at their ends. The program's terminal: print. No condition but that the counters are not at their ends. The program's terminal: rune. No condition but that the counters are not at their ends. The program's terminal: move, eraseRows, eraseAll, eraseLine. No condition but that the counters are not at their ends. The program's terminal: move. No condition. -/
import Derived.Test.YtekodpcedjpnjaaGreatBw01
import Derived.Test.YtekodpcedjpnjaaGreatBw04
import Derived.Test.YtekodpcedjpnjaaGreatBw07
import Derived.Test.YtekodpcedjpnjaaGreatBw09
import Derived.Test.YtekodpcedjpnjaaGreatBw16
import Derived.Test.YtekodpcedjpnjaaGreatBw17
import Derived.Test.YtekodpcedjpnjaaGreatBw19
namespace Go.Proofs.YtekodpcedjpnjaaGreat
set_option linter.unusedVariables false
set_option linter.unusedSimpArgs false
open Go.RowKit Go.Maps
def pCells (hv : Value) (p : Nat) (t : TS) : Array Value :=
  #[hv, .pointer (some ⟨p, 0, none⟩), .int .i64 t.row, .int .i64 t.col, .bool t.y.b, .bool t.y.u, .bool t.y.i, .int .i64 t.y.f, .int .i64 t.y.g, .bool t.pend, .bool (!t.seen), .bool t.marked, .int .i64 t.bells, .int .i64 t.gone, .bool t.last, .int .i64 t.lrow, .int .i64 t.lcol]
/-- A terminal that New made: its block, its grid's two. -/
structure TmAt (W : World) (b p q : Nat) (hv : Value) (t : TS) : Prop where
  blk : W.heap[b]? = some (.cells (pCells hv p t) 185 (0, 0))
  g : GridAt W p q t.W t.H t.R.flatten
  bp : b ≠ p
  bq : b ≠ q
theorem TmAt.only {W W' : World} {b p q : Nat} {hv : Value} {t : TS} {S : List Nat} (a : TmAt W b p q hv t) (ho : Only S W W') (h1 : b ∉ S) (h2 : p ∉ S) (h3 : q ∉ S) : TmAt W' b p q hv t :=
  ⟨ho.heap a.blk h1, a.g.only ho h2 h3, a.bp, a.bq⟩
theorem TmAt.below {W W' : World} {b p q : Nat} {hv : Value} {t : TS} (a : TmAt W b p q hv t) (hb : Below W.heap.size W W') : TmAt W' b p q hv t :=
  a.only (Only.of_below (S := []) hb) (by simp) (by simp) (by simp)
theorem TmAt.lt {W : World} {b p q : Nat} {hv : Value} {t : TS} (a : TmAt W b p q hv t) : b < W.heap.size ∧ p < W.heap.size ∧ q < W.heap.size :=
  ⟨(Array.getElem?_eq_some_iff.1 a.blk).1, (Array.getElem?_eq_some_iff.1 a.g.head).1, a.g.blk.lt⟩
theorem TmAt.cells {W : World} {b p q : Nat} {hv : Value} {t : TS} (a : TmAt W b p q hv t) :
    W.cell? ⟨b, 0, none⟩ = some hv ∧ W.cell? ⟨b, 1, none⟩ = some (.pointer (some ⟨p, 0, none⟩)) ∧ W.cell? ⟨b, 2, none⟩ = some (.int .i64 t.row) ∧ W.cell? ⟨b, 3, none⟩ = some (.int .i64 t.col) ∧ W.cell? ⟨b, 4, none⟩ = some (.bool t.y.b) ∧ W.cell? ⟨b, 5, none⟩ = some (.bool t.y.u) ∧
    W.cell? ⟨b, 6, none⟩ = some (.bool t.y.i) ∧ W.cell? ⟨b, 7, none⟩ = some (.int .i64 t.y.f) ∧ W.cell? ⟨b, 8, none⟩ = some (.int .i64 t.y.g) ∧ W.cell? ⟨b, 9, none⟩ = some (.bool t.pend) ∧ W.cell? ⟨b, 10, none⟩ = some (.bool (!t.seen)) ∧ W.cell? ⟨b, 11, none⟩ = some (.bool t.marked) ∧
    W.cell? ⟨b, 12, none⟩ = some (.int .i64 t.bells) ∧ W.cell? ⟨b, 13, none⟩ = some (.int .i64 t.gone) ∧ W.cell? ⟨b, 14, none⟩ = some (.bool t.last) ∧ W.cell? ⟨b, 15, none⟩ = some (.int .i64 t.lrow) ∧ W.cell? ⟨b, 16, none⟩ = some (.int .i64 t.lcol) ∧ ∀ j, W.frozen? ⟨b, j, none⟩ = false := by
  have h := a.blk
  refine ⟨?_, ?_, ?_, ?_, ?_, ?_, ?_, ?_, ?_, ?_, ?_, ?_, ?_, ?_, ?_, ?_, ?_, fun j => by simp [World.frozen?, h]⟩ <;> rw [cell_of_row W b _ _ _ _ h] <;> rfl
/-- A cell of the terminal is written. -/
theorem TmAt.put {W : World} {b p q : Nat} {hv : Value} {t : TS} (a : TmAt W b p q hv t) (o : Nat) (v : Value) (hv' : Value) (t' : TS) (he : (pCells hv p t).setIfInBounds o v = pCells hv' p t') (hW : t'.W = t.W) (hH : t'.H = t.H) (hR : t'.R = t.R) : TmAt (W.setCell ⟨b, o, none⟩ v) b p q hv' t' :=
  have o1 : Only [b] W (W.setCell ⟨b, o, none⟩ v) := (Only.refl [b] W).setCell (.inl (by simp)) v
  ⟨by rw [set_at a.blk, he], by rw [hW, hH, hR]; exact a.g.only o1 (by simpa using Ne.symm a.bp) (by simpa using Ne.symm a.bq), a.bp, a.bq⟩
/-- The grid is written. -/
theorem TmAt.grid {W W' : World} {b p q : Nat} {hv : Value} {t : TS} (a : TmAt W b p q hv t) (o : Only [q] W W') (R : List (List GC)) (g : GridAt W' p q t.W t.H R.flatten) : TmAt W' b p q hv { t with R := R } :=
  ⟨o.heap a.blk (by simp; exact a.bq), g, a.bp, a.bq⟩
theorem Only.ob {b q : Nat} {W W' : World} (h : Only [b] W W') : Only [b, q] W W' := h.mono (by simp)
theorem Only.on {b q : Nat} {W W' : World} (h : Below W.heap.size W W') : Only [b, q] W W' := Only.of_below h
theorem set_only (W : World) (b o : Nat) (v : Value) : Only [b] W (W.setCell ⟨b, o, none⟩ v) := (Only.refl [b] W).setCell (.inl (by simp)) v
/-- What a method that tells nothing leaves. -/
def TmPost (b p q : Nat) (hv : Value) (t : TS) (W : World) (e : Ending) (w' : World) : Prop := e = .returned (.tuple #[]) ∧ TmAt w' b p q hv t ∧ Only [b, q] W w'
end Go.Proofs.YtekodpcedjpnjaaGreat
namespace Go.Proofs.YtekodpcedjpnjaaGreat
set_option linter.unusedVariables false
set_option linter.unusedSimpArgs false
open Go.RowKit Go.Maps
end Go.Proofs.YtekodpcedjpnjaaGreat
namespace Go.Proofs.YtekodpcedjpnjaaGreat
set_option linter.unusedVariables false
set_option linter.unusedSimpArgs false
open Go.RowKit Go.Maps
/-- The terminal's block. -/
def PBk (W : World) (b : Nat) (cs : Array Value) : Prop := W.heap[b]? = some (.cells cs 185 (0, 0))
theorem PBk.lt {W : World} {b : Nat} {cs : Array Value} (h : PBk W b cs) : b < W.heap.size := (Array.getElem?_eq_some_iff.1 h).1
theorem PBk.below {W W' : World} {b : Nat} {cs : Array Value} (h : PBk W b cs) (hb : Below W.heap.size W W') : PBk W' b cs := (hb.block b h.lt).trans h
theorem PBk.cells {W : World} {b p : Nat} {hv : Value} {t : TS} (h : PBk W b (pCells hv p t)) :
    W.cell? ⟨b, 0, none⟩ = some hv ∧ W.cell? ⟨b, 1, none⟩ = some (.pointer (some ⟨p, 0, none⟩)) ∧ W.cell? ⟨b, 2, none⟩ = some (.int .i64 t.row) ∧ W.cell? ⟨b, 3, none⟩ = some (.int .i64 t.col) ∧ W.cell? ⟨b, 4, none⟩ = some (.bool t.y.b) ∧ W.cell? ⟨b, 5, none⟩ = some (.bool t.y.u) ∧
    W.cell? ⟨b, 6, none⟩ = some (.bool t.y.i) ∧ W.cell? ⟨b, 7, none⟩ = some (.int .i64 t.y.f) ∧ W.cell? ⟨b, 8, none⟩ = some (.int .i64 t.y.g) ∧ W.cell? ⟨b, 9, none⟩ = some (.bool t.pend) ∧ W.cell? ⟨b, 10, none⟩ = some (.bool (!t.seen)) ∧ W.cell? ⟨b, 11, none⟩ = some (.bool t.marked) ∧
    W.cell? ⟨b, 12, none⟩ = some (.int .i64 t.bells) ∧ W.cell? ⟨b, 13, none⟩ = some (.int .i64 t.gone) ∧ W.cell? ⟨b, 14, none⟩ = some (.bool t.last) ∧ W.cell? ⟨b, 15, none⟩ = some (.int .i64 t.lrow) ∧ W.cell? ⟨b, 16, none⟩ = some (.int .i64 t.lcol) ∧ ∀ j, W.frozen? ⟨b, j, none⟩ = false := by
  unfold PBk at h
  refine ⟨?_, ?_, ?_, ?_, ?_, ?_, ?_, ?_, ?_, ?_, ?_, ?_, ?_, ?_, ?_, ?_, ?_, fun j => by simp [World.frozen?, h]⟩ <;> rw [cell_of_row W b _ _ _ _ h] <;> rfl
end Go.Proofs.YtekodpcedjpnjaaGreat
namespace Go.Proofs.YtekodpcedjpnjaaGreat
set_option linter.unusedVariables false
set_option linter.unusedSimpArgs false
open Go.RowKit Go.Maps
end Go.Proofs.YtekodpcedjpnjaaGreat
namespace Go.Proofs.YtekodpcedjpnjaaGreat
set_option linter.unusedVariables false
set_option linter.unusedSimpArgs false
open Go.RowKit Go.Maps
theorem TmPost.trans {b p q : Nat} {hv : Value} {t t' : TS} {W X : World} (o : Only [b, q] W X) {e : Ending} {w' : World} (h : TmPost b p q hv t' X e w') : TmPost b p q hv t' W e w' := ⟨h.1, h.2.1, o.trans h.2.2⟩
end Go.Proofs.YtekodpcedjpnjaaGreat
namespace Go.Proofs.YtekodpcedjpnjaaGreat
set_option linter.unusedVariables false
set_option linter.unusedSimpArgs false
open Go.RowKit Go.Maps
/-- A move of the cursor. -/
def TS.mv (t : TS) (n m : Nat) (e : Nat) : TS :=
  if e = 65 then t.moved (t.row - max 1 (n : Int)) t.col
  else if e = 66 then t.moved (t.row + max 1 (n : Int)) t.col
  else if e = 67 then t.moved t.row (t.col + max 1 (n : Int))
  else if e = 68 then t.moved t.row (t.col - max 1 (n : Int))
  else if e = 71 then t.moved t.row (max 1 (n : Int) - 1)
  else if e = 72 then t.moved (max 1 (n : Int) - 1) (max 1 (m : Int) - 1)
  else t
end Go.Proofs.YtekodpcedjpnjaaGreat
