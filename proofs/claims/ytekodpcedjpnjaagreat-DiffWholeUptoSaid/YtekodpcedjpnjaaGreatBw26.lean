/- The reference's builder of frames in memory: its struct in a box, loads and stores of it; Colours, New, Cursor. No condition. The reference's builder of frames: Fill. No condition. The reference's builder of frames: Text. No condition. -/
import Derived.Test.YtekodpcedjpnjaaGreatBw01
import Derived.Test.YtekodpcedjpnjaaGreatBw07
import Derived.Test.YtekodpcedjpnjaaGreatBw12
import Derived.Test.YtekodpcedjpnjaaGreatBw15
import Derived.Test.YtekodpcedjpnjaaGreatBw18
import Derived.Test.YtekodpcedjpnjaaGreatBw25
namespace Go.Proofs.YtekodpcedjpnjaaGreat
set_option linter.unusedVariables false
set_option linter.unusedSimpArgs false
open Go.RowKit Go.Shelf Go.Maps
/-- A builder: its grid, the cursor's place, whether it is seen. -/
structure RBd where
  W : Nat
  H : Nat
  R : List (List GC)
  row : Nat
  col : Nat
  seen : Bool
/-- The cells of a builder. -/
def bCells (a : Option Addr) (cap : Nat) (t : RBd) : Array Value :=
  #[.int .i64 t.W, .int .i64 t.H, .slice a t.H cap, .int .i64 t.row, .int .i64 t.col, .bool t.seen]
/-- The struct in a box. -/
def BBx (W : World) (b : Nat) (cs : Array Value) : Prop := W.heap[b]? = some (.cells cs 31 (0, 0))
theorem BBx.lt {W : World} {b : Nat} {cs : Array Value} (h : BBx W b cs) : b < W.heap.size := (Array.getElem?_eq_some_iff.1 h).1
theorem BBx.below {W W' : World} {b : Nat} {cs : Array Value} (h : BBx W b cs) (hb : Below W.heap.size W W') : BBx W' b cs := (hb.block b h.lt).trans h
theorem BBx.only {W W' : World} {b : Nat} {cs : Array Value} {S : List Nat} (h : BBx W b cs) (ho : Only S W W') (hS : b ∉ S) : BBx W' b cs := ho.heap h hS
theorem BBx.new (W : World) (cs : Array Value) : BBx (W.alloc (.cells cs 31)) W.heap.size cs := World.alloc_heap_new W _
theorem BBx.tc {W : World} {b : Nat} {a : Option Addr} {cap : Nat} {t : RBd} (h : BBx W b (bCells a cap t)) :
    W.cell? ⟨b, 0, none⟩ = some (.int .i64 t.W) ∧ W.cell? ⟨b, 1, none⟩ = some (.int .i64 t.H) ∧ W.cell? ⟨b, 2, none⟩ = some (.slice a t.H cap) ∧ W.cell? ⟨b, 3, none⟩ = some (.int .i64 t.row) ∧ W.cell? ⟨b, 4, none⟩ = some (.int .i64 t.col) ∧ W.cell? ⟨b, 5, none⟩ = some (.bool t.seen) ∧ ∀ j, W.frozen? ⟨b, j, none⟩ = false := by
  refine ⟨?_, ?_, ?_, ?_, ?_, ?_, ?_⟩
  case refine_7 => intro j; unfold BBx at h; simp [World.frozen?, h]
  all_goals rw [cell_of_row W b _ _ _ _ h]; rfl
theorem BBx.free {W : World} {b : Nat} {cs : Array Value} (h : BBx W b cs) : ∀ j, W.frozen? ⟨b, j, none⟩ = false := fun j => by
  unfold BBx at h; simp [World.frozen?, h]
theorem BBx.set {W : World} {b : Nat} {cs : Array Value} (h : BBx W b cs) (o : Nat) (v : Value) (cs' : Array Value) (he : cs.setIfInBounds o v = cs') : BBx (W.setCell ⟨b, o, none⟩ v) b cs' ∧ Only [b] W (W.setCell ⟨b, o, none⟩ v) :=
  ⟨by subst he; exact set_at h o v, (Only.refl [b] W).setCell (.inl (by simp)) _⟩
theorem BBx.load {W : World} {b : Nat} {cs : Array Value} (h : BBx W b cs) (hs : cs.size = 6) : (loadVar 31 ⟨b, 0, none⟩).run Tryz.prog W = .ok (.agg cs) W :=
  run_loadVar_row (P := Tryz.prog) W b _ 31 cs (0, 0) _ h Tryz.underlying31 rfl (by rw [hs]; kernel_rfl)
/-- Cursor on a builder. -/
def RBd.cursor (t : RBd) (r c : Int) (s : Bool) : RBd × Int := if 0 ≤ r ∧ r < t.H ∧ 0 ≤ c ∧ c < t.W then ({ t with row := r.toNat, col := c.toNat, seen := s }, 0) else (t, 5)
end Go.Proofs.YtekodpcedjpnjaaGreat
namespace Go.Proofs.YtekodpcedjpnjaaGreat
set_option linter.unusedVariables false
set_option linter.unusedSimpArgs false
open Go.RowKit Go.Shelf Go.Maps
/-- Blanks laid from a column on, k rounds. -/
def fillK (w h : Nat) (r from_ : Int) (y : Sy) (R : List (List GC)) : Nat → List (List GC)
  | 0 => R
  | k + 1 => putR w h (fillK w h r from_ y R k) r (from_ + k) ⟨#[32]⟩ 1 y
/-- Fill on a builder. -/
def RBd.fill (t : RBd) (r x z : Int) (y : Sy) : RBd × Int :=
  if 0 ≤ r ∧ r < t.H then if mayF y then ({ t with R := fillK t.W t.H r (max 0 x) y (eraseR t.W t.H t.R r x z) (min z t.W - max 0 x).toNat }, 0) else (t, 1) else (t, 5)
end Go.Proofs.YtekodpcedjpnjaaGreat
namespace Go.Proofs.YtekodpcedjpnjaaGreat
set_option linter.unusedVariables false
set_option linter.unusedSimpArgs false
open Go.RowKit Go.Shelf Go.Maps
/-- The first k clusters, put behind each other, on rows. -/
def putsR (w h : Nat) (r c : Int) (y : Sy) (C : List (List UInt8)) : Nat → List (List GC) → List (List GC)
  | 0, R => R
  | k + 1, R => putR w h (putsR w h r c y C k R) r (c + sumC (C.take k)) (S (nth [] C k)) (colsL (nth [] C k)) y
/-- Text on a builder. -/
def RBd.text (t : RBd) (r c : Int) (l : List UInt8) (y : Sy) : RBd × Int × Int :=
  if 0 ≤ r ∧ r < t.H ∧ 0 ≤ c ∧ c ≤ t.W then
    if mayF y then ({ t with R := putsR t.W t.H r c y (cutL (flatL l)) (fitK (cutL (flatL l)) ((t.W : Int) - c)) t.R }, c + sumC ((cutL (flatL l)).take (fitK (cutL (flatL l)) ((t.W : Int) - c))), 0)
    else (t, 0, 1)
  else (t, 0, 5)
/-- A row of strings in blocks from lo on. -/
def StrRow (lo : Nat) (W : World) (a : Option Addr) (C : List (List UInt8)) : Prop :=
  ∀ i, i < C.length → ∃ b o, a = some ⟨b, o, none⟩ ∧ lo ≤ b ∧ b < W.heap.size ∧ W.cell? ⟨b, o + i, none⟩ = some (.string (S (nth [] C i)))
theorem StrRow.keep {lo : Nat} {W Y : World} {a : Option Addr} {C : List (List UInt8)} (h : StrRow lo W a C) (hs : W.heap.size ≤ Y.heap.size) (hk : ∀ b, lo ≤ b → b < W.heap.size → Y.heap[b]? = W.heap[b]?) : StrRow lo Y a C := fun i hi => by
  obtain ⟨b, o, e, h1, h2, h3⟩ := h i hi
  refine ⟨b, o, e, h1, Nat.lt_of_lt_of_le h2 hs, ?_⟩
  rw [← h3]
  simp only [World.cell?, hk b h1 h2]
theorem StrRow.below {lo : Nat} {W Y : World} {a : Option Addr} {C : List (List UInt8)} (h : StrRow lo W a C) (hb : Below W.heap.size W Y) : StrRow lo Y a C := h.keep hb.size (fun b _ h2 => hb.block b h2)
end Go.Proofs.YtekodpcedjpnjaaGreat
