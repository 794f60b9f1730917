/- The contracts of isMark, isBase, and of the builder of clusters. The contract of the builder's add. The contract of Cut: a text's clusters. -/
import Derived.Test.YtekodpcedjpnjaaGreatRune5
import Derived.Test.YtekodpcedjpnjaaGreatBut
import Derived.Test.YtekodpcedjpnjaaGreatRegT
import Derived.Deep.RegionHeldLaw
import Derived.Deep.AppendLies
import Derived.Outline
namespace Go.Proofs.YtekodpcedjpnjaaGreat
set_option linter.unusedVariables false
set_option linter.unusedSimpArgs false
open Go.RowKit Go.Shelf Go.Maps
/-! ### the builder -/
theorem infoU8c : (Tryz.prog.info? 5).map (fun i => (i.zero, i.size, i.bytes)) = some (some (.int .u8 0), 1, 1) := by kernel_rfl
/-- Strings as cells. -/
def strV (l : List (List UInt8)) : List Value := l.map fun s => .string (S s)
theorem u8v_append (a b : List UInt8) : u8v (a ++ b) = u8v a ++ u8v b := by simp [u8v]
structure Bld (n₀ B : Nat) (W : World) (d n : Value) (done : List (List UInt8)) (now : List UInt8) (o : Bool) : Prop where
  blk : W.heap[B]? = some (.cells #[d, n, .bool o] 256 (0, 0))
  lt : B < n₀
  le : n₀ ≤ W.heap.size
  od : W.ownsRow n₀ 9 1 d done.length (strV done)
  on : W.ownsRow n₀ 5 1 n now.length (u8v now)
theorem Bld.cells {n₀ B : Nat} {W : World} {d n : Value} {done : List (List UInt8)} {now : List UInt8} {o : Bool} (h : Bld n₀ B W d n done now o) :
    (W.cell? ⟨B, 0, none⟩ = some d ∧ W.cell? ⟨B, 1, none⟩ = some n ∧ W.cell? ⟨B, 2, none⟩ = some (.bool o)) ∧ (W.frozen? ⟨B, 0, none⟩ = false ∧ W.frozen? ⟨B, 1, none⟩ = false ∧ W.frozen? ⟨B, 2, none⟩ = false) := by
  have hb := h.blk
  unfold World.cell? World.frozen?
  dsimp only
  rw [hb]
  exact ⟨⟨rfl, rfl, rfl⟩, by simp⟩
theorem Bld.drew {n₀ B : Nat} {W : World} {d n : Value} {done : List (List UInt8)} {now : List UInt8} {o : Bool} (h : Bld n₀ B W d n done now o) : Bld n₀ B W.drew d n done now o := ⟨h.blk, h.lt, h.le, h.od, h.on⟩
theorem Bld.kept {n₀ B : Nat} {W W' : World} {d n : Value} {done : List (List UInt8)} {now : List UInt8} {o : Bool} (h : Bld n₀ B W d n done now o) {row : Option Nat} (hg : W.grownBy W' row) (hr : ∀ k, row = some k → k ≠ B ∧ n₀ ≤ k → ∃ o : Obj, W.heap[k]? = some o ∧ o.isCells = false) (hB : row ≠ some B) : Bld n₀ B W' d n done now o := by
  have hb : ∀ v : Value, ∀ e sz k xs, W.ownsRow n₀ e sz v k xs → W'.ownsRow n₀ e sz v k xs := fun v e sz k xs ho => by
    refine ho.kept hg ?_
    cases hv : v.ownBlock with
    | none => exact .inl rfl
    | some q =>
      refine .inr (fun e' => ?_)
      obtain ⟨h1, cur, h2⟩ := own_cells ho q hv
      obtain ⟨o, h3, h4⟩ := hr q e'.symm ⟨by have := h.lt; omega, h1⟩
      rw [h2] at h3; cases h3; cases h4
  exact ⟨(hg.block B (by have := h.lt; have := h.le; omega) (fun e => hB e.symm)).trans h.blk, h.lt, Nat.le_trans h.le hg.size, hb _ _ _ _ _ h.od, hb _ _ _ _ _ h.on⟩
theorem Bld.below {n₀ B : Nat} {W W' : World} {d n : Value} {done : List (List UInt8)} {now : List UInt8} {o : Bool} (h : Bld n₀ B W d n done now o) (hb : Below W.heap.size W W') : Bld n₀ B W' d n done now o :=
  h.kept (grown_of_below hb) (fun k e _ => by cases e) (fun e => by cases e)
theorem grownBy_set (W : World) (B off : Nat) (v : Value) : W.grownBy (W.setCell ⟨B, off, none⟩ v) (some B) :=
  ⟨rfl, rfl, rfl, by simp [World.setCell], fun k _ hne => Below.heap_setCell _ _ _ _ (fun e => hne (congrArg some e))⟩
theorem own_set {W : World} {n₀ B off : Nat} {e : TypeId} {size : Nat} {v : Value} {n : Nat} {xs : List Value} (h : W.ownsRow n₀ e size v n xs) (hB : B < n₀) (u : Value) : (W.setCell ⟨B, off, none⟩ u).ownsRow n₀ e size v n xs :=
  own_but h (grownBy_set W B off u) (fun k e => .inl (by cases e; exact hB))
theorem Bld.set2 {n₀ B : Nat} {W : World} {d n : Value} {done : List (List UInt8)} {now : List UInt8} {o : Bool} (h : Bld n₀ B W d n done now o) (o' : Bool) : Bld n₀ B (W.setCell ⟨B, 2, none⟩ (.bool o')) d n done now o' :=
  ⟨(heap_setCell_same _ _ _ _ _ _ h.blk).trans rfl, h.lt, by simp [World.setCell]; exact h.le, own_set h.od h.lt _, own_set h.on h.lt _⟩
theorem u8v_len (l : List UInt8) : (u8v l).length = l.length := by simp [u8v]
theorem strOfNums_Sc (l : List UInt8) : strOfNums (l.map fun b => (b.toNat : Int)) = S l := by
  unfold strOfNums S
  rw [List.map_map]
  congr 2
  conv => rhs; rw [← List.map_id l]
  apply List.map_congr_left
  intro b _
  simp
/-- Behind an append to one of the two rows: all but that row is as it was. -/
theorem Bld.app {n₀ B : Nat} {W W1 w3 : World} {d n : Value} {done : List (List UInt8)} {now : List UInt8} {o : Bool} (h : Bld n₀ B W d n done now o) (hW : Below W.heap.size W W1) {row : Option Nat} (hg : W1.grownBy w3 row)
    (hr : ∀ k, row = some k → n₀ ≤ k ∧ ∃ cur e, W1.heap[k]? = some (.cells cur e (0, 0))) : But n₀ B W w3 ∧ w3.heap[B]? = some (.cells #[d, n, .bool o] 256 (0, 0)) ∧ n₀ ≤ w3.heap.size := by
  have h1 := h.below hW
  refine ⟨(But.of_below h.le hW).grown h1.le hg (fun k e => by obtain ⟨a, cur, t, b⟩ := hr k e; exact ⟨a, _, b, rfl⟩), ?_, Nat.le_trans h1.le hg.size⟩
  exact (hg.block B (by have := h1.lt; have := h1.le; omega) (fun e => by have := (hr B e.symm).1; have := h1.lt; omega)).trans h1.blk
theorem own_row {W : World} {base : Nat} {e : TypeId} {size : Nat} {v : Value} {n : Nat} {xs : List Value} (h : W.ownsRow base e size v n xs) : ∀ k, v.ownBlock = some k → base ≤ k ∧ ∃ cur e', W.heap[k]? = some (.cells cur e' (0, 0)) := fun k hk => by
  obtain ⟨h1, cur, h2⟩ := own_cells h k hk
  exact ⟨h1, cur, _, h2⟩
end Go.Proofs.YtekodpcedjpnjaaGreat
namespace Go.Proofs.YtekodpcedjpnjaaGreat
set_option linter.unusedVariables false
set_option linter.unusedSimpArgs false
open Go.RowKit Go.Shelf Go.Maps
theorem row_at (W : World) (vs : List Value) (t : TypeId) : ∀ (j : Nat) (u : Value), vs[j]? = some u → (W.alloc (.cells vs.toArray t)).cell? ((⟨W.heap.size, 0, none⟩ : Addr).add j) = some u := fun j u h => by
  have h0 : (W.alloc (.cells vs.toArray t)).heap[W.heap.size]? = some (.cells vs.toArray t) := World.alloc_heap_new W _
  have hj : j < vs.length := by
    rcases Nat.lt_or_ge j vs.length with h' | h'
    · exact h'
    · rw [List.getElem?_eq_none h'] at h; cases h
  by_cases e : j = 0
  · subst e
    show (W.alloc (.cells vs.toArray t)).cell? ⟨W.heap.size, 0, none⟩ = some u
    unfold World.cell?
    dsimp only
    rw [h0]
    simpa using h
  · have ea : (⟨W.heap.size, 0, none⟩ : Addr).add j = ⟨W.heap.size, 0 + j, none⟩ := by unfold Addr.add; simp [e]
    rw [ea]
    unfold World.cell?
    dsimp only
    rw [h0]
    simpa using h
theorem u8v_one (l : List UInt8) : ∀ u ∈ u8v l, u.oneCell' = true := fun u hu => by
  obtain ⟨b, _, rfl⟩ := List.mem_map.1 hu
  rfl
/-- The builder holds the clusters G. -/
def BG (n₀ B : Nat) (W : World) (G : List (List Nat)) : Prop :=
  ∃ d n done now o, Bld n₀ B W d n done now o ∧ (o = true ∧ done ++ [now] = G.map encL ∨ o = false ∧ done = [] ∧ now = [] ∧ G = [])
end Go.Proofs.YtekodpcedjpnjaaGreat
namespace Go.Proofs.YtekodpcedjpnjaaGreat
set_option linter.unusedVariables false
set_option linter.unusedSimpArgs false
open Go.RowKit Go.Shelf Go.Maps
attribute [local go_sem] Oper.semAt_some
theorem BG.kept {n₀ B : Nat} {W W' : World} {G : List (List Nat)} (h : BG n₀ B W G) {row : Option Nat} (hg : W.grownBy W' row) (hr : ∀ k, row = some k → n₀ ≤ k ∧ ∃ o : Obj, W.heap[k]? = some o ∧ o.isCells = false) : BG n₀ B W' G := by
  obtain ⟨d, n, done, now, o, hb, ho⟩ := h
  exact ⟨d, n, done, now, o, hb.kept hg (fun k e _ => (hr k e).2) (fun e => by have := (hr B e).1; have := hb.lt; omega), ho⟩
theorem BG.new {n₀ B : Nat} {W : World} (hb : W.heap[B]? = some (.cells #[.slice none 0 0, .slice none 0 0, .bool false] 256 (0, 0))) (hlt : B < n₀) (hle : n₀ ≤ W.heap.size) : BG n₀ B W [] :=
  ⟨_, _, [], [], false, ⟨hb, hlt, hle, World.ownsRow_nil _ _ _ _, World.ownsRow_nil _ _ _ _⟩, .inr ⟨rfl, rfl, rfl, rfl⟩⟩
end Go.Proofs.YtekodpcedjpnjaaGreat
