/- The contracts of styles: which may be, their colours. -/
import Derived.Test.YtcihcjlaamfjfaaStrip2
import Derived.Deep.DeepCutAuto
namespace Go.Proofs.Ytcihcjlaamfjfaa
open Go.RowKit Go.Maps

/-- Colours that may be. -/
def mayB (f g : Int) : Bool := decide (0 ≤ f ∧ f ≤ 8 ∧ 0 ≤ g ∧ g ≤ 8)
theorem may_any (b u i : Bool) (f g : Int) (w : World) : Calls Try.prog 91 #[.agg #[.bool b, .bool u, .bool i, .int .i64 f, .int .i64 g]] w fun e w' => e = .returned (.bool (mayB f g)) ∧ Below w.heap.size w w' := by
  go_enter Try.func91, Try.ntmps91
  go_wp2
  all_goals
    go_ret
    refine ⟨ret_bool ?_, (Below.refl _ _).alloc (Nat.le_refl _) _⟩
    rw [Bool.eq_iff_iff]; simp [mayB]; omega
def errI (f g : Int) : Int := if mayB f g then 0 else 60
theorem check_any (b u i : Bool) (f g : Int) (w : World) : Calls Try.prog 46 #[.agg #[.bool b, .bool u, .bool i, .int .i64 f, .int .i64 g]] w fun e w' => e = .returned (.int .i64 (errI f g)) ∧ Below w.heap.size w w' := by
  rcases Bool.eq_false_or_eq_true (mayB f g) with hm | hm
  all_goals
    have he : errI f g = (if mayB f g then 0 else 60) := rfl
    rw [hm] at he
    have He := Lib.hid he
    clear he
    go_enter Try.func46, Try.ntmps46
    go_wp2_with (go_at_call 91; refine (may_any _ _ _ _ _ _).mono ?_; rintro e w1 ⟨rfl, hb1⟩)
    go_ret
    exact ⟨ret_int (by rw [He.out]; rfl), bnext ((Below.refl _ _).alloc (Nat.le_refl _) _) hb1⟩
theorem refCheck_any (b u i : Bool) (f g : Int) (w : World) : Calls Try.prog 47 #[.agg #[.bool b, .bool u, .bool i, .int .i64 f, .int .i64 g]] w fun e w' => e = .returned (.int .i64 (errI f g)) ∧ Below w.heap.size w w' := by
  go_enter Try.func47, Try.ntmps47
  go_wp2
  all_goals
    go_ret
    refine ⟨ret_int ?_, (Below.refl _ _).alloc (Nat.le_refl _) _⟩
    unfold errI mayB
    first | rw [if_pos (decide_eq_true (by omega))] | rw [if_neg (by rw [decide_eq_true_eq]; omega)]
def colourI (c base : Int) : Int := if c = 0 then base + 9 else base + c - 1
theorem colour_any (c base : Int) (w : World) (hc : 0 ≤ c ∧ c ≤ 8) (hb : 0 ≤ base ∧ base ≤ 100) : Calls Try.prog 92 #[.int .i64 c, .int .i64 base] w fun e w' => e = .returned (.int .i64 (colourI c base)) ∧ w = w' := by
  go_enter Try.func92, Try.ntmps92
  go_wp2
  all_goals
    go_ret
    refine ⟨ret_int ?_, rfl⟩
    unfold colourI
    first | rw [if_pos (eq_of_beq ‹_›)] | rw [if_neg (ne_of_beq_false ‹_›)]
theorem refColour_any (c base : Int) (w : World) (hc : 0 ≤ c ∧ c ≤ 8) (hb : 0 ≤ base ∧ base ≤ 100) : Calls Try.prog 93 #[.int .i64 base, .int .i64 c] w fun e w' => e = .returned (.int .i64 (colourI c (base + 1))) ∧ w = w' := by
  go_enter Try.func93, Try.ntmps93
  go_wp2
  all_goals
    go_ret
    refine ⟨ret_int ?_, rfl⟩
    unfold colourI
    first | (rw [if_pos (eq_of_beq ‹_›)]; omega) | (rw [if_neg (ne_of_beq_false ‹_›)]; omega)

theorem infoInt : (Try.prog.info? 3).map (fun i => (i.zero, i.size, i.bytes)) = some (some (.int .i64 0), 1, 8) := by kernel_rfl

/-- Two styles held against each other. -/
def eqS (b u i : Bool) (f g : Int) (b' u' i' : Bool) (f' g' : Int) : Bool := decide (b = b' ∧ u = u' ∧ i = i' ∧ f = f' ∧ g = g')
theorem eql_sty (b u i : Bool) (f g : Int) (b' u' i' : Bool) (f' g' : Int) (W : World) :
    (binOp .eql 50 (.agg #[.bool b, .bool u, .bool i, .int .i64 f, .int .i64 g]) (.agg #[.bool b', .bool u', .bool i', .int .i64 f', .int .i64 g'])).run Try.prog W = .ok (.bool (eqS b u i f g b' u' i' f' g')) W := by
  unfold eqS
  go_simp
  by_cases h1 : b = b' <;> by_cases h2 : u = u' <;> by_cases h3 : i = i' <;> by_cases h4 : f = f' <;> by_cases h5 : g = g' <;> simp [h1, h2, h3, h4, h5]

/-- The numbers that Style tells. -/
def numsL (b u i : Bool) (f g : Int) (b' u' i' : Bool) (f' g' : Int) : List Int :=
  let z := b && !b' || u && !u' || i && !i'
  (if z then [0] else []) ++ (if b' && !(!z && b) then [1] else []) ++ (if u' && !(!z && u) then [4] else []) ++ (if i' && !(!z && i) then [7] else []) ++
    (if f' ≠ (if z then 0 else f) then [colourI f' 30] else []) ++ (if g' ≠ (if z then 0 else g) then [colourI g' 40] else [])
def styleL (b u i : Bool) (f g : Int) (b' u' i' : Bool) (f' g' : Int) : List UInt8 :=
  if eqS b u i f g b' u' i' f' g' || !mayB f g || !mayB f' g' then [] else seqL (numsL b u i f g b' u' i' f' g') [109]

/-- A box that holds a style. -/
def StyBox (W : World) (r : Nat) (b u i : Bool) (f g : Int) : Prop := W.heap[r]? = some (.cells #[.bool b, .bool u, .bool i, .int .i64 f, .int .i64 g] 50 (0, 0))
theorem styBox_new (W : World) (b u i : Bool) (f g : Int) : StyBox (W.alloc (.cells #[.bool b, .bool u, .bool i, .int .i64 f, .int .i64 g] 50)) W.heap.size b u i f g := World.alloc_heap_new W _
theorem styBox_old {W W' : World} {r : Nat} {b u i : Bool} {f g : Int} {B : Nat} (h : StyBox W r b u i f g) (hb : Below B W W') (hr : r < B) : StyBox W' r b u i f g := (hb.block r hr).trans h
theorem StyBox.cells {W : World} {r : Nat} {b u i : Bool} {f g : Int} (h : StyBox W r b u i f g) : W.cell? ⟨r, 0, none⟩ = some (.bool b) ∧ W.cell? ⟨r, 1, none⟩ = some (.bool u) ∧ W.cell? ⟨r, 2, none⟩ = some (.bool i) ∧ W.cell? ⟨r, 3, none⟩ = some (.int .i64 f) ∧ W.cell? ⟨r, 4, none⟩ = some (.int .i64 g) ∧ ∀ j, W.frozen? ⟨r, j, none⟩ = false := by
  unfold StyBox at h
  unfold World.cell? World.frozen?
  dsimp only
  rw [h]
  simp
end Go.Proofs.Ytcihcjlaamfjfaa
