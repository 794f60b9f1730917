/- What a terminal makes of a style's numbers. -/
import Derived.Test.YtcihcjlaamfjfaaStyle3
namespace Go.Proofs.Ytcihcjlaamfjfaa
open Go.RowKit Go.Maps
structure Sy where
  b : Bool
  u : Bool
  i : Bool
  f : Int
  g : Int
def Sy.v (y : Sy) : Value := .agg #[.bool y.b, .bool y.u, .bool y.i, .int .i64 y.f, .int .i64 y.g]
def obey (y : Sy) (n : Int) : Sy :=
  if n = 0 then ⟨false, false, false, 0, 0⟩ else if n = 1 then { y with b := true } else if n = 4 then { y with u := true } else if n = 7 then { y with i := true }
  else if 30 ≤ n ∧ n ≤ 37 then { y with f := n - 29 } else if n = 39 then { y with f := 0 } else if 40 ≤ n ∧ n ≤ 47 then { y with g := n - 39 } else if n = 49 then { y with g := 0 } else y
set_option maxRecDepth 100000 in
set_option maxHeartbeats 2000000 in
theorem obey_any (b u i : Bool) (f g n : Int) (w : World) : Calls Try.prog 94 #[.agg #[.bool b, .bool u, .bool i, .int .i64 f, .int .i64 g], .int .i64 n] w fun e w' => e = .returned (obey ⟨b, u, i, f, g⟩ n).v ∧ Below w.heap.size w w' := by
  go_enter Try.func94, Try.ntmps94
  go_wp2
  all_goals
    (try simp only [Exit.inBlock, Exit.then])
    refine bodyPost_ret (results_cell_row rfl _ _ (w.heap.size + 1) 50 _ (0, 0) _ rfl (heap_alloc2_new w _ _) Try.underlying50 rfl (by kernel_rfl)) rfl ?_
    refine ⟨congrArg Ending.returned ?_, ((Below.refl _ _).alloc (Nat.le_refl _) _).alloc (by simp) _⟩
    simp only [beq_iff_eq, beq_eq_false_iff_ne, ne_eq] at *
    unfold obey
    repeat (first | rw [if_pos (by omega)] | rw [if_neg (by omega)])
    rfl
end Go.Proofs.Ytcihcjlaamfjfaa
