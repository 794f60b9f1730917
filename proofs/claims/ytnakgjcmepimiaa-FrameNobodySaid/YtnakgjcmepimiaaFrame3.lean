/- The methods of a builder that nobody made. No condition. -/
import Derived.Test.YtnakgjcmepimiaaFrame2
namespace Go.Proofs.Ytnakgjcmepimiaa
set_option linter.unusedVariables false
set_option linter.unusedSimpArgs false
open Go.RowKit Go.Maps
theorem text_only (w : World) (v : Value) (rr cc : Int) (y : Sy) (X : World) (hX : (((w.alloc (.cells #[v] 25)).alloc (.cells #[.int .i64 rr] 3)).alloc (.cells #[.int .i64 cc] 3)).alloc (.cells #[.bool y.b, .bool y.u, .bool y.i, .int .i64 y.f, .int .i64 y.g] 32) = X) :
    Only [] w X ∧ X.cell? ⟨w.heap.size, 0, none⟩ = some v := by
  have o : Only [] w X := by rw [← hX]; exact ((((Only.refl _ _).alloc _).alloc _).alloc _).alloc _
  refine ⟨o, ?_⟩
  rw [← hX]
  exact ((((Boxed.new w 25 v).alloc _).alloc _).alloc _).cell
set_option maxRecDepth 100000 in
set_option maxHeartbeats 2000000 in
theorem text_no {W : World} {v : Value} (h : NoB W v) (rr cc : Int) (l : ByteArray) (y : Sy) : Calls Try.prog 11 #[v, .int .i64 rr, .int .i64 cc, .string l, .agg #[.bool y.b, .bool y.u, .bool y.i, .int .i64 y.f, .int .i64 y.g]] W fun e w' =>
    e = .returned (.tuple #[.int .i64 0, .int .i64 4]) ∧ Below W.heap.size W w' := by
  have CM := Lib.hid (fun W' (o : Only [] W W') => bmade_no (h.below o.nil))
  have TX := Lib.hid (fun (X : World) hX => text_only W v rr cc y X hX)
  have hv : ∃ a, v = .pointer a := by rcases h with rfl | ⟨z, rfl, _⟩ <;> exact ⟨_, rfl⟩
  obtain ⟨a, rfl⟩ := hv
  clear h
  go_enter Try.func11, Try.ntmps11
  go_wp2_with (go_at_call 45; refine (CM.out _ (TX.out _ rfl).1).mono ?_; rintro e X ⟨rfl, hX⟩; obtain ⟨o1, d5⟩ := TX.out _ hX; clear hX)
  go_ret2
  exact ⟨rfl, o1.nil⟩
end Go.Proofs.Ytnakgjcmepimiaa
