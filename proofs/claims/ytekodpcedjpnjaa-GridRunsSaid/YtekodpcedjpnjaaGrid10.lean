/- few. -/
import Derived.Test.YtekodpcedjpnjaaGrid9
import Derived.Test.YtekodpcedjpnjaaFlat
namespace Go.Proofs.Ytekodpcedjpnjaa
set_option linter.unusedVariables false
set_option linter.unusedSimpArgs false
open Go.RowKit Go.Maps
structure OpV where
  d : Int
  r : Int
  c : Int
  s : ByteArray
  k : Int
  y : Sy
  t : Int
  n : Int
def OpV.vals (o : OpV) : List Value := [.int .u8 o.d, .int .i64 o.r, .int .i64 o.c, .string o.s, .int .i64 o.k, .bool o.y.b, .bool o.y.u, .bool o.y.i, .int .i64 o.y.f, .int .i64 o.y.g, .int .i64 o.t, .int .i64 o.n]
def OpV.v (o : OpV) : Value := .agg #[.int .u8 o.d, .int .i64 o.r, .int .i64 o.c, .string o.s, .int .i64 o.k, .bool o.y.b, .bool o.y.u, .bool o.y.i, .int .i64 o.y.f, .int .i64 o.y.g, .int .i64 o.t, .int .i64 o.n]
structure OpV.Ok (o : OpV) : Prop where
  d0 : 0 ≤ o.d
  d1 : o.d ≤ 255
def cut70 (s : ByteArray) : ByteArray := if 70 < s.size then s.extract 0 70 else s
def fewN (o : OpV) : Int := if o.d % 10 = 8 ∧ 40 < o.n ∧ o.n ≤ 500 then 1 + o.n % 40 else o.n
def fewT (o : OpV) : Int := if o.d % 10 = 8 ∧ 20 < o.t ∧ o.t ≤ 500 then 1 + o.t % 20 else o.t
def fewO (o : OpV) : OpV := { o with s := cut70 o.s, n := fewN o, t := fewT o }
set_option maxRecDepth 100000 in
set_option maxHeartbeats 4000000 in
theorem few_any (o : OpV) (ho : o.Ok) (w : World) : Calls Try.prog 10 #[.agg #[.int .u8 o.d, .int .i64 o.r, .int .i64 o.c, .string o.s, .int .i64 o.k, .bool o.y.b, .bool o.y.u, .bool o.y.i, .int .i64 o.y.f, .int .i64 o.y.g, .int .i64 o.t, .int .i64 o.n]] w
    fun e w' => e = .returned (fewO o).v ∧ Below w.heap.size w w' := by
  obtain ⟨d, r, c, s, k, y, t, n⟩ := o
  obtain ⟨d0, d1⟩ := ho
  dsimp only at d0 d1 ⊢
  obtain ⟨R, hR⟩ : ∃ R, R = fewO ⟨d, r, c, s, k, y, t, n⟩ := ⟨_, rfl⟩
  rw [← hR]
  have HR : Hid (R.v = .agg #[.int .u8 d, .int .i64 r, .int .i64 c, .string (cut70 s), .int .i64 k, .bool y.b, .bool y.u, .bool y.i, .int .i64 y.f, .int .i64 y.g, .int .i64 (fewT ⟨d, r, c, s, k, y, t, n⟩), .int .i64 (fewN ⟨d, r, c, s, k, y, t, n⟩)]) := Lib.hid (by rw [hR]; rfl)
  clear hR
  go_enter Try.func10, Try.ntmps10
  by_cases h70 : (70 : Int) < s.size
  · go_wp2
    all_goals
      (try simp only [Exit.inBlock, Exit.then])
      refine bodyPost_ret (results_cell_row rfl _ _ (w.heap.size + 1) 36 _ (0, 0) _ rfl (heap_alloc2_new w _ _) Try.underlying36 rfl (by kernel_rfl)) rfl ?_
      refine ⟨congrArg Ending.returned ?_, ((Below.refl _ _).alloc (Nat.le_refl _) _).alloc (by simp) _⟩
      rw [HR.out]
      clear HR
      simp only [beq_iff_eq, beq_eq_false_iff_ne, ne_eq] at *
      unfold cut70 fewT fewN
      dsimp only
      repeat (first | rw [if_pos (by omega)] | rw [if_neg (by omega)])
  · go_wp2
    all_goals
      (try simp only [Exit.inBlock, Exit.then])
      refine bodyPost_ret (results_cell_row rfl _ _ (w.heap.size + 1) 36 _ (0, 0) _ rfl (heap_alloc2_new w _ _) Try.underlying36 rfl (by kernel_rfl)) rfl ?_
      refine ⟨congrArg Ending.returned ?_, ((Below.refl _ _).alloc (Nat.le_refl _) _).alloc (by simp) _⟩
      rw [HR.out]
      clear HR
      simp only [beq_iff_eq, beq_eq_false_iff_ne, ne_eq] at *
      unfold cut70 fewT fewN
      dsimp only
      repeat (first | rw [if_pos (by omega)] | rw [if_neg (by omega)])
end Go.Proofs.Ytekodpcedjpnjaa
