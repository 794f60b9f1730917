/- The first rune of bytes: the contracts of shapeOf, Next and step. -/
import Derived.Test.YtmdpmjabjijjiaaRune2
import Derived.Test.YtmdpmjabjijjiaaRMath2
namespace Go.Proofs.Ytmdpmjabjijjiaa
open Go.RowKit
def loI (c : Int) : Int := if c < 194 then 0 else if c = 224 then 160 else if c = 240 then 144 else if c < 245 then 128 else 0
def hiI (c : Int) : Int := if c < 194 then 0 else if c = 237 then 159 else if c = 244 then 143 else if c < 245 then 191 else 0
def manyI (c : Int) : Int := if c < 128 then 1 else if c < 194 then 0 else if c < 224 then 2 else if c < 240 then 3 else if c < 245 then 4 else 0
def bitsI (c : Int) : Int := if c < 128 then c else if c < 194 then 0 else if c < 224 then c % 32 else if c < 240 then c % 16 else if c < 245 then c % 8 else 0
def shapeV (c : Int) : Value := .agg #[.int .i64 (manyI c), .int .u8 (loI c), .int .u8 (hiI c), .int .i32 (bitsI c)]
theorem shapeV_of {c m l h b : Int} (h1 : manyI c = m) (h2 : loI c = l) (h3 : hiI c = h) (h4 : bitsI c = b) : Ending.returned (.agg #[.int .i64 m, .int .u8 l, .int .u8 h, .int .i32 b]) = .returned (shapeV c) := by
  subst h1 h2 h3 h4; rfl
set_option maxRecDepth 100000 in
set_option maxHeartbeats 2000000 in
theorem shape_any (n : Nat) (hn : n < 256) (w : World) : Calls Try.prog 161 #[.int .u8 n] w fun e w' => e = .returned (shapeV n) ∧ Below w.heap.size w w' := by
  have a31 := and31 n hn
  have a15 := and15 n hn
  have a7 := and7 n hn
  obtain ⟨c, hc⟩ : ∃ c : Int, c = (n : Int) := ⟨_, rfl⟩
  have m31 : ((n % 32 : Nat) : Int) = c % 32 := by omega
  have m15 : ((n % 16 : Nat) : Int) = c % 16 := by omega
  have m7 : ((n % 8 : Nat) : Int) = c % 8 := by omega
  rw [m31] at a31
  rw [m15] at a15
  rw [m7] at a7
  rw [← hc] at a31 a15 a7 ⊢
  have c0 : 0 ≤ c := by omega
  have c1 : c < 256 := by omega
  clear m31 m15 m7 hc hn
  have key : c = 224 ∨ c = 237 ∨ c = 240 ∨ c = 244 ∨ ((c == 224) = false ∧ (c == 237) = false ∧ (c == 240) = false ∧ (c == 244) = false ∧ c ≠ 224 ∧ c ≠ 237 ∧ c ≠ 240 ∧ c ≠ 244) := by
    simp only [beq_eq_false_iff_ne]; omega
  rcases key with rfl | rfl | rfl | rfl | ⟨k1, k2, k3, k4, n1, n2, n3, n4⟩
  all_goals try clear a31 a15 a7
  all_goals
    go_enter Try.func161, Try.ntmps161
    go_wp2
  all_goals
    refine bodyPost_ret (results_cell_row rfl _ _ w.heap.size 177 _ (0, 0) _ rfl (World.alloc_heap_new w _) Try.underlying177 rfl (by kernel_rfl)) rfl ?_
    refine ⟨shapeV_of ?_ ?_ ?_ ?_, (Below.refl _ _).alloc (Nat.le_refl _) _⟩
  all_goals first | rfl | (unfold manyI; (repeat' split) <;> omega) | (unfold loI; (repeat' split) <;> omega) | (unfold hiI; (repeat' split) <;> omega) | (unfold bitsI; (repeat' split) <;> omega)
end Go.Proofs.Ytmdpmjabjijjiaa
