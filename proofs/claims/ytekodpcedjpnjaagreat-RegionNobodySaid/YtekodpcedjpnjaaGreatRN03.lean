/- The contracts of moves and columns, of the program and of its reference; the law EscMoves. The contracts of moves from a place to another one, of the program and of its reference. -/
import Derived.Test.YtekodpcedjpnjaaGreatRN02
set_option linter.unusedVariables false
set_option linter.unusedSimpArgs false
namespace Go.Proofs.YtekodpcedjpnjaaGreat
open Go.RowKit
set_option maxHeartbeats 1000000 in
theorem by_any (n : Int) (e : UInt8) (w : World) : Calls Tryz.prog 234 #[.int .i64 n, .string (S [e])] w fun r w' => r = .returned (.string (S (byL n e))) ∧ Below w.heap.size w w' := by
  by_cases h : n < 1
  · have hby := Lib.hid (show byL n e = [] by unfold byL; rw [if_pos h])
    go_enter Tryz.func234, Tryz.ntmps234
    go_wp2
    go_ret
    exact ⟨ret_str (by rw [hby.out]; rfl), Below.refl _ _⟩
  · have hby := Lib.hid (seqL_one n e (by omega))
    have h1 : 1 ≤ n := by omega
    clear h
    have hrow : RowAt (w.alloc (.cells #[.int .i64 n] 3)).heap.size (w.alloc (.cells #[.int .i64 n] 3)) (some ⟨w.heap.size, 0, none⟩) (i64s [n]) := RowAt.new w (i64s [n]) 3
    have Hrow := Lib.hid hrow
    clear hrow
    go_enter Tryz.func234, Tryz.ntmps234
    go_wp2_with fail
    refine (sequence_any [e] [n] _ 1 1 _ (by simp) rfl (by simp) Hrow.out (fun k hk => by simp at hk; subst hk; simp [nth]; omega)).mono ?_
    rintro r w1 ⟨rfl, hb1⟩
    go_wp2
    go_ret
    exact ⟨ret_str (by rw [hby.out]), bnext ((Below.refl _ _).alloc (Nat.le_refl _) _) hb1⟩
theorem up_any (n : Int) (w : World) : Calls Tryz.prog 192 #[.int .i64 n] w fun r w' => r = .returned (.string (S (byL n 65))) ∧ Below w.heap.size w w' := by
  go_enter Tryz.func192, Tryz.ntmps192
  go_wp2_with fail
  refine (by_any n 65 _).mono ?_
  rintro r w1 ⟨rfl, hb1⟩
  go_wp2
  go_ret
  exact ⟨rfl, hb1⟩
end Go.Proofs.YtekodpcedjpnjaaGreat
namespace Go.Proofs.YtekodpcedjpnjaaGreat
open Go.RowKit
theorem S_le (l : List UInt8) (k : Nat) (h : l.length ≤ k) : (S l).size ≤ k := by rw [S_size]; exact h
end Go.Proofs.YtekodpcedjpnjaaGreat
