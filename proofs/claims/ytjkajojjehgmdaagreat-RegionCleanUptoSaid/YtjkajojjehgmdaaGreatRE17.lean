/- The reference's clusters: the contracts of control, Mark and Cut. The reference's clusters: the contracts of Clean, Flat, Width, Columns, Is, Join, SameAll. The reference's clusters: the contracts of Is, Join, Fit, SameAll; the law's cut. -/
import Derived.Laws.OwnMore
import Derived.Test.YtjkajojjehgmdaaGreatRE13
import Derived.Test.YtjkajojjehgmdaaGreatRE16
set_option linter.unusedVariables false
set_option linter.unusedSimpArgs false
namespace Go.Proofs.YtjkajojjehgmdaaGreat
open Go.RowKit Go.Shelf Go.Maps
set_option maxRecDepth 100000 in
theorem refCtrl3_any (r : Int) (w : World) : Calls Tryz.prog 125 #[.int .i32 r] w fun e w' => e = .returned (.bool (ctrlB r)) ∧ w = w' := by
 obtain ⟨z, hz⟩ : ∃ z, z = ctrlB r := ⟨_, rfl⟩
 rw [← hz]
 have HZ := Lib.hid hz
 clear hz
 go_enter Tryz.func125, Tryz.ntmps125
 go_wp2
 all_goals go_ret
 all_goals refine ⟨ret_bool ?_, rfl⟩
 all_goals rw [HZ.out]
 all_goals unfold ctrlB
 all_goals first | exact (decide_eq_true (by omega)).symm | exact (decide_eq_false (by omega)).symm | (rw [Bool.eq_iff_iff]; simp only [decide_eq_true_eq, Bool.or_eq_true, Bool.and_eq_true]; omega)
set_option maxRecDepth 100000 in
theorem refMark3_any (r : Int) (w : World) : Calls Tryz.prog 90 #[.int .i32 r] w fun e w' => e = .returned (.bool (joinB r)) ∧ Below w.heap.size w w' := by
 have C := Lib.hid (fun W => refOf_any r W)
 have CI := Lib.hid (fun W => refIs1_any r W)
 have CC := Lib.hid (fun W => refCtrl3_any r W)
 obtain ⟨z, hz⟩ : ∃ z, z = joinB r := ⟨_, rfl⟩
 rw [← hz]
 unfold joinB at hz
 obtain ⟨q, hq⟩ : ∃ q, q = colsB r := ⟨_, rfl⟩
 obtain ⟨y, hy⟩ : ∃ y, y = isR r := ⟨_, rfl⟩
 obtain ⟨x, hx⟩ : ∃ x, x = ctrlB r := ⟨_, rfl⟩
 rw [← hq] at C hz
 rw [← hy] at CI hz
 rw [← hx] at CC hz
 have HZ := Lib.hid hz
 clear hz hq hy hx
 by_cases h0 : q = 0
 ·subst h0
  cases y <;> cases x
  all_goals
   go_enter Tryz.func90, Tryz.ntmps90
   go_wp2_with (first
    | (go_at_call 88; refine (C.out _).mono ?_; rintro e w1 ⟨rfl, hb1⟩)
    | (go_at_call 124; refine (CI.out _).mono ?_; rintro e w2 ⟨rfl, rfl⟩)
    | (go_at_call 125; refine (CC.out _).mono ?_; rintro e w3 ⟨rfl, rfl⟩))
   go_ret
   exact ⟨by rw [HZ.out]; rfl, hb1⟩
 ·have hne : (q == 0) = false := by simpa using h0
  have HD := Lib.hid (decide_eq_false h0)
  clear h0
  go_enter Tryz.func90, Tryz.ntmps90
  go_wp2_with (go_at_call 88; refine (C.out _).mono ?_; rintro e w1 ⟨rfl, hb1⟩)
  go_ret
  exact ⟨by rw [HZ.out, HD.out]; rfl, hb1⟩
end Go.Proofs.YtjkajojjehgmdaaGreat
