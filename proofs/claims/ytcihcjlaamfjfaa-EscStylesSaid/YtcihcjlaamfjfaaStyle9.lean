/- Plain: the numbers of Style turn the one style into the other. -/
import Derived.Test.YtcihcjlaamfjfaaStyle8
namespace Go.Proofs.Ytcihcjlaamfjfaa
theorem ob_fg (y : Sy) (c : Int) (h : 0 ≤ c ∧ c ≤ 8) : obey y (colourI c 30) = { y with f := c } := by
  unfold colourI obey
  by_cases hc : c = 0
  · subst hc; simp
  · rw [if_neg hc]
    repeat (first | rw [if_neg (by omega)] | rw [if_pos (by omega)])
    rw [show 30 + c - 1 - 29 = c by omega]
theorem ob_bg (y : Sy) (c : Int) (h : 0 ≤ c ∧ c ≤ 8) : obey y (colourI c 40) = { y with g := c } := by
  unfold colourI obey
  by_cases hc : c = 0
  · subst hc; simp
  · rw [if_neg hc]
    repeat (first | rw [if_neg (by omega)] | rw [if_pos (by omega)])
    rw [show 40 + c - 1 - 39 = c by omega]
theorem fold_if (y : Sy) (c : Prop) [Decidable c] (x : Int) : (if c then [x] else []).foldl obey y = if c then obey y x else y := by split <;> rfl
theorem ob_0 (y : Sy) : obey y 0 = ⟨false, false, false, 0, 0⟩ := rfl
theorem ob_1 (y : Sy) : obey y 1 = { y with b := true } := rfl
theorem ob_4 (y : Sy) : obey y 4 = { y with u := true } := rfl
theorem ob_7 (y : Sy) : obey y 7 = { y with i := true } := rfl
theorem nums_turn (b u i : Bool) (f g : Int) (b' u' i' : Bool) (f' g' : Int) (hf : 0 ≤ f' ∧ f' ≤ 8) (hg : 0 ≤ g' ∧ g' ≤ 8) :
    (numsL b u i f g b' u' i' f' g').foldl obey ⟨b, u, i, f, g⟩ = ⟨b', u', i', f', g'⟩ := by
  unfold numsL
  simp only [List.foldl_append, fold_if, ob_0, ob_1, ob_4, ob_7, ob_fg _ _ hf, ob_bg _ _ hg]
  generalize hz : (b && !b' || u && !u' || i && !i') = z
  cases z
  · have e1 : b = true → b' = true := by revert hz; cases b <;> cases b' <;> simp
    have e2 : u = true → u' = true := by revert hz; cases u <;> cases u' <;> simp
    have e3 : i = true → i' = true := by revert hz; cases i <;> cases i' <;> simp
    clear hz
    by_cases hff : f' = f <;> by_cases hgg : g' = g <;> cases b <;> cases b' <;> simp_all <;> cases u <;> cases u' <;> simp_all <;> cases i <;> cases i' <;> simp_all
  · clear hz
    by_cases hff : f' = 0 <;> by_cases hgg : g' = 0 <;> cases b' <;> cases u' <;> cases i' <;> simp_all
end Go.Proofs.Ytcihcjlaamfjfaa
