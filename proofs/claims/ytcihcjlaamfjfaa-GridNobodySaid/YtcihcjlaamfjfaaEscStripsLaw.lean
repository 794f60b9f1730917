/- The law EscStrips. -/
import Derived.Test.YtcihcjlaamfjfaaAwake6
namespace Go.Proofs.Ytcihcjlaamfjfaa
open Go.RowKit Go.Maps
theorem S_back (s : ByteArray) : s = S s.data.toList := by simp [S]
theorem strip_str (s : ByteArray) (w : World) (h : s.size ≤ 100000) : Calls Try.prog 43 #[.string s] w fun r w' => r = .returned (.string (S (stripL s.data.toList))) ∧ Below w.heap.size w w' := by
  have := strip_any s.data.toList w (by rw [← S_size, ← S_back]; exact h)
  rwa [← S_back] at this
theorem refStrip_str (s : ByteArray) (w : World) (h : s.size ≤ 100000) : Calls Try.prog 44 #[.string s] w fun r w' => r = .returned (.string (S (stripL s.data.toList))) ∧ Below w.heap.size w w' := by
  have := refStrip_any s.data.toList w (by rw [← S_size, ← S_back]; exact h)
  rwa [← S_back] at this
set_option maxRecDepth 100000 in
set_option maxHeartbeats 1000000 in
theorem escStrips_law (s : ByteArray) (w : World) (_ : s.size ≤ maxLen) : Calls Try.prog 8 #[.string s] w fun e w' => e = .returned (.bool true) ∧ Below w.heap.size w w' := by
  by_cases hl : 1000 < s.size
  · obtain ⟨l, ht⟩ : ∃ l, s.extract 0 1000 = S l := ⟨_, S_back _⟩
    have htl : l.length ≤ 100000 := by rw [← S_size, ← ht, ByteArray.size_extract]; omega
    have hl2 : (1000 : Int) < (s.size : Int) := by omega
    obtain ⟨R, hR⟩ : ∃ R, R = S (stripL l) := ⟨_, rfl⟩
    have c1 : ∀ w, Calls Try.prog 43 #[.string (S l)] w fun r w' => r = .returned (.string R) ∧ Below w.heap.size w w' := fun w => by rw [hR]; exact strip_any l w htl
    have c2 : ∀ w, Calls Try.prog 44 #[.string (S l)] w fun r w' => r = .returned (.string R) ∧ Below w.heap.size w w' := fun w => by rw [hR]; exact refStrip_any l w htl
    have C1 := Lib.hid c1
    have C2 := Lib.hid c2
    clear c1 c2 hR htl
    go_enter Try.func8, Try.ntmps8
    go_wp2_with fail
    clear ht
    refine (C1.out _).mono ?_
    rintro e w2 ⟨rfl, hb2⟩
    go_wp2_with fail
    refine (C2.out _).mono ?_
    rintro e w3 ⟨rfl, hb3⟩
    go_wp2_with (go_at_call 42; refine (awake06_any _).mono ?_; rintro e w4 ⟨rfl, hb4⟩)
    go_ret
    exact ⟨rfl, by repeat (first | exact Below.refl _ _ | assumption | refine bnext ?_ (by assumption))⟩
  · obtain ⟨l, rfl⟩ : ∃ l, s = S l := ⟨_, S_back _⟩
    have htl : l.length ≤ 100000 := by rw [← S_size]; omega
    have hl2 : ((S l).size : Int) ≤ 1000 := by omega
    obtain ⟨R, hR⟩ : ∃ R, R = S (stripL l) := ⟨_, rfl⟩
    have c1 : ∀ w, Calls Try.prog 43 #[.string (S l)] w fun r w' => r = .returned (.string R) ∧ Below w.heap.size w w' := fun w => by rw [hR]; exact strip_any l w htl
    have c2 : ∀ w, Calls Try.prog 44 #[.string (S l)] w fun r w' => r = .returned (.string R) ∧ Below w.heap.size w w' := fun w => by rw [hR]; exact refStrip_any l w htl
    have C1 := Lib.hid c1
    have C2 := Lib.hid c2
    clear c1 c2 hR htl
    go_enter Try.func8, Try.ntmps8
    go_wp2_with fail
    refine (C1.out _).mono ?_
    rintro e w2 ⟨rfl, hb2⟩
    go_wp2_with fail
    refine (C2.out _).mono ?_
    rintro e w3 ⟨rfl, hb3⟩
    go_wp2_with (go_at_call 42; refine (awake06_any _).mono ?_; rintro e w4 ⟨rfl, hb4⟩)
    go_ret
    exact ⟨rfl, by repeat (first | exact Below.refl _ _ | assumption | refine bnext ?_ (by assumption))⟩
end Go.Proofs.Ytcihcjlaamfjfaa
