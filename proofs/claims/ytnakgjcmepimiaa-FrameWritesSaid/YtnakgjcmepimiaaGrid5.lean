/- Put where it refuses; Join. -/
import Derived.Test.YtnakgjcmepimiaaGrid4
namespace Go.Proofs.Ytnakgjcmepimiaa
set_option linter.unusedVariables false
set_option linter.unusedSimpArgs false
open Go.RowKit
theorem is_empty : (⟨#[]⟩ : ByteArray).toList.isEmpty = true := by rw [ByteArray.toList_eq]; rfl
set_option maxRecDepth 100000 in
set_option maxHeartbeats 2000000 in
theorem put_arg {W : World} {p q w h : Nat} {L : List GC} (g : GridAt W p q w h L) (r c : Int) (s : ByteArray) (wd : Int) (y : Sy) (hs : s = ⟨#[]⟩ ∨ 64 < s.size ∨ (wd ≠ 1 ∧ wd ≠ 2)) :
    Calls Try.prog 51 #[.pointer (some ⟨p, 0, none⟩), .int .i64 r, .int .i64 c, .string s, .int .i64 wd, .agg #[.bool y.b, .bool y.u, .bool y.i, .int .i64 y.f, .int .i64 y.g]] W fun e w' =>
      e = .returned (.int .i64 1) ∧ Below W.heap.size W w' := by
  have o1 : Below W.heap.size W (W.alloc (.cells #[.bool y.b, .bool y.u, .bool y.i, .int .i64 y.f, .int .i64 y.g] 32)) := (Below.refl _ _).alloc (Nat.le_refl _) _
  have g1 := g.only ((Only.refl [] _).alloc (.cells #[.bool y.b, .bool y.u, .bool y.i, .int .i64 y.f, .int .i64 y.g] 32)) (by simp) (by simp)
  generalize hW1 : W.alloc (.cells #[.bool y.b, .bool y.u, .bool y.i, .int .i64 y.f, .int .i64 y.g] 32) = W1 at o1 g1
  have CM := Lib.hid (made_any g1)
  by_cases h0 : s = ⟨#[]⟩
  · subst h0
    have h1 := is_empty
    clear hs
    go_enter Try.func51, Try.ntmps51
    go_wp2_with (go_at_call 75; refine (CM.out).mono ?_; rintro e w1 ⟨rfl, rfl⟩)
    go_ret
    exact ⟨rfl, o1⟩
  · have h1 := not_empty h0
    by_cases h2 : 64 < s.size
    · have h3 : (64 : Int) < s.size := by omega
      clear hs h0
      go_enter Try.func51, Try.ntmps51
      go_wp2_with (go_at_call 75; refine (CM.out).mono ?_; rintro e w1 ⟨rfl, rfl⟩)
      go_ret
      exact ⟨rfl, o1⟩
    · have h3 : ¬ (64 : Int) < s.size := by omega
      have h4 : wd ≠ 1 ∧ wd ≠ 2 := by rcases hs with h | h | h; exact absurd h h0; exact absurd h h2; exact h
      obtain ⟨h5, h6⟩ := h4
      have h7 : (wd != 1) = true := by simp [h5]
      have h8 : (wd != 2) = true := by simp [h6]
      clear hs h0 h2
      go_enter Try.func51, Try.ntmps51
      go_wp2_with (go_at_call 75; refine (CM.out).mono ?_; rintro e w1 ⟨rfl, rfl⟩)
      go_ret
      exact ⟨rfl, o1⟩
set_option maxRecDepth 100000 in
set_option maxHeartbeats 2000000 in
theorem put_range {W : World} {p q w h : Nat} {L : List GC} (g : GridAt W p q w h L) (r c : Int) (s : ByteArray) (wd : Int) (y : Sy) (hs0 : s ≠ ⟨#[]⟩) (hs1 : s.size ≤ 64) (hwd : wd = 1 ∨ wd = 2)
    (hrc : ¬ (0 ≤ r ∧ r < h ∧ 0 ≤ c ∧ c < w) ∨ (wd = 2 ∧ ¬ c + 1 < w)) :
    Calls Try.prog 51 #[.pointer (some ⟨p, 0, none⟩), .int .i64 r, .int .i64 c, .string s, .int .i64 wd, .agg #[.bool y.b, .bool y.u, .bool y.i, .int .i64 y.f, .int .i64 y.g]] W fun e w' =>
      e = .returned (.int .i64 5) ∧ Below W.heap.size W w' := by
  have o1 : Below W.heap.size W (W.alloc (.cells #[.bool y.b, .bool y.u, .bool y.i, .int .i64 y.f, .int .i64 y.g] 32)) := (Below.refl _ _).alloc (Nat.le_refl _) _
  have g1 := g.only ((Only.refl [] _).alloc (.cells #[.bool y.b, .bool y.u, .bool y.i, .int .i64 y.f, .int .i64 y.g] 32)) (by simp) (by simp)
  generalize hW1 : W.alloc (.cells #[.bool y.b, .bool y.u, .bool y.i, .int .i64 y.f, .int .i64 y.g] 32) = W1 at o1 g1
  have CM := Lib.hid (made_any g1)
  have h1 := not_empty hs0
  have h3 : ¬ (64 : Int) < s.size := by omega
  have hw5 := g.w2
  by_cases hin : 0 ≤ r ∧ r < h ∧ 0 ≤ c ∧ c < w
  · have h5 : wd = 2 ∧ ¬ c + 1 < w := by rcases hrc with h | h; exact absurd hin h; exact h
    obtain ⟨rfl, h6⟩ := h5
    have ct := there_any g1 r c
    rw [show decide (0 ≤ r ∧ r < (h : Int) ∧ 0 ≤ c ∧ c < (w : Int)) = true by simpa using hin] at ct
    have CT := Lib.hid ct
    have ct2 := there_any g1 r (c + 1)
    rw [show decide (0 ≤ r ∧ r < (h : Int) ∧ 0 ≤ c + 1 ∧ c + 1 < (w : Int)) = false by simp; omega] at ct2
    have CT2 := Lib.hid ct2
    obtain ⟨h7, h8, h9, h10⟩ := hin
    clear ct ct2 hrc hwd
    go_enter Try.func51, Try.ntmps51
    go_wp2_with (go_at_call 75; refine (CM.out).mono ?_; rintro e w1 ⟨rfl, rfl⟩)
    refine (CT.out).mono ?_
    rintro e w1 ⟨rfl, rfl⟩
    go_wp2_with fail
    refine (CT2.out).mono ?_
    rintro e w1 ⟨rfl, rfl⟩
    go_wp2_with fail
    go_ret
    exact ⟨rfl, o1⟩
  · have ct := there_any g1 r c
    rw [show decide (0 ≤ r ∧ r < (h : Int) ∧ 0 ≤ c ∧ c < (w : Int)) = false by simpa using hin] at ct
    have CT := Lib.hid ct
    clear ct hrc hin
    rcases hwd with rfl | rfl
    · go_enter Try.func51, Try.ntmps51
      go_wp2_with (first | (go_at_call 75; refine (CM.out).mono ?_; rintro e w1 ⟨rfl, rfl⟩) | (go_at_call 80; refine (CT.out).mono ?_; rintro e w1 ⟨rfl, rfl⟩))
      go_ret
      exact ⟨rfl, o1⟩
    · go_enter Try.func51, Try.ntmps51
      go_wp2_with (first | (go_at_call 75; refine (CM.out).mono ?_; rintro e w1 ⟨rfl, rfl⟩) | (go_at_call 80; refine (CT.out).mono ?_; rintro e w1 ⟨rfl, rfl⟩))
      go_ret
      exact ⟨rfl, o1⟩
/-- What Put makes of a grid's cells. -/
def putG (w h : Nat) (L : List GC) (r c : Int) (s : ByteArray) (wd : Int) (y : Sy) : List GC := if putErr w h r c s wd = 0 then putL L w (w * r.toNat) c.toNat s wd y else L
theorem putG_length (w h : Nat) (L : List GC) (r c : Int) (s : ByteArray) (wd : Int) (y : Sy) : (putG w h L r c s wd y).length = L.length := by
  unfold putG; split <;> simp [putL_length]
theorem put_any {W : World} {p q w h : Nat} {L : List GC} (g : GridAt W p q w h L) (r c : Int) (s : ByteArray) (wd : Int) (y : Sy) :
    Calls Try.prog 51 #[.pointer (some ⟨p, 0, none⟩), .int .i64 r, .int .i64 c, .string s, .int .i64 wd, .agg #[.bool y.b, .bool y.u, .bool y.i, .int .i64 y.f, .int .i64 y.g]] W fun e w' =>
      e = .returned (.int .i64 (putErr w h r c s wd)) ∧ GridAt w' p q w h (putG w h L r c s wd y) ∧ Only [q] W w' := by
  unfold putG
  by_cases h1 : s = ⟨#[]⟩ ∨ 64 < s.size ∨ (wd ≠ 1 ∧ wd ≠ 2)
  · have e1 : putErr w h r c s wd = 1 := by unfold putErr; rw [if_pos h1]
    rw [e1, if_neg (by decide)]
    refine (put_arg g r c s wd y h1).mono ?_
    rintro e w' ⟨rfl, hb⟩
    exact ⟨rfl, g.only (Only.of_below (S := []) hb) (by simp) (by simp), Only.of_below hb⟩
  · have h2 : s ≠ ⟨#[]⟩ ∧ s.size ≤ 64 ∧ (wd = 1 ∨ wd = 2) := by
      refine ⟨fun h => h1 (.inl h), ?_, ?_⟩
      · exact Nat.le_of_not_lt (fun h => h1 (.inr (.inl h)))
      · by_cases a : wd = 1; exact .inl a; by_cases b : wd = 2; exact .inr b; exact absurd (.inr (.inr ⟨a, b⟩)) h1
    obtain ⟨hs0, hs1, hwd⟩ := h2
    by_cases h3 : ¬ (0 ≤ r ∧ r < h ∧ 0 ≤ c ∧ c < w) ∨ (wd = 2 ∧ ¬ c + 1 < w)
    · have e1 : putErr w h r c s wd = 5 := by unfold putErr; rw [if_neg h1, if_pos h3]
      rw [e1, if_neg (by decide)]
      refine (put_range g r c s wd y hs0 hs1 hwd h3).mono ?_
      rintro e w' ⟨rfl, hb⟩
      exact ⟨rfl, g.only (Only.of_below (S := []) hb) (by simp) (by simp), Only.of_below hb⟩
    · have e1 : putErr w h r c s wd = 0 := by unfold putErr; rw [if_neg h1, if_neg h3]
      rw [e1, if_pos rfl]
      have h4 : 0 ≤ r ∧ r < h ∧ 0 ≤ c ∧ c < w := Classical.byContradiction fun h => h3 (.inl h)
      rcases hwd with rfl | rfl
      · exact put_ok1 g r c s y hs0 hs1 h4.1 h4.2.1 h4.2.2.1 h4.2.2.2
      · exact put_ok2 g r c s y hs0 hs1 h4.1 h4.2.1 h4.2.2.1 (Classical.byContradiction fun h => h3 (.inr ⟨rfl, h⟩))
end Go.Proofs.Ytnakgjcmepimiaa
