/- Put and erase: what they make of a grid's cells; the cells' strings stay short. No condition. -/
import Derived.Test.YtnakgjcmepimiaaGrid7
namespace Go.Proofs.Ytnakgjcmepimiaa
set_option linter.unusedVariables false
set_option linter.unusedSimpArgs false
open Go.RowKit Go.Maps
def GOk (L : List GC) : Prop := ∀ c ∈ L, c.s.size ≤ 64
theorem GOk.set {L : List GC} (h : GOk L) (i : Nat) (c : GC) (hc : c.s.size ≤ 64) : GOk (L.set i c) := by
  intro x hx
  rcases List.mem_or_eq_of_mem_set hx with h1 | h1
  · exact h x h1
  · rw [h1]; exact hc
theorem GC.blank_ok : GC.blank.s.size ≤ 64 := by decide
theorem GOk.wipe {L : List GC} (h : GOk L) (o n c : Nat) : GOk (wipeL L o n c) := by
  unfold wipeL
  dsimp only
  split
  · exact (h.set _ _ GC.blank_ok).set _ _ GC.blank_ok
  · split
    · exact (h.set _ _ GC.blank_ok).set _ _ GC.blank_ok
    · exact h.set _ _ GC.blank_ok
theorem GOk.wipes {k w : Nat} : ∀ (n i : Nat) (L : List GC), GOk L → GOk (wipes k w i n L)
  | 0, _, _, h => h
  | n + 1, i, L, h => GOk.wipes n (i + 1) _ (h.wipe k w i)
theorem GOk.replicate (n : Nat) : GOk (List.replicate n GC.blank) := by
  intro c hc
  rw [List.eq_of_mem_replicate hc]
  exact GC.blank_ok
theorem GOk.put {L : List GC} (h : GOk L) (w t : Nat) (r c : Int) (s : ByteArray) (wd : Int) (y : Sy) : GOk (putG w t L r c s wd y) := by
  unfold putG
  split
  · rename_i h0
    have hs : s.size ≤ 64 := by
      unfold putErr at h0
      split at h0
      · cases h0
      · rename_i h1
        exact Nat.le_of_not_lt (fun h => h1 (.inr (.inl h)))
    unfold putL
    split
    · exact (((h.wipe _ _ _).wipe _ _ _).set _ _ (by show 0 ≤ 64; omega)).set _ _ hs
    · exact (h.wipe _ _ _).set _ _ hs
  · exact h
def inG (w h : Nat) (r c : Int) : Bool := decide (0 ≤ r ∧ r < h ∧ 0 ≤ c ∧ c < w)
def joinOk (w h : Nat) (L : List GC) (r c : Int) (s : ByteArray) : Bool := inG w h r c && decide ((s.size : Int) ≤ 64 - (nth GC.zero L (w * r.toNat + joinAt L (w * r.toNat) c.toNat)).s.size)
def joinErr (w h : Nat) (r c : Int) : Int := if inG w h r c then 0 else 5
def joinG (w h : Nat) (L : List GC) (r c : Int) (s : ByteArray) : List GC := if joinOk w h L r c s then joinL L (w * r.toNat) c.toNat s else L
theorem GOk.join {L : List GC} (h : GOk L) (w t : Nat) (r c : Int) (s : ByteArray) : GOk (joinG w t L r c s) := by
  unfold joinG
  split
  · rename_i h0
    unfold joinOk at h0
    simp only [Bool.and_eq_true, decide_eq_true_eq] at h0
    refine h.set _ _ ?_
    show (_ ++ _ : ByteArray).size ≤ 64
    rw [ByteArray.size_append]
    omega
  · exact h
def eraseErr (h : Nat) (r : Int) : Int := if 0 ≤ r ∧ r < h then 0 else 5
def eraseG (w h : Nat) (L : List GC) (r a b : Int) : List GC := if 0 ≤ r ∧ r < h then eraseL L (w * r.toNat) w a b else L
theorem GOk.erase {L : List GC} (h : GOk L) (w t : Nat) (r a b : Int) : GOk (eraseG w t L r a b) := by
  unfold eraseG eraseL
  split
  · exact h.wipes _ _ _
  · exact h
theorem join_any {W : World} {p q w h : Nat} {L : List GC} (g : GridAt W p q w h L) (hS : GOk L) (r c : Int) (s : ByteArray) :
    Calls Try.prog 115 #[.pointer (some ⟨p, 0, none⟩), .int .i64 r, .int .i64 c, .string s] W fun e w' => e = .returned (.tuple #[.bool (joinOk w h L r c s), .int .i64 (joinErr w h r c)]) ∧ GridAt w' p q w h (joinG w h L r c s) ∧ Only [q] W w' := by
  unfold joinG joinErr
  by_cases hin : 0 ≤ r ∧ r < h ∧ 0 ≤ c ∧ c < w
  · have e1 : inG w h r c = true := by simpa [inG] using hin
    by_cases hf : joinFits L (w * r.toNat) c.toNat s
    · have e2 : joinOk w h L r c s = true := by unfold joinOk; rw [e1]; simpa [joinFits] using hf
      rw [e1, e2]
      exact join_yes g hS r c s hin.1 hin.2.1 hin.2.2.1 hin.2.2.2 hf
    · have e2 : joinOk w h L r c s = false := by unfold joinOk; rw [e1]; simpa [joinFits] using hf
      rw [e1, e2]
      refine (join_no g hS r c s hin.1 hin.2.1 hin.2.2.1 hin.2.2.2 hf).mono ?_
      rintro e w' ⟨rfl, hb⟩
      exact ⟨rfl, g.only (Only.of_below (S := []) hb) (by simp) (by simp), Only.of_below hb⟩
  · have e1 : inG w h r c = false := by simpa [inG] using hin
    have e2 : joinOk w h L r c s = false := by unfold joinOk; rw [e1]; rfl
    rw [e1, e2]
    refine (join_out g r c s hin).mono ?_
    rintro e w' ⟨rfl, rfl⟩
    exact ⟨rfl, g, Only.refl _ _⟩
theorem erase_any {W : World} {p q w h : Nat} {L : List GC} (g : GridAt W p q w h L) (r a b : Int) :
    Calls Try.prog 58 #[.pointer (some ⟨p, 0, none⟩), .int .i64 r, .int .i64 a, .int .i64 b] W fun e w' => e = .returned (.int .i64 (eraseErr h r)) ∧ GridAt w' p q w h (eraseG w h L r a b) ∧ Only [q] W w' := by
  unfold eraseErr eraseG
  by_cases hr : 0 ≤ r ∧ r < h
  · rw [if_pos hr, if_pos hr]
    exact erase_ok g r a b hr.1 hr.2
  · rw [if_neg hr, if_neg hr]
    refine (erase_out g r a b hr).mono ?_
    rintro e w' ⟨rfl, rfl⟩
    exact ⟨rfl, g, Only.refl _ _⟩
end Go.Proofs.Ytnakgjcmepimiaa
