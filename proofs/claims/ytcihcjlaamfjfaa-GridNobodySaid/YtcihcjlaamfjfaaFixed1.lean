/- The fixed sequences: their contracts; what Strip leaves of sequences. -/
import Derived.Test.YtcihcjlaamfjfaaEscStripsLaw
namespace Go.Proofs.Ytcihcjlaamfjfaa
open Go.RowKit Go.Maps

/-! ### plain -/
theorem skipL_dig : ∀ (ds : List UInt8) (e : UInt8) (rest : List UInt8), (∀ c ∈ ds, c.toNat < 64) → 64 ≤ e.toNat → e.toNat ≤ 126 → skipL (ds ++ e :: rest) = rest
  | [], e, rest, _, h1, h2 => by rw [List.nil_append]; unfold skipL; rw [if_pos ⟨h1, h2⟩]
  | c :: t, e, rest, h, h1, h2 => by
    rw [List.cons_append]
    unfold skipL
    have := h c (by simp)
    rw [if_neg (by omega)]
    exact skipL_dig t e rest (fun x hx => h x (by simp [hx])) h1 h2
/-- Nothing of it is left. -/
def Gone (l : List UInt8) : Prop := ∀ rest, stripL (l ++ rest) = stripL rest
theorem Gone.nil : Gone [] := fun _ => rfl
theorem Gone.app {a b : List UInt8} (ha : Gone a) (hb : Gone b) : Gone (a ++ b) := fun rest => by rw [List.append_assoc, ha, hb]
theorem Gone.empty {l : List UInt8} (h : Gone l) : stripL l = [] := by have := h []; rw [List.append_nil] at this; rw [this]; rfl
theorem gone_ctl (c : UInt8) (h : c.toNat < 27) : Gone [c] := fun rest => by
  rw [List.singleton_append]
  show stripF (rest.length + 1) (c :: rest) = stripF rest.length rest
  rw [stripF, if_neg (by omega), if_pos (by omega), List.nil_append]
theorem gone_seq (ds : List UInt8) (e : UInt8) (h : ∀ c ∈ ds, c.toNat < 64) (h1 : 64 ≤ e.toNat) (h2 : e.toNat ≤ 126) : Gone ([27, 91] ++ ds ++ [e]) := fun rest => by
  rw [show [27, 91] ++ ds ++ [e] ++ rest = 27 :: 91 :: (ds ++ e :: rest) by simp]
  show stripF ((91 :: (ds ++ e :: rest)).length + 1) (27 :: 91 :: (ds ++ e :: rest)) = stripF rest.length rest
  rw [stripF, if_pos ⟨by decide, by simp [nth], by simp⟩, List.drop_succ_cons, List.drop_zero, skipL_dig ds e rest h h1 h2]
  exact stripF_more _ _ _ (by simp; omega) (Nat.le_refl _)
theorem decL_dig (n : Nat) : ∀ c ∈ decL n, c.toNat < 64 := by
  induction n using Nat.strongRecOn with
  | _ n ih =>
    intro c hc
    have hd : ∀ m, m < 10 → (digB m).toNat < 64 := by
      intro m hm
      have : m = 0 ∨ m = 1 ∨ m = 2 ∨ m = 3 ∨ m = 4 ∨ m = 5 ∨ m = 6 ∨ m = 7 ∨ m = 8 ∨ m = 9 := by omega
      rcases this with rfl | rfl | rfl | rfl | rfl | rfl | rfl | rfl | rfl | rfl <;> decide
    by_cases h : n < 10
    · rw [decL_small h] at hc
      rw [List.mem_singleton.1 hc]; exact hd n h
    · rw [decL_big h] at hc
      rcases List.mem_append.1 hc with hc | hc
      · exact ih (n / 10) (by omega) c hc
      · rw [List.mem_singleton.1 hc]; exact hd _ (by omega)
theorem gone_by (n : Int) (e : UInt8) (h1 : 64 ≤ e.toNat) (h2 : e.toNat ≤ 126) : Gone (byL n e) := by
  unfold byL; split
  · exact Gone.nil
  · exact gone_seq _ _ (decL_dig _) h1 h2
theorem gone_col (n : Int) : Gone (colL n) := by
  unfold colL; split
  · exact Gone.nil
  · exact gone_seq _ 71 (decL_dig _) (by decide) (by decide)
theorem gone_move (r c tr tc : Int) : Gone (moveL r c tr tc) := by
  have g1 := (gone_by (r - tr) 65 (by decide) (by decide)).app (gone_by (tr - r) 66 (by decide) (by decide))
  unfold moveL
  dsimp only
  split
  · exact g1
  · split
    · exact g1.app (gone_ctl 13 (by decide))
    · split
      · exact g1.app (gone_col _)
      · exact g1.app ((gone_by _ 67 (by decide) (by decide)).app (gone_by _ 68 (by decide) (by decide)))
theorem moveL_le (r c tr tc : Int) : (moveL r c tr tc).length ≤ 40 := by
  have h1 := byL_len (r - tr) 65
  have h2 := byL_len (tr - r) 66
  have h3 := byL_len (tc - c) 67
  have h4 := byL_len (c - tc) 68
  have h5 := colL_len tc
  unfold moveL
  dsimp only
  split
  · simp only [List.length_append]; omega
  · split
    · simp only [List.length_append, List.length_singleton]; omega
    · split
      · simp only [List.length_append]; omega
      · simp only [List.length_append]; omega
def modeL (num : List UInt8) (on : Bool) : List UInt8 := [27, 91, 63] ++ num ++ [if on then 104 else 108]
def allL (on : Bool) : List UInt8 := [27, 91, 75] ++ [27, 91, 74] ++ modeL [50, 53] on ++ modeL [50, 48, 48, 52] on ++ [7]
theorem modeL_len (num : List UInt8) (on : Bool) : (modeL num on).length = num.length + 4 := by simp [modeL]
theorem strip_all (on : Bool) : stripL (allL on) = [] := by cases on <;> kernel_rfl

/-! ### contracts -/
theorem eraseLine_any (w : World) : Calls Try.prog 55 #[] w fun r w' => r = .returned (.string (S [27, 91, 75])) ∧ w = w' := by
  go_enter Try.func55, Try.ntmps55
  go_wp2
  go_ret
  exact ⟨rfl, rfl⟩
theorem eraseBelow_any (w : World) : Calls Try.prog 56 #[] w fun r w' => r = .returned (.string (S [27, 91, 74])) ∧ w = w' := by
  go_enter Try.func56, Try.ntmps56
  go_wp2
  go_ret
  exact ⟨rfl, rfl⟩
theorem bell_any (w : World) : Calls Try.prog 59 #[] w fun r w' => r = .returned (.string (S [7])) ∧ w = w' := by
  go_enter Try.func59, Try.ntmps59
  go_wp2
  go_ret
  exact ⟨rfl, rfl⟩
theorem mode_any (num : List UInt8) (on : Bool) (w : World) (hn : num.length ≤ 10) : Calls Try.prog 98 #[.string (S num), .bool on] w fun r w' => r = .returned (.string (S (modeL num on))) ∧ w = w' := by
  have hz := S_le num 10 hn
  cases on with
  | false =>
    go_enter Try.func98, Try.ntmps98
    go_wp2
    go_ret
    exact ⟨ret_str (by show S [27, 91, 63] ++ S num ++ S [108] = _; rw [S_append, S_append]; rfl), rfl⟩
  | true =>
    go_enter Try.func98, Try.ntmps98
    go_wp2
    go_ret
    exact ⟨ret_str (by show S [27, 91, 63] ++ S num ++ S [104] = _; rw [S_append, S_append]; rfl), rfl⟩
theorem seen_any (on : Bool) (w : World) : Calls Try.prog 57 #[.bool on] w fun r w' => r = .returned (.string (S (modeL [50, 53] on))) ∧ w = w' := by
  go_enter Try.func57, Try.ntmps57
  go_wp2_with (go_at_call 98; refine (mode_any [50, 53] _ _ (by simp)).mono ?_; rintro e w' ⟨rfl, rfl⟩)
  go_ret
  exact ⟨rfl, rfl⟩
theorem paste_any (on : Bool) (w : World) : Calls Try.prog 58 #[.bool on] w fun r w' => r = .returned (.string (S (modeL [50, 48, 48, 52] on))) ∧ w = w' := by
  go_enter Try.func58, Try.ntmps58
  go_wp2_with (go_at_call 98; refine (mode_any [50, 48, 48, 52] _ _ (by simp)).mono ?_; rintro e w' ⟨rfl, rfl⟩)
  go_ret
  exact ⟨rfl, rfl⟩
theorem refErase_any (e : UInt8) (w : World) : Calls Try.prog 60 #[.string (S [e])] w fun r w' => r = .returned (.string (S [27, 91, e])) ∧ Below w.heap.size w w' := by
  have h1 := S_le [e] 10 (by simp)
  have h2 := S_le [27, 91] 10 (by simp)
  go_enter Try.func60, Try.ntmps60
  go_wp2_with (go_at_call 85; refine (refE_any _).mono ?_; rintro r w1 ⟨rfl, hb1⟩)
  go_ret
  exact ⟨ret_str (by rw [S_append]; rfl), hb1⟩
theorem refMode_any (num : List UInt8) (on : Bool) (w : World) (hn : num.length ≤ 10) : Calls Try.prog 61 #[.string (S num), .bool on] w fun r w' => r = .returned (.string (S (modeL num on))) ∧ Below w.heap.size w w' := by
  have hz := S_le num 10 hn
  have h2 := S_le [27, 91] 10 (by simp)
  cases on with
  | false =>
    go_enter Try.func61, Try.ntmps61
    go_wp2_with (go_at_call 85; refine (refE_any _).mono ?_; rintro r w1 ⟨rfl, hb1⟩)
    go_ret
    exact ⟨ret_str (by show S [27, 91] ++ S [63] ++ S num ++ S [108] = _; rw [S_append, S_append, S_append]; rfl), hb1⟩
  | true =>
    go_enter Try.func61, Try.ntmps61
    go_wp2_with (go_at_call 85; refine (refE_any _).mono ?_; rintro r w1 ⟨rfl, hb1⟩)
    go_ret
    exact ⟨ret_str (by show S [27, 91] ++ S [63] ++ S num ++ S [104] = _; rw [S_append, S_append, S_append]; rfl), hb1⟩
end Go.Proofs.Ytcihcjlaamfjfaa
