/- What begins a date: Begins, of the reference. Push, Of, Shown. -/
import Derived.Test.YtdekjlkpinallaaDate10
namespace Go.Proofs.Ytdekjlkpinallaa
open Go.RowKit Go.Maps
theorem refNumber_dig (l : List UInt8) (hl : l.length ≤ 15) (hd : digs l = true) (w : World) : Calls Try.prog 42 #[.string (S l)] w fun e w' => e = .returned (.int .i64 (numL l)) ∧ w = w' :=
  (refNumber_any l hl w).mono fun e w' ⟨he, hw⟩ => ⟨by rw [he, hd]; rfl, hw⟩
theorem refNumber_not (l : List UInt8) (hl : l.length ≤ 15) (hd : digs l = false) (w : World) : Calls Try.prog 42 #[.string (S l)] w fun e w' => e = .returned (.int .i64 (-1)) ∧ w = w' :=
  (refNumber_any l hl w).mono fun e w' ⟨he, hw⟩ => ⟨by rw [he, hd]; rfl, hw⟩
/-- No date of the first k days of the month m begins so. -/
def NoneIn (l : List UInt8) (y m : Int) (k : Nat) : Prop := ∀ j : Int, 1 ≤ j → j ≤ k → (plainL y m j).take l.length ≠ l
def NoneTo (l : List UInt8) (y : Int) (m : Nat) : Prop := ∀ i j : Int, 1 ≤ i → i ≤ m → 1 ≤ j → j ≤ daysI y i → (plainL y i j).take l.length ≠ l
theorem NoneIn.succ {l : List UInt8} {y m : Int} {k : Nat} (h : NoneIn l y m k) (hn : (plainL y m ((k : Int) + 1)).take l.length ≠ l) : NoneIn l y m (k + 1) := by
  intro j h1 h2
  by_cases hj : j = (k : Int) + 1
  · subst hj; exact hn
  · exact h j h1 (by omega)
theorem NoneTo.succ {l : List UInt8} {y : Int} {m k : Nat} (h : NoneTo l y m) (hk : NoneIn l y ((m : Int) + 1) k) (hd : daysI y ((m : Int) + 1) ≤ k) : NoneTo l y (m + 1) := by
  intro i j h1 h2 h3 h4
  by_cases hi : i = (m : Int) + 1
  · subst hi; exact hk j h3 (by omega)
  · exact h i j h1 (by omega) h3 h4
set_option maxRecDepth 100000 in
set_option maxHeartbeats 4000000 in
theorem refBegins_any (l : List UInt8) (w : World) : Calls Try.prog 22 #[.string (S l)] w fun e w' => e = .returned (.bool (beginsB l)) ∧ Below w.heap.size w w' := by
  have hsz := S_size l
  by_cases h8 : 8 < l.length
  · rw [begins_far l h8]
    have h8i : (8 : Int) < (l.length : Int) := by omega
    go_enter Try.func22, Try.ntmps22
    go_wp2
    go_ret
    exact ⟨rfl, Below.refl _ _⟩
  · have h8i : (l.length : Int) ≤ 8 := by omega
    cases hd : digs l with
    | false =>
      rw [begins_not hd]
      have C := refNumber_not l (by omega) hd w
      clear hd h8
      go_enter Try.func22, Try.ntmps22
      go_wp2_with (refine C.mono ?_; rintro e w1 ⟨rfl, rfl⟩)
      go_ret
      exact ⟨rfl, Below.refl _ _⟩
    | true =>
      have C := refNumber_dig l (by omega) hd w
      by_cases h4 : l.length < 4
      · rw [begins_few hd h4]
        have h4i : (l.length : Int) < 4 := by omega
        clear hd h8
        go_enter Try.func22, Try.ntmps22
        go_wp2_with (refine C.mono ?_; rintro e w1 ⟨rfl, rfl⟩)
        go_ret
        exact ⟨rfl, Below.refl _ _⟩
      · have h4i : (4 : Int) ≤ (l.length : Int) := by omega
        have e1 : (S l).extract 0 4 = S (l.take 4) := by rw [S_extract]; rfl
        have C1 := refNumber_dig (l.take 4) (by simp; omega) (digs_take hd 4) w
        have hy4 := numL_lt 4 (l.take 4) (by simp; omega) (digs_take hd 4)
        obtain ⟨Y, hY⟩ : ∃ Y, Y = numL (l.take 4) := ⟨_, rfl⟩
        rw [← hY] at C1 hy4
        have hbs := begins_some hd (by omega) (by omega)
        unfold SomeDay at hbs
        rw [← hY] at hbs
        have HBS := Lib.hid hbs
        clear hbs hY
        revert e1 C1
        generalize l.take 4 = L1
        intro e1 C1
        obtain ⟨r, hr⟩ : ∃ r, r = beginsB l := ⟨_, rfl⟩
        rw [← hr]
        have HR := Lib.hid hr
        have C := Lib.hid C
        have C1 := Lib.hid C1
        clear hr hd h4
        go_enter Try.func22, Try.ntmps22
        go_wp2_with (first
          | (go_at_call_of 42 (Value.string (S l)); refine C.out.mono ?_; rintro e w1 ⟨rfl, rfl⟩)
          | (go_at_call_of 42 (Value.string (S L1)); refine C1.out.mono ?_; rintro e w1 ⟨rfl, rfl⟩))
        clear C C1
        go_loopw [4] (fun i wr => ∃ m : Nat, m ≤ 12 ∧ i = .int .i64 ((m : Int) + 1) ∧ Hid (NoneTo l Y m) ∧ Below w.heap.size w wr) (fun i _ => (14 - intOf i).toNat)
        case atStart => exact ⟨0, by omega, rfl, fun i j h1 h2 => by omega, Below.refl _ _⟩
        case round =>
          obtain ⟨m, hm, rfl, hno, hb⟩ := hrel
          by_cases hm12 : m < 12
          · have hm12i : (m : Int) + 1 ≤ 12 := by omega
            go_wp2_with fail
            go_loopw [5] (fun i wr2 => ∃ k : Nat, k ≤ 31 ∧ i = .int .i64 ((k : Int) + 1) ∧ Hid (NoneIn l Y ((m : Int) + 1) k) ∧ Hid ((k : Int) ≤ daysI Y ((m : Int) + 1)) ∧ Below w.heap.size w wr2) (fun i _ => (40 - intOf i).toNat)
            case atStart => exact ⟨0, by omega, rfl, fun j h1 h2 => by omega, (days_le _ _).1, hb⟩
            case round =>
              obtain ⟨k, hk, rfl, hnk, hkd, hb2⟩ := hrel
              have CD := fun W => refDays_any (Y : Int) ((m : Int) + 1) W
              have hdl := days_le (Y : Int) ((m : Int) + 1)
              obtain ⟨z, hz⟩ : ∃ z, z = daysI (Y : Int) ((m : Int) + 1) := ⟨_, rfl⟩
              rw [← hz] at CD hkd hdl
              have CD := Lib.hid CD
              have HZ := Lib.hid hz
              clear hz
              have CP := fun W => refDigitsDay_any (Y : Int) ((m : Int) + 1) ((k : Int) + 1) (by omega) (by omega) (by omega) (by omega) (by omega) (by omega) W
              have hpl := plain_len (Y : Int) ((m : Int) + 1) ((k : Int) + 1)
              obtain ⟨P, hP⟩ : ∃ P, P = plainL (Y : Int) ((m : Int) + 1) ((k : Int) + 1) := ⟨_, rfl⟩
              rw [← hP] at CP hpl
              have HP := Lib.hid hP
              have CP := Lib.hid CP
              clear hP
              have hsp := S_size P
              rw [hpl] at hsp
              have e2 : (S P).extract 0 l.length = S (P.take l.length) := by rw [S_extract]; rfl
              by_cases hkz : (k : Int) + 1 ≤ z
              · by_cases hPl : P.take l.length = l
                · rw [hPl] at e2
                  have HT : Hid (r = true) := by
                    show r = true
                    rw [HR.out]
                    exact HBS.out.2 ⟨(m : Int) + 1, (k : Int) + 1, by omega, by omega, by omega, by rw [← HZ.out]; exact hkz, by rw [← HP.out]; exact hPl⟩
                  clear hPl
                  go_wp2_with (first
                    | (go_at_call 9; refine (CD.out _).mono ?_; rintro e w3 ⟨rfl, rfl⟩)
                    | (go_at_call 43; refine (CP.out _).mono ?_; rintro e w4 ⟨rfl, hb4⟩))
                  go_ret
                  exact ⟨ret_bool HT.out.symm, bto hb2 hb4 hb2.size⟩
                · have hne : ((S (P.take l.length)).toList == (S l).toList) = false := by rw [S_eq]; simpa using hPl
                  have HN := Lib.hid hPl
                  clear hPl
                  go_wp2_with (first
                    | (go_at_call 9; refine (CD.out _).mono ?_; rintro e w3 ⟨rfl, rfl⟩)
                    | (go_at_call 43; refine (CP.out _).mono ?_; rintro e w4 ⟨rfl, hb4⟩))
                  go_roundw
                  case rel => exact ⟨k + 1, by omega, by go_num, hnk.out.succ (by rw [← HP.out]; exact HN.out), by show ((k + 1 : Nat) : Int) ≤ daysI _ _; rw [← HZ.out]; omega, bto hb2 hb4 hb2.size⟩
                  case measure => simp [intOf]; omega
              · go_wp2_with (go_at_call 9; refine (CD.out _).mono ?_; rintro e w3 ⟨rfl, rfl⟩)
                go_roundw
                case rel => exact ⟨m + 1, by omega, by go_num, hno.out.succ hnk.out (by rw [← HZ.out]; omega), hb2⟩
                case measure => simp [intOf]; omega
          · obtain rfl : m = 12 := by omega
            have HF : Hid (r = false) := by
              show r = false
              rw [HR.out]
              cases hbb : beginsB l with
              | false => rfl
              | true =>
                obtain ⟨i, j, q1, q2, q3, q4, q5⟩ := HBS.out.1 hbb
                exact absurd q5 (hno.out i j q1 q2 q3 q4)
            go_wp2
            go_ret
            exact ⟨ret_bool HF.out.symm, hb⟩
end Go.Proofs.Ytdekjlkpinallaa
