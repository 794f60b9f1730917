/- The laws DateAdds and DateTexts. -/
import Derived.Test.YtdekjlkpinallaaDate17
namespace Go.Proofs.Ytdekjlkpinallaa
open Go.RowKit Go.Maps
theorem monV_form (l : List UInt8) (n : Int) : ∃ t k, monV l n = .returned (.tuple #[.string t, .int .i64 k]) := by
  unfold monV monR
  repeat' split
  all_goals exact ⟨_, _, rfl⟩
theorem numV_text {y m d : Int} (h : IsDay y m d) : numV (textL y m d) = aheadI y m d ∧ errV (textL y m d) = 0 := by
  obtain ⟨e1, e2, e3⟩ := h.of_text
  have := numV_yes h.readB
  rw [e1, e2, e3] at this
  exact this
theorem isAt_self {l : List UInt8} (h : readB l = true) : IsAt (numV l) (yOf l) (mOf l) (dOf l) := ⟨readB_day h, (numV_yes h).1.symm⟩
theorem isAt_back {l : List UInt8} (h : readB l = true) {y m d : Int} (hat : IsAt (numV l) y m d) : textL y m d = l := by
  obtain ⟨rfl, rfl, rfl⟩ := hat.uniq (isAt_self h)
  exact (readB_text h).symm
/-- So many days back it is that date again. -/
theorem addPost_back {l : List UInt8} {days y m d : Int} {e : Ending} (h : readB l = true) (hat : IsAt (numV l + days) y m d) (hp : AddPost (textL y m d) (-days) e) : e = .returned (.tuple #[.string (S l), .int .i64 0]) := by
  have hn := (numV_text hat.1).1
  rw [hat.2] at hn
  have hr := numV_range l
  have hk : numV (textL y m d) + -days = numV l := by omega
  rcases hp with ⟨h1, _⟩ | ⟨_, h2, _⟩ | ⟨_, _, _, y', m', d', h4, rfl⟩
  · rw [hat.1.readB] at h1; cases h1
  · omega
  · rw [hk] at h4
    rw [isAt_back h h4]
set_option maxRecDepth 100000 in
set_option maxHeartbeats 4000000 in
theorem dateAdds_law (s : ByteArray) (days months : Int) (w : World) (_ : s.size ≤ maxLen) (hd : (Lit.int .i64 days).wf = true) (hm : (Lit.int .i64 months).wf = true) :
    Calls Try.prog 6 #[.string s, .int .i64 days, .int .i64 months] w fun e w' => e = .returned (.bool true) ∧ Below w.heap.size w w' := by
  have hd := bounds_i64 hd
  have hm := bounds_i64 hm
  go_enter Try.func6, Try.ntmps6
  go_wp2_with fail
  refine (cut_any s w).mono ?_
  rintro e w' ⟨⟨l, hl, rfl⟩, rfl⟩
  go_wp2_with fail
  refine (add20_any l days (by omega) w hd).mono ?_
  rintro e w1 ⟨hp, hb1⟩
  have CR := Lib.hid (fun W => (refAdd_any l days W hd).mono fun e' w' h => (⟨h.1.uniq hp, h.2⟩ : e' = e ∧ Below W.heap.size W w'))
  obtain ⟨t, k, hmon⟩ := monV_form l months
  have CM1 := fun W => months20_any l months (by omega) hm W
  have CM2 := fun W => refMonths_any l months hm W
  rw [hmon] at CM1 CM2
  have CM1 := Lib.hid CM1
  have CM2 := Lib.hid CM2
  clear hmon
  rcases hp with ⟨h1, rfl⟩ | ⟨h1, h2, rfl⟩ | ⟨h1, h2, h3, y, m, d, hat, rfl⟩
  · clear h1
    go_wp2_with (first
      | (go_at_call 28; refine (CR.out _).mono ?_; rintro e w2 ⟨rfl, hb2⟩)
      | (go_at_call 29; refine (CM1.out _).mono ?_; rintro e w3 ⟨rfl, hb3⟩)
      | (go_at_call 30; refine (CM2.out _).mono ?_; rintro e w4 ⟨rfl, hb4⟩)
      | (go_at_call 13; refine (awake20_any _).mono ?_; rintro e w5 ⟨rfl, hb5⟩))
    go_ret
    exact ⟨rfl, bnext (bnext (bnext (bnext hb1 hb2) hb3) hb4) hb5⟩
  · clear h1 h2
    go_wp2_with (first
      | (go_at_call 28; refine (CR.out _).mono ?_; rintro e w2 ⟨rfl, hb2⟩)
      | (go_at_call 29; refine (CM1.out _).mono ?_; rintro e w3 ⟨rfl, hb3⟩)
      | (go_at_call 30; refine (CM2.out _).mono ?_; rintro e w4 ⟨rfl, hb4⟩)
      | (go_at_call 13; refine (awake20_any _).mono ?_; rintro e w5 ⟨rfl, hb5⟩))
    go_ret
    exact ⟨rfl, bnext (bnext (bnext (bnext hb1 hb2) hb3) hb4) hb5⟩
  · have CB := Lib.hid (fun W => (add20_any (textL y m d) (-days) (by rw [text_len]; omega) W (by have := numV_range l; omega)).mono fun e' w' h => (⟨addPost_back h1 hat h.1, h.2⟩ : e' = .returned (.tuple #[.string (S l), .int .i64 0]) ∧ Below W.heap.size W w'))
    have hnd : -3652058 ≤ days ∧ days ≤ 3652058 := by have := numV_range l; omega
    clear h1 h2 h3 hat
    go_wp2_with (first
      | (go_at_call 28; refine (CR.out _).mono ?_; rintro e w2 ⟨rfl, hb2⟩)
      | (go_at_call 29; refine (CM1.out _).mono ?_; rintro e w3 ⟨rfl, hb3⟩)
      | (go_at_call 30; refine (CM2.out _).mono ?_; rintro e w4 ⟨rfl, hb4⟩)
      | (go_at_call 13; refine (awake20_any _).mono ?_; rintro e w5 ⟨rfl, hb5⟩)
      | (go_at_call 27; refine (CB.out _).mono ?_; rintro e w6 ⟨rfl, hb6⟩))
    go_ret
    exact ⟨rfl, bnext (bnext (bnext (bnext (bnext hb1 hb2) hb3) hb4) hb5) hb6⟩
set_option maxRecDepth 100000 in
set_option maxHeartbeats 4000000 in
theorem dateTexts_law (s : ByteArray) (n : Int) (w : World) (_ : s.size ≤ maxLen) (hn : (Lit.int .i64 n).wf = true) :
    Calls Try.prog 8 #[.string s, .int .i64 n] w fun e w' => e = .returned (.bool true) ∧ Below w.heap.size w w' := by
  have hn := bounds_i64 hn
  go_enter Try.func8, Try.ntmps8
  go_wp2_with fail
  refine (cut_any s w).mono ?_
  rintro e w' ⟨⟨l, hl, rfl⟩, rfl⟩
  have C1 := fun W => number20_any l (by omega) W
  have C2 := fun W => refNumber20_any l W
  have C3 := fun W => weekday_any l (by omega) W
  have C4 := fun W => refWeekday_any l W
  have C5 := fun W => check20_any l (by omega) W
  have C6 := fun W => refCheck_any l W
  have HR := numV_range l
  have hcase : (readB l = false ∧ errV l = 200) ∨ (readB l = true ∧ errV l = 0) := by
    cases h : readB l with
    | false => exact .inl ⟨rfl, (numV_no h).2⟩
    | true => exact .inr ⟨rfl, (numV_yes h).2⟩
  have HB : Hid (readB l = true → ∀ W, Calls Try.prog 35 #[.int .i64 (numV l)] W fun e w' => e = .returned (.tuple #[.string (S l), .int .i64 0]) ∧ Below W.heap.size W w') :=
    fun h W => (text20_ok (numV l) HR.1 HR.2 W).mono fun e w' hh => ⟨by
      obtain ⟨y, m, d, hat, rfl⟩ := hh.1
      rw [isAt_back h hat], hh.2⟩
  obtain ⟨nv, hnv⟩ : ∃ nv, nv = numV l := ⟨_, rfl⟩
  obtain ⟨ev, hev⟩ : ∃ ev, ev = errV l := ⟨_, rfl⟩
  obtain ⟨wv, hwv⟩ : ∃ wv, wv = weekV l := ⟨_, rfl⟩
  rw [← hnv] at C1 C2 HB
  rw [← hev] at C1 C2 C3 C4 C5 C6 hcase
  rw [← hwv] at C3 C4
  clear hnv hev hwv HR
  have C1 := Lib.hid C1
  have C2 := Lib.hid C2
  have C3 := Lib.hid C3
  have C4 := Lib.hid C4
  have C5 := Lib.hid C5
  have C6 := Lib.hid C6
  go_upto_region 6 with (first
    | (go_at_call 31; refine (C1.out _).mono ?_; rintro e w1 ⟨rfl, hb1⟩)
    | (go_at_call 32; refine (C2.out _).mono ?_; rintro e w2 ⟨rfl, hb2⟩)
    | (go_at_call 33; refine (C3.out _).mono ?_; rintro e w3 ⟨rfl, hb3⟩)
    | (go_at_call 34; refine (C4.out _).mono ?_; rintro e w4 ⟨rfl, hb4⟩))
  have hB4 := bnext (bnext (bnext hb1 hb2) hb3) hb4
  clear hb1 hb2 hb3 hb4 C1 C2 C3 C4
  by_cases hin : 0 ≤ n ∧ n ≤ 3652058
  · go_wp2_with fail
    refine (text20_ok n hin.1 hin.2 _).mono ?_
    rintro e w5 ⟨⟨y, m, d, hat, rfl⟩, hb5⟩
    have CT := Lib.hid (fun W => (refText_ok n hin.1 hin.2 W).mono fun e' w' h => (⟨by
      obtain ⟨y', m', d', hat', rfl⟩ := h.1
      obtain ⟨rfl, rfl, rfl⟩ := hat.uniq hat'
      rfl, h.2⟩ : e' = .returned (.tuple #[.string (S (textL y m d)), .int .i64 0]) ∧ Below W.heap.size W w'))
    obtain ⟨T, hT⟩ : ∃ T, T = textL y m d := ⟨_, rfl⟩
    have hTn := numV_text hat.1
    have hTl := text_len y m d
    rw [hat.2] at hTn
    rw [← hT] at hTn hTl CT ⊢
    have D1 := fun W => number20_any T (by omega) W
    have D2 := fun W => check20_any T (by omega) W
    rw [hTn.1, hTn.2] at D1
    rw [hTn.2] at D2
    have D1 := Lib.hid D1
    have D2 := Lib.hid D2
    clear hTn hTl hat hT
    rcases hcase with ⟨h1, rfl⟩ | ⟨h1, rfl⟩
    · clear h1 HB
      go_wp2_with (first
        | (go_at_call 36; refine (CT.out _).mono ?_; rintro e w6 ⟨rfl, hb6⟩)
        | (go_at_call_of 26 (Value.string (S l)); refine (C5.out _).mono ?_; rintro e w7 ⟨rfl, hb7⟩)
        | (go_at_call 37; refine (C6.out _).mono ?_; rintro e w8 ⟨rfl, hb8⟩)
        | (go_at_call 13; refine (awake20_any _).mono ?_; rintro e w9 ⟨rfl, hb9⟩)
        | (go_at_call 31; refine (D1.out _).mono ?_; rintro e w10 ⟨rfl, hb10⟩)
        | (go_at_call_of 26 (Value.string (S T)); refine (D2.out _).mono ?_; rintro e w11 ⟨rfl, hb11⟩))
      go_ret
      exact ⟨rfl, bnext (bnext (bnext (bnext (bnext (bnext (bnext hB4 hb5) hb6) hb7) hb8) hb9) hb10) hb11⟩
    · have HB := Lib.hid (HB.out h1)
      clear h1
      go_wp2_with (first
        | (go_at_call 36; refine (CT.out _).mono ?_; rintro e w6 ⟨rfl, hb6⟩)
        | (go_at_call_of 26 (Value.string (S l)); refine (C5.out _).mono ?_; rintro e w7 ⟨rfl, hb7⟩)
        | (go_at_call 37; refine (C6.out _).mono ?_; rintro e w8 ⟨rfl, hb8⟩)
        | (go_at_call 13; refine (awake20_any _).mono ?_; rintro e w9 ⟨rfl, hb9⟩)
        | (go_at_call 35; refine (HB.out _).mono ?_; rintro e w12 ⟨rfl, hb12⟩)
        | (go_at_call 31; refine (D1.out _).mono ?_; rintro e w10 ⟨rfl, hb10⟩)
        | (go_at_call_of 26 (Value.string (S T)); refine (D2.out _).mono ?_; rintro e w11 ⟨rfl, hb11⟩))
      go_ret
      exact ⟨rfl, bnext (bnext (bnext (bnext (bnext (bnext (bnext (bnext hB4 hb5) hb6) hb7) hb8) hb9) hb12) hb10) hb11⟩
  · have hout : n < 0 ∨ 3652058 < n := by omega
    have CT1 := Lib.hid (fun W => text20_no n hout W)
    have CT2 := Lib.hid (fun W => refText_no n hout W)
    rcases hcase with ⟨h1, rfl⟩ | ⟨h1, rfl⟩
    · clear h1 HB hout hin
      go_wp2_with (first
        | (go_at_call 35; refine (CT1.out _).mono ?_; rintro e w5 ⟨rfl, rfl⟩)
        | (go_at_call 36; refine (CT2.out _).mono ?_; rintro e w6 ⟨rfl, rfl⟩)
        | (go_at_call 26; refine (C5.out _).mono ?_; rintro e w7 ⟨rfl, hb7⟩)
        | (go_at_call 37; refine (C6.out _).mono ?_; rintro e w8 ⟨rfl, hb8⟩)
        | (go_at_call 13; refine (awake20_any _).mono ?_; rintro e w9 ⟨rfl, hb9⟩))
      go_ret
      exact ⟨rfl, bnext (bnext (bnext hB4 hb7) hb8) hb9⟩
    · have HB := Lib.hid (HB.out h1)
      clear h1 hout hin
      go_wp2_with (first
        | (go_at_call_of 35 (Value.int IntKind.i64 n); refine (CT1.out _).mono ?_; rintro e w5 ⟨rfl, rfl⟩)
        | (go_at_call 36; refine (CT2.out _).mono ?_; rintro e w6 ⟨rfl, rfl⟩)
        | (go_at_call 26; refine (C5.out _).mono ?_; rintro e w7 ⟨rfl, hb7⟩)
        | (go_at_call 37; refine (C6.out _).mono ?_; rintro e w8 ⟨rfl, hb8⟩)
        | (go_at_call 13; refine (awake20_any _).mono ?_; rintro e w9 ⟨rfl, hb9⟩)
        | (go_at_call_of 35 (Value.int IntKind.i64 nv); refine (HB.out _).mono ?_; rintro e w10 ⟨rfl, hb10⟩))
      go_ret
      exact ⟨rfl, bnext (bnext (bnext (bnext hB4 hb7) hb8) hb9) hb10⟩
end Go.Proofs.Ytdekjlkpinallaa
