/- The reference's date of a number; its Text. -/
import Derived.Test.YtdekjlkpinallaaDate8
namespace Go.Proofs.Ytdekjlkpinallaa
open Go.RowKit Go.Maps
theorem DB.other {W : World} {p p' i : Nat} {t : TypeId} {y m d : Int} (b : DB W p t y m d) (hp : p ≠ p') (v : Value) : DB (W.setCell ⟨p', i, none⟩ v) p t y m d :=
  ⟨(Below.heap_setCell W ⟨p', i, none⟩ v p hp).trans b.h⟩
theorem year_le (y : Int) : 365 ≤ yearI y ∧ yearI y ≤ 366 := by unfold yearI; split <;> omega
set_option maxRecDepth 100000 in
set_option maxHeartbeats 4000000 in
theorem at_any (n0 : Int) (h0 : 0 ≤ n0) (h1 : n0 ≤ 3652058) (w : World) : Calls Try.prog 50 #[.int .i64 n0] w fun e w' => (∃ y m d, IsAt n0 y m d ∧ e = .returned (.agg #[.int .i64 y, .int .i64 m, .int .i64 d])) ∧ Below w.heap.size w w' := by
  have b0 := DB.new (w.alloc (.cells #[.int .i64 0, .int .i64 0, .int .i64 0] 30)) 30 1 1 1
  have z0 : ((w.alloc (.cells #[.int .i64 0, .int .i64 0, .int .i64 0] 30)).alloc (.cells #[.int .i64 1, .int .i64 1, .int .i64 1] 30)).heap[w.heap.size]? = some (.cells #[.int .i64 0, .int .i64 0, .int .i64 0] 30 (0, 0)) := (Below.heap_alloc _ _ _ (by simp)).trans (zero_new w _)
  have hB : Below w.heap.size w ((w.alloc (.cells #[.int .i64 0, .int .i64 0, .int .i64 0] 30)).alloc (.cells #[.int .i64 1, .int .i64 1, .int .i64 1] 30)) := ((Below.refl _ _).alloc (Nat.le_refl _) _).alloc (by simp) _
  rw [World.size_alloc] at b0
  generalize hW : (w.alloc (.cells #[.int .i64 0, .int .i64 0, .int .i64 0] 30)).alloc (.cells #[.int .i64 1, .int .i64 1, .int .i64 1] 30) = W1 at b0 hB z0
  go_enter Try.func50, Try.ntmps50
  go_wp2_with fail
  go_loopw [0] (fun v wr => ∃ y r : Int, v = .int .i64 r ∧ 1 ≤ y ∧ y ≤ 9999 ∧ 0 ≤ r ∧ r ≤ 3652058 ∧ Hid (n0 = beforeI y + r) ∧ DB wr (w.heap.size + 1) 30 y 1 1 ∧ DB wr w.heap.size 30 0 0 0 ∧ Below w.heap.size w wr) (fun _ wr => (10000 - yearIn (w.heap.size + 1) 0 wr).toNat)
  case atStart => exact ⟨1, n0, rfl, by omega, by omega, h0, h1, by show n0 = 0 + n0; omega, b0, ⟨z0⟩, hB⟩
  case round =>
    obtain ⟨y, r, rfl, hy1, hy2, hr0, hr1, hn, hd, hz, hb⟩ := hrel
    obtain ⟨c0, c1, c2, f0, f1, f2⟩ := hd.cells
    have hym := hd.year
    have hnx := Lib.hid (before_succ y hy1 hy2)
    have hlast : beforeI 10000 = 3652059 := by decide
    have hyl := year_le y
    have CL := refLeap_any y wr
    have hdec : (y < 9999 ∧ yearI y ≤ r) ∨ (y < 9999 ∧ r < yearI y) ∨ (9999 ≤ y ∧ r < yearI y) := by
      by_cases h : y = 9999
      · subst h
        have q1 := hn.out
        have q2 := hnx.out
        rw [show (9999 : Int) + 1 = 10000 by omega] at q2
        omega
      · omega
    have HY : Hid (yearI y = if leapI y then 366 else 365) := rfl
    obtain ⟨b, hbq⟩ : ∃ b, b = leapI y := ⟨_, rfl⟩
    rw [← hbq] at HY CL
    have CL := Lib.hid CL
    obtain ⟨t, ht⟩ : ∃ t, t = yearI y := ⟨_, rfl⟩
    rw [← ht] at HY hdec hyl hnx
    have HT := Lib.hid ht
    clear hlast hbq ht
    have htb : b = true ∧ t = 366 ∨ b = false ∧ t = 365 := by
      have := HY.out
      cases b with
      | true => exact .inl ⟨rfl, this⟩
      | false => exact .inr ⟨rfl, this⟩
    rcases htb with ⟨rfl, rfl⟩ | ⟨rfl, rfl⟩
    all_goals
      rcases hdec with ⟨k1, k2⟩ | ⟨k1, k2⟩ | ⟨k1, k2⟩
      · go_wp2_with fail
        refine (CL.out).mono ?_
        rintro e w3 ⟨rfl, rfl⟩
        go_wp2_with fail
        go_roundw
        case rel =>
          have q1 := hn.out
          have q2 := hnx.out
          refine ⟨y + 1, _, rfl, by omega, by omega, by omega, by omega, ?_, hd.set0 _, hz.other (by omega) _, hb.setCell (p := ⟨w.heap.size + 1, 0, none⟩) (by simp) _⟩
          show n0 = beforeI (y + 1) + _
          omega
        case measure => rw [(hd.set0 (y + 1)).year, hym]; omega
      all_goals
        have HR := Lib.hid k2
        have hr2 : r ≤ 366 := by omega
        go_wp2_with (go_at_call 11; refine (CL.out).mono ?_; rintro e w3 ⟨rfl, rfl⟩)
        go_loopw [0] (fun v wr2 => ∃ (k : Nat) (r2 : Int), k ≤ 11 ∧ v = .int .i64 r2 ∧ 0 ≤ r2 ∧ r2 ≤ 366 ∧ Hid (cumI y k + r2 < yearI y) ∧ Hid (r = cumI y k + r2) ∧ DB wr2 (w.heap.size + 1) 30 y ((k : Int) + 1) 1 ∧ DB wr2 w.heap.size 30 0 0 0 ∧ Below w.heap.size w wr2) (fun _ wr2 => (13 - yearIn (w.heap.size + 1) 1 wr2).toNat)
        case atStart =>
          have q1 := HR.out
          have q2 := HT.out
          exact ⟨0, r, by omega, rfl, hr0, hr2, by show 0 + r < yearI y; omega, by show r = 0 + r; omega, hd, hz, hb⟩
        case round =>
          obtain ⟨k, r2, hk, rfl, hr0, hr366, hrt, hrk, hd2, hz2, hb2⟩ := hrel
          obtain ⟨d0, d1, d2, g0, g1, g2⟩ := hd2.cells
          obtain ⟨x0, x1, x2, m0, m1, m2⟩ := hz2.cells
          have hym2 := hd2.month
          have CD := fun W => refDays_any y ((k : Int) + 1) W
          obtain ⟨z, hz⟩ : ∃ z, z = daysI y ((k : Int) + 1) := ⟨_, rfl⟩
          have hdl := days_le y ((k : Int) + 1)
          rw [← hz] at CD hdl
          have CD := Lib.hid CD
          have HZ := Lib.hid hz
          clear hz c0 c1 c2 f0 f1 f2 hd hym
          have h12 : z ≤ r2 ∧ (k : Int) + 1 < 12 ∨ ((k : Int) + 1 < 12 ∧ r2 < z) ∨ (12 ≤ (k : Int) + 1 ∧ r2 < z) := by
            by_cases h : z ≤ r2
            · have := month_step hy1 hy2 hk hrt.out (by rw [← HZ.out]; exact h)
              omega
            · omega
          rcases h12 with ⟨hrz, hk2⟩ | ⟨hk2, hrz⟩ | ⟨hk2, hrz⟩
          · go_wp2_with (refine (CD.out _).mono ?_; rintro e w4 ⟨rfl, rfl⟩)
            go_roundw
            case rel =>
              have hcs : cumI y (k + 1) = cumI y k + z := by rw [HZ.out]; rfl
              have q1 := hrt.out
              have q2 := hrk.out
              exact ⟨k + 1, r2 - z, by omega, rfl, by omega, by omega, by show cumI y (k + 1) + (r2 - z) < yearI y; omega, by show r = cumI y (k + 1) + (r2 - z); omega, hd2.set1 _, hz2.other (by omega) _, hb2.setCell (p := ⟨w.heap.size + 1, 1, none⟩) (by simp) _⟩
            case measure => rw [(hd2.set1 _).month, hym2]; omega
          all_goals
            have hat : IsAt n0 y ((k : Int) + 1) (1 + r2) := by
              have e : (1 : Int) + r2 = r2 + 1 := by omega
              rw [e]
              refine isAt_of hy1 hy2 hk ?_ hr0 (by rw [← HZ.out]; omega)
              have q1 := hn.out
              have q2 := hrk.out
              omega
            have HAT := Lib.hid hat
            clear hat
            go_wp2_with (refine (CD.out _).mono ?_; rintro e w4 ⟨rfl, rfl⟩)
            have hd3 := hd2.set2 (1 + r2)
            have hz3 := hz2.other (p' := w.heap.size + 1) (i := 2) (by omega) (.int .i64 (1 + r2))
            refine bodyPost_ret (results_cell_row rfl _ _ w.heap.size 30 _ (0, 0) _ rfl (set_three hz3.h _ _ _) Try.underlying30 rfl (by kernel_rfl)) rfl ?_
            exact ⟨⟨_, _, _, HAT.out, rfl⟩, below_three (hb2.setCell (p := ⟨w.heap.size + 1, 2, none⟩) (by simp) _) (Nat.le_refl _) _ _ _⟩
theorem refText_ok (n : Int) (h0 : 0 ≤ n) (h1 : n ≤ 3652058) (w : World) : Calls Try.prog 36 #[.int .i64 n] w fun e w' => (∃ y m d, IsAt n y m d ∧ e = .returned (.tuple #[.string (S (textL y m d)), .int .i64 0])) ∧ Below w.heap.size w w' := by
  have CA := at_any n h0 h1 w
  go_enter Try.func36, Try.ntmps36
  go_wp2_with fail
  refine CA.mono ?_
  rintro e w1 ⟨⟨y, m, d, hat, rfl⟩, hb1⟩
  have HAT := Lib.hid hat
  have hday := hat.1
  obtain ⟨a1, a2, a3, a4⟩ := hday.at
  have a5 := hday.le
  have a6 := hday.1
  have CT := print_any y m d (by omega) (by omega) (by omega) (by omega) (by omega) (by omega) w1
  clear hat hday
  go_wp2_with fail
  refine CT.mono ?_
  rintro e w2 ⟨rfl, hb2⟩
  go_wp2_with fail
  go_ret2
  exact ⟨⟨_, _, _, HAT.out, rfl⟩, bnext hb1 hb2⟩
theorem refText_no (n0 : Int) (h : n0 < 0 ∨ 3652058 < n0) (w : World) : Calls Try.prog 36 #[.int .i64 n0] w fun e w' => e = .returned (.tuple #[.string ⟨#[]⟩, .int .i64 5]) ∧ w = w' := by
  go_enter Try.func36, Try.ntmps36
  rcases h with h | h
  all_goals
    go_wp2
    go_ret2
    exact ⟨rfl, rfl⟩
end Go.Proofs.Ytdekjlkpinallaa
