/- Text: the date of a number, of the program and of its reference. -/
import Derived.Test.YtdekjlkpinallaaDate7
namespace Go.Proofs.Ytdekjlkpinallaa
set_option linter.unusedVariables false
open Go.RowKit Go.Maps
/-- The date of a number. -/
def IsAt (n : Int) (y m d : Int) : Prop := IsDay y m d ∧ aheadI y m d = n
theorem IsAt.uniq {n y m d y' m' d' : Int} (h : IsAt n y m d) (h' : IsAt n y' m' d') : y = y' ∧ m = m' ∧ d = d' := ahead_inj h.1 h'.1 (h.2.trans h'.2.symm)
/-- The year, the month and the rest make the date. -/
theorem isAt_of {n y r : Int} {k : Nat} (y1 : 1 ≤ y) (y2 : y ≤ 9999) (hk : k ≤ 11) (h : n = beforeI y + (cumI y k + r)) (r0 : 0 ≤ r) (r1 : r < daysI y ((k : Int) + 1)) : IsAt n y ((k : Int) + 1) (r + 1) :=
  ⟨⟨by omega, by omega⟩, by unfold aheadI; rw [show ((k : Int) + 1 - 1).toNat = k by omega]; omega⟩
theorem before_range {y : Int} (h1 : 1 ≤ y) (h2 : y ≤ 10000) : 0 ≤ beforeI y ∧ beforeI y ≤ 3652059 := by
  have q1 := before_mono (y := 1) (z := y) (by omega) h1 (by omega)
  have q2 := before_mono (y := y) (z := 10000) (by omega) h2 (by omega)
  have e1 : beforeI 1 = 0 := by decide
  have e2 : beforeI 10000 = 3652059 := by decide
  omega
theorem before_guess (n : Int) (h0 : 0 ≤ n) (h1 : n ≤ 3652058) : beforeI (n / 366 + 1) ≤ n := by unfold beforeI; omega
/-- A month's days, and what is left of the year behind it. -/
theorem month_step {y : Int} {k : Nat} {r : Int} (y1 : 1 ≤ y) (y2 : y ≤ 9999) (hk : k ≤ 11) (ht : cumI y k + r < yearI y) (hr : daysI y ((k : Int) + 1) ≤ r) : k + 1 ≤ 11 := by
  have e := cum_all y y1 y2
  by_cases h : k = 11
  · subst h
    rw [show cumI y 12 = cumI y 11 + daysI y (((11 : Nat) : Int) + 1) from rfl] at e
    omega
  · omega
/-- A date in a variable. -/
structure DB (W : World) (p : Nat) (t : TypeId) (y m d : Int) : Prop where
  h : W.heap[p]? = some (.cells #[.int .i64 y, .int .i64 m, .int .i64 d] t (0, 0))
theorem DB.cells {W : World} {p : Nat} {t : TypeId} {y m d : Int} (b : DB W p t y m d) : W.cell? ⟨p, 0, none⟩ = some (.int .i64 y) ∧ W.cell? ⟨p, 1, none⟩ = some (.int .i64 m) ∧ W.cell? ⟨p, 2, none⟩ = some (.int .i64 d) ∧
    W.frozen? ⟨p, 0, none⟩ = false ∧ W.frozen? ⟨p, 1, none⟩ = false ∧ W.frozen? ⟨p, 2, none⟩ = false := by
  refine ⟨?_, ?_, ?_, ?_, ?_, ?_⟩
  · rw [cell_of_row _ _ _ _ _ _ b.h]; rfl
  · rw [cell_of_row _ _ _ _ _ _ b.h]; rfl
  · rw [cell_of_row _ _ _ _ _ _ b.h]; rfl
  all_goals (unfold World.frozen?; dsimp only; rw [b.h]; simp)
theorem DB.new (w : World) (t : TypeId) (y m d : Int) : DB (w.alloc (.cells #[.int .i64 y, .int .i64 m, .int .i64 d] t)) w.heap.size t y m d := ⟨World.alloc_heap_new w _⟩
theorem DB.below {W W' : World} {p B : Nat} {t : TypeId} {y m d : Int} (b : DB W p t y m d) (h : Below B W W') (hp : p < B) : DB W' p t y m d := ⟨(h.block p hp).trans b.h⟩
theorem DB.lt {W : World} {p : Nat} {t : TypeId} {y m d : Int} (b : DB W p t y m d) : p < W.heap.size := (Array.getElem?_eq_some_iff.1 b.h).1
theorem DB.set0 {W : World} {p : Nat} {t : TypeId} {y m d : Int} (b : DB W p t y m d) (y' : Int) : DB (W.setCell ⟨p, 0, none⟩ (.int .i64 y')) p t y' m d := ⟨by simp [World.setCell, Array.getElem?_modify, b.h]⟩
theorem DB.set1 {W : World} {p : Nat} {t : TypeId} {y m d : Int} (b : DB W p t y m d) (y' : Int) : DB (W.setCell ⟨p, 1, none⟩ (.int .i64 y')) p t y y' d := ⟨by simp [World.setCell, Array.getElem?_modify, b.h]⟩
theorem DB.set2 {W : World} {p : Nat} {t : TypeId} {y m d : Int} (b : DB W p t y m d) (y' : Int) : DB (W.setCell ⟨p, 2, none⟩ (.int .i64 y')) p t y m y' := ⟨by simp [World.setCell, Array.getElem?_modify, b.h]⟩
def yearIn (p i : Nat) (W : World) : Int := match W.cell? ⟨p, i, none⟩ with | some v => intOf v | none => 0
theorem DB.year {W : World} {p : Nat} {t : TypeId} {y m d : Int} (b : DB W p t y m d) : yearIn p 0 W = y := by unfold yearIn; rw [b.cells.1]; rfl
theorem DB.month {W : World} {p : Nat} {t : TypeId} {y m d : Int} (b : DB W p t y m d) : yearIn p 1 W = m := by unfold yearIn; rw [b.cells.2.1]; rfl
set_option maxRecDepth 100000 in
set_option maxHeartbeats 4000000 in
theorem text20_ok (n0 : Int) (h0 : 0 ≤ n0) (h1 : n0 ≤ 3652058) (w : World) : Calls Try.prog 35 #[.int .i64 n0] w fun e w' => (∃ y m d, IsAt n0 y m d ∧ e = .returned (.tuple #[.string (S (textL y m d)), .int .i64 0])) ∧ Below w.heap.size w w' := by
  have t1 : n0.tdiv 366 = n0 / 366 := Int.tdiv_eq_ediv_of_nonneg (by omega)
  have hg := before_guess n0 h0 h1
  obtain ⟨g, hgg⟩ : ∃ g : Nat, n0 / 366 = (g : Int) := ⟨(n0 / 366).toNat, by omega⟩
  have hg2 : g ≤ 9978 := by omega
  rw [hgg] at hg t1
  clear hgg
  have b0 := DB.new w 61 ((g : Int) + 1) 1 1
  have hB : Below w.heap.size w (w.alloc (.cells #[.int .i64 ((g : Int) + 1), .int .i64 1, .int .i64 1] 61)) := (Below.refl _ _).alloc (Nat.le_refl _) _
  generalize hW : w.alloc (.cells #[.int .i64 ((g : Int) + 1), .int .i64 1, .int .i64 1] 61) = W1 at b0 hB
  have HG := Lib.hid hg
  clear hg
  go_enter Try.func35, Try.ntmps35
  go_wp2_with fail
  go_loopw [16] (fun _ wr => ∃ y : Int, 1 ≤ y ∧ y ≤ 9999 ∧ Hid (beforeI y ≤ n0) ∧ DB wr w.heap.size 61 y 1 1 ∧ Below w.heap.size w wr) (fun _ wr => (10000 - yearIn w.heap.size 0 wr).toNat)
  case atStart => exact ⟨(g : Int) + 1, by omega, by omega, HG, b0, hB⟩
  case round =>
    obtain ⟨y, hy1, hy2, hyb, hd, hb⟩ := hrel
    obtain ⟨c0, c1, c2, f0, f1, f2⟩ := hd.cells
    have hym := hd.year
    have hbs := before_succ y hy1 hy2
    have hlast : beforeI 10000 = 3652059 := by decide
    have hdec : (y < 9999 ∧ beforeI (y + 1) ≤ n0) ∨ n0 < beforeI (y + 1) := by
      by_cases h : y = 9999
      · subst h
        refine .inr ?_
        rw [show (9999 : Int) + 1 = 10000 by omega]
        omega
      · by_cases h' : beforeI (y + 1) ≤ n0
        · exact .inl ⟨by omega, h'⟩
        · exact .inr (by omega)
    have hrg := before_range (y := y + 1) (by omega) (by omega)
    have hrg0 := before_range (y := y) (by omega) (by omega)
    have HBS := Lib.hid hbs
    have HYB := hyb
    clear hbs hlast hyb
    rcases hdec with ⟨hlt, hle⟩ | hgt
    · go_wp2_with (go_at_call 47; refine (before_any _ (by omega) (by omega) _).mono ?_; rintro e w3 ⟨rfl, rfl⟩)
      go_roundw
      case rel => exact ⟨y + 1, by omega, by omega, hle, hd.set0 _, hb.setCell (p := ⟨w.heap.size, 0, none⟩) (Nat.le_refl _) _⟩
      case measure => rw [(hd.set0 (y + 1)).year, hym]; omega
    · have hr0 : 0 ≤ n0 - beforeI y := by have := HYB.out; omega
      have hr1 : n0 - beforeI y < yearI y := by have := HBS.out; omega
      have hn0 : n0 = beforeI y + (n0 - beforeI y) := by omega
      have HN0 := Lib.hid hn0
      obtain ⟨r0, hr⟩ : ∃ r, r = n0 - beforeI y := ⟨_, rfl⟩
      have hr366 : yearI y ≤ 366 := by unfold yearI; split <;> omega
      rw [← hr] at hr0 hr1 HN0
      have HR0 := Lib.hid (And.intro hr0 hr1)
      have HR := Lib.hid hr
      have hq : n0 < 9223372036854775807 := by omega
      clear hn0 hr1 hr0 hr hr366
      have hy9 : y < 9999 ∨ 9999 ≤ y := by omega
      rcases hy9 with hy9 | hy9
      all_goals
        go_wp2_with (go_at_call 47; refine (before_any _ (by omega) (by omega) _).mono ?_; rintro e w3 ⟨rfl, rfl⟩)
        go_loopw [0] (fun v wr2 => ∃ (k : Nat) (r : Int), k ≤ 11 ∧ v = .int .i64 r ∧ 0 ≤ r ∧ r ≤ 366 ∧ Hid (cumI y k + r < yearI y) ∧ Hid (r0 = cumI y k + r) ∧ DB wr2 w.heap.size 61 y ((k : Int) + 1) 1 ∧ Below w.heap.size w wr2) (fun _ wr2 => (13 - yearIn w.heap.size 1 wr2).toNat)
        case atStart =>
          have hr366 : yearI y ≤ 366 := by unfold yearI; split <;> omega
          obtain ⟨q1, q2⟩ := HR0.out
          exact ⟨0, r0, by omega, by rw [HR.out], q1, by omega, by show 0 + r0 < yearI y; omega, by show r0 = 0 + r0; omega, hd, hb⟩
        case round =>
          obtain ⟨k, r, hk, rfl, hr0, hr366, hrt, hrk, hd2, hb2⟩ := hrel
          obtain ⟨d0, d1, d2, g0, g1, g2⟩ := hd2.cells
          have hym2 := hd2.month
          have CD := fun W => days_any y ((k : Int) + 1) W
          obtain ⟨z, hz⟩ : ∃ z, z = daysI y ((k : Int) + 1) := ⟨_, rfl⟩
          have hdl := days_le y ((k : Int) + 1)
          rw [← hz] at CD hdl
          have CD := Lib.hid CD
          have HZ := Lib.hid hz
          clear hz c0 c1 c2 f0 f1 f2 hd hym
          by_cases hrz : z ≤ r
          · have hk2 : k + 1 ≤ 11 := month_step hy1 hy2 hk hrt.out (by rw [← HZ.out]; exact hrz)
            go_wp2_with fail
            refine (CD.out _).mono ?_
            rintro e w4 ⟨rfl, hb4⟩
            have hd4 := hd2.below hb4 hd2.lt
            obtain ⟨e0, e1, e2, i0, i1, i2⟩ := hd4.cells
            clear d0 d1 d2 g0 g1 g2
            go_wp2_with fail
            refine (CD.out _).mono ?_
            rintro e w5 ⟨rfl, hb5⟩
            have hd5 := hd4.below hb5 hd4.lt
            obtain ⟨j0, j1, j2, l0, l1, l2⟩ := hd5.cells
            have hB5 := bto (bto hb2 hb4 hb2.size) hb5 (bto hb2 hb4 hb2.size).size
            clear e0 e1 e2 i0 i1 i2 hb4 hb5 hd4
            go_wp2_with fail
            go_roundw
            case rel =>
              have hcs : cumI y (k + 1) = cumI y k + z := by rw [HZ.out]; rfl
              have q1 := hrt.out
              have q2 := hrk.out
              exact ⟨k + 1, r - z, hk2, rfl, by omega, by omega, by show cumI y (k + 1) + (r - z) < yearI y; omega, by show r0 = cumI y (k + 1) + (r - z); omega, hd5.set1 _, hB5.setCell (p := ⟨w.heap.size, 1, none⟩) (Nat.le_refl _) _⟩
            case measure => rw [(hd5.set1 _).month, hym2]; omega
          · have hat : IsAt n0 y ((k : Int) + 1) (r + 1) := by
              refine isAt_of hy1 hy2 hk ?_ hr0 (by rw [← HZ.out]; omega)
              have q1 := HN0.out
              have q2 := hrk.out
              omega
            have HAT := Lib.hid hat
            have hday := hat.1
            obtain ⟨a1, a2, a3, a4⟩ := hday.at
            have a5 := hday.le
            have CT := Lib.hid (fun W => text_any y ((k : Int) + 1) (r + 1) (by omega) (by omega) (by omega) (by omega) (by omega) (by omega) W)
            clear hat hday
            go_wp2_with fail
            refine (CD.out _).mono ?_
            rintro e w4 ⟨rfl, hb4⟩
            have hd4 := hd2.below hb4 hd2.lt
            obtain ⟨e0, e1, e2, i0, i1, i2⟩ := hd4.cells
            have hB4 := bto hb2 hb4 hb2.size
            clear d0 d1 d2 g0 g1 g2 CD
            go_wp2_with fail
            refine (CT.out _).mono ?_
            rintro e w5 ⟨rfl, hb5⟩
            have hB5 := hB4.setCell (p := ⟨w.heap.size, 2, none⟩) (Nat.le_refl _) (.int .i64 (r + 1))
            go_wp2_with fail
            go_ret2
            exact ⟨⟨_, _, _, HAT.out, rfl⟩, bto hB5 hb5 hB5.size⟩
theorem text20_no (n0 : Int) (h : n0 < 0 ∨ 3652058 < n0) (w : World) : Calls Try.prog 35 #[.int .i64 n0] w fun e w' => e = .returned (.tuple #[.string ⟨#[]⟩, .int .i64 5]) ∧ w = w' := by
  go_enter Try.func35, Try.ntmps35
  rcases h with h | h
  all_goals
    go_wp2
    go_ret2
    exact ⟨rfl, rfl⟩
end Go.Proofs.Ytdekjlkpinallaa
