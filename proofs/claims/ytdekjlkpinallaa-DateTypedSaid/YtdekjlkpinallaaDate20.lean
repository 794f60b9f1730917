/- The law DateTyped. -/
import Derived.Test.YtdekjlkpinallaaDate18
namespace Go.Proofs.Ytdekjlkpinallaa
open Go.RowKit Go.Maps
/-- How many digits a date's text has ahead of place k. -/
def digAt (k : Nat) : Nat := if k ≤ 4 then k else if k ≤ 7 then k - 1 else k - 2
theorem digAt_succ (k : Nat) (hk : k < 10) (h4 : k ≠ 4) (h7 : k ≠ 7) : digAt (k + 1) = digAt k + 1 ∧ digAt k + 1 ≤ 8 := by
  have : k = 0 ∨ k = 1 ∨ k = 2 ∨ k = 3 ∨ k = 5 ∨ k = 6 ∨ k = 8 ∨ k = 9 := by omega
  rcases this with rfl | rfl | rfl | rfl | rfl | rfl | rfl | rfl <;> decide
theorem plain_at (y m d : Int) (k : Nat) (hk : k < 10) (h4 : k ≠ 4) (h7 : k ≠ 7) : (plainL y m d).take (digAt k) ++ [nth 0 (textL y m d) k] = (plainL y m d).take (digAt k + 1) := by
  obtain ⟨a, ha⟩ : ∃ a, dig 4 y.toNat = a := ⟨_, rfl⟩
  obtain ⟨b, hb⟩ : ∃ a, dig 2 m.toNat = a := ⟨_, rfl⟩
  obtain ⟨c, hc⟩ : ∃ a, dig 2 d.toNat = a := ⟨_, rfl⟩
  have la : a.length = 4 := by rw [← ha, dig_len]
  have lb : b.length = 2 := by rw [← hb, dig_len]
  have lc : c.length = 2 := by rw [← hc, dig_len]
  unfold plainL textL
  rw [ha, hb, hc]
  match a, la with
  | [a0, a1, a2, a3], _ =>
    match b, lb with
    | [b0, b1], _ =>
      match c, lc with
      | [c0, c1], _ =>
        have : k = 0 ∨ k = 1 ∨ k = 2 ∨ k = 3 ∨ k = 5 ∨ k = 6 ∨ k = 8 ∨ k = 9 := by omega
        rcases this with rfl | rfl | rfl | rfl | rfl | rfl | rfl | rfl <;> rfl
theorem text_dig (y m d : Int) (k : Nat) (hk : k < 10) (h4 : k ≠ 4) (h7 : k ≠ 7) : (nth 0 (textL y m d) k).toNat ≠ 45 := by
  intro e
  have h := plain_at y m d k hk h4 h7
  have hd := digs_take (plain_digs y m d) (digAt k + 1)
  rw [← h, digs_snoc, Bool.and_eq_true] at hd
  have := of_decide_eq_true hd.2
  omega
set_option maxRecDepth 100000 in
set_option maxHeartbeats 4000000 in
theorem dateTyped_law (s : ByteArray) (w : World) (_ : s.size ≤ maxLen) :
    Calls Try.prog 5 #[.string s] w fun e w' => e = .returned (.bool true) ∧ Below w.heap.size w w' := by
  go_enter Try.func5, Try.ntmps5
  go_wp2_with fail
  refine (cut_any s w).mono ?_
  rintro e w' ⟨⟨l, hl, rfl⟩, rfl⟩
  have V := fun W => valid_any l W
  cases h : readB l with
  | false =>
    rw [h] at V
    have C := fun W => check20_any l (by omega) W
    rw [(numV_no h).2] at C
    have V := Lib.hid V
    have C := Lib.hid C
    clear h
    go_wp2_with (first
      | (go_at_call 25; refine (V.out _).mono ?_; rintro e w1 ⟨rfl, hb1⟩)
      | (go_at_call 26; refine (C.out _).mono ?_; rintro e w2 ⟨rfl, hb2⟩)
      | (go_at_call 13; refine (awake20_any _).mono ?_; rintro e w3 ⟨rfl, hb3⟩))
    go_ret
    exact ⟨rfl, bnext (bnext hb1 hb2) hb3⟩
  | true =>
    rw [h] at V
    have V := Lib.hid V
    have hday := readB_day h
    have htx := readB_text h
    obtain ⟨y, hy⟩ : ∃ y : Int, y = yOf l := ⟨_, rfl⟩
    obtain ⟨m, hm⟩ : ∃ y : Int, y = mOf l := ⟨_, rfl⟩
    obtain ⟨d, hd⟩ : ∃ y : Int, y = dOf l := ⟨_, rfl⟩
    rw [← hy, ← hm, ← hd] at hday htx
    clear hy hm hd h
    have hl10 : l.length = 10 := by rw [htx, text_len]
    have hsz := S_size l
    have hget := S_get l
    have h44 : nth 0 l 4 = 45 := by rw [htx]; exact (text_at y m d).2.2.2.1
    have h47 : nth 0 l 7 = 45 := by rw [htx]; exact (text_at y m d).2.2.2.2
    obtain ⟨P, hP⟩ : ∃ P, P = plainL y m d := ⟨_, rfl⟩
    have hPl : P.length = 8 := by rw [hP, plain_len]
    have hstep : ∀ k, k < 10 → k ≠ 4 → k ≠ 7 → P.take (digAt k) ++ [nth 0 l k] = P.take (digAt k + 1) := by rw [hP, htx]; exact plain_at y m d
    have hdig : ∀ k, k < 10 → k ≠ 4 → k ≠ 7 → (nth 0 l k).toNat ≠ 45 := by rw [htx]; exact text_dig y m d
    have hbeg : ∀ k, k ≤ 8 → beginsB (P.take k) = true := by rw [hP]; exact hday.begins
    have hdash : dashL P = l := by rw [hP, dash_plain, htx]
    have HSTEP := Lib.hid hstep
    have HDIG := Lib.hid hdig
    have HBEG := Lib.hid hbeg
    have HDASH := Lib.hid hdash
    clear hstep hdig hbeg hdash hP hday htx
    rw [hl10] at hsz
    go_wp2_with (go_at_call 25; refine (V.out _).mono ?_; rintro e w1 ⟨rfl, hb1⟩)
    go_loopw [3, 4] (fun r i wr => ∃ k : Nat, k ≤ 10 ∧ r = .string (S (P.take (digAt k))) ∧ i = .int .i64 k ∧ Below w.heap.size w wr) (fun _ i _ => 10 - (intOf i).toNat)
    case atStart => exact ⟨0, by omega, rfl, rfl, hb1⟩
    case round =>
      obtain ⟨k, hk, rfl, rfl, hb⟩ := hrel
      by_cases hlt : k < 10
      · by_cases h45 : k = 4 ∨ k = 7
        · have e45 : (((nth 0 l k).toNat : Int) == 45) = true := by rcases h45 with rfl | rfl <;> simp [h44, h47]
          have hda : digAt (k + 1) = digAt k := by rcases h45 with rfl | rfl <;> rfl
          have HDA := Lib.hid hda
          clear hda h45
          go_wp2
          go_roundw
          case rel => exact ⟨k + 1, by omega, by rw [HDA.out], by go_num, hb⟩
          case measure => simp [intOf]; omega
        · have hne := HDIG.out k hlt (by omega) (by omega)
          have e45 : (((nth 0 l k).toNat : Int) == 45) = false := by simp; omega
          have hda := (digAt_succ k hlt (by omega) (by omega)).1
          have h8 := (digAt_succ k hlt (by omega) (by omega)).2
          have CP := fun W => push_any (P.take (digAt k)) (nth 0 l k) (by simp; omega) W
          have hpl : pushL (P.take (digAt k)) (nth 0 l k) = P.take (digAt k + 1) := by
            unfold pushL
            rw [HSTEP.out k hlt (by omega) (by omega), HBEG.out _ h8]
            rfl
          rw [hpl, HSTEP.out k hlt (by omega) (by omega), HBEG.out _ h8] at CP
          have CB := fun W => begins20_any (P.take (digAt k + 1)) (by simp; omega) W
          rw [HBEG.out _ h8] at CB
          have z1 : (S (P.take (digAt k))).size = digAt k := by rw [S_size]; simp; omega
          have z2 : (S (P.take (digAt k + 1))).size = digAt k + 1 := by rw [S_size]; simp; omega
          have CP := Lib.hid CP
          have CB := Lib.hid CB
          have HDA := Lib.hid hda
          have hdk : (digAt k : Int) ≤ 8 := by omega
          clear hne h45 hpl hda
          obtain ⟨q, hq⟩ : ∃ q, q = digAt k := ⟨_, rfl⟩
          rw [← hq] at CP CB z1 z2 HDA hdk ⊢
          clear hq h8
          go_wp2_with (first
            | (go_at_call 17; refine (CP.out _).mono ?_; rintro e w2 ⟨rfl, hb2⟩)
            | (go_at_call 21; refine (CB.out _).mono ?_; rintro e w3 ⟨rfl, hb3⟩))
          go_roundw
          case rel => exact ⟨k + 1, by omega, by rw [HDA.out], by go_num, bto (bto hb hb2 hb.size) hb3 (bto hb hb2 hb.size).size⟩
          case measure => simp [intOf]; omega
      · obtain rfl : k = 10 := by omega
        have hP8 : P.take (digAt 10) = P := List.take_of_length_le (by rw [hPl]; decide)
        rw [hP8]
        have hbP : beginsB P = true := by have := HBEG.out 8 (by omega); rwa [List.take_of_length_le (by omega)] at this
        have CO := fun W => of_any P (by omega) W
        have hok : okOf P = true := by unfold okOf; rw [hPl, hbP]; rfl
        have hof : ofL P = l := by unfold ofL; rw [hok]; exact HDASH.out
        rw [hof, hok] at CO
        have CU := fun W => push_any P 48 (by omega) W
        have hno : beginsB (P ++ [48]) = false := begins_far _ (by simp; omega)
        have hpu : pushL P 48 = P := by unfold pushL; rw [hno]; rfl
        rw [hpu, hno] at CU
        have CS := fun W => shown20_any P (by omega) W
        have hsh : shownV P = l := by
          unfold shownV shownL
          rw [hbP, hPl]
          show dashL (P ++ []) = l
          rw [List.append_nil]
          exact HDASH.out
        rw [hsh] at CS
        have CO := Lib.hid CO
        have CU := Lib.hid CU
        have CS := Lib.hid CS
        clear hof hok hno hpu hsh hbP hP8
        change Hid (∀ W : World, Calls Try.prog 17 #[.string (S P), .int .u8 48] W fun e w' => e = .returned (.tuple #[.string (S P), .bool false]) ∧ Below W.heap.size W w') at CU
        go_wp2_with (first
          | (go_at_call 19; refine (CO.out _).mono ?_; rintro e w2 ⟨rfl, hb2⟩)
          | (go_at_call 17; refine (CU.out _).mono ?_; rintro e w3 ⟨rfl, hb3⟩)
          | (go_at_call 23; refine (CS.out _).mono ?_; rintro e w4 ⟨rfl, hb4⟩)
          | (go_at_call 13; refine (awake20_any _).mono ?_; rintro e w5 ⟨rfl, hb5⟩))
        go_ret
        exact ⟨rfl, bnext (bnext (bnext (bnext hb hb2) hb3) hb4) hb5⟩
end Go.Proofs.Ytdekjlkpinallaa
