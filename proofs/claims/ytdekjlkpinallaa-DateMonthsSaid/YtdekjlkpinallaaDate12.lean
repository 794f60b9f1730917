/- Push, Of, Add, of the program and of its reference. -/
import Derived.Test.YtdekjlkpinallaaDate11
namespace Go.Proofs.Ytdekjlkpinallaa
set_option linter.unusedVariables false
open Go.RowKit Go.Maps
def pushL (l : List UInt8) (b : UInt8) : List UInt8 := if beginsB (l ++ [b]) then l ++ [b] else l
def okOf (l : List UInt8) : Bool := decide (l.length = 8) && beginsB l
def ofL (l : List UInt8) : List UInt8 := if okOf l then dashL l else []
def shownV (l : List UInt8) : List UInt8 := if beginsB l then shownL l else []
theorem S_nil : S [] = ⟨#[]⟩ := rfl
set_option maxRecDepth 100000 in
theorem push_any (l : List UInt8) (b : UInt8) (hl : l.length ≤ 900) (w : World) : Calls Try.prog 17 #[.string (S l), .int .u8 b.toNat] w fun e w' => e = .returned (.tuple #[.string (S (pushL l b)), .bool (beginsB (l ++ [b]))]) ∧ Below w.heap.size w w' := by
  have hcv := conv_one w b b.toNat rfl
  have hs1 : (S l).size ≤ 900 := by rw [S_size]; exact hl
  have hs2 : (S [b]).size = 1 := by rw [S_size]; rfl
  have ha : S l ++ S [b] = S (l ++ [b]) := S_append l [b]
  have C := fun W => begins20_any (l ++ [b]) (by simp; omega) W
  have hp : pushL l b = if beginsB (l ++ [b]) then l ++ [b] else l := rfl
  have hB : Below w.heap.size w (w.alloc (.cells #[.int .u8 b.toNat] 5)) := (Below.refl _ _).alloc (Nat.le_refl _) _
  obtain ⟨r, hr⟩ : ∃ r, r = beginsB (l ++ [b]) := ⟨_, rfl⟩
  rw [← hr] at C hp ⊢
  clear hr
  have C := Lib.hid C
  cases r with
  | false =>
    rw [hp]
    clear hp
    go_enter Try.func17, Try.ntmps17
    go_wp2_with (go_at_call 21; refine (C.out _).mono ?_; rintro e w2 ⟨rfl, hb2⟩)
    go_ret2
    exact ⟨rfl, bto hB hb2 hB.size⟩
  | true =>
    rw [hp]
    clear hp
    go_enter Try.func17, Try.ntmps17
    go_wp2_with (go_at_call 21; refine (C.out _).mono ?_; rintro e w2 ⟨rfl, hb2⟩)
    go_ret2
    exact ⟨rfl, bto hB hb2 hB.size⟩
set_option maxRecDepth 100000 in
theorem refPush_any (l : List UInt8) (b : UInt8) (hl : l.length ≤ 900) (w : World) : Calls Try.prog 18 #[.string (S l), .int .u8 b.toNat] w fun e w' => e = .returned (.tuple #[.string (S (pushL l b)), .bool (beginsB (l ++ [b]))]) ∧ Below w.heap.size w w' := by
  have hcv := conv_one w b b.toNat rfl
  have hs1 : (S l).size ≤ 900 := by rw [S_size]; exact hl
  have hs2 : (S [b]).size = 1 := by rw [S_size]; rfl
  have ha : S l ++ S [b] = S (l ++ [b]) := S_append l [b]
  have C := fun W => refBegins_any (l ++ [b]) W
  have hp : pushL l b = if beginsB (l ++ [b]) then l ++ [b] else l := rfl
  have hB : Below w.heap.size w (w.alloc (.cells #[.int .u8 b.toNat] 5)) := (Below.refl _ _).alloc (Nat.le_refl _) _
  obtain ⟨r, hr⟩ : ∃ r, r = beginsB (l ++ [b]) := ⟨_, rfl⟩
  rw [← hr] at C hp ⊢
  clear hr
  have C := Lib.hid C
  cases r with
  | false =>
    rw [hp]
    clear hp
    go_enter Try.func18, Try.ntmps18
    go_wp2_with (go_at_call 22; refine (C.out _).mono ?_; rintro e w2 ⟨rfl, hb2⟩)
    go_ret2
    exact ⟨rfl, bto hB hb2 hB.size⟩
  | true =>
    rw [hp]
    clear hp
    go_enter Try.func18, Try.ntmps18
    go_wp2_with (go_at_call 22; refine (C.out _).mono ?_; rintro e w2 ⟨rfl, hb2⟩)
    go_ret2
    exact ⟨rfl, bto hB hb2 hB.size⟩
set_option maxRecDepth 100000 in
set_option maxHeartbeats 1000000 in
theorem of_any (l : List UInt8) (hl : l.length ≤ 1000) (w : World) : Calls Try.prog 19 #[.string (S l)] w fun e w' => e = .returned (.tuple #[.string (S (ofL l)), .bool (okOf l)]) ∧ Below w.heap.size w w' := by
  have hsz := S_size l
  have hp : ofL l = if okOf l then dashL l else [] := rfl
  by_cases h8 : l.length = 8
  · have hk : okOf l = beginsB l := by unfold okOf; rw [decide_eq_true h8]; rfl
    have C := Lib.hid (fun W => begins20_any l hl W)
    rw [hk] at hp ⊢
    obtain ⟨r, hr⟩ : ∃ r, r = beginsB l := ⟨_, rfl⟩
    rw [← hr] at C hp ⊢
    rw [h8] at hsz
    clear hr hk
    cases r with
    | false =>
      rw [hp]
      go_enter Try.func19, Try.ntmps19
      go_wp2_with (go_at_call 21; refine (C.out _).mono ?_; rintro e w2 ⟨rfl, hb2⟩)
      go_ret2
      exact ⟨rfl, hb2⟩
    | true =>
      rw [hp]
      have e1 : (S l).extract 0 4 = S (l.take 4) := by rw [S_extract]; rfl
      have e2 : (S l).extract 4 6 = S ((l.drop 4).take 2) := by rw [S_extract]
      have e3 : (S l).extract 6 8 = S (l.drop 6) := by rw [S_extract, List.take_of_length_le (by simp; omega)]
      have s1 : (S (l.take 4)).size = 4 := by rw [S_size]; simp; omega
      have s2 : (S ((l.drop 4).take 2)).size = 2 := by rw [S_size]; simp; omega
      have s3 : (S (l.drop 6)).size = 2 := by rw [S_size]; simp; omega
      clear hp
      go_enter Try.func19, Try.ntmps19
      go_wp2_with (first
        | (go_at_call 21; refine (C.out _).mono ?_; rintro e w2 ⟨rfl, hb2⟩)
        | (go_at_call 40; refine (dashed_any l (by omega) hl _).mono ?_; rintro e w3 ⟨rfl, hb3⟩))
      go_ret2
      exact ⟨rfl, bnext hb2 hb3⟩
  · have hk : okOf l = false := by unfold okOf; rw [decide_eq_false h8]; rfl
    rw [hk] at hp ⊢
    rw [hp]
    have hx : ((l.length : Int) != 8) = true := by simp; omega
    clear h8 hk hp
    go_enter Try.func19, Try.ntmps19
    go_wp2
    go_ret2
    exact ⟨rfl, Below.refl _ _⟩
set_option maxRecDepth 100000 in
set_option maxHeartbeats 1000000 in
theorem refOf_any (l : List UInt8) (hl : l.length ≤ 1000) (w : World) : Calls Try.prog 20 #[.string (S l)] w fun e w' => e = .returned (.tuple #[.string (S (ofL l)), .bool (okOf l)]) ∧ Below w.heap.size w w' := by
  have hsz := S_size l
  have hp : ofL l = if okOf l then dashL l else [] := rfl
  by_cases h8 : l.length = 8
  · have hk : okOf l = beginsB l := by unfold okOf; rw [decide_eq_true h8]; rfl
    have C := Lib.hid (fun W => refBegins_any l W)
    rw [hk] at hp ⊢
    obtain ⟨r, hr⟩ : ∃ r, r = beginsB l := ⟨_, rfl⟩
    rw [← hr] at C hp ⊢
    rw [h8] at hsz
    clear hr hk
    cases r with
    | false =>
      rw [hp]
      go_enter Try.func20, Try.ntmps20
      go_wp2_with (go_at_call 22; refine (C.out _).mono ?_; rintro e w2 ⟨rfl, hb2⟩)
      go_ret2
      exact ⟨rfl, hb2⟩
    | true =>
      rw [hp]
      have e1 : (S l).extract 0 4 = S (l.take 4) := by rw [S_extract]; rfl
      have e2 : (S l).extract 4 6 = S ((l.drop 4).take 2) := by rw [S_extract]
      have e3 : (S l).extract 6 8 = S (l.drop 6) := by rw [S_extract, List.take_of_length_le (by simp; omega)]
      have s1 : (S (l.take 4)).size = 4 := by rw [S_size]; simp; omega
      have s2 : (S ((l.drop 4).take 2)).size = 2 := by rw [S_size]; simp; omega
      have s3 : (S (l.drop 6)).size = 2 := by rw [S_size]; simp; omega
      clear hp
      go_enter Try.func20, Try.ntmps20
      go_wp2_with (go_at_call 22; refine (C.out _).mono ?_; rintro e w2 ⟨rfl, hb2⟩)
      go_quiet (fail)
      have hb3 : Below w.heap.size w (w2.drewN nq) := ⟨hb2.os, hb2.tape, hb2.output, hb2.size, hb2.block⟩
      go_wp2
      go_ret2
      refine ⟨?_, hb3⟩
      have e : S (l.take 4) ++ S [45] ++ S ((l.drop 4).take 2) ++ S [45] ++ S (l.drop 6) = S (dashL l) := by
        rw [S_append, S_append, S_append, S_append]
        unfold dashL
        simp only [List.append_assoc]
      first
        | (rw [← e]; rfl)
        | (rw [if_pos rfl, ← e]; rfl)
  · have hk : okOf l = false := by unfold okOf; rw [decide_eq_false h8]; rfl
    rw [hk] at hp ⊢
    rw [hp]
    have hx : ((l.length : Int) != 8) = true := by simp; omega
    clear h8 hk hp
    go_enter Try.func20, Try.ntmps20
    go_wp2
    go_ret2
    exact ⟨rfl, Below.refl _ _⟩
/-- What Add says. -/
def AddPost (l : List UInt8) (days : Int) (e : Ending) : Prop :=
  (readB l = false ∧ e = .returned (.tuple #[.string ⟨#[]⟩, .int .i64 200])) ∨
  (readB l = true ∧ (numV l + days < 0 ∨ 3652058 < numV l + days) ∧ e = .returned (.tuple #[.string ⟨#[]⟩, .int .i64 5])) ∨
  (readB l = true ∧ 0 ≤ numV l + days ∧ numV l + days ≤ 3652058 ∧ ∃ y m d, IsAt (numV l + days) y m d ∧ e = .returned (.tuple #[.string (S (textL y m d)), .int .i64 0]))
theorem AddPost.uniq {l : List UInt8} {days : Int} {e e' : Ending} (h : AddPost l days e) (h' : AddPost l days e') : e = e' := by
  rcases h with ⟨h1, rfl⟩ | ⟨h1, h2, rfl⟩ | ⟨h1, h2, h3, y, m, d, h4, rfl⟩
  · rcases h' with ⟨_, rfl⟩ | ⟨k1, _, rfl⟩ | ⟨k1, _⟩
    · rfl
    · rw [h1] at k1; cases k1
    · rw [h1] at k1; cases k1
  · rcases h' with ⟨k1, rfl⟩ | ⟨k1, _, rfl⟩ | ⟨k1, k2, k3, _⟩
    · rw [h1] at k1; cases k1
    · rfl
    · omega
  · rcases h' with ⟨k1, rfl⟩ | ⟨k1, k2, rfl⟩ | ⟨k1, k2, k3, y', m', d', k4, rfl⟩
    · rw [h1] at k1; cases k1
    · omega
    · obtain ⟨rfl, rfl, rfl⟩ := h4.uniq k4; rfl
set_option maxRecDepth 100000 in
set_option maxHeartbeats 1000000 in
theorem add20_any (l : List UInt8) (days : Int) (hl : l.length ≤ 1000) (w : World) (hd : -9223372036854775808 ≤ days ∧ days ≤ 9223372036854775807) : Calls Try.prog 27 #[.string (S l), .int .i64 days] w fun e w' => AddPost l days e ∧ Below w.heap.size w w' := by
  have C := number20_any l hl w
  have hr := numV_range l
  obtain ⟨P, hP⟩ : ∃ P : Ending → Prop, P = AddPost l days := ⟨_, rfl⟩
  rw [← hP]
  cases h : readB l with
  | false =>
    have HP : Hid (P (.returned (.tuple #[.string ⟨#[]⟩, .int .i64 200]))) := by show P _; rw [hP]; exact .inl ⟨h, rfl⟩
    rw [(numV_no h).2] at C
    clear h hP
    go_enter Try.func27, Try.ntmps27
    go_wp2_with (go_at_call 31; refine C.mono ?_; rintro e w1 ⟨rfl, hb1⟩)
    go_ret2
    exact ⟨HP.out, hb1⟩
  | true =>
    have HN : Hid (numV l + days < 0 ∨ 3652058 < numV l + days → P (.returned (.tuple #[.string ⟨#[]⟩, .int .i64 5]))) := by intro hx; rw [hP]; exact .inr (.inl ⟨h, hx, rfl⟩)
    have HY : Hid (0 ≤ numV l + days → numV l + days ≤ 3652058 → ∀ y m d, IsAt (numV l + days) y m d → P (.returned (.tuple #[.string (S (textL y m d)), .int .i64 0]))) := by
      intro hx hy y m d hat; rw [hP]; exact .inr (.inr ⟨h, hx, hy, y, m, d, hat, rfl⟩)
    rw [(numV_yes h).2] at C
    clear h hP
    obtain ⟨n, hn⟩ : ∃ n, n = numV l := ⟨_, rfl⟩
    rw [← hn] at C HN HY hr
    clear hn
    have C := Lib.hid C
    have hc : (0 ≤ n + days ∧ n + days ≤ 3652058) ∨ (n + days < 0 ∨ 3652058 < n + days) := by omega
    rcases hc with ⟨k1, k2⟩ | k
    · have CT := Lib.hid (fun W => text20_ok (n + days) k1 k2 W)
      go_enter Try.func27, Try.ntmps27
      go_wp2_with (first
        | (go_at_call 31; refine C.out.mono ?_; rintro e w1 ⟨rfl, hb1⟩)
        | (go_at_call 35; refine (CT.out _).mono ?_; rintro e w2 ⟨⟨y, m, d, hat, rfl⟩, hb2⟩))
      go_ret2
      exact ⟨HY.out k1 k2 y m d hat, bnext hb1 hb2⟩
    · have HK := Lib.hid (HN.out k)
      go_enter Try.func27, Try.ntmps27
      rcases k with k | k
      all_goals
        go_wp2_with (go_at_call 31; refine C.out.mono ?_; rintro e w1 ⟨rfl, hb1⟩)
        go_ret2
        exact ⟨HK.out, hb1⟩
set_option maxRecDepth 100000 in
set_option maxHeartbeats 1000000 in
theorem refAdd_any (l : List UInt8) (days : Int) (w : World) (hd : -9223372036854775808 ≤ days ∧ days ≤ 9223372036854775807) : Calls Try.prog 28 #[.string (S l), .int .i64 days] w fun e w' => AddPost l days e ∧ Below w.heap.size w w' := by
  have C := refNumber20_any l w
  have hr := numV_range l
  obtain ⟨P, hP⟩ : ∃ P : Ending → Prop, P = AddPost l days := ⟨_, rfl⟩
  rw [← hP]
  cases h : readB l with
  | false =>
    have HP : Hid (P (.returned (.tuple #[.string ⟨#[]⟩, .int .i64 200]))) := by show P _; rw [hP]; exact .inl ⟨h, rfl⟩
    rw [(numV_no h).2] at C
    clear h hP
    go_enter Try.func28, Try.ntmps28
    go_wp2_with (go_at_call 32; refine C.mono ?_; rintro e w1 ⟨rfl, hb1⟩)
    go_ret2
    exact ⟨HP.out, hb1⟩
  | true =>
    have HN : Hid (numV l + days < 0 ∨ 3652058 < numV l + days → P (.returned (.tuple #[.string ⟨#[]⟩, .int .i64 5]))) := by intro hx; rw [hP]; exact .inr (.inl ⟨h, hx, rfl⟩)
    have HY : Hid (0 ≤ numV l + days → numV l + days ≤ 3652058 → ∀ y m d, IsAt (numV l + days) y m d → P (.returned (.tuple #[.string (S (textL y m d)), .int .i64 0]))) := by
      intro hx hy y m d hat; rw [hP]; exact .inr (.inr ⟨h, hx, hy, y, m, d, hat, rfl⟩)
    rw [(numV_yes h).2] at C
    clear h hP
    obtain ⟨n, hn⟩ : ∃ n, n = numV l := ⟨_, rfl⟩
    rw [← hn] at C HN HY hr
    clear hn
    have C := Lib.hid C
    have hc : (0 ≤ n + days ∧ n + days ≤ 3652058) ∨ (n + days < 0 ∨ 3652058 < n + days) := by omega
    rcases hc with ⟨k1, k2⟩ | k
    · have CT := Lib.hid (fun W => refText_ok (n + days) k1 k2 W)
      go_enter Try.func28, Try.ntmps28
      go_wp2_with (first
        | (go_at_call 32; refine C.out.mono ?_; rintro e w1 ⟨rfl, hb1⟩)
        | (go_at_call 36; refine (CT.out _).mono ?_; rintro e w2 ⟨⟨y, m, d, hat, rfl⟩, hb2⟩))
      go_ret2
      exact ⟨HY.out k1 k2 y m d hat, bnext hb1 hb2⟩
    · have HK := Lib.hid (HN.out k)
      have CT := Lib.hid (fun W => refText_no (n + days) k W)
      have hdd : days < -3652058 ∨ 3652058 < days ∨ (-3652058 ≤ days ∧ days ≤ 3652058) := by omega
      clear k
      rcases hdd with k | k | ⟨k, k'⟩
      all_goals
        go_enter Try.func28, Try.ntmps28
        go_wp2_with (first
          | (go_at_call 32; refine C.out.mono ?_; rintro e w1 ⟨rfl, hb1⟩)
          | (go_at_call 36; refine (CT.out _).mono ?_; rintro e w2 ⟨rfl, rfl⟩))
        go_ret2
        exact ⟨HK.out, hb1⟩
end Go.Proofs.Ytdekjlkpinallaa
