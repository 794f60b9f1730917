/- Months, of the program. -/
import Derived.Test.YtdekjlkpinallaaDate13
namespace Go.Proofs.Ytdekjlkpinallaa
set_option linter.unusedVariables false
open Go.RowKit Go.Shelf Go.Maps
attribute [local go_sem] Oper.semAt_some
/-- What Months says of the date y, m, d. -/
def monR (y m d n : Int) : Ending :=
  if 12 * (y - 1) + m - 1 + n < 0 ∨ 119987 < 12 * (y - 1) + m - 1 + n then .returned (.tuple #[.string ⟨#[]⟩, .int .i64 5])
  else .returned (.tuple #[.string (S (textL ((12 * (y - 1) + m - 1 + n) / 12 + 1) ((12 * (y - 1) + m - 1 + n) % 12 + 1) (min d (daysI ((12 * (y - 1) + m - 1 + n) / 12 + 1) ((12 * (y - 1) + m - 1 + n) % 12 + 1))))), .int .i64 0])
def monV (l : List UInt8) (n : Int) : Ending := if readB l then monR (yOf l) (mOf l) (dOf l) n else .returned (.tuple #[.string ⟨#[]⟩, .int .i64 200])
def lastT (pre : List (Int × List UInt8)) : List UInt8 := match pre.getLast? with | some x => x.2 | none => []
theorem lastT_snoc (pre : List (Int × List UInt8)) (x : Int × List UInt8) : lastT (pre ++ [x]) = x.2 := by simp [lastT]
theorem lastT_days (y m : Int) (k : Nat) (hk : k ≤ (daysI y m).toNat) (h0 : 0 < k) : lastT ((dayList y m).take k) = textL y m k := by
  obtain ⟨j, rfl⟩ : ∃ j, k = j + 1 := ⟨k - 1, by omega⟩
  rw [take_days (by omega), lastT_snoc]
  rfl
theorem pre_days {y m : Int} {pre : List (Int × List UInt8)} (h : pre <+: dayList y m) : pre = (dayList y m).take pre.length ∧ pre.length ≤ (daysI y m).toNat :=
  ⟨List.prefix_iff_eq_take.1 h, by have := h.length_le; rwa [dayList_len] at this⟩
theorem last_day {y m : Int} {k : Nat} (hk : k ≤ (daysI y m).toNat) (h0 : 0 < k) : dayX y m (k - 1) ∈ (dayList y m).take k := by
  obtain ⟨j, rfl⟩ : ∃ j, k = j + 1 := ⟨k - 1, by omega⟩
  rw [take_days (by omega)]
  simp
/-- All days have come, none behind the d-th. -/
theorem mon_done {y m d : Int} (hd : 1 ≤ d) (hz : 1 ≤ daysI y m) (h : ∀ x ∈ dayList y m, x.1 ≤ d) : lastT (dayList y m) = textL y m (min d (daysI y m)) := by
  have e : (dayList y m).take (daysI y m).toNat = dayList y m := List.take_of_length_le (by rw [dayList_len]; omega)
  have h0 := last_day (y := y) (m := m) (k := (daysI y m).toNat) (Nat.le_refl _) (by omega)
  rw [e] at h0
  have h1 := h _ h0
  have h1 : (((daysI y m).toNat - 1 : Nat) : Int) + 1 ≤ d := h1
  have h2 := lastT_days y m (daysI y m).toNat (Nat.le_refl _) (by omega)
  rw [e] at h2
  rw [h2, show (((daysI y m).toNat : Nat) : Int) = min d (daysI y m) by omega]
/-- The day behind the d-th has come. -/
theorem mon_stop {y m d : Int} {q : List (Int × List UInt8)} {x : Int × List UInt8} (hd : 1 ≤ d) (hp : q ++ [x] <+: dayList y m) (hq : ∀ x ∈ q, x.1 ≤ d) (hx : d < x.1) : lastT q = textL y m (min d (daysI y m)) := by
  obtain ⟨e1, l1⟩ := pre_days hp
  obtain ⟨e2, l2⟩ := pre_days ((List.prefix_append q [x]).trans hp)
  simp only [List.length_append, List.length_cons, List.length_nil] at e1 l1
  rw [take_days (by omega)] at e1
  have e3 := (List.append_inj e1 (by rw [List.length_take, dayList_len]; omega)).2
  simp only [List.cons.injEq, and_true] at e3
  rw [e3] at hx
  simp only [dayX] at hx
  have hdq : q.length = d.toNat := by
    by_cases h0 : q.length = 0
    · omega
    · have h2 := last_day (y := y) (m := m) (k := q.length) l2 (by omega)
      rw [← e2] at h2
      have h1 := hq _ h2
      simp only [dayX] at h1
      omega
  rw [e2, lastT_days y m q.length l2 (by omega), show ((q.length : Nat) : Int) = min d (daysI y m) by omega]
theorem mon_world (w1 : World) (a b d : Int) (W0 : World) (hW : (((w1.alloc (.cells #[.int .i64 a, .int .i64 b, .int .i64 d] 61)).alloc (.cells #[.string ⟨#[]⟩] 9)).alloc (.cells #[.int .i64 a] 3)).alloc (.cells #[.int .i64 b] 3) = W0) :
    W0.cell? ⟨w1.heap.size, 2, none⟩ = some (.int .i64 d) ∧ W0.cell? ⟨w1.heap.size + 1, 0, none⟩ = some (.string ⟨#[]⟩) ∧ W0.frozen? ⟨w1.heap.size + 1, 0, none⟩ = false ∧
    W0.cell? ⟨w1.heap.size + 1 + 1, 0, none⟩ = some (.int .i64 a) ∧ W0.cell? ⟨w1.heap.size + 1 + 1 + 1, 0, none⟩ = some (.int .i64 b) ∧ Below w1.heap.size w1 W0 ∧ W0.heap.size = w1.heap.size + 1 + 1 + 1 + 1 := by
  obtain ⟨X1, h1⟩ : ∃ X1, w1.alloc (.cells #[.int .i64 a, .int .i64 b, .int .i64 d] 61) = X1 := ⟨_, rfl⟩
  obtain ⟨X2, h2⟩ : ∃ X2, X1.alloc (.cells #[.string ⟨#[]⟩] 9) = X2 := ⟨_, rfl⟩
  obtain ⟨X3, h3⟩ : ∃ X3, X2.alloc (.cells #[.int .i64 a] 3) = X3 := ⟨_, rfl⟩
  rw [h1, h2, h3] at hW
  have s1 : X1.heap.size = w1.heap.size + 1 := by rw [← h1]; simp
  have s2 : X2.heap.size = w1.heap.size + 1 + 1 := by rw [← h2]; simp [s1]
  have s3 : X3.heap.size = w1.heap.size + 1 + 1 + 1 := by rw [← h3]; simp [s2]
  have c0 : X1.cell? ⟨w1.heap.size, 2, none⟩ = some (.int .i64 d) := h1 ▸ (three_new w1 (.int .i64 a) (.int .i64 b) (.int .i64 d) 61).2.2.1
  have c1 := cell_new_l X1 (.string ⟨#[]⟩) 9
  have c2 := cell_new_l X2 (.int .i64 a) 3
  have c3 := cell_new_l X3 (.int .i64 b) 3
  rw [h2, s1] at c1
  rw [h3, s2] at c2
  rw [hW, s3] at c3
  have l0 : X2.cell? ⟨w1.heap.size, 2, none⟩ = some (.int .i64 d) := h2 ▸ cell_alloc_l _ c0
  have l1 : X3.cell? ⟨w1.heap.size, 2, none⟩ = some (.int .i64 d) := h3 ▸ cell_alloc_l _ l0
  have m1 : X3.cell? ⟨w1.heap.size + 1, 0, none⟩ = some (.string ⟨#[]⟩) := h3 ▸ cell_alloc_l _ c1.1
  have f1 : X3.frozen? ⟨w1.heap.size + 1, 0, none⟩ = false := h3 ▸ frozen_alloc_l _ c1.1 c1.2
  refine ⟨hW ▸ cell_alloc_l _ l1, hW ▸ cell_alloc_l _ m1, hW ▸ frozen_alloc_l _ m1 f1, hW ▸ cell_alloc_l _ c2.1, c3.1, ?_, by rw [← hW]; simp [s3]⟩
  rw [← hW, ← h3, ← h2, ← h1]
  exact ((((Below.refl _ _).alloc (Nat.le_refl _) _).alloc (by simp) _).alloc (by simp; omega) _).alloc (by simp; omega) _
def MonI (w w1 : World) (d : Int) (pre : List (Int × List UInt8)) (W : World) : Prop :=
  ((∀ x ∈ pre, x.1 ≤ d) ∧ W.cell? ⟨w1.heap.size + 1, 0, none⟩ = some (.string (S (lastT pre))) ∧ W.frozen? ⟨w1.heap.size + 1, 0, none⟩ = false ∧ W.cell? ⟨w1.heap.size, 2, none⟩ = some (.int .i64 d)) ∧ Below w.heap.size w W
def MonX (w w1 : World) (d : Int) (c : Code) (pre : List (Int × List UInt8)) (W : World) : Prop :=
  (c = .exit 0 ∧ ∃ q x, pre = q ++ [x] ∧ (∀ x ∈ q, x.1 ≤ d) ∧ d < x.1 ∧ W.cell? ⟨w1.heap.size + 1, 0, none⟩ = some (.string (S (lastT q)))) ∧ Below w.heap.size w W
theorem MonI.next {w w1 : World} {d : Int} {pre : List (Int × List UInt8)} {W : World} (h : MonI w w1 d pre W) (x : Int × List UInt8) (hx : x.1 ≤ d) (hs : w.heap.size ≤ w1.heap.size) : MonI w w1 d (pre ++ [x]) (W.setCell ⟨w1.heap.size + 1, 0, none⟩ (.string (S x.2))) := by
  obtain ⟨⟨h1, h2, h3, h4⟩, hB⟩ := h
  refine ⟨⟨fun y hy => (List.mem_append.1 hy).elim (h1 y) (fun e => by rw [List.mem_singleton.1 e]; exact hx), ?_, ?_, ?_⟩, hB.setCell (p := ⟨w1.heap.size + 1, 0, none⟩) (Nat.le_succ_of_le hs) _⟩
  · rw [lastT_snoc]; exact World.cell?_setCell_same' _ _ _ (by rw [h2]; rfl)
  · rw [World.frozen?_setCell]; exact h3
  · rw [← h4]; exact cell_block (Below.heap_setCell _ _ _ _ (by show w1.heap.size ≠ w1.heap.size + 1; omega))
set_option maxRecDepth 100000 in
set_option maxHeartbeats 4000000 in
theorem months20_any (l : List UInt8) (n : Int) (hl : l.length ≤ 1000) (hn : -9223372036854775808 ≤ n ∧ n ≤ 9223372036854775807) (w : World) : Calls Try.prog 29 #[.string (S l), .int .i64 n] w fun e w' => e = monV l n ∧ Below w.heap.size w w' := by
  have C := read_any l hl w
  have hm : monV l n = if readB l then monR (yOf l) (mOf l) (dOf l) n else .returned (.tuple #[.string ⟨#[]⟩, .int .i64 200]) := rfl
  cases h : readB l with
  | false =>
    rw [h] at hm
    rw [hm]
    go_enter Try.func29, Try.ntmps29
    go_wp2_with fail
    refine C.mono ?_
    rintro e w1 ⟨⟨y, m, d, rfl, _⟩, hb1⟩
    rw [h]
    clear h C
    go_wp2
    go_ret2
    exact ⟨rfl, hb1.alloc hb1.size _⟩
  | true =>
    rw [h, if_pos rfl] at hm
    rw [hm]
    have hd := readB_day h
    obtain ⟨y, hY⟩ : ∃ y : Int, y = yOf l := ⟨_, rfl⟩
    obtain ⟨m, hM⟩ : ∃ m : Int, m = mOf l := ⟨_, rfl⟩
    obtain ⟨d, hD⟩ : ∃ d : Int, d = dOf l := ⟨_, rfl⟩
    rw [← hY, ← hM, ← hD] at hd ⊢
    have C2 := C.mono (fun e w' hh => (⟨by
      obtain ⟨⟨y', m', d', he, hymd⟩, hb⟩ := hh
      obtain ⟨e1, e2, e3⟩ := hymd h
      rw [he, h, e1, e2, e3, ← hY, ← hM, ← hD], hh.2⟩ : e = .returned (.tuple #[.agg #[.int .i64 y, .int .i64 m, .int .i64 d], .bool true]) ∧ Below w.heap.size w w'))
    clear C hm h hY hM hD
    obtain ⟨a1, a2, a3, a4⟩ := hd.at
    have hd31 := hd.le
    have hd1 := hd.1
    clear hd
    obtain ⟨k, hk⟩ : ∃ k, k = 12 * (y - 1) + m - 1 := ⟨_, rfl⟩
    have hmr : monR y m d n = if k + n < 0 ∨ 119987 < k + n then .returned (.tuple #[.string ⟨#[]⟩, .int .i64 5]) else .returned (.tuple #[.string (S (textL ((k + n) / 12 + 1) ((k + n) % 12 + 1) (min d (daysI ((k + n) / 12 + 1) ((k + n) % 12 + 1))))), .int .i64 0]) := by rw [hk]; rfl
    have hk0 : 0 ≤ k ∧ k ≤ 119987 := by omega
    have w1 : IntKind.i64.wrap (12 * (y - 1)) = 12 * (y - 1) := IntWalk.i64_in _ (by omega)
    by_cases hout : k + n < 0 ∨ 119987 < k + n
    · rw [if_pos hout] at hmr
      rw [hmr]
      have HK := Lib.hid hk
      clear hmr
      rcases hout with hout | hout
      all_goals
        go_enter Try.func29, Try.ntmps29
        go_wp2_with fail
        refine C2.mono ?_
        rintro e w1 ⟨rfl, hb1⟩
        go_wp2
        go_ret2
        exact ⟨rfl, hb1.alloc hb1.size _⟩
    · rw [if_neg hout] at hmr
      obtain ⟨j, hj⟩ : ∃ j, j = k + n := ⟨_, rfl⟩
      rw [← hj] at hmr
      have hj0 : 0 ≤ j ∧ j ≤ 119987 := by omega
      have t1 : j.tdiv 12 = j / 12 := Int.tdiv_eq_ediv_of_nonneg (by omega)
      have t2 : j.tmod 12 = j % 12 := Int.tmod_eq_emod_of_nonneg (by omega)
      obtain ⟨y2, hy2⟩ : ∃ y2, y2 = j / 12 + 1 := ⟨_, rfl⟩
      obtain ⟨m2, hm2⟩ : ∃ m2, m2 = j % 12 + 1 := ⟨_, rfl⟩
      rw [← hy2, ← hm2] at hmr
      rw [hmr]
      have hz := @days_some y2 m2 (by omega)
      refine (callsIn_wide (n := 9)).1 ?_
      have h1 : 1 ≤ 9 := by omega
      refine callsIn_of_wp_marks Try.func29 rfl trivial ?_ rfl
      simp only [Try.ntmps29, List.size_toArray, List.length_cons, List.length_nil, Nat.reduceAdd, Nat.reduceSub, Array.replicate_succ, Array.replicate_zero, List.push_toArray, List.append_toArray, List.nil_append, List.cons_append]
      gi_wp2_with (first
        | (refine ⟨trivial, ?_⟩; gi_at_call 46; refine (callsIn_wide.2 C2).mono ?_; rintro e w1 ⟨rfl, hb1⟩)
        | (refine ⟨trivial, ?_⟩; gi_at_call 38; refine (callsIn_wide.2 (all20_any _ _ _)).mono ?_; rintro e w2 ⟨rfl, rfl⟩))
      have HJ := Lib.hid (And.intro hj (And.intro hy2 hm2))
      have e2 : (12 * (y - 1) + m - 1 + n) / 12 + 1 = y2 := by rw [hy2, hj, hk]
      have e3 : (12 * (y - 1) + m - 1 + n) % 12 + 1 = m2 := by rw [hm2, hj, hk]
      rw [e2, e3]
      clear hj hy2 hm2 e2 e3 t1 t2 hmr hout hk C2
      obtain ⟨W0, hW0⟩ : ∃ W0, (((w1.alloc (.cells #[.int .i64 y2, .int .i64 m2, .int .i64 d] 61)).alloc (.cells #[.string ⟨#[]⟩] 9)).alloc (.cells #[.int .i64 y2] 3)).alloc (.cells #[.int .i64 m2] 3) = W0 := ⟨_, rfl⟩
      obtain ⟨f0, f1, f2, f3, f4, hB0, hs0⟩ := mon_world w1 y2 m2 d W0 hW0
      rw [hW0]
      clear hW0
      have hBw := bto hb1 hB0 hb1.size
      have hsz := hb1.size
      refine wpIn_rangeFunc_ownG rfl h1 (gf := 51) (lb := #[.pointer (some ⟨w1.heap.size + 1 + 1, 0, none⟩), .pointer (some ⟨w1.heap.size + 1 + 1 + 1, 0, none⟩)]) rfl trivial (enters_of Try.func51 (by kernel_rfl) rfl)
        (all1_stops y2 m2 (w1.heap.size + 1 + 1) (w1.heap.size + 1 + 1 + 1) W0 (by omega) (by omega) f3 f4 _ (by omega)) KB.trans (KB.put (by omega) (by omega)) (Below.refl _ _) (fun _ => rfl)
        (MonI w w1 d) (MonX w w1 d)
        (OwnFrom.and (Own.from (fun s A B row hs hg hr => ⟨hs.1, cell_kept hs.2.1 hg hr, (frozen_kept hs.2.1 hg hr).trans hs.2.2.1, cell_kept hs.2.2.2 hg hr⟩) _) (ownFrom_below (Nat.le_refl _) (by omega)))
        (fun c => OwnFrom.and (Own.from (fun s A B row hs hg hr => ⟨hs.1, by obtain ⟨q, x, h1, h2, h3, h4⟩ := hs.2; exact ⟨q, x, h1, h2, h3, cell_kept h4 hg hr⟩⟩) _) (ownFrom_below (Nat.le_refl _) (by omega)))
        ⟨⟨by simp, f1, f2, f0⟩, hBw⟩
        ?_ ?_ ?_ ?_ ?_
      rotate_left 1
      · intro l x W K hK
        gi_wp2
        exact hK
      · rintro l pre x W ⟨⟨hp, hct, hft, hcd⟩, hB⟩ _
        by_cases hx : d < x.1
        · gi_wp2
          exact ⟨KeepsFrom.refl _ _, ⟨rfl, pre, x, rfl, hp, hx, hct⟩, hB⟩
        · gi_wp2
          exact ⟨(KeepsOthers.setCell _ _ _).from _, ⟨Below.heap_setCell _ _ _ _ (by show _ ≠ w1.heap.size + 1; omega), Below.heap_setCell _ _ _ _ (by show _ ≠ w1.heap.size + 1; omega), by simp [World.setCell]⟩, MonI.next ⟨⟨hp, hct, hft, hcd⟩, hB⟩ x (by omega) hsz⟩
      · rintro D ys W hD rfl ⟨⟨hp, hct, hft, hcd⟩, hB⟩ hK
        have hfin := mon_done hd1 (by omega) hp
        gi_wp2
        refine ⟨by simp, .inl ⟨_, _, rfl, run_takeDeferred hK, ?_⟩⟩
        refine ⟨_, results_tmp2 rfl _ _ _, ?_, hB.trans (belowK_b (w := w) (Nat.le_refl _) W D _ _ (by omega) hK rfl rfl)⟩
        rfl
      · rintro D c pre W hD hpre ⟨⟨rfl, q, x, rfl, hq, hx, hct⟩, hB⟩ hK
        have hfin := mon_stop hd1 hpre hq hx
        gi_wp2
        refine ⟨by simp, .inl ⟨_, _, rfl, run_takeDeferred hK, ?_⟩⟩
        refine ⟨_, results_tmp2 rfl _ _ _, ?_, hB.trans (belowK_b (w := w) (Nat.le_refl _) W D _ _ (by omega) hK rfl rfl)⟩
        rfl
end Go.Proofs.Ytdekjlkpinallaa
