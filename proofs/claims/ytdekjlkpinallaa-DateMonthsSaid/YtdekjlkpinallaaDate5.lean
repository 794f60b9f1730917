/- Reading a date: read, Read, Is, Check, Valid. -/
import Derived.Test.YtdekjlkpinallaaDate4
import Derived.Deep.DeepCutAuto
import Derived.Deep.MidRow
namespace Go.Proofs.Ytdekjlkpinallaa
set_option linter.unusedVariables false
open Go.RowKit Go.Maps
set_option maxRecDepth 100000 in
set_option maxHeartbeats 1000000 in
theorem is_any (y m d : Int) (w : World) : Calls Try.prog 58 #[.agg #[.int .i64 y, .int .i64 m, .int .i64 d]] w fun e w' => e = .returned (.bool (decide (1 ≤ d ∧ d ≤ daysI y m))) ∧ Below w.heap.size w w' := by
  obtain ⟨c0, c1, c2, hB, hs⟩ := three_new w (.int .i64 y) (.int .i64 m) (.int .i64 d) 30
  generalize hW : w.alloc (.cells #[.int .i64 y, .int .i64 m, .int .i64 d] 30) = W1 at c0 c1 c2 hB hs
  have C0 := Lib.hid (fun n => Calls.quiet_of_same ((refDays_any y m (W1.drewN n)).mono fun e w' h => ⟨h.1, h.2.symm⟩))
  obtain ⟨z, hz⟩ : ∃ z, z = daysI y m := ⟨_, rfl⟩
  rw [← hz] at C0 ⊢
  clear hz
  obtain ⟨r, hr⟩ : ∃ r, r = decide (1 ≤ d ∧ d ≤ z) := ⟨_, rfl⟩
  rw [← hr]
  have HR := Lib.hid hr
  clear hr
  have hcase : decide (1 ≤ d) = false ∨ decide (1 ≤ d) = true ∧ d ≤ z ∨ decide (1 ≤ d) = true ∧ z < d := by simp only [decide_eq_true_eq, decide_eq_false_iff_not]; omega
  rcases hcase with h | ⟨h, h'⟩ | ⟨h, h'⟩
  all_goals
    go_enter Try.func58, Try.ntmps58
    go_wp2_with fail
    go_quiet (exact C0.out _)
    go_wp2_with fail
    go_ret
    refine ⟨ret_bool ?_, ⟨hB.os, hB.tape, hB.output, hB.size, hB.block⟩⟩
    rw [HR.out]
    simp only [decide_eq_true_eq, decide_eq_false_iff_not] at *
    first | exact (decide_eq_true (by omega)).symm | exact (decide_eq_false (by omega)).symm | (rw [Bool.eq_iff_iff]; simp only [decide_eq_true_eq]; omega)
/-- What read says of a text. -/
def ReadPost (l : List UInt8) (e : Ending) : Prop := ∃ y m d : Int, e = .returned (.tuple #[.agg #[.int .i64 y, .int .i64 m, .int .i64 d], .bool (readB l)]) ∧ (readB l = true → y = yOf l ∧ m = mOf l ∧ d = dOf l)
theorem readB_not {l : List UInt8} (h : ¬ (l.length = 10 ∧ (nth 0 l 4).toNat = 45 ∧ (nth 0 l 7).toNat = 45)) : readB l = false := by
  unfold readB; rw [decide_eq_false h]; rfl
theorem readPost_no {l : List UInt8} (h : readB l = false) : ReadPost l (.returned (.tuple #[.agg #[.int .i64 0, .int .i64 0, .int .i64 0], .bool false])) :=
  ⟨0, 0, 0, by rw [h], fun h' => by rw [h] at h'; cases h'⟩
theorem readPost_yes {l : List UInt8} (h : readB l = true) : ReadPost l (.returned (.tuple #[.agg #[.int .i64 (yOf l), .int .i64 (mOf l), .int .i64 (dOf l)], .bool true])) :=
  ⟨_, _, _, by rw [h], fun _ => ⟨rfl, rfl, rfl⟩⟩
theorem range_three {w : World} {g : Nat} {a b c : Value} (c0 : w.cell? ⟨g, 0, none⟩ = some a) (c1 : w.cell? ⟨g, 1, none⟩ = some b) (c2 : w.cell? ⟨g, 2, none⟩ = some c) : w.rangeAt g 0 [a, b, c] := by
  intro j v hv
  match j, hv with
  | 0, hv => simp at hv; subst hv; exact c0
  | 1, hv => simp at hv; subst hv; exact c1
  | 2, hv => simp at hv; subst hv; exact c2
/-- A struct of three cells in a result variable, and one more result. -/
theorem results_three {fn : Func} {p u : Tmp} {ty : TypeId} {ds : TypeDesc} (h : fn.results = #[.cell p ty, .tmp u]) (hu : Try.prog.underlying ty = some ds) (hd : ds.isRow = true) (hi : (Try.prog.info? ty).map (·.size) = some 3) (tmps : Array Value) (w : World) (g : Nat) (a b c : Value)
    (hp : tmps.getD p undef = .pointer (some ⟨g, 0, none⟩)) (c0 : w.cell? ⟨g, 0, none⟩ = some a) (c1 : w.cell? ⟨g, 1, none⟩ = some b) (c2 : w.cell? ⟨g, 2, none⟩ = some c) :
    (results fn tmps).run Try.prog w = .ok (.tuple #[.agg #[a, b, c], tmps.getD u undef]) w := by
  have hl := run_loadVar_mid (P := Try.prog) w g 0 ty [a, b, c] ds (range_three c0 c1 c2) hu hd hi
  rw [results_cell_tmp h, hp]
  simp [asAddr, hl, Result.andThen]
theorem set_three {w4 : World} {g : Nat} {t : TypeId} {fr : Nat × Nat} {x y z : Value} (h : w4.heap[g]? = some (.cells #[x, y, z] t fr)) (a b c : Value) :
    (((w4.setCell ⟨g, 0, none⟩ a).setCell ⟨g, 1, none⟩ b).setCell ⟨g, 2, none⟩ c).heap[g]? = some (.cells #[a, b, c] t fr) := by
  simp [World.setCell, Array.getElem?_modify, h]
theorem below_three {B : Nat} {w w4 : World} (h : Below B w w4) {g : Nat} (hg : B ≤ g) (a b c : Value) : Below B w (((w4.setCell ⟨g, 0, none⟩ a).setCell ⟨g, 1, none⟩ b).setCell ⟨g, 2, none⟩ c) :=
  ((h.setCell (p := ⟨g, 0, none⟩) hg a).setCell (p := ⟨g, 1, none⟩) hg b).setCell (p := ⟨g, 2, none⟩) hg c
theorem zero_new (w : World) (t : TypeId) : (w.alloc (.cells #[.int .i64 0, .int .i64 0, .int .i64 0] t)).heap[w.heap.size]? = some (.cells #[.int .i64 0, .int .i64 0, .int .i64 0] t (0, 0)) := World.alloc_heap_new w _
set_option maxRecDepth 100000 in
set_option maxHeartbeats 2000000 in
theorem read_any (l : List UInt8) (hl : l.length ≤ 1000) (w : World) : Calls Try.prog 46 #[.string (S l)] w fun e w' => ReadPost l e ∧ Below w.heap.size w w' := by
  have hsz := S_size l
  have hget := S_get l
  by_cases h10 : l.length = 10
  · rw [h10] at hsz
    by_cases h4 : (nth 0 l 4).toNat = 45
    · by_cases h7 : (nth 0 l 7).toNat = 45
      · have x4 : (((nth 0 l 4).toNat : Int) != 45) = false := by simp [h4]
        have x7 : (((nth 0 l 7).toNat : Int) != 45) = false := by simp [h7]
        have e1 : (S l).extract 0 4 = S (l.take 4) := by rw [S_extract]; rfl
        have e2 : (S l).extract 5 7 = S ((l.drop 5).take 2) := by rw [S_extract]
        have e3 : (S l).extract 8 10 = S (l.drop 8) := by rw [S_extract, List.take_of_length_le (by simp; omega)]
        have HR : Hid (readB l = (digs (l.take 4) && (digs ((l.drop 5).take 2) && (digs (l.drop 8) && decide (1 ≤ (dOf l : Int) ∧ (dOf l : Int) ≤ daysI (yOf l) (mOf l)))))) := by
          show readB l = _
          unfold readB; rw [decide_eq_true ⟨h10, h4, h7⟩]; rfl
        have N1 := fun W => number_any (l.take 4) (by simp; omega) W
        have N2 := fun W => number_any ((l.drop 5).take 2) (by simp; omega) W
        have N3 := fun W => number_any (l.drop 8) (by simp; omega) W
        have q1 : (l.take 4).length ≤ 15 := by simp; omega
        have q2 : ((l.drop 5).take 2).length ≤ 15 := by simp; omega
        have q3 : (l.drop 8).length ≤ 15 := by simp; omega
        have y1 : numL (l.take 4) = yOf l := rfl
        have y2 : numL ((l.drop 5).take 2) = mOf l := rfl
        have y3 : numL (l.drop 8) = dOf l := rfl
        revert HR N1 N2 N3 e1 e2 e3 q1 q2 q3 y1 y2 y3
        generalize l.take 4 = L1
        generalize (l.drop 5).take 2 = L2
        generalize l.drop 8 = L3
        intro e1 e2 e3 HR N1 N2 N3 q1 q2 q3 y1 y2 y3
        obtain ⟨a, ha⟩ : ∃ a, a = digs L1 := ⟨_, rfl⟩
        obtain ⟨b, hb⟩ : ∃ a, a = digs L2 := ⟨_, rfl⟩
        obtain ⟨c, hc⟩ : ∃ a, a = digs L3 := ⟨_, rfl⟩
        rw [← ha, ← hb, ← hc] at HR
        rw [← ha] at N1
        rw [← hb] at N2
        rw [← hc] at N3
        rw [y1] at N1
        rw [y2] at N2
        rw [y3] at N3
        have N1 := Lib.hid N1
        have N2 := Lib.hid N2
        have N3 := Lib.hid N3
        have Q := Lib.hid (And.intro q1 (And.intro q2 q3))
        clear ha hb hc y1 y2 y3 h4 h7 q1 q2 q3 hl
        obtain ⟨Y, hY⟩ : ∃ Y : Int, Y = yOf l := ⟨_, rfl⟩
        obtain ⟨M, hM⟩ : ∃ M : Int, M = mOf l := ⟨_, rfl⟩
        obtain ⟨D, hD⟩ : ∃ D : Int, D = dOf l := ⟨_, rfl⟩
        have hfin := @readPost_yes l
        rw [← hY, ← hM, ← hD] at hfin HR
        rw [← hY] at N1
        rw [← hM] at N2
        rw [← hD] at N3
        clear hY hM hD
        obtain ⟨z, hz⟩ : ∃ z, z = daysI Y M := ⟨_, rfl⟩
        rw [← hz] at HR
        have Hfin := Lib.hid hfin
        clear hfin
        have HZ := Lib.hid hz
        clear hz
        have hD3 : D < 1 ∨ 1 ≤ D ∧ D ≤ z ∨ 1 ≤ D ∧ z < D := by omega
        have hcase : (a = false ∨ b = false ∨ c = false) ∨ (a = true ∧ b = true ∧ c = true) := by cases a <;> cases b <;> cases c <;> simp
        rcases hcase with hcase | ⟨rfl, rfl, rfl⟩
        · have Hno : Hid (readB l = false) := by
            show readB l = false
            rw [HR.out]; rcases hcase with rfl | rfl | rfl <;> simp
          clear HR hD3
          go_enter Try.func46, Try.ntmps46
          go_upto_region 6 with (first
            | (go_at_call_of 41 (Value.string (S L1)); refine (N1.out _).mono ?_; rintro e w1 ⟨⟨n1, rfl, hn1⟩, rfl⟩; have Hn1 := Lib.hid hn1; clear hn1)
            | (go_at_call_of 41 (Value.string (S L2)); refine (N2.out _).mono ?_; rintro e w2 ⟨⟨n2, rfl, hn2⟩, rfl⟩; have Hn2 := Lib.hid hn2; clear hn2)
            | (go_at_call_of 41 (Value.string (S L3)); refine (N3.out _).mono ?_; rintro e w3 ⟨⟨n3, rfl, hn3⟩, rfl⟩; have Hn3 := Lib.hid hn3; clear hn3))
          rcases hcase with rfl | rfl | rfl
          all_goals go_wp2
          all_goals
            refine bodyPost_ret (results_three rfl Try.underlying61 rfl (by kernel_rfl) _ _ w.heap.size (.int .i64 0) (.int .i64 0) (.int .i64 0) rfl (by rw [cell_of_row _ _ _ _ _ _ (zero_new w _)]; rfl) (by rw [cell_of_row _ _ _ _ _ _ (zero_new w _)]; rfl) (by rw [cell_of_row _ _ _ _ _ _ (zero_new w _)]; rfl)) rfl ?_
            exact ⟨readPost_no Hno.out, (Below.refl _ _).alloc (Nat.le_refl _) _⟩
        · rcases hD3 with hD3 | hD3 | hD3
          all_goals
            go_enter Try.func46, Try.ntmps46
            go_upto_region 6 with (first
            | (go_at_call_of 41 (Value.string (S L1)); refine (N1.out _).mono ?_; rintro e w1 ⟨⟨n1, rfl, hn1⟩, rfl⟩; have Hn1 := Lib.hid hn1; clear hn1)
            | (go_at_call_of 41 (Value.string (S L2)); refine (N2.out _).mono ?_; rintro e w2 ⟨⟨n2, rfl, hn2⟩, rfl⟩; have Hn2 := Lib.hid hn2; clear hn2)
            | (go_at_call_of 41 (Value.string (S L3)); refine (N3.out _).mono ?_; rintro e w3 ⟨⟨n3, rfl, hn3⟩, rfl⟩; have Hn3 := Lib.hid hn3; clear hn3))
            have e1 := Hn1.out trivial Q.out.1
            have e2 := Hn2.out trivial Q.out.2.1
            have e3 := Hn3.out trivial Q.out.2.2
            subst e1 e2 e3
            clear Hn1 Hn2 Hn3
            go_wp2_with (go_at_call 12; refine (days_any _ _ _).mono ?_; rw [← HZ.out]; rintro e w4 ⟨rfl, hb4⟩; obtain ⟨hc4, hf4⟩ := bcell hb4)
            first
              | (refine bodyPost_ret (results_three rfl Try.underlying61 rfl (by kernel_rfl) _ _ w.heap.size (.int .i64 0) (.int .i64 0) (.int .i64 0) rfl (by rw [cell_of_row _ _ _ _ _ _ (zero_new w _)]; rfl) (by rw [cell_of_row _ _ _ _ _ _ (zero_new w _)]; rfl) (by rw [cell_of_row _ _ _ _ _ _ (zero_new w _)]; rfl)) rfl ?_
                 exact ⟨readPost_no (by rw [HR.out]; simp; omega), (Below.refl _ _).alloc (Nat.le_refl _) _⟩)
              | (refine bodyPost_ret (results_three rfl Try.underlying61 rfl (by kernel_rfl) _ _ w.heap.size (.int .i64 n1) (.int .i64 n2) (.int .i64 n3) rfl (by rw [cell_of_row _ _ _ _ _ _ (set_three ((hb4.block _ (by simp)).trans (zero_new w _)) _ _ _)]; rfl) (by rw [cell_of_row _ _ _ _ _ _ (set_three ((hb4.block _ (by simp)).trans (zero_new w _)) _ _ _)]; rfl) (by rw [cell_of_row _ _ _ _ _ _ (set_three ((hb4.block _ (by simp)).trans (zero_new w _)) _ _ _)]; rfl)) rfl ?_
                 exact ⟨Hfin.out (by rw [HR.out]; simp; omega), below_three (bto ((Below.refl _ _).alloc (Nat.le_refl _) _) hb4 (by simp)) (Nat.le_refl _) _ _ _⟩)
              | (refine bodyPost_ret (results_three rfl Try.underlying61 rfl (by kernel_rfl) _ _ w.heap.size (.int .i64 0) (.int .i64 0) (.int .i64 0) rfl (by rw [cell_of_row _ _ _ _ _ _ (set_three ((hb4.block _ (by simp)).trans (zero_new w _)) _ _ _)]; rfl) (by rw [cell_of_row _ _ _ _ _ _ (set_three ((hb4.block _ (by simp)).trans (zero_new w _)) _ _ _)]; rfl) (by rw [cell_of_row _ _ _ _ _ _ (set_three ((hb4.block _ (by simp)).trans (zero_new w _)) _ _ _)]; rfl)) rfl ?_
                 exact ⟨readPost_no (by rw [HR.out]; simp; omega), below_three (bto ((Below.refl _ _).alloc (Nat.le_refl _) _) hb4 (by simp)) (Nat.le_refl _) _ _ _⟩)
      · have x4 : (((nth 0 l 4).toNat : Int) != 45) = false := by simp [h4]
        have x7 : (((nth 0 l 7).toNat : Int) != 45) = true := by simp; omega
        have Hno := Lib.hid (@readB_not l (by omega))
        clear h4 h7
        go_enter Try.func46, Try.ntmps46
        go_wp2
        refine bodyPost_ret (results_three rfl Try.underlying61 rfl (by kernel_rfl) _ _ w.heap.size (.int .i64 0) (.int .i64 0) (.int .i64 0) rfl (by rw [cell_of_row _ _ _ _ _ _ (zero_new w _)]; rfl) (by rw [cell_of_row _ _ _ _ _ _ (zero_new w _)]; rfl) (by rw [cell_of_row _ _ _ _ _ _ (zero_new w _)]; rfl)) rfl ?_
        exact ⟨readPost_no Hno.out, (Below.refl _ _).alloc (Nat.le_refl _) _⟩
    · have x4 : (((nth 0 l 4).toNat : Int) != 45) = true := by simp; omega
      have Hno := Lib.hid (@readB_not l (by omega))
      clear h4
      go_enter Try.func46, Try.ntmps46
      go_wp2
      refine bodyPost_ret (results_three rfl Try.underlying61 rfl (by kernel_rfl) _ _ w.heap.size (.int .i64 0) (.int .i64 0) (.int .i64 0) rfl (by rw [cell_of_row _ _ _ _ _ _ (zero_new w _)]; rfl) (by rw [cell_of_row _ _ _ _ _ _ (zero_new w _)]; rfl) (by rw [cell_of_row _ _ _ _ _ _ (zero_new w _)]; rfl)) rfl ?_
      exact ⟨readPost_no Hno.out, (Below.refl _ _).alloc (Nat.le_refl _) _⟩
  · have Hno := Lib.hid (@readB_not l (by omega))
    have x : ((l.length : Int) != 10) = true := by simp; omega
    clear h10
    go_enter Try.func46, Try.ntmps46
    go_wp2
    refine bodyPost_ret (results_three rfl Try.underlying61 rfl (by kernel_rfl) _ _ w.heap.size (.int .i64 0) (.int .i64 0) (.int .i64 0) rfl (by rw [cell_of_row _ _ _ _ _ _ (zero_new w _)]; rfl) (by rw [cell_of_row _ _ _ _ _ _ (zero_new w _)]; rfl) (by rw [cell_of_row _ _ _ _ _ _ (zero_new w _)]; rfl)) rfl ?_
    exact ⟨readPost_no Hno.out, (Below.refl _ _).alloc (Nat.le_refl _) _⟩
end Go.Proofs.Ytdekjlkpinallaa
