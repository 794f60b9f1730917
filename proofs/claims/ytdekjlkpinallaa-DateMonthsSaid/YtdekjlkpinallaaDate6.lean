/- Reading a date, by the reference; Valid, Check. -/
import Derived.Test.YtdekjlkpinallaaDate5
namespace Go.Proofs.Ytdekjlkpinallaa
open Go.RowKit Go.Maps
def numI (l : List UInt8) : Int := if digs l then (numL l : Int) else -1
theorem numI_pos {l : List UInt8} (h : 0 ≤ numI l) : digs l = true ∧ numI l = numL l := by
  unfold numI at *
  cases hd : digs l with
  | true => exact ⟨rfl, by simp⟩
  | false => rw [hd] at h; simp at h
theorem readB_ref {l : List UInt8} (h : l.length = 10 ∧ (nth 0 l 4).toNat = 45 ∧ (nth 0 l 7).toNat = 45) : readB l = decide (1 ≤ numI (l.drop 8) ∧ numI (l.drop 8) ≤ daysI (numI (l.take 4)) (numI ((l.drop 5).take 2))) := by
  rw [Bool.eq_iff_iff, decide_eq_true_eq]
  unfold readB
  simp only [Bool.and_eq_true, decide_eq_true_eq]
  constructor
  · rintro ⟨_, h1, h2, h3, h4⟩
    unfold numI
    rw [h1, h2, h3]
    exact h4
  · rintro ⟨h1, h2⟩
    have hp := @days_pos (numI (l.take 4)) (numI ((l.drop 5).take 2)) (by omega)
    obtain ⟨a1, a2⟩ := @numI_pos (l.take 4) (by omega)
    obtain ⟨b1, b2⟩ := @numI_pos ((l.drop 5).take 2) (by omega)
    obtain ⟨c1, c2⟩ := @numI_pos (l.drop 8) (by omega)
    rw [a2, b2, c2] at h2
    rw [c2] at h1
    exact ⟨h, a1, b1, c1, h1, h2⟩
theorem readPost_ref {l : List UInt8} (h : readB l = true) : numI (l.take 4) = yOf l ∧ numI ((l.drop 5).take 2) = mOf l ∧ numI (l.drop 8) = dOf l := by
  unfold readB at h
  simp only [Bool.and_eq_true, decide_eq_true_eq] at h
  unfold numI yOf mOf dOf
  rw [h.2.1, h.2.2.1, h.2.2.2.1]
  exact ⟨rfl, rfl, rfl⟩
theorem cells_three {w4 : World} {g : Nat} {t : TypeId} {fr : Nat × Nat} {x y z : Value} (h : w4.heap[g]? = some (.cells #[x, y, z] t fr)) (a b c : Value) :
    (((w4.setCell ⟨g, 0, none⟩ a).setCell ⟨g, 1, none⟩ b).setCell ⟨g, 2, none⟩ c).cell? ⟨g, 0, none⟩ = some a ∧ (((w4.setCell ⟨g, 0, none⟩ a).setCell ⟨g, 1, none⟩ b).setCell ⟨g, 2, none⟩ c).cell? ⟨g, 1, none⟩ = some b ∧
    (((w4.setCell ⟨g, 0, none⟩ a).setCell ⟨g, 1, none⟩ b).setCell ⟨g, 2, none⟩ c).cell? ⟨g, 2, none⟩ = some c := by
  have h := set_three h a b c
  refine ⟨?_, ?_, ?_⟩ <;> (rw [cell_of_row _ _ _ _ _ _ h]; rfl)
set_option maxRecDepth 100000 in
set_option maxHeartbeats 2000000 in
theorem refRead_any (l : List UInt8) (w : World) : Calls Try.prog 45 #[.string (S l)] w fun e w' => ReadPost l e ∧ Below w.heap.size w w' := by
  have hsz := S_size l
  have hget := S_get l
  by_cases h10 : l.length = 10
  · rw [h10] at hsz
    by_cases h4 : (nth 0 l 4).toNat = 45
    · by_cases h7 : (nth 0 l 7).toNat = 45
      · have x4 : (((nth 0 l 4).toNat : Int) != 45) = false := by simp [h4]
        have x7 : (((nth 0 l 7).toNat : Int) != 45) = false := by simp [h7]
        have e1 : (S l).extract 0 4 = S (l.take 4) := by rw [S_extract]; rfl
        have e2 : (S l).extract 5 7 = S ((l.drop 5).take 2) := by rw [S_extract]
        have e3 : (S l).extract 8 10 = S (l.drop 8) := by rw [S_extract, List.take_of_length_le (by simp; omega)]
        have N1 := Lib.hid (fun W => refNumber_any (l.take 4) (by simp; omega) W)
        have N2 := Lib.hid (fun W => refNumber_any ((l.drop 5).take 2) (by simp; omega) W)
        have N3 := Lib.hid (fun W => refNumber_any (l.drop 8) (by simp; omega) W)
        have HR := readB_ref ⟨h10, h4, h7⟩
        have HP := @readPost_ref l
        change Hid (∀ W : World, Calls Try.prog 42 #[.string (S (l.take 4))] W fun e w' => e = .returned (.int .i64 (numI (l.take 4))) ∧ W = w') at N1
        change Hid (∀ W : World, Calls Try.prog 42 #[.string (S ((l.drop 5).take 2))] W fun e w' => e = .returned (.int .i64 (numI ((l.drop 5).take 2))) ∧ W = w') at N2
        change Hid (∀ W : World, Calls Try.prog 42 #[.string (S (l.drop 8))] W fun e w' => e = .returned (.int .i64 (numI (l.drop 8))) ∧ W = w') at N3
        revert e1 e2 e3 N1 N2 N3 HR HP
        generalize numI (l.take 4) = n1
        generalize numI ((l.drop 5).take 2) = n2
        generalize numI (l.drop 8) = n3
        generalize l.take 4 = L1
        generalize (l.drop 5).take 2 = L2
        generalize l.drop 8 = L3
        intro e1 e2 e3 HR HP N1 N2 N3
        obtain ⟨z, hz⟩ : ∃ z, z = readB l := ⟨_, rfl⟩
        rw [← hz] at HR HP
        have CI := fun W => is_any n1 n2 n3 W
        rw [← HR] at CI
        have CI := Lib.hid CI
        have HP2 : z = true → ReadPost l (.returned (.tuple #[.agg #[.int .i64 n1, .int .i64 n2, .int .i64 n3], .bool true])) := fun h => by
          obtain ⟨a1, a2, a3⟩ := HP h
          rw [a1, a2, a3]
          exact readPost_yes (hz.symm.trans h)
        have HP3 := Lib.hid HP2
        have HZ := Lib.hid hz
        clear hz HR h4 h7 HP HP2
        have hb0 : Below w.heap.size w ((w.alloc (.cells #[.int .i64 0, .int .i64 0, .int .i64 0] 30)).alloc (.cells #[.int .i64 n1, .int .i64 n2, .int .i64 n3] 30)).drew := (((Below.refl _ _).alloc (Nat.le_refl _) _).alloc (by simp) _).drew
        have hz0 : ((w.alloc (.cells #[.int .i64 0, .int .i64 0, .int .i64 0] 30)).alloc (.cells #[.int .i64 n1, .int .i64 n2, .int .i64 n3] 30)).drew.heap[w.heap.size]? = some (.cells #[.int .i64 0, .int .i64 0, .int .i64 0] 30 (0, 0)) := (Below.heap_alloc _ _ _ (by simp)).trans (zero_new w _)
        have hs0 : w.heap.size + 1 + 1 = ((w.alloc (.cells #[.int .i64 0, .int .i64 0, .int .i64 0] 30)).alloc (.cells #[.int .i64 n1, .int .i64 n2, .int .i64 n3] 30)).drew.heap.size := by simp
        have hd0 : ((w.alloc (.cells #[.int .i64 0, .int .i64 0, .int .i64 0] 30)).alloc (.cells #[.int .i64 n1, .int .i64 n2, .int .i64 n3] 30)).drew.cell? ⟨w.heap.size + 1, 0, none⟩ = some (.int .i64 n1) := by simp
        have hd1 : ((w.alloc (.cells #[.int .i64 0, .int .i64 0, .int .i64 0] 30)).alloc (.cells #[.int .i64 n1, .int .i64 n2, .int .i64 n3] 30)).drew.cell? ⟨w.heap.size + 1, 1, none⟩ = some (.int .i64 n2) := by simp
        have hd2 : ((w.alloc (.cells #[.int .i64 0, .int .i64 0, .int .i64 0] 30)).alloc (.cells #[.int .i64 n1, .int .i64 n2, .int .i64 n3] 30)).drew.cell? ⟨w.heap.size + 1, 2, none⟩ = some (.int .i64 n3) := by simp
        have HD := Lib.hid (And.intro hb0 (And.intro hz0 (And.intro hs0 (And.intro hd0 (And.intro hd1 hd2)))))
        clear hb0 hz0 hs0 hd0 hd1 hd2
        go_enter Try.func45, Try.ntmps45
        go_wp2_with fail
        clear hget h10 x4 x7
        go_region_with (first
          | (go_at_call_of 42 (Value.string (S L1)); refine (N1.out _).mono ?_; rintro e w1 ⟨rfl, rfl⟩)
          | (go_at_call_of 42 (Value.string (S L2)); refine (N2.out _).mono ?_; rintro e w2 ⟨rfl, rfl⟩)
          | (go_at_call_of 42 (Value.string (S L3)); refine (N3.out _).mono ?_; rintro e w3 ⟨rfl, rfl⟩))
        all_goals
          clear N1 N2 N3
          obtain ⟨hb0, hz0, hs0, hd0, hd1, hd2⟩ := HD.out
          clear HD
          generalize ((w.alloc (.cells #[.int .i64 0, .int .i64 0, .int .i64 0] 30)).alloc (.cells #[.int .i64 n1, .int .i64 n2, .int .i64 n3] 30)).drew = W0 at hb0 hz0 hs0 hd0 hd1 hd2 ⊢
          go_wp2_with fail
          refine (CI.out _).mono ?_
          rintro e w4 ⟨rfl, hb4⟩
          obtain ⟨hc4, hf4⟩ := bcell hb4
          have hz4 := (hb4.block _ (by omega)).trans hz0
          have hb5 := bto hb0 hb4 hb0.size
          obtain ⟨q0, q1, q2⟩ : w4.cell? ⟨w.heap.size, 0, none⟩ = some (.int .i64 0) ∧ w4.cell? ⟨w.heap.size, 1, none⟩ = some (.int .i64 0) ∧ w4.cell? ⟨w.heap.size, 2, none⟩ = some (.int .i64 0) := by
            refine ⟨?_, ?_, ?_⟩ <;> (rw [cell_of_row _ _ _ _ _ _ hz4]; rfl)
          obtain ⟨f0, f1, f2⟩ : w4.frozen? ⟨w.heap.size, 0, none⟩ = false ∧ w4.frozen? ⟨w.heap.size, 1, none⟩ = false ∧ w4.frozen? ⟨w.heap.size, 2, none⟩ = false := by
            refine ⟨?_, ?_, ?_⟩ <;> (unfold World.frozen?; dsimp only; rw [hz4]; simp)
          obtain ⟨r0, r1, r2⟩ : w4.cell? ⟨w.heap.size + 1, 0, none⟩ = some (.int .i64 n1) ∧ w4.cell? ⟨w.heap.size + 1, 1, none⟩ = some (.int .i64 n2) ∧ w4.cell? ⟨w.heap.size + 1, 2, none⟩ = some (.int .i64 n3) :=
            ⟨(hc4 _ _ (by omega)).trans hd0, (hc4 _ _ (by omega)).trans hd1, (hc4 _ _ (by omega)).trans hd2⟩
          have HE := Lib.hid (And.intro hz4 hb5)
          clear hc4 hf4 hb4 hz0 hb0 hs0 hd0 hd1 hd2 hz4 hb5
          cases z with
          | false =>
            go_wp2_with fail
            refine bodyPost_ret (results_three rfl Try.underlying30 rfl (by kernel_rfl) _ _ w.heap.size (.int .i64 0) (.int .i64 0) (.int .i64 0) rfl (cells_three HE.out.1 _ _ _).1 (cells_three HE.out.1 _ _ _).2.1 (cells_three HE.out.1 _ _ _).2.2) rfl ?_
            exact ⟨readPost_no HZ.out.symm, below_three HE.out.2 (Nat.le_refl _) _ _ _⟩
          | true =>
            go_wp2_with fail
            refine bodyPost_ret (results_three rfl Try.underlying30 rfl (by kernel_rfl) _ _ w.heap.size (.int .i64 n1) (.int .i64 n2) (.int .i64 n3) rfl (cells_three HE.out.1 _ _ _).1 (cells_three HE.out.1 _ _ _).2.1 (cells_three HE.out.1 _ _ _).2.2) rfl ?_
            exact ⟨HP3.out trivial, below_three HE.out.2 (Nat.le_refl _) _ _ _⟩
      · have x4 : (((nth 0 l 4).toNat : Int) != 45) = false := by simp [h4]
        have x7 : (((nth 0 l 7).toNat : Int) != 45) = true := by simp; omega
        have Hno := Lib.hid (@readB_not l (by omega))
        clear h4 h7
        go_enter Try.func45, Try.ntmps45
        go_wp2
        refine bodyPost_ret (results_three rfl Try.underlying30 rfl (by kernel_rfl) _ _ w.heap.size (.int .i64 0) (.int .i64 0) (.int .i64 0) rfl (by rw [cell_of_row _ _ _ _ _ _ (zero_new w _)]; rfl) (by rw [cell_of_row _ _ _ _ _ _ (zero_new w _)]; rfl) (by rw [cell_of_row _ _ _ _ _ _ (zero_new w _)]; rfl)) rfl ?_
        exact ⟨readPost_no Hno.out, (Below.refl _ _).alloc (Nat.le_refl _) _⟩
    · have x4 : (((nth 0 l 4).toNat : Int) != 45) = true := by simp; omega
      have Hno := Lib.hid (@readB_not l (by omega))
      clear h4
      go_enter Try.func45, Try.ntmps45
      go_wp2
      refine bodyPost_ret (results_three rfl Try.underlying30 rfl (by kernel_rfl) _ _ w.heap.size (.int .i64 0) (.int .i64 0) (.int .i64 0) rfl (by rw [cell_of_row _ _ _ _ _ _ (zero_new w _)]; rfl) (by rw [cell_of_row _ _ _ _ _ _ (zero_new w _)]; rfl) (by rw [cell_of_row _ _ _ _ _ _ (zero_new w _)]; rfl)) rfl ?_
      exact ⟨readPost_no Hno.out, (Below.refl _ _).alloc (Nat.le_refl _) _⟩
  · have Hno := Lib.hid (@readB_not l (by omega))
    have x : ((l.length : Int) != 10) = true := by simp; omega
    clear h10
    go_enter Try.func45, Try.ntmps45
    go_wp2
    refine bodyPost_ret (results_three rfl Try.underlying30 rfl (by kernel_rfl) _ _ w.heap.size (.int .i64 0) (.int .i64 0) (.int .i64 0) rfl (by rw [cell_of_row _ _ _ _ _ _ (zero_new w _)]; rfl) (by rw [cell_of_row _ _ _ _ _ _ (zero_new w _)]; rfl) (by rw [cell_of_row _ _ _ _ _ _ (zero_new w _)]; rfl)) rfl ?_
    exact ⟨readPost_no Hno.out, (Below.refl _ _).alloc (Nat.le_refl _) _⟩
end Go.Proofs.Ytdekjlkpinallaa
