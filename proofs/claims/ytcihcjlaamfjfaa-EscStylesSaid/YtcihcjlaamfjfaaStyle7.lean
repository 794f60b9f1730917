/- The contract of Turned. -/
import Derived.Test.YtcihcjlaamfjfaaStyle6
namespace Go.Proofs.Ytcihcjlaamfjfaa
open Go.RowKit Go.Maps
theorem turnL_one (l : List UInt8) (k : Nat) (h : k < l.length) (s : Sy × Int) : turnL (l.drop k) s = turnL (l.drop (k + 1)) (turn1 s (nth 0 l k)) := by
  rw [drop_cons l k h]; rfl
set_option maxRecDepth 100000 in
set_option maxHeartbeats 2000000 in
theorem turned_any (y : Sy) (l : List UInt8) (w : World) (hl : l.length ≤ 1000) : Calls Try.prog 49 #[.agg #[.bool y.b, .bool y.u, .bool y.i, .int .i64 y.f, .int .i64 y.g], .string (S l)] w fun e w' => e = .returned (turnL (l.drop 2) (y, 0)).1.v ∧ Below w.heap.size w w' := by
  obtain ⟨FIN, hFIN⟩ : ∃ s, s = turnL (l.drop 2) (y, 0) := ⟨_, rfl⟩
  rw [← hFIN]
  have hsz := S_size l
  have hget := S_get l
  go_enter Try.func49, Try.ntmps49
  go_wp2
  go_loopw [5, 6] (fun n i wr => ∃ (k : Nat) (m : Int) (z : Sy), 2 ≤ k ∧ (k ≤ l.length ∨ k = 2) ∧ n = .int .i64 m ∧ 0 ≤ m ∧ m ≤ 9999 ∧ i = .int .i64 k ∧ FIN = turnL (l.drop k) (z, m) ∧ SyBox wr w.heap.size z ∧ SyBox wr (w.heap.size + 1) ⟨false, false, false, 0, 0⟩ ∧ Below w.heap.size w wr) (fun _ i _ => l.length - (intOf i).toNat)
  case atStart =>
    refine ⟨2, 0, y, by omega, by omega, rfl, by omega, by omega, rfl, hFIN, ?_, ?_, ((Below.refl _ _).alloc (Nat.le_refl _) _).alloc (by simp) _⟩
    · exact styBox_old (styBox_new w y.b y.u y.i y.f y.g) ((Below.refl (w.heap.size + 1) _).alloc (by simp) _) (by omega)
    · have := styBox_new (w.alloc (.cells #[.bool y.b, .bool y.u, .bool y.i, .int .i64 y.f, .int .i64 y.g] 50)) false false false 0 0
      rw [World.size_alloc] at this
      exact this
  case round =>
    obtain ⟨k, m, z, hk2, hk, rfl, hm0, hm1, rfl, hfin, hz, hr, hb⟩ := hrel
    have Hfin := Lib.hid hfin
    clear hfin
    obtain ⟨q0, q1, q2, q3, q4, q5⟩ := StyBox.cells hz
    obtain ⟨r0, r1, r2, r3, r4, r5⟩ := StyBox.cells hr
    by_cases hlt : k < l.length
    · have Hone := Lib.hid (turnL_one l k hlt (z, m))
      have hc := (nth 0 l k).toNat_lt
      by_cases hd : 48 ≤ (nth 0 l k).toNat ∧ (nth 0 l k).toNat ≤ 57
      · obtain ⟨d1, d2⟩ := hd
        go_wp2_with fail
        exact ⟨⟨k + 1, min 9999 (10 * m + ((nth 0 l k).toNat - 48 : Nat)), z, by omega, by omega, congrArg (Value.int _) (by split <;> omega), by omega, by omega, by go_num, by rw [Hfin.out, Hone.out]; unfold turn1; rw [if_pos ⟨d1, d2⟩], hz, hr, hb⟩, by simp [intOf]; omega⟩
      · have Ht : Hid (turn1 (z, m) (nth 0 l k) = (obey z m, 0)) := Lib.hid (by unfold turn1; rw [if_neg hd])
        have Ho := Lib.hid (obey_sy z m)
        revert Ht Ho
        generalize obey z m = y2
        intro Ht Ho
        have hbs := hb.size
        go_wp2_with (go_at_call 94; refine (Ho.out _).mono ?_; rintro e w1 ⟨rfl, hb1⟩; have hz1 : SyBox w1 w.heap.size z := styBox_old hz hb1 (by have := hr; unfold SyBox StyBox at this; have := (Array.getElem?_eq_some_iff.1 this).1; omega); have hr1 : SyBox w1 (w.heap.size + 1) ⟨false, false, false, 0, 0⟩ := styBox_old hr hb1 (by have := hr; unfold SyBox StyBox at this; exact (Array.getElem?_eq_some_iff.1 this).1); obtain ⟨p0, p1, p2, p3, p4, p5⟩ := StyBox.cells hz1)
        all_goals exact ⟨⟨k + 1, 0, y2, by omega, by omega, rfl, by omega, by omega, by go_num, by rw [Hfin.out, Hone.out, Ht.out], SyBox.set5 hz1 y2, SyBox.set5_other hr1 (by omega) y2, ((((((hb.trans (hb1.mono (by omega))).setCell (Nat.le_refl _) _).setCell (Nat.le_refl _) _).setCell (Nat.le_refl _) _).setCell (Nat.le_refl _) _).setCell (Nat.le_refl _) _)⟩, by simp [intOf]; omega⟩
    · have hend : FIN = (z, m) := by rw [Hfin.out, List.drop_eq_nil_of_le (by omega)]; rfl
      have Hend := Lib.hid hend
      clear hend
      go_wp2
      (try simp only [Exit.inBlock, Exit.then])
      refine bodyPost_ret (results_cell_row rfl _ _ (w.heap.size + 1) 50 _ (0, 0) _ rfl (SyBox.set5 hr z) Try.underlying50 rfl (by kernel_rfl)) rfl ?_
      exact ⟨congrArg Ending.returned (by rw [← hFIN, Hend.out]; rfl), (((((hb.setCell (by simp) _).setCell (by simp) _).setCell (by simp) _).setCell (by simp) _).setCell (by simp) _)⟩
end Go.Proofs.Ytcihcjlaamfjfaa
