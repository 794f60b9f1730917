/- The program's terminal: between, plain, styled. No condition. -/
import Derived.Test.YtekodpcedjpnjaaPT1
import Derived.Test.YtekodpcedjpnjaaRune5
namespace Go.Proofs.Ytekodpcedjpnjaa
set_option linter.unusedVariables false
set_option linter.unusedSimpArgs false
open Go.RowKit Go.Maps
set_option maxRecDepth 100000 in
theorem between_any (c lo hi : Int) (w : World) : Calls Try.prog 141 #[.int .u8 c, .int .u8 lo, .int .u8 hi] w fun e w' => e = .returned (.bool (decide (lo ≤ c ∧ c ≤ hi))) ∧ w = w' := by
  obtain ⟨z, hz⟩ : ∃ z, z = decide (lo ≤ c ∧ c ≤ hi) := ⟨_, rfl⟩
  rw [← hz]
  have HZ := Lib.hid hz
  clear hz
  go_enter Try.func141, Try.ntmps141
  go_wp2
  all_goals go_ret
  all_goals refine ⟨ret_bool ?_, rfl⟩
  all_goals rw [HZ.out]
  all_goals first | exact (decide_eq_true (by omega)).symm | exact (decide_eq_false (by omega)).symm | (rw [Bool.eq_iff_iff]; simp only [decide_eq_true_eq, Bool.or_eq_true, Bool.and_eq_true]; omega)
def okPl (c : UInt8) : Bool := decide (c = 59) || decide (48 ≤ c.toNat ∧ c.toNat ≤ 57)
theorem plainB_drop (l : List UInt8) (k : Nat) (h : k < l.length) : plainB (l.drop k) = (okPl (nth 0 l k) && plainB (l.drop (k + 1))) := by
  rw [List.drop_eq_getElem_cons h, nth_eq _ _ _ h]
  rfl
theorem okPl_nat (c : UInt8) : okPl c = (decide (c.toNat = 59) || decide (48 ≤ c.toNat ∧ c.toNat ≤ 57)) := by
  unfold okPl
  congr 1
  rw [decide_eq_decide]
  exact ⟨fun h => by rw [h]; rfl, fun h => UInt8.toNat_inj.1 h⟩
set_option maxRecDepth 100000 in
set_option maxHeartbeats 2000000 in
theorem plain_any {W : World} {g off n cap : Nat} {l : List UInt8} (hB : Bys W g off l) (hn : l.length = n) (hn2 : n ≤ 2000000) :
    Calls Try.prog 154 #[.slice (some ⟨g, off, none⟩) n cap] W fun e w' => e = .returned (.bool (plainB l)) ∧ W = w' := by
  have HN := Lib.hid hn
  obtain ⟨z, hz⟩ : ∃ z, z = plainB l := ⟨_, rfl⟩
  rw [← hz]
  have HZ : Hid (z = plainB (l.drop 0)) := Lib.hid hz
  clear hz hn
  go_enter Try.func154, Try.ntmps154
  go_wp2
  go_loop [7] (fun i => ∃ k : Nat, k ≤ n ∧ i = .int .i64 k ∧ Hid (z = plainB (l.drop k))) (fun i => n - (intOf i).toNat)
  case atStart => exact ⟨0, Nat.zero_le _, rfl, HZ⟩
  case round =>
    obtain ⟨k, hk, rfl, hf⟩ := hrel
    by_cases hlt : k < n
    · have hlt2 : k < l.length := by rw [HN.out]; exact hlt
      have hd := plainB_drop l k hlt2
      have hc := hB.at_ k hlt2
      rw [okPl_nat] at hd
      obtain ⟨x, hx⟩ : ∃ x, x = (nth 0 l k).toNat := ⟨_, rfl⟩
      rw [← hx] at hd hc
      have HD := Lib.hid hd
      clear hd hx hlt2
      have CB := fun w => between_any (x : Int) 48 57 w
      obtain ⟨y, hy⟩ : ∃ y, y = decide ((48 : Int) ≤ x ∧ (x : Int) ≤ 57) := ⟨_, rfl⟩
      rw [← hy] at CB
      have hy2 : decide (48 ≤ x ∧ x ≤ 57) = y := by rw [hy]; exact decide_eq_decide.2 (by omega)
      have HY := Lib.hid hy2
      clear hy hy2
      have CB := Lib.hid CB
      by_cases h59 : x = 59
      · have hne : ((x : Int) != 59) = false := by simp; omega
        have HF : Hid (z = plainB (l.drop (k + 1))) := Lib.hid (by rw [hf.out, HD.out, decide_eq_true h59]; rfl)
        clear h59
        go_wp2
        go_round
        case rel => exact ⟨k + 1, hlt, by go_num, HF⟩
        case measure => simp [intOf]; omega
      · have hne : ((x : Int) != 59) = true := by simp; omega
        have HF0 : Hid (z = (y && plainB (l.drop (k + 1)))) := Lib.hid (by rw [hf.out, HD.out, decide_eq_false h59, HY.out]; rfl)
        clear h59 HY
        cases y with
        | true =>
          have HF : Hid (z = plainB (l.drop (k + 1))) := Lib.hid (by rw [HF0.out]; rfl)
          go_wp2_with (go_at_call 141; refine (CB.out _).mono ?_; rintro e w1 ⟨rfl, rfl⟩)
          go_round
          case rel => exact ⟨k + 1, hlt, by go_num, HF⟩
          case measure => simp [intOf]; omega
        | false =>
          have HF : Hid (z = false) := Lib.hid (by rw [HF0.out]; rfl)
          go_wp2_with (go_at_call 141; refine (CB.out _).mono ?_; rintro e w1 ⟨rfl, rfl⟩)
          go_ret
          exact ⟨ret_bool HF.out.symm, rfl⟩
    · obtain rfl : k = n := by omega
      have HF : Hid (z = true) := Lib.hid (by rw [hf.out, List.drop_eq_nil_of_le (by rw [HN.out]; omega)]; rfl)
      go_wp2
      go_ret
      exact ⟨ret_bool HF.out.symm, rfl⟩
set_option maxRecDepth 100000 in
set_option maxHeartbeats 4000000 in
theorem styled_any (b u i : Bool) (f g : Int) (n : Nat) (w : World) : Calls Try.prog 157 #[.agg #[.bool b, .bool u, .bool i, .int .i64 f, .int .i64 g], .int .i64 n] w fun e w' => e = .returned (styT ⟨b, u, i, f, g⟩ n).v ∧ Below w.heap.size w w' := by
  obtain ⟨m, hm⟩ : ∃ m : Int, m = (n : Int) := ⟨_, rfl⟩
  rw [← hm]
  have HM := Lib.hid hm
  have h0 : 0 ≤ m := by omega
  clear hm
  go_enter Try.func157, Try.ntmps157
  go_wp2
  all_goals
    (try simp only [Exit.inBlock, Exit.then])
    refine bodyPost_ret (results_cell_row rfl _ _ (w.heap.size + 1) 34 _ (0, 0) _ rfl (heap_alloc2_new w _ _) Try.underlying34 rfl (by kernel_rfl)) rfl ?_
    refine ⟨congrArg Ending.returned ?_, ((Below.refl _ _).alloc (Nat.le_refl _) _).alloc (by simp) _⟩
    have hm := HM.out
    simp only [beq_iff_eq, beq_eq_false_iff_ne, ne_eq] at *
    unfold styT
    repeat (first | rw [if_pos (by omega)] | rw [if_neg (by omega)])
    first | rfl | (simp only [Sy.v, Sy.zero]; simp; omega)
theorem styled_sy (y : Sy) (n : Nat) (w : World) : Calls Try.prog 157 #[.agg #[.bool y.b, .bool y.u, .bool y.i, .int .i64 y.f, .int .i64 y.g], .int .i64 n] w fun e w' => e = .returned (.agg #[.bool (styT y n).b, .bool (styT y n).u, .bool (styT y n).i, .int .i64 (styT y n).f, .int .i64 (styT y n).g]) ∧ Below w.heap.size w w' := styled_any y.b y.u y.i y.f y.g n w
end Go.Proofs.Ytekodpcedjpnjaa
