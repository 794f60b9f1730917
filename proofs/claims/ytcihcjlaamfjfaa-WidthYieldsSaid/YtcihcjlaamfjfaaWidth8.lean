/- The law WidthYields: the contracts of same and of the law's function. -/
import Derived.Test.YtcihcjlaamfjfaaWidth7
namespace Go.Proofs.Ytcihcjlaamfjfaa
open Go.RowKit Go.Shelf Go.Maps
attribute [local go_sem] Oper.semAt_some

theorem nth_take {α : Type} (d : α) (l : List α) (k j : Nat) (h : j < k) : nth d (l.take k) j = nth d l j := by simp [nth, h]
set_option maxRecDepth 100000 in
set_option maxHeartbeats 2000000 in
theorem same_any (L : List Int) (n most : Nat) (hL : L.length = 2 * n) (hn : n < 1000) (hm : most ≤ 1000) (a : Option Addr) (len c b : Nat) (w : World) (hlen : len = (L.take (2 * most)).length) (hr : Runes w.heap.size w a (L.take (2 * most)))
    (hb : RowAt w.heap.size w (some ⟨b, 0, none⟩) (i32s L)) :
    Calls Try.prog 27 #[.slice a len c, .slice (some ⟨b, 0, none⟩) n n, .int .i64 most] w fun e w' => e = .returned (.bool true) ∧ Below w.heap.size w w' := by
  have hlen2 : len = 2 * min n most := by rw [hlen]; simp; omega
  have hT : len ≤ (L.take (2 * most)).length := by omega
  have hT2 : len ≤ 2 * most := by omega
  have HL := Lib.hid hL
  have hd1 := marks_len
  clear hlen hd1
  by_cases hnm : n ≤ most
  all_goals
    have hq : (len : Int) = 2 * (n : Int) ∧ n ≤ most ∨ (len : Int) = 2 * (most : Int) ∧ most < n := by omega
    have hq1 : ((len : Int) != 2 * (n : Int)) = false ∧ n ≤ most ∨ ((len : Int) != 2 * (most : Int)) = false ∧ most < n := by simpa using hq
    have hle1 : len ≤ 2 * n := by omega
    have heven : 2 * (len / 2) = len := by omega
    clear hlen2 hq
    rcases hq1 with ⟨hq1, hq2⟩ | ⟨hq1, hq2⟩
    all_goals try (exfalso; omega)
    go_enter Try.func27, Try.ntmps27
    go_wp2
    go_loopw [7] (fun i wr => ∃ k : Nat, 2 * k ≤ len ∧ i = .int .i64 k ∧ Below w.heap.size w wr) (fun i _ => len - (intOf i).toNat)
    case atStart => exact ⟨0, by omega, rfl, Below.refl _ _⟩
    case round =>
      obtain ⟨k, hk, rfl, hbw⟩ := hrel
      have HE := Lib.hid heven
      by_cases hlt : 2 * k < len
      · have hlt1 : 2 * k + 1 < len := by omega
        obtain ⟨b', off, rfl, _, c0⟩ := (hr.below hbw).at (2 * k) (by omega)
        obtain ⟨b2, off2, e2, _, c1⟩ := (hr.below hbw).at (2 * k + 1) (by omega)
        simp only [Option.some.injEq, Addr.mk.injEq, and_true] at e2
        obtain ⟨rfl, rfl⟩ := e2
        obtain ⟨d0, d1⟩ := row_fst (hb.below hbw) k (by omega)
        rw [nth_take _ _ _ _ (by omega)] at c0 c1
        have f0 : nth 0 L (2 * k) = fst L k := rfl
        have f1 : nth 0 L (2 * k + 1) = snd L k := rfl
        rw [f0] at c0
        rw [f1] at c1
        have c1b := c1
        rw [← Nat.add_assoc] at c1b
        clear f0 f1 heven
        have hk2 : k < n := by omega
        have j1 : 2 * (k : Int) < (len : Int) := by omega
        have j2 : 2 * (k : Int) + 1 < (len : Int) := by omega
        have j3 : (k : Int) < (n : Int) := by omega
        have j4 : 0 ≤ 2 * (k : Int) ∧ 0 ≤ 2 * (k : Int) + 1 ∧ 0 ≤ (k : Int) := by omega
        have j5 : IntKind.i64.wrap (2 * (k : Int)) = 2 * (k : Int) := IntWalk.i64_in _ (by omega)
        have j6 : IntKind.i64.wrap (2 * (k : Int) + 1) = 2 * (k : Int) + 1 := IntWalk.i64_in _ (by omega)
        have j7 : (2 * (k : Int)).toNat = 2 * k := by omega
        have j8 : (2 * (k : Int) + 1).toNat = 2 * k + 1 := by omega
        have j9 : (fst L k != fst L k) = false ∧ (snd L k != snd L k) = false := by simp
        go_wp2_with fail
        go_quiet (fail)
        clear j1 j2 j3 j4 j5 j6 j7 j8 j9
        go_wp2
        go_roundw
        case rel => exact ⟨k + 1, by omega, by go_num, below_drewN hbw nq⟩
        case measure => simp [intOf]; omega
      · go_wp2
        go_ret
        exact ⟨rfl, hbw⟩

end Go.Proofs.Ytcihcjlaamfjfaa
