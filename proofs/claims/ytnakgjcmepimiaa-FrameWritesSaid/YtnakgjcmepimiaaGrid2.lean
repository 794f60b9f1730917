/- blanks, New, Size, Cell, Row. -/
import Derived.Test.YtnakgjcmepimiaaGrid1
namespace Go.Proofs.Ytnakgjcmepimiaa
set_option linter.unusedVariables false
set_option linter.unusedSimpArgs false
open Go.RowKit
def half (n k : Nat) : List GC := List.replicate k GC.blank ++ List.replicate (n - k) GC.zero
theorem half_zero (n : Nat) : half n 0 = List.replicate n GC.zero := by simp [half]
theorem half_full (n : Nat) : half n n = List.replicate n GC.blank := by simp [half]
theorem half_length {n k : Nat} (h : k ≤ n) : (half n k).length = n := by simp [half]; omega
theorem half_set {n k : Nat} (h : k < n) : (half n k).set k GC.blank = half n (k + 1) := by
  unfold half
  rw [List.set_append_right _ _ (by simp), List.length_replicate, Nat.sub_self, show n - k = (n - (k + 1)) + 1 by omega, List.replicate_succ, List.set_cons_zero, List.replicate_succ', List.append_assoc]
  rfl
set_option maxRecDepth 100000 in
set_option maxHeartbeats 1000000 in
theorem blanks_any (m : Int) (h0 : 0 ≤ m) (h1 : m ≤ 250000) (W : World) :
    Calls Try.prog 74 #[.int .i64 m] W fun e w' => e = .returned (.slice (some ⟨W.heap.size, 0, none⟩) m.toNat m.toNat) ∧ GBlk w' W.heap.size (List.replicate m.toNat GC.blank) ∧ Below W.heap.size W w' := by
  obtain ⟨n, rfl⟩ := Int.eq_ofNat_of_zero_le h0
  simp only [Int.toNat_natCast]
  have hn : n ≤ 250000 := by omega
  have hmk := run_gmake W n (by omega)
  rw [← half_zero] at hmk
  have b0 : GBlk (W.alloc (.cells (flatV (half n 0)).toArray 67)) W.heap.size (half n 0) := GBlk.made W _
  have l0 : Below W.heap.size W (W.alloc (.cells (flatV (half n 0)).toArray 67)) := (Below.refl _ _).alloc (Nat.le_refl _) _
  have hs0 : W.heap.size < (W.alloc (.cells (flatV (half n 0)).toArray 67)).heap.size := by simp
  go_enter Try.func74, Try.ntmps74
  go_wp2
  go_loopw [9] (fun i wr => ∃ k : Nat, k ≤ n ∧ i = .int .i64 k ∧ GBlk wr W.heap.size (half n k) ∧ Below W.heap.size W wr) (fun i _ => n - (intOf i).toNat)
  case atStart => exact ⟨0, by omega, rfl, b0, l0⟩
  case round =>
    obtain ⟨k, hk, rfl, hb, hl⟩ := hrel
    clear b0 l0 hs0 hmk
    by_cases hlt : k < n
    · have hlen := half_length (Nat.le_of_lt hlt)
      go_wp2_with (first
        | (go_at_call 103; refine (blank_any _).mono ?_; rintro e w1 ⟨rfl, hb1⟩; have b1 := hb.only (Only.of_below (S := []) hb1) (by simp); have l1 := bto hl hb1 hl.size; clear hb hl hb1)
        | (refine wpList_gstore rfl _ _ rfl W.heap.size _ rfl GC.blank rfl _ (by assumption) k (by omega) (by omega) ?_; intro w2 b2 o2))
      refine ⟨⟨k + 1, by omega, by go_num, by rw [← half_set hlt]; exact b2, l1.trans (o2.below (by simp) l1.size)⟩, by simp [intOf]; omega⟩
    · obtain rfl : k = n := by omega
      rw [half_full] at hb
      go_wp2
      go_ret
      exact ⟨rfl, hb, hl⟩
theorem New_size (a b : Int) : (decide (1 ≤ a ∧ a ≤ 500 ∧ 1 ≤ b ∧ b ≤ 500)) = true ↔ (1 ≤ a ∧ a ≤ 500 ∧ 1 ≤ b ∧ b ≤ 500) := by simp
set_option maxRecDepth 100000 in
set_option maxHeartbeats 1000000 in
theorem new_ok (a b : Int) (h : 1 ≤ a ∧ a ≤ 500 ∧ 1 ≤ b ∧ b ≤ 500) (W : World) :
    Calls Try.prog 44 #[.int .i64 a, .int .i64 b] W fun e w' => ∃ p, e = .returned (.tuple #[.pointer (some ⟨p, 0, none⟩), .int .i64 0]) ∧ W.heap.size ≤ p ∧ GridAt w' p W.heap.size a.toNat b.toNat (List.replicate (a.toNat * b.toNat) GC.blank) ∧ Below W.heap.size W w' := by
  have hz : decide (1 ≤ a ∧ a ≤ 500 ∧ 1 ≤ b ∧ b ≤ 500) = true := (New_size a b).2 h
  obtain ⟨x, rfl⟩ := Int.eq_ofNat_of_zero_le (show 0 ≤ a by omega)
  obtain ⟨y, rfl⟩ := Int.eq_ofNat_of_zero_le (show 0 ≤ b by omega)
  obtain ⟨h1, h2, h3, h4⟩ := h
  have hxy : x * y ≤ 500 * 500 := Nat.mul_le_mul (by omega) (by omega)
  obtain ⟨n, hn⟩ : ∃ n, n = x * y := ⟨_, rfl⟩
  have hni : (x : Int) * (y : Int) = (n : Int) := by rw [hn, Int.natCast_mul]
  have cs := size_any (x : Int) (y : Int) W
  rw [hz] at cs
  have CS := Lib.hid cs
  have hnb : (n : Int) ≤ 250000 := by omega
  have hm : IntKind.i64.wrap ((x : Int) * (y : Int)) = (n : Int) := by rw [hni, IntKind.wrap_i64]; omega
  have cb := blanks_any (n : Int) (by omega) hnb W
  simp only [Int.toNat_natCast] at cb ⊢
  have CB := Lib.hid cb
  rw [← hn]
  have HN := Lib.hid hn
  clear hn hxy cb cs hz
  go_enter Try.func44, Try.ntmps44
  go_wp2_with (first
    | (go_at_call 73; refine (CS.out).mono ?_; rintro e w1 ⟨rfl, rfl⟩)
    | (go_at_call 74; refine (CB.out).mono ?_; rintro e w1 ⟨rfl, hb1, hl1⟩))
  go_ret2
  have hh : (w1.alloc (.cells #[.int .i64 x, .int .i64 y, .slice (some ⟨W.heap.size, 0, none⟩) n n] 116)).heap[w1.heap.size]? = some (.cells #[.int .i64 x, .int .i64 y, .slice (some ⟨W.heap.size, 0, none⟩) n n] 116 (0, 0)) := World.alloc_heap_new w1 _
  have hlt := hb1.lt
  exact ⟨w1.heap.size, rfl, hl1.size, { head := (by rw [← HN.out]; exact hh), blk := hb1.alloc _, ne := (by omega), len := (by simp; exact HN.out), w1 := by omega, w2 := by omega, h1 := by omega, h2 := by omega }, hl1.alloc hl1.size _⟩
set_option maxRecDepth 100000 in
theorem new_bad (a b : Int) (h : ¬ (1 ≤ a ∧ a ≤ 500 ∧ 1 ≤ b ∧ b ≤ 500)) (W : World) :
    Calls Try.prog 44 #[.int .i64 a, .int .i64 b] W fun e w' => e = .returned (.tuple #[.pointer none, .int .i64 40]) ∧ W = w' := by
  have cs := size_any a b W
  rw [show decide (1 ≤ a ∧ a ≤ 500 ∧ 1 ≤ b ∧ b ≤ 500) = false by simpa using h] at cs
  have CS := Lib.hid cs
  clear cs
  go_enter Try.func44, Try.ntmps44
  go_wp2_with (go_at_call 73; refine (CS.out).mono ?_; rintro e w1 ⟨rfl, rfl⟩)
  go_ret2
  exact ⟨rfl, rfl⟩
set_option maxRecDepth 100000 in
theorem gsize_any {W : World} {p q w h : Nat} {L : List GC} (g : GridAt W p q w h L) : Calls Try.prog 46 #[.pointer (some ⟨p, 0, none⟩)] W fun e w' => e = .returned (.tuple #[.int .i64 w, .int .i64 h]) ∧ Below W.heap.size W w' := by
  obtain ⟨c0, c1, c2⟩ := g.cells
  have C := Lib.hid (made_any g)
  go_enter Try.func46, Try.ntmps46
  go_wp2_with (go_at_call 75; refine (C.out).mono ?_; rintro e w1 ⟨rfl, rfl⟩)
  refine wp_region_still_lit (by kernel_rfl) (by kernel_rfl) ?_
  repeat still_step
  refine wpStill_nil ?_
  go_wp2
  go_ret2
  exact ⟨rfl, ⟨rfl, rfl, rfl, Nat.le_refl _, fun _ _ => rfl⟩⟩
end Go.Proofs.Ytnakgjcmepimiaa
