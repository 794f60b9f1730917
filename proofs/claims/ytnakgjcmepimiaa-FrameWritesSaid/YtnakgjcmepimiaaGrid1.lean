/- The grid's small functions: blank, size, made, there, line, wipe. -/
import Derived.Test.YtnakgjcmepimiaaGMath
namespace Go.Proofs.Ytnakgjcmepimiaa
set_option linter.unusedVariables false
set_option linter.unusedSimpArgs false
open Go.RowKit
structure GridAt (W : World) (p q : Nat) (w h : Nat) (L : List GC) : Prop where
  head : W.heap[p]? = some (.cells #[.int .i64 w, .int .i64 h, .slice (some ⟨q, 0, none⟩) (w * h) (w * h)] 116 (0, 0))
  blk : GBlk W q L
  ne : p ≠ q
  len : L.length = w * h
  w1 : 1 ≤ w
  w2 : w ≤ 500
  h1 : 1 ≤ h
  h2 : h ≤ 500
theorem GridAt.cells {W : World} {p q w h : Nat} {L : List GC} (g : GridAt W p q w h L) : W.cell? ⟨p, 0, none⟩ = some (.int .i64 w) ∧ W.cell? ⟨p, 1, none⟩ = some (.int .i64 h) ∧ W.cell? ⟨p, 2, none⟩ = some (.slice (some ⟨q, 0, none⟩) (w * h) (w * h)) := by
  refine ⟨?_, ?_, ?_⟩ <;> rw [cell_of_row W p _ _ _ _ g.head] <;> rfl
theorem GridAt.only {W W' : World} {p q w h : Nat} {L : List GC} {S : List Nat} (g : GridAt W p q w h L) (ho : Only S W W') (hp : p ∉ S) (hq : q ∉ S) : GridAt W' p q w h L :=
  { g with head := ho.heap g.head hp, blk := g.blk.only ho hq }
set_option maxRecDepth 100000 in
theorem blank_any (w : World) : Calls Try.prog 103 #[] w fun e w' => e = .returned (.agg #[.string ⟨#[32]⟩, .int .i64 1, .bool false, .bool false, .bool false, .int .i64 0, .int .i64 0]) ∧ Below w.heap.size w w' := by
  go_enter Try.func103, Try.ntmps103
  go_wp2
  refine bodyPost_ret (results_cell_row rfl _ _ w.heap.size 67 _ (0, 0) _ rfl (World.alloc_heap_new w _) Try.underlying67 rfl (by kernel_rfl)) rfl ?_
  exact ⟨rfl, (Below.refl _ _).alloc (Nat.le_refl _) _⟩
set_option maxRecDepth 100000 in
theorem size_any (a b : Int) (w : World) : Calls Try.prog 73 #[.int .i64 a, .int .i64 b] w fun e w' => e = .returned (.bool (decide (1 ≤ a ∧ a ≤ 500 ∧ 1 ≤ b ∧ b ≤ 500))) ∧ w = w' := by
  obtain ⟨z, hz⟩ : ∃ z, z = decide (1 ≤ a ∧ a ≤ 500 ∧ 1 ≤ b ∧ b ≤ 500) := ⟨_, rfl⟩
  rw [← hz]
  have HZ := Lib.hid hz
  clear hz
  go_enter Try.func73, Try.ntmps73
  go_wp2
  all_goals go_ret
  all_goals exact ⟨ret_bool (by rw [HZ.out]; first | (symm; simp; omega) | (simp; omega) | simp [*]), rfl⟩
set_option maxRecDepth 100000 in
theorem made_any {W : World} {p q w h : Nat} {L : List GC} (g : GridAt W p q w h L) : Calls Try.prog 75 #[.pointer (some ⟨p, 0, none⟩)] W fun e w' => e = .returned (.bool true) ∧ W = w' := by
  obtain ⟨c0, c1, c2⟩ := g.cells
  have := g.w1
  go_enter Try.func75, Try.ntmps75
  go_wp2
  go_ret
  exact ⟨ret_bool (by simp; omega), rfl⟩
set_option maxRecDepth 100000 in
theorem line_any {W : World} {p q w h : Nat} {L : List GC} (g : GridAt W p q w h L) (r : Int) (h0 : 0 ≤ r) (h1 : r < h) (k : Nat) (hk : k = w * r.toNat) :
   Calls Try.prog 81 #[.pointer (some ⟨p, 0, none⟩), .int .i64 r] W fun e w' => e = .returned (.slice (some ⟨q, k * 7, none⟩) w (w * h - k)) ∧ Below W.heap.size W w' := by
  obtain ⟨c0, c1, c2⟩ := g.cells
  have hw1 := g.w1
  have hw2 := g.w2
  have hh2 := g.h2
  obtain ⟨n, hn⟩ : ∃ n, n = w * h := ⟨_, rfl⟩
  rw [← hn] at c2 ⊢
  obtain ⟨e, he⟩ : ∃ e, e = k + w := ⟨_, rfl⟩
  have hkn : k + w ≤ n := by
    obtain ⟨r', rfl⟩ := Int.eq_ofNat_of_zero_le h0
    simp only [Int.toNat_natCast] at hk
    have : r' + 1 ≤ h := by omega
    have := Nat.mul_le_mul_left w this
    rw [hk, hn]; rw [Nat.mul_add, Nat.mul_one] at this; exact this
  have hnb : n ≤ 250000 := by rw [hn]; exact Nat.mul_le_mul g.w2 g.h2
  have hr : r * (w : Int) = (k : Int) := by
    obtain ⟨r', rfl⟩ := Int.eq_ofNat_of_zero_le h0
    simp only [Int.toNat_natCast] at hk
    rw [hk, Int.natCast_mul, Int.mul_comm]
  have hr1 : (r + 1) * (w : Int) = (e : Int) := by rw [Int.add_mul, hr, he]; omega
  have m1 : IntKind.i64.wrap (r * (w : Int)) = (k : Int) := by rw [hr, IntKind.wrap_i64]; omega
  have m2 : IntKind.i64.wrap (r + 1) = r + 1 := by rw [IntKind.wrap_i64]; omega
  have m3 : IntKind.i64.wrap ((r + 1) * (w : Int)) = (e : Int) := by rw [hr1, IntKind.wrap_i64]; omega
  have l1 : k ≤ e := by omega
  have l2 : e ≤ n := by omega
  have l3 : k < n := by omega
  have l4 : k ≠ n := by omega
  have HK := Lib.hid hk
  have HN := Lib.hid hn
  have HE := Lib.hid he
  clear hr hr1 hk hn he
  go_enter Try.func81, Try.ntmps81
  go_wp2
  refine wp_region_still_lit (by kernel_rfl) (by kernel_rfl) ?_
  repeat still_step
  refine wpStill_nil ?_
  go_wp2
  go_ret
  refine ⟨?_, ⟨rfl, rfl, rfl, Nat.le_refl _, fun _ _ => rfl⟩⟩
  have e1 : e - k = w := by have := HE.out; omega
  show Ending.returned (.slice (some ⟨q, k * 7, none⟩) (e - k) (n - k)) = _
  rw [e1]
set_option maxRecDepth 100000 in
theorem there_any {W : World} {p q w h : Nat} {L : List GC} (g : GridAt W p q w h L) (r c : Int) : Calls Try.prog 80 #[.pointer (some ⟨p, 0, none⟩), .int .i64 r, .int .i64 c] W fun e w' => e = .returned (.bool (decide (0 ≤ r ∧ r < h ∧ 0 ≤ c ∧ c < w))) ∧ W = w' := by
  obtain ⟨c0, c1, c2⟩ := g.cells
  obtain ⟨z, hz⟩ : ∃ z, z = decide (0 ≤ r ∧ r < h ∧ 0 ≤ c ∧ c < w) := ⟨_, rfl⟩
  rw [← hz]
  have HZ := Lib.hid hz
  clear hz
  go_enter Try.func80, Try.ntmps80
  go_wp2
  all_goals go_ret
  all_goals exact ⟨ret_bool (by rw [HZ.out]; first | (symm; simp; omega) | (simp; omega) | simp [*]), rfl⟩
/-- What a wipe makes of the cells L, in the line of n cells that begins at o. -/
def wipeL (L : List GC) (o n c : Nat) : List GC :=
  let w := (nth GC.zero L (o + c)).w
  let L1 := L.set (o + c) GC.blank
  if w = 2 ∧ c + 1 < n then L1.set (o + (c + 1)) GC.blank else if w = 0 ∧ 0 < c then L1.set (o + (c - 1)) GC.blank else L1
theorem wipeL_length (L : List GC) (o n c : Nat) : (wipeL L o n c).length = L.length := by
  unfold wipeL; dsimp only; split
  · simp
  · split <;> simp
set_option maxRecDepth 100000 in
set_option maxHeartbeats 1000000 in
theorem wipe_any {W : World} {q : Nat} {L : List GC} (hb : GBlk W q L) (o n m : Nat) (hon : o + n ≤ L.length) (hn : n ≤ 500) (col : Int) (h0 : 0 ≤ col) (h1 : col < n) :
    Calls Try.prog 82 #[.slice (some ⟨q, o * 7, none⟩) n m, .int .i64 col] W fun e w' => e = .returned (.tuple #[]) ∧ GBlk w' q (wipeL L o n col.toNat) ∧ Only [q] W w' := by
  obtain ⟨c, rfl⟩ := Int.eq_ofNat_of_zero_le h0
  have hc : c < n := by omega
  simp only [Int.toNat_natCast]
  obtain ⟨C, hC⟩ : ∃ C, L[o + c]? = some C := ⟨_, List.getElem?_eq_getElem (by omega)⟩
  have hw : W.cell? ⟨q, o * 7 + c * 7 + 1, none⟩ = some (.int .i64 C.w) := by
    have := hb.range1 hC 1 _ rfl
    rw [show o * 7 + c * 7 + 1 = 7 * (o + c) + 1 by omega]; exact this
  have hnth : (nth GC.zero L (o + c)).w = C.w := by rw [nth_eq _ _ _ (by omega)]; rw [(List.getElem?_eq_some_iff.1 hC).2]
  have HW : Hid (wipeL L o n c = (if C.w = 2 ∧ c + 1 < n then (L.set (o + c) GC.blank).set (o + (c + 1)) GC.blank else if C.w = 0 ∧ 0 < c then (L.set (o + c) GC.blank).set (o + (c - 1)) GC.blank else L.set (o + c) GC.blank)) := by
    unfold wipeL; rw [hnth]; rfl
  obtain ⟨x, hx⟩ : ∃ x, x = C.w := ⟨_, rfl⟩
  rw [← hx] at hw HW
  clear hx hnth hC
  obtain ⟨R, hR⟩ : ∃ R, R = wipeL L o n c := ⟨_, rfl⟩
  rw [← hR] at HW ⊢
  clear hR
  go_enter Try.func82, Try.ntmps82
  go_wp2_with fail
  refine (blank_any _).mono ?_
  rintro e w1 ⟨rfl, hb1⟩
  have b1 : GBlk w1 q L := hb.only (Only.of_below (S := []) hb1) (by simp)
  have o1 : Only [q] W w1 := Only.of_below hb1
  clear hb hw hb1
  by_cases hA : x = 2 ∧ c + 1 < n
  · obtain ⟨rfl, hA2⟩ := hA
    rw [if_pos ⟨rfl, hA2⟩] at HW
    have hA3 : (c : Int) + 1 < n := by omega
    go_wp2_with (refine wpList_gstore rfl _ _ rfl q _ rfl GC.blank rfl _ (by assumption) (o + c) (by omega) (by omega) ?_; intro w2 b2 o2; clear b1)
    refine (blank_any _).mono ?_
    rintro e w3 ⟨rfl, hb3⟩
    have b3 := b2.only (Only.of_below (S := []) hb3) (by simp)
    have o3 : Only [q] W w3 := (o1.trans o2).trans (Only.of_below hb3)
    clear b2 o2 o1 hb3
    go_wp2_with (refine wpList_gstore rfl _ _ rfl q _ rfl GC.blank rfl _ (by assumption) (o + (c + 1)) (by omega) (by simp; omega) ?_; intro w4 b4 o4)
    go_end0
    exact ⟨rfl, by rw [HW.out]; exact b4, o3.trans o4⟩
  · rw [if_neg hA] at HW
    by_cases hB : x = 0 ∧ 0 < c
    · obtain ⟨rfl, hB2⟩ := hB
      rw [if_pos ⟨rfl, hB2⟩] at HW
      have hB3 : (0 : Int) < (c : Int) := by omega
      obtain ⟨d, hd⟩ : ∃ d, d = c - 1 := ⟨_, rfl⟩
      have HD := Lib.hid hd
      have hB4 : (c : Int) - 1 = (d : Int) := by omega
      rw [← hd] at HW
      clear hd
      go_wp2_with (refine wpList_gstore rfl _ _ rfl q _ rfl GC.blank rfl _ (by assumption) (o + c) (by omega) (by omega) ?_; intro w2 b2 o2; clear b1)
      refine (blank_any _).mono ?_
      rintro e w3 ⟨rfl, hb3⟩
      have b3 := b2.only (Only.of_below (S := []) hb3) (by simp)
      have o3 : Only [q] W w3 := (o1.trans o2).trans (Only.of_below hb3)
      clear b2 o2 o1 hb3
      have hdn : d < n := by have := HD.out; omega
      go_wp2_with (refine wpList_gstore rfl _ _ rfl q _ rfl GC.blank rfl _ (by assumption) (o + d) (by omega) (by simp; omega) ?_; intro w4 b4 o4)
      go_end0
      exact ⟨rfl, by rw [HW.out]; exact b4, o3.trans o4⟩
    · rw [if_neg hB] at HW
      have hB2 : c = 0 ∨ ¬ x = 0 := by omega
      go_wp2_with (refine wpList_gstore rfl _ _ rfl q _ rfl GC.blank rfl _ (by assumption) (o + c) (by omega) (by omega) ?_; intro w2 b2 o2; clear b1)
      all_goals first | (exfalso; omega) | skip
      all_goals go_end0
      all_goals exact ⟨rfl, by rw [HW.out]; exact b2, o1.trans o2⟩
end Go.Proofs.Ytnakgjcmepimiaa
