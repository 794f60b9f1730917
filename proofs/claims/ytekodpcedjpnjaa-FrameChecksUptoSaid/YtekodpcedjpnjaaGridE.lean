/- The grid's small functions: blank, size, made, there, line, wipe. blanks, New, Size, Cell, Row. Cell, Row. Put. Put where it refuses; Join. Join. Erase. Put and erase: what they make of a grid's cells; the cells' strings stay short. No condition. -/
import Derived.Test.YtekodpcedjpnjaaGMath
namespace Go.Proofs.Ytekodpcedjpnjaa
set_option linter.unusedVariables false
set_option linter.unusedSimpArgs false
open Go.RowKit
structure GridAt (W : World) (p q : Nat) (w h : Nat) (L : List GC) : Prop where
  head : W.heap[p]? = some (.cells #[.int .i64 w, .int .i64 h, .slice (some ⟨q, 0, none⟩) (w * h) (w * h)] 92 (0, 0))
  blk : GBlk W q L
  ne : p ≠ q
  len : L.length = w * h
  w1 : 1 ≤ w
  w2 : w ≤ 500
  h1 : 1 ≤ h
  h2 : h ≤ 500
theorem GridAt.cells {W : World} {p q w h : Nat} {L : List GC} (g : GridAt W p q w h L) : W.cell? ⟨p, 0, none⟩ = some (.int .i64 w) ∧ W.cell? ⟨p, 1, none⟩ = some (.int .i64 h) ∧ W.cell? ⟨p, 2, none⟩ = some (.slice (some ⟨q, 0, none⟩) (w * h) (w * h)) := by
  refine ⟨?_, ?_, ?_⟩ <;> rw [cell_of_row W p _ _ _ _ g.head] <;> rfl
theorem GridAt.only {W W' : World} {p q w h : Nat} {L : List GC} {S : List Nat} (g : GridAt W p q w h L) (ho : Only S W W') (hp : p ∉ S) (hq : q ∉ S) : GridAt W' p q w h L :=
  { g with head := ho.heap g.head hp, blk := g.blk.only ho hq }
set_option maxRecDepth 100000 in
theorem blank_any (w : World) : Calls Try.prog 87 #[] w fun e w' => e = .returned (.agg #[.string ⟨#[32]⟩, .int .i64 1, .bool false, .bool false, .bool false, .int .i64 0, .int .i64 0]) ∧ Below w.heap.size w w' := by
  go_enter Try.func87, Try.ntmps87
  go_wp2
  refine bodyPost_ret (results_cell_row rfl _ _ w.heap.size 70 _ (0, 0) _ rfl (World.alloc_heap_new w _) Try.underlying70 rfl (by kernel_rfl)) rfl ?_
  exact ⟨rfl, (Below.refl _ _).alloc (Nat.le_refl _) _⟩
set_option maxRecDepth 100000 in
theorem size_any (a b : Int) (w : World) : Calls Try.prog 47 #[.int .i64 a, .int .i64 b] w fun e w' => e = .returned (.bool (decide (1 ≤ a ∧ a ≤ 500 ∧ 1 ≤ b ∧ b ≤ 500))) ∧ w = w' := by
  obtain ⟨z, hz⟩ : ∃ z, z = decide (1 ≤ a ∧ a ≤ 500 ∧ 1 ≤ b ∧ b ≤ 500) := ⟨_, rfl⟩
  rw [← hz]
  have HZ := Lib.hid hz
  clear hz
  go_enter Try.func47, Try.ntmps47
  go_wp2
  all_goals go_ret
  all_goals exact ⟨ret_bool (by rw [HZ.out]; first | (symm; simp; omega) | (simp; omega) | simp [*]), rfl⟩
set_option maxRecDepth 100000 in
theorem made_any {W : World} {p q w h : Nat} {L : List GC} (g : GridAt W p q w h L) : Calls Try.prog 53 #[.pointer (some ⟨p, 0, none⟩)] W fun e w' => e = .returned (.bool true) ∧ W = w' := by
  obtain ⟨c0, c1, c2⟩ := g.cells
  have := g.w1
  go_enter Try.func53, Try.ntmps53
  go_wp2
  go_ret
  exact ⟨ret_bool (by simp; omega), rfl⟩
set_option maxRecDepth 100000 in
theorem line_any {W : World} {p q w h : Nat} {L : List GC} (g : GridAt W p q w h L) (r : Int) (h0 : 0 ≤ r) (h1 : r < h) (k : Nat) (hk : k = w * r.toNat) :
   Calls Try.prog 55 #[.pointer (some ⟨p, 0, none⟩), .int .i64 r] W fun e w' => e = .returned (.slice (some ⟨q, k * 7, none⟩) w (w * h - k)) ∧ Below W.heap.size W w' := by
  obtain ⟨c0, c1, c2⟩ := g.cells
  have hw1 := g.w1
  have hw2 := g.w2
  have hh2 := g.h2
  obtain ⟨n, hn⟩ : ∃ n, n = w * h := ⟨_, rfl⟩
  rw [← hn] at c2 ⊢
  obtain ⟨e, he⟩ : ∃ e, e = k + w := ⟨_, rfl⟩
  have hkn : k + w ≤ n := by
    obtain ⟨r', rfl⟩ := Int.eq_ofNat_of_zero_le h0
    simp only [Int.toNat_natCast] at hk
    have : r' + 1 ≤ h := by omega
    have := Nat.mul_le_mul_left w this
    rw [hk, hn]; rw [Nat.mul_add, Nat.mul_one] at this; exact this
  have hnb : n ≤ 250000 := by rw [hn]; exact Nat.mul_le_mul g.w2 g.h2
  have hr : r * (w : Int) = (k : Int) := by
    obtain ⟨r', rfl⟩ := Int.eq_ofNat_of_zero_le h0
    simp only [Int.toNat_natCast] at hk
    rw [hk, Int.natCast_mul, Int.mul_comm]
  have hr1 : (r + 1) * (w : Int) = (e : Int) := by rw [Int.add_mul, hr, he]; omega
  have m1 : IntKind.i64.wrap (r * (w : Int)) = (k : Int) := by rw [hr, IntKind.wrap_i64]; omega
  have m2 : IntKind.i64.wrap (r + 1) = r + 1 := by rw [IntKind.wrap_i64]; omega
  have m3 : IntKind.i64.wrap ((r + 1) * (w : Int)) = (e : Int) := by rw [hr1, IntKind.wrap_i64]; omega
  have l1 : k ≤ e := by omega
  have l2 : e ≤ n := by omega
  have l3 : k < n := by omega
  have l4 : k ≠ n := by omega
  have HK := Lib.hid hk
  have HN := Lib.hid hn
  have HE := Lib.hid he
  clear hr hr1 hk hn he
  go_enter Try.func55, Try.ntmps55
  go_wp2
  refine wp_region_still_lit (by kernel_rfl) (by kernel_rfl) ?_
  repeat still_step
  refine wpStill_nil ?_
  go_wp2
  go_ret
  refine ⟨?_, ⟨rfl, rfl, rfl, Nat.le_refl _, fun _ _ => rfl⟩⟩
  have e1 : e - k = w := by have := HE.out; omega
  show Ending.returned (.slice (some ⟨q, k * 7, none⟩) (e - k) (n - k)) = _
  rw [e1]
set_option maxRecDepth 100000 in
theorem there_any {W : World} {p q w h : Nat} {L : List GC} (g : GridAt W p q w h L) (r c : Int) : Calls Try.prog 56 #[.pointer (some ⟨p, 0, none⟩), .int .i64 r, .int .i64 c] W fun e w' => e = .returned (.bool (decide (0 ≤ r ∧ r < h ∧ 0 ≤ c ∧ c < w))) ∧ W = w' := by
  obtain ⟨c0, c1, c2⟩ := g.cells
  obtain ⟨z, hz⟩ : ∃ z, z = decide (0 ≤ r ∧ r < h ∧ 0 ≤ c ∧ c < w) := ⟨_, rfl⟩
  rw [← hz]
  have HZ := Lib.hid hz
  clear hz
  go_enter Try.func56, Try.ntmps56
  go_wp2
  all_goals go_ret
  all_goals exact ⟨ret_bool (by rw [HZ.out]; first | (symm; simp; omega) | (simp; omega) | simp [*]), rfl⟩
/-- What a wipe makes of the cells L, in the line of n cells that begins at o. -/
def wipeL (L : List GC) (o n c : Nat) : List GC :=
  let w := (nth GC.zero L (o + c)).w
  let L1 := L.set (o + c) GC.blank
  if w = 2 ∧ c + 1 < n then L1.set (o + (c + 1)) GC.blank else if w = 0 ∧ 0 < c then L1.set (o + (c - 1)) GC.blank else L1
theorem wipeL_length (L : List GC) (o n c : Nat) : (wipeL L o n c).length = L.length := by
  unfold wipeL; dsimp only; split
  · simp
  · split <;> simp
set_option maxRecDepth 100000 in
set_option maxHeartbeats 1000000 in
theorem wipe_any {W : World} {q : Nat} {L : List GC} (hb : GBlk W q L) (o n m : Nat) (hon : o + n ≤ L.length) (hn : n ≤ 500) (col : Int) (h0 : 0 ≤ col) (h1 : col < n) :
    Calls Try.prog 57 #[.slice (some ⟨q, o * 7, none⟩) n m, .int .i64 col] W fun e w' => e = .returned (.tuple #[]) ∧ GBlk w' q (wipeL L o n col.toNat) ∧ Only [q] W w' := by
  obtain ⟨c, rfl⟩ := Int.eq_ofNat_of_zero_le h0
  have hc : c < n := by omega
  simp only [Int.toNat_natCast]
  obtain ⟨C, hC⟩ : ∃ C, L[o + c]? = some C := ⟨_, List.getElem?_eq_getElem (by omega)⟩
  have hw : W.cell? ⟨q, o * 7 + c * 7 + 1, none⟩ = some (.int .i64 C.w) := by
    have := hb.range1 hC 1 _ rfl
    rw [show o * 7 + c * 7 + 1 = 7 * (o + c) + 1 by omega]; exact this
  have hnth : (nth GC.zero L (o + c)).w = C.w := by rw [nth_eq _ _ _ (by omega)]; rw [(List.getElem?_eq_some_iff.1 hC).2]
  have HW : Hid (wipeL L o n c = (if C.w = 2 ∧ c + 1 < n then (L.set (o + c) GC.blank).set (o + (c + 1)) GC.blank else if C.w = 0 ∧ 0 < c then (L.set (o + c) GC.blank).set (o + (c - 1)) GC.blank else L.set (o + c) GC.blank)) := by
    unfold wipeL; rw [hnth]; rfl
  obtain ⟨x, hx⟩ : ∃ x, x = C.w := ⟨_, rfl⟩
  rw [← hx] at hw HW
  clear hx hnth hC
  obtain ⟨R, hR⟩ : ∃ R, R = wipeL L o n c := ⟨_, rfl⟩
  rw [← hR] at HW ⊢
  clear hR
  go_enter Try.func57, Try.ntmps57
  go_wp2_with fail
  refine (blank_any _).mono ?_
  rintro e w1 ⟨rfl, hb1⟩
  have b1 : GBlk w1 q L := hb.only (Only.of_below (S := []) hb1) (by simp)
  have o1 : Only [q] W w1 := Only.of_below hb1
  clear hb hw hb1
  by_cases hA : x = 2 ∧ c + 1 < n
  · obtain ⟨rfl, hA2⟩ := hA
    rw [if_pos ⟨rfl, hA2⟩] at HW
    have hA3 : (c : Int) + 1 < n := by omega
    go_wp2_with (refine wpList_gstore rfl _ _ rfl q _ rfl GC.blank rfl _ (by assumption) (o + c) (by omega) (by omega) ?_; intro w2 b2 o2; clear b1)
    refine (blank_any _).mono ?_
    rintro e w3 ⟨rfl, hb3⟩
    have b3 := b2.only (Only.of_below (S := []) hb3) (by simp)
    have o3 : Only [q] W w3 := (o1.trans o2).trans (Only.of_below hb3)
    clear b2 o2 o1 hb3
    go_wp2_with (refine wpList_gstore rfl _ _ rfl q _ rfl GC.blank rfl _ (by assumption) (o + (c + 1)) (by omega) (by simp; omega) ?_; intro w4 b4 o4)
    go_end0
    exact ⟨rfl, by rw [HW.out]; exact b4, o3.trans o4⟩
  · rw [if_neg hA] at HW
    by_cases hB : x = 0 ∧ 0 < c
    · obtain ⟨rfl, hB2⟩ := hB
      rw [if_pos ⟨rfl, hB2⟩] at HW
      have hB3 : (0 : Int) < (c : Int) := by omega
      obtain ⟨d, hd⟩ : ∃ d, d = c - 1 := ⟨_, rfl⟩
      have HD := Lib.hid hd
      have hB4 : (c : Int) - 1 = (d : Int) := by omega
      rw [← hd] at HW
      clear hd
      go_wp2_with (refine wpList_gstore rfl _ _ rfl q _ rfl GC.blank rfl _ (by assumption) (o + c) (by omega) (by omega) ?_; intro w2 b2 o2; clear b1)
      refine (blank_any _).mono ?_
      rintro e w3 ⟨rfl, hb3⟩
      have b3 := b2.only (Only.of_below (S := []) hb3) (by simp)
      have o3 : Only [q] W w3 := (o1.trans o2).trans (Only.of_below hb3)
      clear b2 o2 o1 hb3
      have hdn : d < n := by have := HD.out; omega
      go_wp2_with (refine wpList_gstore rfl _ _ rfl q _ rfl GC.blank rfl _ (by assumption) (o + d) (by omega) (by simp; omega) ?_; intro w4 b4 o4)
      go_end0
      exact ⟨rfl, by rw [HW.out]; exact b4, o3.trans o4⟩
    · rw [if_neg hB] at HW
      have hB2 : c = 0 ∨ ¬ x = 0 := by omega
      go_wp2_with (refine wpList_gstore rfl _ _ rfl q _ rfl GC.blank rfl _ (by assumption) (o + c) (by omega) (by omega) ?_; intro w2 b2 o2; clear b1)
      all_goals first | (exfalso; omega) | skip
      all_goals go_end0
      all_goals exact ⟨rfl, by rw [HW.out]; exact b2, o1.trans o2⟩
end Go.Proofs.Ytekodpcedjpnjaa
namespace Go.Proofs.Ytekodpcedjpnjaa
set_option linter.unusedVariables false
set_option linter.unusedSimpArgs false
open Go.RowKit
def half (n k : Nat) : List GC := List.replicate k GC.blank ++ List.replicate (n - k) GC.zero
theorem half_zero (n : Nat) : half n 0 = List.replicate n GC.zero := by simp [half]
theorem half_full (n : Nat) : half n n = List.replicate n GC.blank := by simp [half]
theorem half_length {n k : Nat} (h : k ≤ n) : (half n k).length = n := by simp [half]; omega
theorem half_set {n k : Nat} (h : k < n) : (half n k).set k GC.blank = half n (k + 1) := by
  unfold half
  rw [List.set_append_right _ _ (by simp), List.length_replicate, Nat.sub_self, show n - k = (n - (k + 1)) + 1 by omega, List.replicate_succ, List.set_cons_zero, List.replicate_succ', List.append_assoc]
  rfl
set_option maxRecDepth 100000 in
set_option maxHeartbeats 1000000 in
theorem blanks_any (m : Int) (h0 : 0 ≤ m) (h1 : m ≤ 250000) (W : World) :
    Calls Try.prog 48 #[.int .i64 m] W fun e w' => e = .returned (.slice (some ⟨W.heap.size, 0, none⟩) m.toNat m.toNat) ∧ GBlk w' W.heap.size (List.replicate m.toNat GC.blank) ∧ Below W.heap.size W w' := by
  obtain ⟨n, rfl⟩ := Int.eq_ofNat_of_zero_le h0
  simp only [Int.toNat_natCast]
  have hn : n ≤ 250000 := by omega
  have hmk := run_gmake W n (by omega)
  rw [← half_zero] at hmk
  have b0 : GBlk (W.alloc (.cells (flatV (half n 0)).toArray 70)) W.heap.size (half n 0) := GBlk.made W _
  have l0 : Below W.heap.size W (W.alloc (.cells (flatV (half n 0)).toArray 70)) := (Below.refl _ _).alloc (Nat.le_refl _) _
  have hs0 : W.heap.size < (W.alloc (.cells (flatV (half n 0)).toArray 70)).heap.size := by simp
  go_enter Try.func48, Try.ntmps48
  go_wp2
  go_loopw [9] (fun i wr => ∃ k : Nat, k ≤ n ∧ i = .int .i64 k ∧ GBlk wr W.heap.size (half n k) ∧ Below W.heap.size W wr) (fun i _ => n - (intOf i).toNat)
  case atStart => exact ⟨0, by omega, rfl, b0, l0⟩
  case round =>
    obtain ⟨k, hk, rfl, hb, hl⟩ := hrel
    clear b0 l0 hs0 hmk
    by_cases hlt : k < n
    · have hlen := half_length (Nat.le_of_lt hlt)
      go_wp2_with (first
        | (go_at_call 87; refine (blank_any _).mono ?_; rintro e w1 ⟨rfl, hb1⟩; have b1 := hb.only (Only.of_below (S := []) hb1) (by simp); have l1 := bto hl hb1 hl.size; clear hb hl hb1)
        | (refine wpList_gstore rfl _ _ rfl W.heap.size _ rfl GC.blank rfl _ (by assumption) k (by omega) (by omega) ?_; intro w2 b2 o2))
      refine ⟨⟨k + 1, by omega, by go_num, by rw [← half_set hlt]; exact b2, l1.trans (o2.below (by simp) l1.size)⟩, by simp [intOf]; omega⟩
    · obtain rfl : k = n := by omega
      rw [half_full] at hb
      go_wp2
      go_ret
      exact ⟨rfl, hb, hl⟩
theorem New_size (a b : Int) : (decide (1 ≤ a ∧ a ≤ 500 ∧ 1 ≤ b ∧ b ≤ 500)) = true ↔ (1 ≤ a ∧ a ≤ 500 ∧ 1 ≤ b ∧ b ≤ 500) := by simp
set_option maxRecDepth 100000 in
set_option maxHeartbeats 1000000 in
theorem new_ok (a b : Int) (h : 1 ≤ a ∧ a ≤ 500 ∧ 1 ≤ b ∧ b ≤ 500) (W : World) :
    Calls Try.prog 7 #[.int .i64 a, .int .i64 b] W fun e w' => ∃ p, e = .returned (.tuple #[.pointer (some ⟨p, 0, none⟩), .int .i64 0]) ∧ W.heap.size ≤ p ∧ GridAt w' p W.heap.size a.toNat b.toNat (List.replicate (a.toNat * b.toNat) GC.blank) ∧ Below W.heap.size W w' := by
  have hz : decide (1 ≤ a ∧ a ≤ 500 ∧ 1 ≤ b ∧ b ≤ 500) = true := (New_size a b).2 h
  obtain ⟨x, rfl⟩ := Int.eq_ofNat_of_zero_le (show 0 ≤ a by omega)
  obtain ⟨y, rfl⟩ := Int.eq_ofNat_of_zero_le (show 0 ≤ b by omega)
  obtain ⟨h1, h2, h3, h4⟩ := h
  have hxy : x * y ≤ 500 * 500 := Nat.mul_le_mul (by omega) (by omega)
  obtain ⟨n, hn⟩ : ∃ n, n = x * y := ⟨_, rfl⟩
  have hni : (x : Int) * (y : Int) = (n : Int) := by rw [hn, Int.natCast_mul]
  have cs := size_any (x : Int) (y : Int) W
  rw [hz] at cs
  have CS := Lib.hid cs
  have hnb : (n : Int) ≤ 250000 := by omega
  have hm : IntKind.i64.wrap ((x : Int) * (y : Int)) = (n : Int) := by rw [hni, IntKind.wrap_i64]; omega
  have cb := blanks_any (n : Int) (by omega) hnb W
  simp only [Int.toNat_natCast] at cb ⊢
  have CB := Lib.hid cb
  rw [← hn]
  have HN := Lib.hid hn
  clear hn hxy cb cs hz
  go_enter Try.func7, Try.ntmps7
  go_wp2_with (first
    | (go_at_call 47; refine (CS.out).mono ?_; rintro e w1 ⟨rfl, rfl⟩)
    | (go_at_call 48; refine (CB.out).mono ?_; rintro e w1 ⟨rfl, hb1, hl1⟩))
  go_ret2
  have hh : (w1.alloc (.cells #[.int .i64 x, .int .i64 y, .slice (some ⟨W.heap.size, 0, none⟩) n n] 92)).heap[w1.heap.size]? = some (.cells #[.int .i64 x, .int .i64 y, .slice (some ⟨W.heap.size, 0, none⟩) n n] 92 (0, 0)) := World.alloc_heap_new w1 _
  have hlt := hb1.lt
  exact ⟨w1.heap.size, rfl, hl1.size, { head := (by rw [← HN.out]; exact hh), blk := hb1.alloc _, ne := (by omega), len := (by simp; exact HN.out), w1 := by omega, w2 := by omega, h1 := by omega, h2 := by omega }, hl1.alloc hl1.size _⟩
set_option maxRecDepth 100000 in
theorem new_bad (a b : Int) (h : ¬ (1 ≤ a ∧ a ≤ 500 ∧ 1 ≤ b ∧ b ≤ 500)) (W : World) :
    Calls Try.prog 7 #[.int .i64 a, .int .i64 b] W fun e w' => e = .returned (.tuple #[.pointer none, .int .i64 40]) ∧ W = w' := by
  have cs := size_any a b W
  rw [show decide (1 ≤ a ∧ a ≤ 500 ∧ 1 ≤ b ∧ b ≤ 500) = false by simpa using h] at cs
  have CS := Lib.hid cs
  clear cs
  go_enter Try.func7, Try.ntmps7
  go_wp2_with (go_at_call 47; refine (CS.out).mono ?_; rintro e w1 ⟨rfl, rfl⟩)
  go_ret2
  exact ⟨rfl, rfl⟩
set_option maxRecDepth 100000 in
theorem gsize_any {W : World} {p q w h : Nat} {L : List GC} (g : GridAt W p q w h L) : Calls Try.prog 66 #[.pointer (some ⟨p, 0, none⟩)] W fun e w' => e = .returned (.tuple #[.int .i64 w, .int .i64 h]) ∧ Below W.heap.size W w' := by
  obtain ⟨c0, c1, c2⟩ := g.cells
  have C := Lib.hid (made_any g)
  go_enter Try.func66, Try.ntmps66
  go_wp2_with (go_at_call 53; refine (C.out).mono ?_; rintro e w1 ⟨rfl, rfl⟩)
  refine wp_region_still_lit (by kernel_rfl) (by kernel_rfl) ?_
  repeat still_step
  refine wpStill_nil ?_
  go_wp2
  go_ret2
  exact ⟨rfl, ⟨rfl, rfl, rfl, Nat.le_refl _, fun _ _ => rfl⟩⟩
end Go.Proofs.Ytekodpcedjpnjaa
namespace Go.Proofs.Ytekodpcedjpnjaa
set_option linter.unusedVariables false
set_option linter.unusedSimpArgs false
open Go.RowKit
/-- The cells of a row. -/
def lineL (L : List GC) (w r : Nat) : List GC := (L.drop (w * r)).take w
theorem place_lt {w h r c : Nat} (hr : r < h) (hc : c < w) : w * r + c < w * h := by
  have : w * (r + 1) ≤ w * h := Nat.mul_le_mul_left w hr
  rw [Nat.mul_add, Nat.mul_one] at this
  omega
theorem line_le {w h r : Nat} (hr : r < h) : w * r + w ≤ w * h := by
  have : w * (r + 1) ≤ w * h := Nat.mul_le_mul_left w hr
  rw [Nat.mul_add, Nat.mul_one] at this
  omega
theorem lineL_length {L : List GC} {w h r : Nat} (hl : L.length = w * h) (hr : r < h) : (lineL L w r).length = w := by
  have := line_le (w := w) hr
  simp [lineL]; omega
set_option maxRecDepth 100000 in
set_option maxHeartbeats 1000000 in
theorem cell_ok {W : World} {p q w h : Nat} {L : List GC} (g : GridAt W p q w h L) (r c : Int) (hr0 : 0 ≤ r) (hr1 : r < h) (hc0 : 0 ≤ c) (hc1 : c < w) :
    Calls Try.prog 51 #[.pointer (some ⟨p, 0, none⟩), .int .i64 r, .int .i64 c] W fun e w' => e = .returned (.tuple #[(nth GC.zero L (w * r.toNat + c.toNat)).v, .bool true]) ∧ Below W.heap.size W w' := by
  obtain ⟨k, hk⟩ : ∃ k, k = w * r.toNat := ⟨_, rfl⟩
  obtain ⟨m, rfl⟩ := Int.eq_ofNat_of_zero_le hc0
  have hlt : k + m < L.length := by rw [g.len, hk]; exact place_lt (by omega) (by omega)
  obtain ⟨C, hC⟩ : ∃ C, C = nth GC.zero L (k + m) := ⟨_, rfl⟩
  have hCi : L[k + m]? = some C := by rw [hC, nth_eq _ _ _ hlt, List.getElem?_eq_getElem hlt]
  simp only [Int.toNat_natCast]
  rw [← hk, ← hC]
  have o1 : Only [] W (W.alloc (.cells #[.string ⟨#[]⟩, .int .i64 0, .bool false, .bool false, .bool false, .int .i64 0, .int .i64 0] 70)) := (Only.refl _ _).alloc _
  have b1 : GBlk (W.alloc (.cells #[.string ⟨#[]⟩, .int .i64 0, .bool false, .bool false, .bool false, .int .i64 0, .int .i64 0] 70)) W.heap.size [GC.zero] := GBlk.made W [GC.zero]
  have g1 := g.only o1 (by simp) (by simp)
  have hs := o1.size
  generalize hW1 : W.alloc (.cells #[.string ⟨#[]⟩, .int .i64 0, .bool false, .bool false, .bool false, .int .i64 0, .int .i64 0] 70) = W1 at o1 b1 g1 hs
  have HK := Lib.hid hk
  have CM := Lib.hid (made_any g1)
  have ct := there_any g1 r (m : Int)
  rw [show decide (0 ≤ r ∧ r < (h : Int) ∧ 0 ≤ (m : Int) ∧ (m : Int) < (w : Int)) = true by simp; omega] at ct
  have CT := Lib.hid ct
  have CL := Lib.hid (line_any g1 r hr0 hr1 k hk)
  have hcw : m < w := by omega
  clear ct hk hC
  have HC := Lib.hid hCi
  clear hCi
  go_enter Try.func51, Try.ntmps51
  go_wp2_with (first
    | (go_at_call 53; refine (CM.out).mono ?_; rintro e w1 ⟨rfl, rfl⟩)
    | (go_at_call 56; refine (CT.out).mono ?_; rintro e w1 ⟨rfl, rfl⟩)
    | (go_at_call 55; refine (CL.out).mono ?_; rintro e w2 ⟨rfl, hb2⟩; have b2 := b1.only (Only.of_below (S := []) hb2) (by simp); have r2 := (g1.blk.only (Only.of_below (S := []) hb2) (by simp)).range1 HC.out)
    | (refine wpList_gload rfl _ rfl q _ rfl C (by rw [show k * 7 + m * 7 = 7 * (k + m) by omega]; exact r2) ?_)
    | (refine wpList_gstore rfl _ _ rfl W.heap.size _ rfl C rfl _ b2 0 (by omega) (by simp) ?_; intro w3 b3 o3))
  (try simp only [Exit.inBlock, Exit.then])
  refine bodyPost_ret (results_gcell rfl _ _ W.heap.size 70 _ (0, 0) rfl b3 rfl) rfl ?_
  exact ⟨rfl, (((o1.trans (Only.of_below hb2)).mono (S' := [W.heap.size]) (by simp)).trans o3).below (by simp) (Nat.le_refl _)⟩
set_option maxRecDepth 100000 in
set_option maxHeartbeats 1000000 in
theorem cell_out {W : World} {p q w h : Nat} {L : List GC} (g : GridAt W p q w h L) (r c : Int) (hrc : ¬ (0 ≤ r ∧ r < h ∧ 0 ≤ c ∧ c < w)) :
    Calls Try.prog 51 #[.pointer (some ⟨p, 0, none⟩), .int .i64 r, .int .i64 c] W fun e w' => e = .returned (.tuple #[GC.zero.v, .bool false]) ∧ Below W.heap.size W w' := by
  have o1 : Only [] W (W.alloc (.cells #[.string ⟨#[]⟩, .int .i64 0, .bool false, .bool false, .bool false, .int .i64 0, .int .i64 0] 70)) := (Only.refl _ _).alloc _
  have b1 : GBlk (W.alloc (.cells #[.string ⟨#[]⟩, .int .i64 0, .bool false, .bool false, .bool false, .int .i64 0, .int .i64 0] 70)) W.heap.size [GC.zero] := GBlk.made W [GC.zero]
  have g1 := g.only o1 (by simp) (by simp)
  have hs := o1.size
  generalize hW1 : W.alloc (.cells #[.string ⟨#[]⟩, .int .i64 0, .bool false, .bool false, .bool false, .int .i64 0, .int .i64 0] 70) = W1 at o1 b1 g1 hs
  have CM := Lib.hid (made_any g1)
  have ct := there_any g1 r c
  rw [show decide (0 ≤ r ∧ r < (h : Int) ∧ 0 ≤ c ∧ c < (w : Int)) = false by simpa using hrc] at ct
  have CT := Lib.hid ct
  clear ct hrc
  go_enter Try.func51, Try.ntmps51
  go_wp2_with (first
    | (go_at_call 53; refine (CM.out).mono ?_; rintro e w1 ⟨rfl, rfl⟩)
    | (go_at_call 56; refine (CT.out).mono ?_; rintro e w1 ⟨rfl, rfl⟩)
    | (refine wpList_gstore rfl _ _ rfl W.heap.size _ rfl GC.zero rfl _ b1 0 (by omega) (by simp) ?_; intro w3 b3 o3))
  (try simp only [Exit.inBlock, Exit.then])
  refine bodyPost_ret (results_gcell rfl _ _ W.heap.size 70 _ (0, 0) rfl b3 rfl) rfl ?_
  exact ⟨rfl, ((o1.mono (S' := [W.heap.size]) (by simp)).trans o3).below (by simp) (Nat.le_refl _)⟩
set_option maxRecDepth 100000 in
set_option maxHeartbeats 1000000 in
theorem row_ok {W : World} {p q w h : Nat} {L : List GC} (g : GridAt W p q w h L) (r : Int) (hr0 : 0 ≤ r) (hr1 : r < h) :
    Calls Try.prog 18 #[.pointer (some ⟨p, 0, none⟩), .int .i64 r] W fun e w' => e = .returned (.slice (some ⟨W.heap.size, 0, none⟩) w w) ∧ GBlk w' W.heap.size (lineL L w r.toNat) ∧ Below W.heap.size W w' := by
  obtain ⟨k, hk⟩ : ∃ k, k = w * r.toNat := ⟨_, rfl⟩
  obtain ⟨M, hM⟩ : ∃ M, M = lineL L w r.toNat := ⟨_, rfl⟩
  have hMl : M.length = w := by rw [hM]; exact lineL_length g.len (by omega)
  have hMd : M = (L.drop k).take w := by rw [hM, hk]; rfl
  rw [← hM]
  obtain ⟨c0, c1, c2⟩ := g.cells
  have hmk := run_gmake W w (by have := g.w2; omega)
  obtain ⟨Z, hZ⟩ : ∃ Z, Z = List.replicate w GC.zero := ⟨_, rfl⟩
  have hZl : Z.length = w := by rw [hZ]; simp
  rw [← hZ] at hmk
  clear hZ
  have o1 : Only [] W (W.alloc (.cells (flatV Z).toArray 70)) := (Only.refl _ _).alloc _
  have b1 : GBlk (W.alloc (.cells (flatV Z).toArray 70)) W.heap.size Z := GBlk.made W Z
  have g1 := g.only o1 (by simp) (by simp)
  generalize hW1 : W.alloc (.cells (flatV Z).toArray 70) = W1 at o1 b1 g1 hmk
  have CM := Lib.hid (made_any g)
  have CL := Lib.hid (line_any g1 r hr0 hr1 k hk)
  have HM := Lib.hid hMd
  have HK := Lib.hid hk
  have hsp : splice Z 0 M = M := by unfold splice; simp; omega
  clear hk hM hMd hW1
  go_enter Try.func18, Try.ntmps18
  go_wp2_with (first
    | (go_at_call 53; refine (CM.out).mono ?_; rintro e w1 ⟨rfl, rfl⟩)
    | (go_at_call 55; refine (CL.out).mono ?_; rintro e w2 ⟨rfl, hb2⟩; have b2 := b1.only (Only.of_below (S := []) hb2) (by simp); have r2 := (g1.blk.only (Only.of_below (S := []) hb2) (by simp)).range k w)
    | (refine wpList_gcopy rfl _ _ rfl _ _ _ _ _ _ rfl rfl W.heap.size Z M 0 b2 (by rw [hMl]; simp) (fun _ => ⟨⟨_, rfl, by omega⟩, q, _, rfl, by rw [HM.out, show k * 7 = 7 * k by omega]; exact r2⟩) (by omega) ?_; intro w3 b3 o3))
  go_ret
  rw [hsp] at b3
  exact ⟨rfl, b3, (((o1.trans (Only.of_below hb2)).mono (S' := [W.heap.size]) (by simp)).trans o3).below (by simp) (Nat.le_refl _)⟩
set_option maxRecDepth 100000 in
theorem row_out {W : World} {p q w h : Nat} {L : List GC} (g : GridAt W p q w h L) (r : Int) (hr : ¬ (0 ≤ r ∧ r < h)) :
    Calls Try.prog 18 #[.pointer (some ⟨p, 0, none⟩), .int .i64 r] W fun e w' => e = .returned (.slice none 0 0) ∧ W = w' := by
  obtain ⟨c0, c1, c2⟩ := g.cells
  have CM := Lib.hid (made_any g)
  by_cases hr0 : r < 0
  · go_enter Try.func18, Try.ntmps18
    go_wp2_with (go_at_call 53; refine (CM.out).mono ?_; rintro e w1 ⟨rfl, rfl⟩)
    go_ret
    exact ⟨rfl, rfl⟩
  · have hr1 : ¬ r < h := fun h => hr ⟨by omega, h⟩
    have hr2 : (h : Int) ≤ r := by omega
    clear hr
    go_enter Try.func18, Try.ntmps18
    go_wp2_with (go_at_call 53; refine (CM.out).mono ?_; rintro e w1 ⟨rfl, rfl⟩)
    go_ret
    exact ⟨rfl, rfl⟩
end Go.Proofs.Ytekodpcedjpnjaa
namespace Go.Proofs.Ytekodpcedjpnjaa
set_option linter.unusedVariables false
set_option linter.unusedSimpArgs false
open Go.RowKit
theorem not_empty {s : ByteArray} (h : s ≠ ⟨#[]⟩) : s.toList.isEmpty = false := by
  rw [ByteArray.toList_eq, List.isEmpty_eq_false_iff]
  intro h2
  exact h (ByteArray.ext (Array.toList_inj.1 (by simpa using h2)))
def putErr (w h : Nat) (r c : Int) (s : ByteArray) (wd : Int) : Int :=
  if s = ⟨#[]⟩ ∨ 64 < s.size ∨ (wd ≠ 1 ∧ wd ≠ 2) then 1 else if ¬ (0 ≤ r ∧ r < h ∧ 0 ≤ c ∧ c < w) ∨ (wd = 2 ∧ ¬ c + 1 < w) then 5 else 0
def putL (L : List GC) (w k c : Nat) (s : ByteArray) (wd : Int) (y : Sy) : List GC :=
  if wd = 2 then ((wipeL (wipeL L k w c) k w (c + 1)).set (k + (c + 1)) ⟨⟨#[]⟩, 0, y⟩).set (k + c) ⟨s, wd, y⟩ else (wipeL L k w c).set (k + c) ⟨s, wd, y⟩
theorem putL_length (L : List GC) (w k c : Nat) (s : ByteArray) (wd : Int) (y : Sy) : (putL L w k c s wd y).length = L.length := by
  unfold putL; split <;> simp [wipeL_length]
theorem GridAt.step {W W' : World} {p q w h : Nat} {L L' : List GC} (g : GridAt W p q w h L) (ho : Only [q] W W') (hb : GBlk W' q L') (hl : L'.length = L.length) : GridAt W' p q w h L' :=
  { g with head := ho.heap g.head (by simp; exact g.ne), blk := hb, len := hl.trans g.len }
theorem SyBox.only {W W' : World} {r : Nat} {y : Sy} {S : List Nat} (h : SyBox W r y) (ho : Only S W W') (hr : r ∉ S) : SyBox W' r y := ho.heap h hr
theorem SyBox.lt {W : World} {r : Nat} {y : Sy} (h : SyBox W r y) : r < W.heap.size := (Array.getElem?_eq_some_iff.1 h).1
set_option maxRecDepth 100000 in
set_option maxHeartbeats 2000000 in
theorem put_ok1 {W : World} {p q w h : Nat} {L : List GC} (g : GridAt W p q w h L) (r c : Int) (s : ByteArray) (y : Sy) (hs0 : s ≠ ⟨#[]⟩) (hs1 : s.size ≤ 64)
    (hr0 : 0 ≤ r) (hr1 : r < h) (hc0 : 0 ≤ c) (hc1 : c < w) :
    Calls Try.prog 13 #[.pointer (some ⟨p, 0, none⟩), .int .i64 r, .int .i64 c, .string s, .int .i64 1, .agg #[.bool y.b, .bool y.u, .bool y.i, .int .i64 y.f, .int .i64 y.g]] W fun e w' =>
      e = .returned (.int .i64 0) ∧ GridAt w' p q w h (putL L w (w * r.toNat) c.toNat s 1 y) ∧ Only [q] W w' := by
  obtain ⟨k, hk⟩ : ∃ k, k = w * r.toNat := ⟨_, rfl⟩
  obtain ⟨m, rfl⟩ := Int.eq_ofNat_of_zero_le hc0
  have hmw : m < w := by omega
  have hlt : k + m < L.length := by rw [g.len, hk]; exact place_lt (by omega) (by omega)
  have hkw : k + w ≤ L.length := by rw [g.len, hk]; exact line_le (by omega)
  have hw5 := g.w2
  simp only [Int.toNat_natCast]
  rw [← hk]
  have hL : putL L w k m s 1 y = (wipeL L k w m).set (k + m) ⟨s, 1, y⟩ := by unfold putL; rw [if_neg (by decide)]
  rw [hL]
  have o1 : Only [q] W (W.alloc (.cells #[.bool y.b, .bool y.u, .bool y.i, .int .i64 y.f, .int .i64 y.g] 34)) := (Only.refl _ _).alloc _
  have g1 := g.only ((Only.refl [] _).alloc (.cells #[.bool y.b, .bool y.u, .bool y.i, .int .i64 y.f, .int .i64 y.g] 34)) (by simp) (by simp)
  have y1 : SyBox (W.alloc (.cells #[.bool y.b, .bool y.u, .bool y.i, .int .i64 y.f, .int .i64 y.g] 34)) W.heap.size y := styBox_new W _ _ _ _ _
  have hq : q < W.heap.size := g.blk.lt
  generalize hW1 : W.alloc (.cells #[.bool y.b, .bool y.u, .bool y.i, .int .i64 y.f, .int .i64 y.g] 34) = W1 at o1 g1 y1
  have CM := Lib.hid (made_any g1)
  have ct := there_any g1 r (m : Int)
  rw [show decide (0 ≤ r ∧ r < (h : Int) ∧ 0 ≤ (m : Int) ∧ (m : Int) < (w : Int)) = true by simp; omega] at ct
  have CT := Lib.hid ct
  have CL := Lib.hid (line_any g1 r hr0 hr1 k hk)
  have HK := Lib.hid hk
  clear ct hk
  have hs2 : ¬ (64 : Int) < s.size := by omega
  have hs3 := not_empty hs0
  go_enter Try.func13, Try.ntmps13
  go_wp2_with (first
    | (go_at_call 53; refine (CM.out).mono ?_; rintro e w1 ⟨rfl, rfl⟩)
    | (go_at_call 56; refine (CT.out).mono ?_; rintro e w1 ⟨rfl, rfl⟩)
    | (go_at_call 55; refine (CL.out).mono ?_; rintro e w2 ⟨rfl, hb2⟩; have b2 := g1.blk.only (Only.of_below (S := []) hb2) (by simp); have y2 := y1.only (Only.of_below (S := []) hb2) (by simp))
    | (go_at_call 57; refine (wipe_any b2 k w _ hkw hw5 (m : Int) hc0 hc1).mono ?_; rintro e w3 ⟨rfl, b3, o3⟩; simp only [Int.toNat_natCast] at b3; have y3 := y2.only o3 (by simp; omega); obtain ⟨u0, u1, u2, u3, u4, u5⟩ := StyBox.cells y3)
    | (refine wpList_gstore rfl _ _ rfl q _ rfl ⟨s, 1, y⟩ rfl _ b3 (k + m) (by omega) (by rw [wipeL_length]; exact hlt) ?_; intro w4 b4 o4))
  go_ret
  have oo : Only [q] W w4 := ((o1.trans (Only.of_below hb2)).trans o3).trans o4
  exact ⟨rfl, g.step oo b4 (by simp [wipeL_length]), oo⟩
set_option maxRecDepth 100000 in
set_option maxHeartbeats 2000000 in
theorem put_ok2 {W : World} {p q w h : Nat} {L : List GC} (g : GridAt W p q w h L) (r c : Int) (s : ByteArray) (y : Sy) (hs0 : s ≠ ⟨#[]⟩) (hs1 : s.size ≤ 64)
    (hr0 : 0 ≤ r) (hr1 : r < h) (hc0 : 0 ≤ c) (hc1 : c + 1 < w) :
    Calls Try.prog 13 #[.pointer (some ⟨p, 0, none⟩), .int .i64 r, .int .i64 c, .string s, .int .i64 2, .agg #[.bool y.b, .bool y.u, .bool y.i, .int .i64 y.f, .int .i64 y.g]] W fun e w' =>
      e = .returned (.int .i64 0) ∧ GridAt w' p q w h (putL L w (w * r.toNat) c.toNat s 2 y) ∧ Only [q] W w' := by
  obtain ⟨k, hk⟩ : ∃ k, k = w * r.toNat := ⟨_, rfl⟩
  obtain ⟨m, rfl⟩ := Int.eq_ofNat_of_zero_le hc0
  have hmw : m + 1 < w := by omega
  have hlt : k + m < L.length := by rw [g.len, hk]; exact place_lt (by omega) (by omega)
  have hlt1 : k + (m + 1) < L.length := by rw [g.len, hk]; exact place_lt (by omega) (by omega)
  have hkw : k + w ≤ L.length := by rw [g.len, hk]; exact line_le (by omega)
  have hw5 := g.w2
  simp only [Int.toNat_natCast]
  rw [← hk]
  have hL : putL L w k m s 2 y = ((wipeL (wipeL L k w m) k w (m + 1)).set (k + (m + 1)) ⟨⟨#[]⟩, 0, y⟩).set (k + m) ⟨s, 2, y⟩ := by unfold putL; rw [if_pos rfl]
  rw [hL]
  have o1 : Only [q] W (W.alloc (.cells #[.bool y.b, .bool y.u, .bool y.i, .int .i64 y.f, .int .i64 y.g] 34)) := (Only.refl _ _).alloc _
  have g1 := g.only ((Only.refl [] _).alloc (.cells #[.bool y.b, .bool y.u, .bool y.i, .int .i64 y.f, .int .i64 y.g] 34)) (by simp) (by simp)
  have y1 : SyBox (W.alloc (.cells #[.bool y.b, .bool y.u, .bool y.i, .int .i64 y.f, .int .i64 y.g] 34)) W.heap.size y := styBox_new W _ _ _ _ _
  have hq : q < W.heap.size := g.blk.lt
  generalize hW1 : W.alloc (.cells #[.bool y.b, .bool y.u, .bool y.i, .int .i64 y.f, .int .i64 y.g] 34) = W1 at o1 g1 y1
  have CM := Lib.hid (made_any g1)
  have ct := there_any g1 r (m : Int)
  rw [show decide (0 ≤ r ∧ r < (h : Int) ∧ 0 ≤ (m : Int) ∧ (m : Int) < (w : Int)) = true by simp; omega] at ct
  have CT := Lib.hid ct
  have ct2 := there_any g1 r ((m : Int) + 1)
  rw [show decide (0 ≤ r ∧ r < (h : Int) ∧ 0 ≤ (m : Int) + 1 ∧ (m : Int) + 1 < (w : Int)) = true by simp; omega] at ct2
  have CT2 := Lib.hid ct2
  have CL := Lib.hid (line_any g1 r hr0 hr1 k hk)
  have HK := Lib.hid hk
  clear ct ct2 hk
  have hs2 : ¬ (64 : Int) < s.size := by omega
  have hs3 := not_empty hs0
  have ht : ((m : Int) + 1).toNat = m + 1 := by omega
  have HT := Lib.hid ht
  clear ht
  go_enter Try.func13, Try.ntmps13
  go_wp2_with (go_at_call 53; refine (CM.out).mono ?_; rintro e w1 ⟨rfl, rfl⟩)
  refine (CT.out).mono ?_
  rintro e w1 ⟨rfl, rfl⟩
  go_wp2_with fail
  refine (CT2.out).mono ?_
  rintro e w1 ⟨rfl, rfl⟩
  go_wp2_with fail
  refine (CL.out).mono ?_
  rintro e w2 ⟨rfl, hb2⟩
  have b2 := g1.blk.only (Only.of_below (S := []) hb2) (by simp)
  have y2 := y1.only (Only.of_below (S := []) hb2) (by simp)
  go_wp2_with fail
  refine (wipe_any b2 k w _ hkw hw5 (m : Int) hc0 (by omega)).mono ?_
  rintro e w3 ⟨rfl, b3, o3⟩
  simp only [Int.toNat_natCast] at b3
  have y3 := y2.only o3 (by simp; omega)
  go_wp2_with fail
  refine (wipe_any b3 k w _ (by rw [wipeL_length]; exact hkw) hw5 ((m : Int) + 1) (by omega) hc1).mono ?_
  rintro e w4 ⟨rfl, b4, o4⟩
  rw [HT.out] at b4
  have y4 := y3.only o4 (by simp; omega)
  obtain ⟨u0, u1, u2, u3, u4, u5⟩ := StyBox.cells y4
  go_wp2_with (first
    | (refine wpList_gstore rfl _ _ rfl q _ rfl ⟨⟨#[]⟩, 0, y⟩ rfl _ b4 (k + (m + 1)) (by omega) (by simp only [wipeL_length]; exact hlt1) ?_; intro w5 b5 o5; have y5 := y4.only o5 (by simp; omega); clear u0 u1 u2 u3 u4 u5; obtain ⟨u0, u1, u2, u3, u4, u5⟩ := StyBox.cells y5)
    | (refine wpList_gstore rfl _ _ rfl q _ rfl ⟨s, 2, y⟩ rfl _ b5 (k + m) (by omega) (by simp only [List.length_set, wipeL_length]; exact hlt) ?_; intro w6 b6 o6))
  go_ret
  have oo : Only [q] W w6 := ((((o1.trans (Only.of_below hb2)).trans o3).trans o4).trans o5).trans o6
  exact ⟨rfl, g.step oo b6 (by simp [wipeL_length]), oo⟩
end Go.Proofs.Ytekodpcedjpnjaa
namespace Go.Proofs.Ytekodpcedjpnjaa
set_option linter.unusedVariables false
set_option linter.unusedSimpArgs false
open Go.RowKit
theorem is_empty : (⟨#[]⟩ : ByteArray).toList.isEmpty = true := by rw [ByteArray.toList_eq]; rfl
set_option maxRecDepth 100000 in
set_option maxHeartbeats 2000000 in
theorem put_arg {W : World} {p q w h : Nat} {L : List GC} (g : GridAt W p q w h L) (r c : Int) (s : ByteArray) (wd : Int) (y : Sy) (hs : s = ⟨#[]⟩ ∨ 64 < s.size ∨ (wd ≠ 1 ∧ wd ≠ 2)) :
    Calls Try.prog 13 #[.pointer (some ⟨p, 0, none⟩), .int .i64 r, .int .i64 c, .string s, .int .i64 wd, .agg #[.bool y.b, .bool y.u, .bool y.i, .int .i64 y.f, .int .i64 y.g]] W fun e w' =>
      e = .returned (.int .i64 1) ∧ Below W.heap.size W w' := by
  have o1 : Below W.heap.size W (W.alloc (.cells #[.bool y.b, .bool y.u, .bool y.i, .int .i64 y.f, .int .i64 y.g] 34)) := (Below.refl _ _).alloc (Nat.le_refl _) _
  have g1 := g.only ((Only.refl [] _).alloc (.cells #[.bool y.b, .bool y.u, .bool y.i, .int .i64 y.f, .int .i64 y.g] 34)) (by simp) (by simp)
  generalize hW1 : W.alloc (.cells #[.bool y.b, .bool y.u, .bool y.i, .int .i64 y.f, .int .i64 y.g] 34) = W1 at o1 g1
  have CM := Lib.hid (made_any g1)
  by_cases h0 : s = ⟨#[]⟩
  · subst h0
    have h1 := is_empty
    clear hs
    go_enter Try.func13, Try.ntmps13
    go_wp2_with (go_at_call 53; refine (CM.out).mono ?_; rintro e w1 ⟨rfl, rfl⟩)
    go_ret
    exact ⟨rfl, o1⟩
  · have h1 := not_empty h0
    by_cases h2 : 64 < s.size
    · have h3 : (64 : Int) < s.size := by omega
      clear hs h0
      go_enter Try.func13, Try.ntmps13
      go_wp2_with (go_at_call 53; refine (CM.out).mono ?_; rintro e w1 ⟨rfl, rfl⟩)
      go_ret
      exact ⟨rfl, o1⟩
    · have h3 : ¬ (64 : Int) < s.size := by omega
      have h4 : wd ≠ 1 ∧ wd ≠ 2 := by rcases hs with h | h | h; exact absurd h h0; exact absurd h h2; exact h
      obtain ⟨h5, h6⟩ := h4
      have h7 : (wd != 1) = true := by simp [h5]
      have h8 : (wd != 2) = true := by simp [h6]
      clear hs h0 h2
      go_enter Try.func13, Try.ntmps13
      go_wp2_with (go_at_call 53; refine (CM.out).mono ?_; rintro e w1 ⟨rfl, rfl⟩)
      go_ret
      exact ⟨rfl, o1⟩
set_option maxRecDepth 100000 in
set_option maxHeartbeats 2000000 in
theorem put_range {W : World} {p q w h : Nat} {L : List GC} (g : GridAt W p q w h L) (r c : Int) (s : ByteArray) (wd : Int) (y : Sy) (hs0 : s ≠ ⟨#[]⟩) (hs1 : s.size ≤ 64) (hwd : wd = 1 ∨ wd = 2)
    (hrc : ¬ (0 ≤ r ∧ r < h ∧ 0 ≤ c ∧ c < w) ∨ (wd = 2 ∧ ¬ c + 1 < w)) :
    Calls Try.prog 13 #[.pointer (some ⟨p, 0, none⟩), .int .i64 r, .int .i64 c, .string s, .int .i64 wd, .agg #[.bool y.b, .bool y.u, .bool y.i, .int .i64 y.f, .int .i64 y.g]] W fun e w' =>
      e = .returned (.int .i64 5) ∧ Below W.heap.size W w' := by
  have o1 : Below W.heap.size W (W.alloc (.cells #[.bool y.b, .bool y.u, .bool y.i, .int .i64 y.f, .int .i64 y.g] 34)) := (Below.refl _ _).alloc (Nat.le_refl _) _
  have g1 := g.only ((Only.refl [] _).alloc (.cells #[.bool y.b, .bool y.u, .bool y.i, .int .i64 y.f, .int .i64 y.g] 34)) (by simp) (by simp)
  generalize hW1 : W.alloc (.cells #[.bool y.b, .bool y.u, .bool y.i, .int .i64 y.f, .int .i64 y.g] 34) = W1 at o1 g1
  have CM := Lib.hid (made_any g1)
  have h1 := not_empty hs0
  have h3 : ¬ (64 : Int) < s.size := by omega
  have hw5 := g.w2
  by_cases hin : 0 ≤ r ∧ r < h ∧ 0 ≤ c ∧ c < w
  · have h5 : wd = 2 ∧ ¬ c + 1 < w := by rcases hrc with h | h; exact absurd hin h; exact h
    obtain ⟨rfl, h6⟩ := h5
    have ct := there_any g1 r c
    rw [show decide (0 ≤ r ∧ r < (h : Int) ∧ 0 ≤ c ∧ c < (w : Int)) = true by simpa using hin] at ct
    have CT := Lib.hid ct
    have ct2 := there_any g1 r (c + 1)
    rw [show decide (0 ≤ r ∧ r < (h : Int) ∧ 0 ≤ c + 1 ∧ c + 1 < (w : Int)) = false by simp; omega] at ct2
    have CT2 := Lib.hid ct2
    obtain ⟨h7, h8, h9, h10⟩ := hin
    clear ct ct2 hrc hwd
    go_enter Try.func13, Try.ntmps13
    go_wp2_with (go_at_call 53; refine (CM.out).mono ?_; rintro e w1 ⟨rfl, rfl⟩)
    refine (CT.out).mono ?_
    rintro e w1 ⟨rfl, rfl⟩
    go_wp2_with fail
    refine (CT2.out).mono ?_
    rintro e w1 ⟨rfl, rfl⟩
    go_wp2_with fail
    go_ret
    exact ⟨rfl, o1⟩
  · have ct := there_any g1 r c
    rw [show decide (0 ≤ r ∧ r < (h : Int) ∧ 0 ≤ c ∧ c < (w : Int)) = false by simpa using hin] at ct
    have CT := Lib.hid ct
    clear ct hrc hin
    rcases hwd with rfl | rfl
    · go_enter Try.func13, Try.ntmps13
      go_wp2_with (first | (go_at_call 53; refine (CM.out).mono ?_; rintro e w1 ⟨rfl, rfl⟩) | (go_at_call 56; refine (CT.out).mono ?_; rintro e w1 ⟨rfl, rfl⟩))
      go_ret
      exact ⟨rfl, o1⟩
    · go_enter Try.func13, Try.ntmps13
      go_wp2_with (first | (go_at_call 53; refine (CM.out).mono ?_; rintro e w1 ⟨rfl, rfl⟩) | (go_at_call 56; refine (CT.out).mono ?_; rintro e w1 ⟨rfl, rfl⟩))
      go_ret
      exact ⟨rfl, o1⟩
/-- What Put makes of a grid's cells. -/
def putG (w h : Nat) (L : List GC) (r c : Int) (s : ByteArray) (wd : Int) (y : Sy) : List GC := if putErr w h r c s wd = 0 then putL L w (w * r.toNat) c.toNat s wd y else L
theorem putG_length (w h : Nat) (L : List GC) (r c : Int) (s : ByteArray) (wd : Int) (y : Sy) : (putG w h L r c s wd y).length = L.length := by
  unfold putG; split <;> simp [putL_length]
theorem put_any {W : World} {p q w h : Nat} {L : List GC} (g : GridAt W p q w h L) (r c : Int) (s : ByteArray) (wd : Int) (y : Sy) :
    Calls Try.prog 13 #[.pointer (some ⟨p, 0, none⟩), .int .i64 r, .int .i64 c, .string s, .int .i64 wd, .agg #[.bool y.b, .bool y.u, .bool y.i, .int .i64 y.f, .int .i64 y.g]] W fun e w' =>
      e = .returned (.int .i64 (putErr w h r c s wd)) ∧ GridAt w' p q w h (putG w h L r c s wd y) ∧ Only [q] W w' := by
  unfold putG
  by_cases h1 : s = ⟨#[]⟩ ∨ 64 < s.size ∨ (wd ≠ 1 ∧ wd ≠ 2)
  · have e1 : putErr w h r c s wd = 1 := by unfold putErr; rw [if_pos h1]
    rw [e1, if_neg (by decide)]
    refine (put_arg g r c s wd y h1).mono ?_
    rintro e w' ⟨rfl, hb⟩
    exact ⟨rfl, g.only (Only.of_below (S := []) hb) (by simp) (by simp), Only.of_below hb⟩
  · have h2 : s ≠ ⟨#[]⟩ ∧ s.size ≤ 64 ∧ (wd = 1 ∨ wd = 2) := by
      refine ⟨fun h => h1 (.inl h), ?_, ?_⟩
      · exact Nat.le_of_not_lt (fun h => h1 (.inr (.inl h)))
      · by_cases a : wd = 1; exact .inl a; by_cases b : wd = 2; exact .inr b; exact absurd (.inr (.inr ⟨a, b⟩)) h1
    obtain ⟨hs0, hs1, hwd⟩ := h2
    by_cases h3 : ¬ (0 ≤ r ∧ r < h ∧ 0 ≤ c ∧ c < w) ∨ (wd = 2 ∧ ¬ c + 1 < w)
    · have e1 : putErr w h r c s wd = 5 := by unfold putErr; rw [if_neg h1, if_pos h3]
      rw [e1, if_neg (by decide)]
      refine (put_range g r c s wd y hs0 hs1 hwd h3).mono ?_
      rintro e w' ⟨rfl, hb⟩
      exact ⟨rfl, g.only (Only.of_below (S := []) hb) (by simp) (by simp), Only.of_below hb⟩
    · have e1 : putErr w h r c s wd = 0 := by unfold putErr; rw [if_neg h1, if_neg h3]
      rw [e1, if_pos rfl]
      have h4 : 0 ≤ r ∧ r < h ∧ 0 ≤ c ∧ c < w := Classical.byContradiction fun h => h3 (.inl h)
      rcases hwd with rfl | rfl
      · exact put_ok1 g r c s y hs0 hs1 h4.1 h4.2.1 h4.2.2.1 h4.2.2.2
      · exact put_ok2 g r c s y hs0 hs1 h4.1 h4.2.1 h4.2.2.1 (Classical.byContradiction fun h => h3 (.inr ⟨rfl, h⟩))
end Go.Proofs.Ytekodpcedjpnjaa
namespace Go.Proofs.Ytekodpcedjpnjaa
set_option linter.unusedVariables false
set_option linter.unusedSimpArgs false
open Go.RowKit
theorem flatV_setS (L : List GC) (i : Nat) (s : ByteArray) (C : GC) (h : L[i]? = some C) : (flatV L).set (7 * i) (.string s) = flatV (L.set i { C with s := s }) := by
  induction L generalizing i with
  | nil => simp at h
  | cons c L ih =>
    cases i with
    | zero =>
      simp only [List.getElem?_cons_zero, Option.some.injEq] at h
      subst h
      rfl
    | succ i =>
      simp only [List.getElem?_cons_succ] at h
      show (c.vals ++ flatV L).set (7 * (i + 1)) _ = c.vals ++ flatV (L.set i { C with s := s })
      rw [List.set_append_right _ _ (by rw [GC.vals_length]; omega), GC.vals_length, show 7 * (i + 1) - 7 = 7 * i by omega, ih i h]
theorem GBlk.setS {W : World} {q : Nat} {L : List GC} (hb : GBlk W q L) {i : Nat} {C : GC} (h : L[i]? = some C) (s : ByteArray) (off : Nat) (ho : off = 7 * i) : GBlk (W.setCell ⟨q, off, none⟩ (.string s)) q (L.set i { C with s := s }) ∧ Only [q] W (W.setCell ⟨q, off, none⟩ (.string s)) := by
  subst ho
  refine ⟨?_, (Only.refl [q] W).setCell (.inl (by simp)) _⟩
  rw [setCell_eq_setRow W q (7 * i) _ _ _ (.string s) hb]
  have e : (flatV L).toArray.setIfInBounds (7 * i) (.string s) = (flatV (L.set i { C with s := s })).toArray := by
    rw [← flatV_setS L i s C h]
    simp
  rw [e]
  exact hb.set _
theorem GBlk.frozen {W : World} {q : Nat} {L : List GC} (hb : GBlk W q L) (o : Nat) : W.frozen? ⟨q, o, none⟩ = false := by
  unfold GBlk at hb
  simp [World.frozen?, hb]
def joinAt (L : List GC) (k c : Nat) : Nat := if (nth GC.zero L (k + c)).w = 0 ∧ 0 < c then c - 1 else c
def joinFits (L : List GC) (k c : Nat) (s : ByteArray) : Prop := (s.size : Int) ≤ 64 - (nth GC.zero L (k + joinAt L k c)).s.size
def joinL (L : List GC) (k c : Nat) (s : ByteArray) : List GC := L.set (k + joinAt L k c) { nth GC.zero L (k + joinAt L k c) with s := (nth GC.zero L (k + joinAt L k c)).s ++ s }
theorem joinL_length (L : List GC) (k c : Nat) (s : ByteArray) : (joinL L k c s).length = L.length := by simp [joinL]
set_option maxRecDepth 100000 in
theorem join_out {W : World} {p q w h : Nat} {L : List GC} (g : GridAt W p q w h L) (r c : Int) (s : ByteArray) (hrc : ¬ (0 ≤ r ∧ r < h ∧ 0 ≤ c ∧ c < w)) :
    Calls Try.prog 58 #[.pointer (some ⟨p, 0, none⟩), .int .i64 r, .int .i64 c, .string s] W fun e w' => e = .returned (.tuple #[.bool false, .int .i64 5]) ∧ W = w' := by
  have CM := Lib.hid (made_any g)
  have ct := there_any g r c
  rw [show decide (0 ≤ r ∧ r < (h : Int) ∧ 0 ≤ c ∧ c < (w : Int)) = false by simpa using hrc] at ct
  have CT := Lib.hid ct
  clear ct hrc
  go_enter Try.func58, Try.ntmps58
  go_wp2_with (first | (go_at_call 53; refine (CM.out).mono ?_; rintro e w1 ⟨rfl, rfl⟩) | (go_at_call 56; refine (CT.out).mono ?_; rintro e w1 ⟨rfl, rfl⟩))
  go_ret2
  exact ⟨rfl, rfl⟩
set_option maxRecDepth 100000 in
set_option maxHeartbeats 1000000 in
theorem join_no {W : World} {p q w h : Nat} {L : List GC} (g : GridAt W p q w h L) (hS : ∀ c ∈ L, c.s.size ≤ 64) (r c : Int) (s : ByteArray) (hr0 : 0 ≤ r) (hr1 : r < h) (hc0 : 0 ≤ c) (hc1 : c < w) (hf : ¬ joinFits L (w * r.toNat) c.toNat s) :
    Calls Try.prog 58 #[.pointer (some ⟨p, 0, none⟩), .int .i64 r, .int .i64 c, .string s] W fun e w' => e = .returned (.tuple #[.bool false, .int .i64 0]) ∧ Below W.heap.size W w' := by
  obtain ⟨k, hk⟩ : ∃ k, k = w * r.toNat := ⟨_, rfl⟩
  obtain ⟨m, rfl⟩ := Int.eq_ofNat_of_zero_le hc0
  have hmw : m < w := by omega
  have hlt : k + m < L.length := by rw [g.len, hk]; exact place_lt (by omega) (by omega)
  have hw5 := g.w2
  simp only [Int.toNat_natCast] at hf ⊢
  rw [← hk] at hf 
  obtain ⟨j, hj⟩ : ∃ j, j = joinAt L k m := ⟨_, rfl⟩
  have hjm : j ≤ m := by rw [hj]; unfold joinAt; split <;> omega
  have hjl : k + j < L.length := by omega
  obtain ⟨C, hC⟩ : ∃ C, C = nth GC.zero L (k + m) := ⟨_, rfl⟩
  obtain ⟨D, hD⟩ : ∃ D, D = nth GC.zero L (k + j) := ⟨_, rfl⟩
  have hCi : L[k + m]? = some C := by rw [hC, nth_eq _ _ _ hlt, List.getElem?_eq_getElem hlt]
  have hDi : L[k + j]? = some D := by rw [hD, nth_eq _ _ _ hjl, List.getElem?_eq_getElem hjl]
  have hD64 : D.s.size ≤ 64 := hS D (List.mem_of_getElem? hDi)
  unfold joinFits at hf
  rw [← hj, ← hD] at hf
  
  
  have hcase : (C.w = 0 ∧ 0 < m ∧ j = m - 1) ∨ (¬ (C.w = 0 ∧ 0 < m) ∧ j = m) := by
    unfold joinAt at hj
    rw [← hC] at hj
    by_cases hh : C.w = 0 ∧ 0 < m
    · rw [if_pos hh] at hj; exact .inl ⟨hh.1, hh.2, hj⟩
    · rw [if_neg hh] at hj; exact .inr ⟨hh, hj⟩
  obtain ⟨x, hx⟩ : ∃ x, x = C.w := ⟨_, rfl⟩
  rw [← hx] at hcase
  obtain ⟨t, ht⟩ : ∃ t, t = D.s := ⟨_, rfl⟩
  rw [← ht] at hD64 hf
  have CM := Lib.hid (made_any g)
  have ct := there_any g r (m : Int)
  rw [show decide (0 ≤ r ∧ r < (h : Int) ∧ 0 ≤ (m : Int) ∧ (m : Int) < (w : Int)) = true by simp; omega] at ct
  have CT := Lib.hid ct
  have CL := Lib.hid (line_any g r hr0 hr1 k hk)
  have HK := Lib.hid hk
  have HCI := Lib.hid hCi
  have HDI := Lib.hid hDi
  have HX := Lib.hid hx
  have HTT := Lib.hid ht
  clear ct hk hCi hDi hx hC hD hj hS ht
  have hf2 : (64 : Int) - t.size < s.size := by omega
  clear hf
  rcases hcase with ⟨rfl, hm0, hjd⟩ | ⟨hn, rfl⟩
  · have hm1 : (0 : Int) < (m : Int) := by omega
    have hm2 : (m : Int) - 1 = (j : Int) := by omega
    have hjw : j < w := by omega
    have HJD := Lib.hid hjd
    clear hjd
    go_enter Try.func58, Try.ntmps58
    go_wp2_with (first
      | (go_at_call 53; refine (CM.out).mono ?_; rintro e w1 ⟨rfl, rfl⟩)
      | (go_at_call 56; refine (CT.out).mono ?_; rintro e w1 ⟨rfl, rfl⟩)
      | (go_at_call 55; refine (CL.out).mono ?_; rintro e w2 ⟨rfl, hb2⟩; have b2 := g.blk.only (Only.of_below (S := []) hb2) (by simp); have o2 : Only [q] W w2 := Only.of_below hb2; have hcw : w2.cell? ⟨q, k * 7 + m * 7 + 1, none⟩ = some (.int .i64 0) := (by have := b2.range1 HCI.out 1 _ rfl; rw [show k * 7 + m * 7 + 1 = 7 * (k + m) + 1 by omega, HX.out]; exact this); have hcs : w2.cell? ⟨q, k * 7 + j * 7, none⟩ = some (.string t) := (by have := b2.range1 HDI.out 0 _ rfl; rw [show k * 7 + j * 7 = 7 * (k + j) + 0 by omega, HTT.out]; exact this); have hfz := b2.frozen (k * 7 + j * 7)))
    all_goals first | (exfalso; omega) | skip
    all_goals go_ret2
    all_goals exact ⟨rfl, hb2⟩
  · have hn2 : j = 0 ∨ ¬ x = 0 := by omega
    go_enter Try.func58, Try.ntmps58
    go_wp2_with (first
      | (go_at_call 53; refine (CM.out).mono ?_; rintro e w1 ⟨rfl, rfl⟩)
      | (go_at_call 56; refine (CT.out).mono ?_; rintro e w1 ⟨rfl, rfl⟩)
      | (go_at_call 55; refine (CL.out).mono ?_; rintro e w2 ⟨rfl, hb2⟩; have b2 := g.blk.only (Only.of_below (S := []) hb2) (by simp); have o2 : Only [q] W w2 := Only.of_below hb2; have hcw : w2.cell? ⟨q, k * 7 + j * 7 + 1, none⟩ = some (.int .i64 x) := (by have := b2.range1 HCI.out 1 _ rfl; rw [show k * 7 + j * 7 + 1 = 7 * (k + j) + 1 by omega, HX.out]; exact this); have hcs : w2.cell? ⟨q, k * 7 + j * 7, none⟩ = some (.string t) := (by have := b2.range1 HDI.out 0 _ rfl; rw [show k * 7 + j * 7 = 7 * (k + j) + 0 by omega, HTT.out]; exact this); have hfz := b2.frozen (k * 7 + j * 7)))
    all_goals first | (exfalso; omega) | skip
    all_goals go_ret2
    all_goals exact ⟨rfl, hb2⟩
set_option maxRecDepth 100000 in
set_option maxHeartbeats 1000000 in
theorem join_yes {W : World} {p q w h : Nat} {L : List GC} (g : GridAt W p q w h L) (hS : ∀ c ∈ L, c.s.size ≤ 64) (r c : Int) (s : ByteArray) (hr0 : 0 ≤ r) (hr1 : r < h) (hc0 : 0 ≤ c) (hc1 : c < w) (hf : joinFits L (w * r.toNat) c.toNat s) :
    Calls Try.prog 58 #[.pointer (some ⟨p, 0, none⟩), .int .i64 r, .int .i64 c, .string s] W fun e w' => e = .returned (.tuple #[.bool true, .int .i64 0]) ∧ GridAt w' p q w h (joinL L (w * r.toNat) c.toNat s) ∧ Only [q] W w' := by
  obtain ⟨k, hk⟩ : ∃ k, k = w * r.toNat := ⟨_, rfl⟩
  obtain ⟨m, rfl⟩ := Int.eq_ofNat_of_zero_le hc0
  have hmw : m < w := by omega
  have hlt : k + m < L.length := by rw [g.len, hk]; exact place_lt (by omega) (by omega)
  have hw5 := g.w2
  simp only [Int.toNat_natCast] at hf ⊢
  rw [← hk] at hf ⊢
  obtain ⟨j, hj⟩ : ∃ j, j = joinAt L k m := ⟨_, rfl⟩
  have hjm : j ≤ m := by rw [hj]; unfold joinAt; split <;> omega
  have hjl : k + j < L.length := by omega
  obtain ⟨C, hC⟩ : ∃ C, C = nth GC.zero L (k + m) := ⟨_, rfl⟩
  obtain ⟨D, hD⟩ : ∃ D, D = nth GC.zero L (k + j) := ⟨_, rfl⟩
  have hCi : L[k + m]? = some C := by rw [hC, nth_eq _ _ _ hlt, List.getElem?_eq_getElem hlt]
  have hDi : L[k + j]? = some D := by rw [hD, nth_eq _ _ _ hjl, List.getElem?_eq_getElem hjl]
  have hD64 : D.s.size ≤ 64 := hS D (List.mem_of_getElem? hDi)
  unfold joinFits at hf
  rw [← hj, ← hD] at hf
  have hJ : joinL L k m s = L.set (k + j) { D with s := D.s ++ s } := by unfold joinL; rw [← hj, ← hD]
  rw [hJ]
  have hcase : (C.w = 0 ∧ 0 < m ∧ j = m - 1) ∨ (¬ (C.w = 0 ∧ 0 < m) ∧ j = m) := by
    unfold joinAt at hj
    rw [← hC] at hj
    by_cases hh : C.w = 0 ∧ 0 < m
    · rw [if_pos hh] at hj; exact .inl ⟨hh.1, hh.2, hj⟩
    · rw [if_neg hh] at hj; exact .inr ⟨hh, hj⟩
  obtain ⟨x, hx⟩ : ∃ x, x = C.w := ⟨_, rfl⟩
  rw [← hx] at hcase
  obtain ⟨t, ht⟩ : ∃ t, t = D.s := ⟨_, rfl⟩
  rw [← ht] at hD64 hf ⊢
  have CM := Lib.hid (made_any g)
  have ct := there_any g r (m : Int)
  rw [show decide (0 ≤ r ∧ r < (h : Int) ∧ 0 ≤ (m : Int) ∧ (m : Int) < (w : Int)) = true by simp; omega] at ct
  have CT := Lib.hid ct
  have CL := Lib.hid (line_any g r hr0 hr1 k hk)
  have HK := Lib.hid hk
  have HCI := Lib.hid hCi
  have HDI := Lib.hid hDi
  have HX := Lib.hid hx
  have HTT := Lib.hid ht
  clear ct hk hCi hDi hx hC hD hj hJ hS ht
  have hf2 : ¬ (64 : Int) - t.size < s.size := by omega
  have hf3 : t.size + s.size ≤ 64 := by omega
  clear hf
  rcases hcase with ⟨rfl, hm0, hjd⟩ | ⟨hn, rfl⟩
  · have hm1 : (0 : Int) < (m : Int) := by omega
    have hm2 : (m : Int) - 1 = (j : Int) := by omega
    have hjw : j < w := by omega
    have HJD := Lib.hid hjd
    clear hjd
    go_enter Try.func58, Try.ntmps58
    go_wp2_with (first
      | (go_at_call 53; refine (CM.out).mono ?_; rintro e w1 ⟨rfl, rfl⟩)
      | (go_at_call 56; refine (CT.out).mono ?_; rintro e w1 ⟨rfl, rfl⟩)
      | (go_at_call 55; refine (CL.out).mono ?_; rintro e w2 ⟨rfl, hb2⟩; have b2 := g.blk.only (Only.of_below (S := []) hb2) (by simp); have o2 : Only [q] W w2 := Only.of_below hb2; have hcw : w2.cell? ⟨q, k * 7 + m * 7 + 1, none⟩ = some (.int .i64 0) := (by have := b2.range1 HCI.out 1 _ rfl; rw [show k * 7 + m * 7 + 1 = 7 * (k + m) + 1 by omega, HX.out]; exact this); have hcs : w2.cell? ⟨q, k * 7 + j * 7, none⟩ = some (.string t) := (by have := b2.range1 HDI.out 0 _ rfl; rw [show k * 7 + j * 7 = 7 * (k + j) + 0 by omega, HTT.out]; exact this); have hfz := b2.frozen (k * 7 + j * 7)))
    all_goals first | (exfalso; omega) | skip
    all_goals go_ret2
    all_goals obtain ⟨b3, o3⟩ := b2.setS HDI.out (t ++ s) (k * 7 + j * 7) (by omega)
    all_goals exact ⟨rfl, g.step (o2.trans o3) b3 (by simp), o2.trans o3⟩
  · have hn2 : j = 0 ∨ ¬ x = 0 := by omega
    go_enter Try.func58, Try.ntmps58
    go_wp2_with (first
      | (go_at_call 53; refine (CM.out).mono ?_; rintro e w1 ⟨rfl, rfl⟩)
      | (go_at_call 56; refine (CT.out).mono ?_; rintro e w1 ⟨rfl, rfl⟩)
      | (go_at_call 55; refine (CL.out).mono ?_; rintro e w2 ⟨rfl, hb2⟩; have b2 := g.blk.only (Only.of_below (S := []) hb2) (by simp); have o2 : Only [q] W w2 := Only.of_below hb2; have hcw : w2.cell? ⟨q, k * 7 + j * 7 + 1, none⟩ = some (.int .i64 x) := (by have := b2.range1 HCI.out 1 _ rfl; rw [show k * 7 + j * 7 + 1 = 7 * (k + j) + 1 by omega, HX.out]; exact this); have hcs : w2.cell? ⟨q, k * 7 + j * 7, none⟩ = some (.string t) := (by have := b2.range1 HDI.out 0 _ rfl; rw [show k * 7 + j * 7 = 7 * (k + j) + 0 by omega, HTT.out]; exact this); have hfz := b2.frozen (k * 7 + j * 7)))
    all_goals first | (exfalso; omega) | skip
    all_goals go_ret2
    all_goals obtain ⟨b3, o3⟩ := b2.setS HDI.out (t ++ s) (k * 7 + j * 7) (by omega)
    all_goals exact ⟨rfl, g.step (o2.trans o3) b3 (by simp), o2.trans o3⟩
end Go.Proofs.Ytekodpcedjpnjaa
namespace Go.Proofs.Ytekodpcedjpnjaa
set_option linter.unusedVariables false
set_option linter.unusedSimpArgs false
open Go.RowKit
def wipes (k w : Nat) : Nat → Nat → List GC → List GC
  | _, 0, L => L
  | i, n + 1, L => wipes k w (i + 1) n (wipeL L k w i)
theorem wipes_length (k w : Nat) : ∀ (n i : Nat) (L : List GC), (wipes k w i n L).length = L.length
  | 0, _, _ => rfl
  | n + 1, i, L => by rw [wipes, wipes_length k w n, wipeL_length]
def eraseL (L : List GC) (k w : Nat) (a b : Int) : List GC := wipes k w (max 0 a).toNat ((min b w).toNat - (max 0 a).toNat) L
theorem eraseL_length (L : List GC) (k w : Nat) (a b : Int) : (eraseL L k w a b).length = L.length := wipes_length _ _ _ _ _
set_option maxRecDepth 100000 in
theorem erase_out {W : World} {p q w h : Nat} {L : List GC} (g : GridAt W p q w h L) (r a b : Int) (hr : ¬ (0 ≤ r ∧ r < h)) :
    Calls Try.prog 60 #[.pointer (some ⟨p, 0, none⟩), .int .i64 r, .int .i64 a, .int .i64 b] W fun e w' => e = .returned (.int .i64 5) ∧ W = w' := by
  obtain ⟨c0, c1, c2⟩ := g.cells
  have CM := Lib.hid (made_any g)
  by_cases hr0 : r < 0
  · go_enter Try.func60, Try.ntmps60
    go_wp2_with (go_at_call 53; refine (CM.out).mono ?_; rintro e w1 ⟨rfl, rfl⟩)
    go_ret
    exact ⟨rfl, rfl⟩
  · have hr2 : (h : Int) ≤ r := by omega
    clear hr
    go_enter Try.func60, Try.ntmps60
    go_wp2_with (go_at_call 53; refine (CM.out).mono ?_; rintro e w1 ⟨rfl, rfl⟩)
    go_ret
    exact ⟨rfl, rfl⟩
set_option maxRecDepth 100000 in
set_option maxHeartbeats 1000000 in
theorem erase_ok {W : World} {p q w h : Nat} {L : List GC} (g : GridAt W p q w h L) (r a b : Int) (hr0 : 0 ≤ r) (hr1 : r < h) :
    Calls Try.prog 60 #[.pointer (some ⟨p, 0, none⟩), .int .i64 r, .int .i64 a, .int .i64 b] W fun e w' => e = .returned (.int .i64 0) ∧ GridAt w' p q w h (eraseL L (w * r.toNat) w a b) ∧ Only [q] W w' := by
  obtain ⟨c0, c1, c2⟩ := g.cells
  obtain ⟨k, hk⟩ : ∃ k, k = w * r.toNat := ⟨_, rfl⟩
  have hkw : k + w ≤ L.length := by rw [g.len, hk]; exact line_le (by omega)
  have hw5 := g.w2
  rw [← hk]
  obtain ⟨FIN, hF⟩ : ∃ F, F = eraseL L k w a b := ⟨_, rfl⟩
  obtain ⟨lo, hlo⟩ : ∃ n : Nat, n = (max 0 a).toNat := ⟨_, rfl⟩
  obtain ⟨hi, hhi⟩ : ∃ n : Nat, n = (min b w).toNat := ⟨_, rfl⟩
  have hF0 : FIN = wipes k w lo (hi - lo) L := by rw [hF, hlo, hhi]; rfl
  rw [← hF]
  have hlo2 : max 0 a = (lo : Int) := by omega
  have hhw : hi ≤ w := by omega
  have HF := Lib.hid hF0
  have HH := Lib.hid hhi
  have HL := Lib.hid hlo
  have CM := Lib.hid (made_any g)
  have CL := Lib.hid (line_any g r hr0 hr1 k hk)
  have HK := Lib.hid hk
  clear hF hF0 hlo hhi hk
  by_cases ha : 0 < a
  · have haa : a = (lo : Int) := by omega
    have AA := Lib.hid haa
    clear haa hlo2
    go_enter Try.func60, Try.ntmps60
    go_wp2_with (first
      | (go_at_call 53; refine (CM.out).mono ?_; rintro e w1 ⟨rfl, rfl⟩)
      | (go_at_call 55; refine (CL.out).mono ?_; rintro e w2 ⟨rfl, hb2⟩))
    go_loopw [10] (fun i wr => ∃ (n : Nat) (M : List GC), i = .int .i64 n ∧ FIN = wipes k w n (hi - n) M ∧ M.length = L.length ∧ GBlk wr q M ∧ Only [q] W wr) (fun i _ => hi - (intOf i).toNat)
    case atStart => exact ⟨lo, L, by rw [AA], HF.out, rfl, g.blk.only (Only.of_below (S := []) hb2) (by simp), Only.of_below hb2⟩
    case round =>
      obtain ⟨n, M, rfl, hf, hml, hb, ho⟩ := hrel
      have HF2 := Lib.hid hf
      have gr := g.step ho hb hml
      obtain ⟨d0, d1, d2⟩ := gr.cells
      clear hf c0 c1 c2
      by_cases hn : n < hi
      · have hnw : (n : Int) < (w : Int) := by omega
        have hnb : (n : Int) < b := by have := HH.out; omega
        go_wp2_with (go_at_call 57; refine (wipe_any hb k w _ (by omega) hw5 (n : Int) (by omega) hnw).mono ?_; rintro e w3 ⟨rfl, b3, o3⟩; simp only [Int.toNat_natCast] at b3)
        all_goals refine ⟨⟨n + 1, _, by go_num, ?_, by rw [wipeL_length]; exact hml, b3, ho.trans o3⟩, by simp [intOf]; omega⟩
        all_goals (rw [HF2.out, show hi - n = (hi - (n + 1)) + 1 by omega]; rfl)
      · have hnm : b ≤ (n : Int) ∨ (w : Int) ≤ (n : Int) := by have := HH.out; omega
        have hfin : FIN = M := by rw [HF2.out, show hi - n = 0 by omega]; rfl
        have HFIN := Lib.hid hfin
        clear hfin
        by_cases hbw : b < (w : Int)
        · have hbn : b ≤ (n : Int) := by omega
          go_wp2
          all_goals go_ret
          all_goals exact ⟨rfl, by rw [HFIN.out]; exact gr, ho⟩
        · have hwb : (w : Int) ≤ b := by omega
          have hbn : (w : Int) ≤ (n : Int) := by omega
          go_wp2
          all_goals go_ret
          all_goals exact ⟨rfl, by rw [HFIN.out]; exact gr, ho⟩
  · have haa : (0 : Int) = (lo : Int) := by omega
    have AA : Hid ((0 : Int) = (lo : Int)) := Lib.hid haa
    have ha2 : a ≤ 0 := by omega
    clear haa hlo2
    go_enter Try.func60, Try.ntmps60
    go_wp2_with (first
      | (go_at_call 53; refine (CM.out).mono ?_; rintro e w1 ⟨rfl, rfl⟩)
      | (go_at_call 55; refine (CL.out).mono ?_; rintro e w2 ⟨rfl, hb2⟩))
    go_loopw [10] (fun i wr => ∃ (n : Nat) (M : List GC), i = .int .i64 n ∧ FIN = wipes k w n (hi - n) M ∧ M.length = L.length ∧ GBlk wr q M ∧ Only [q] W wr) (fun i _ => hi - (intOf i).toNat)
    case atStart => exact ⟨lo, L, by rw [AA], HF.out, rfl, g.blk.only (Only.of_below (S := []) hb2) (by simp), Only.of_below hb2⟩
    case round =>
      obtain ⟨n, M, rfl, hf, hml, hb, ho⟩ := hrel
      have HF2 := Lib.hid hf
      have gr := g.step ho hb hml
      obtain ⟨d0, d1, d2⟩ := gr.cells
      clear hf c0 c1 c2
      by_cases hn : n < hi
      · have hnw : (n : Int) < (w : Int) := by omega
        have hnb : (n : Int) < b := by have := HH.out; omega
        go_wp2_with (go_at_call 57; refine (wipe_any hb k w _ (by omega) hw5 (n : Int) (by omega) hnw).mono ?_; rintro e w3 ⟨rfl, b3, o3⟩; simp only [Int.toNat_natCast] at b3)
        all_goals refine ⟨⟨n + 1, _, by go_num, ?_, by rw [wipeL_length]; exact hml, b3, ho.trans o3⟩, by simp [intOf]; omega⟩
        all_goals (rw [HF2.out, show hi - n = (hi - (n + 1)) + 1 by omega]; rfl)
      · have hnm : b ≤ (n : Int) ∨ (w : Int) ≤ (n : Int) := by have := HH.out; omega
        have hfin : FIN = M := by rw [HF2.out, show hi - n = 0 by omega]; rfl
        have HFIN := Lib.hid hfin
        clear hfin
        by_cases hbw : b < (w : Int)
        · have hbn : b ≤ (n : Int) := by omega
          go_wp2
          all_goals go_ret
          all_goals exact ⟨rfl, by rw [HFIN.out]; exact gr, ho⟩
        · have hwb : (w : Int) ≤ b := by omega
          have hbn : (w : Int) ≤ (n : Int) := by omega
          go_wp2
          all_goals go_ret
          all_goals exact ⟨rfl, by rw [HFIN.out]; exact gr, ho⟩
end Go.Proofs.Ytekodpcedjpnjaa
namespace Go.Proofs.Ytekodpcedjpnjaa
set_option linter.unusedVariables false
set_option linter.unusedSimpArgs false
open Go.RowKit Go.Maps
def GOk (L : List GC) : Prop := ∀ c ∈ L, c.s.size ≤ 64
theorem GOk.set {L : List GC} (h : GOk L) (i : Nat) (c : GC) (hc : c.s.size ≤ 64) : GOk (L.set i c) := by
  intro x hx
  rcases List.mem_or_eq_of_mem_set hx with h1 | h1
  · exact h x h1
  · rw [h1]; exact hc
theorem GC.blank_ok : GC.blank.s.size ≤ 64 := by decide
theorem GOk.wipe {L : List GC} (h : GOk L) (o n c : Nat) : GOk (wipeL L o n c) := by
  unfold wipeL
  dsimp only
  split
  · exact (h.set _ _ GC.blank_ok).set _ _ GC.blank_ok
  · split
    · exact (h.set _ _ GC.blank_ok).set _ _ GC.blank_ok
    · exact h.set _ _ GC.blank_ok
theorem GOk.wipes {k w : Nat} : ∀ (n i : Nat) (L : List GC), GOk L → GOk (wipes k w i n L)
  | 0, _, _, h => h
  | n + 1, i, L, h => GOk.wipes n (i + 1) _ (h.wipe k w i)
theorem GOk.replicate (n : Nat) : GOk (List.replicate n GC.blank) := by
  intro c hc
  rw [List.eq_of_mem_replicate hc]
  exact GC.blank_ok
theorem GOk.put {L : List GC} (h : GOk L) (w t : Nat) (r c : Int) (s : ByteArray) (wd : Int) (y : Sy) : GOk (putG w t L r c s wd y) := by
  unfold putG
  split
  · rename_i h0
    have hs : s.size ≤ 64 := by
      unfold putErr at h0
      split at h0
      · cases h0
      · rename_i h1
        exact Nat.le_of_not_lt (fun h => h1 (.inr (.inl h)))
    unfold putL
    split
    · exact (((h.wipe _ _ _).wipe _ _ _).set _ _ (by show 0 ≤ 64; omega)).set _ _ hs
    · exact (h.wipe _ _ _).set _ _ hs
  · exact h
def inG (w h : Nat) (r c : Int) : Bool := decide (0 ≤ r ∧ r < h ∧ 0 ≤ c ∧ c < w)
def joinOk (w h : Nat) (L : List GC) (r c : Int) (s : ByteArray) : Bool := inG w h r c && decide ((s.size : Int) ≤ 64 - (nth GC.zero L (w * r.toNat + joinAt L (w * r.toNat) c.toNat)).s.size)
def joinErr (w h : Nat) (r c : Int) : Int := if inG w h r c then 0 else 5
def joinG (w h : Nat) (L : List GC) (r c : Int) (s : ByteArray) : List GC := if joinOk w h L r c s then joinL L (w * r.toNat) c.toNat s else L
theorem GOk.join {L : List GC} (h : GOk L) (w t : Nat) (r c : Int) (s : ByteArray) : GOk (joinG w t L r c s) := by
  unfold joinG
  split
  · rename_i h0
    unfold joinOk at h0
    simp only [Bool.and_eq_true, decide_eq_true_eq] at h0
    refine h.set _ _ ?_
    show (_ ++ _ : ByteArray).size ≤ 64
    rw [ByteArray.size_append]
    omega
  · exact h
def eraseErr (h : Nat) (r : Int) : Int := if 0 ≤ r ∧ r < h then 0 else 5
def eraseG (w h : Nat) (L : List GC) (r a b : Int) : List GC := if 0 ≤ r ∧ r < h then eraseL L (w * r.toNat) w a b else L
theorem GOk.erase {L : List GC} (h : GOk L) (w t : Nat) (r a b : Int) : GOk (eraseG w t L r a b) := by
  unfold eraseG eraseL
  split
  · exact h.wipes _ _ _
  · exact h
theorem join_any {W : World} {p q w h : Nat} {L : List GC} (g : GridAt W p q w h L) (hS : GOk L) (r c : Int) (s : ByteArray) :
    Calls Try.prog 58 #[.pointer (some ⟨p, 0, none⟩), .int .i64 r, .int .i64 c, .string s] W fun e w' => e = .returned (.tuple #[.bool (joinOk w h L r c s), .int .i64 (joinErr w h r c)]) ∧ GridAt w' p q w h (joinG w h L r c s) ∧ Only [q] W w' := by
  unfold joinG joinErr
  by_cases hin : 0 ≤ r ∧ r < h ∧ 0 ≤ c ∧ c < w
  · have e1 : inG w h r c = true := by simpa [inG] using hin
    by_cases hf : joinFits L (w * r.toNat) c.toNat s
    · have e2 : joinOk w h L r c s = true := by unfold joinOk; rw [e1]; simpa [joinFits] using hf
      rw [e1, e2]
      exact join_yes g hS r c s hin.1 hin.2.1 hin.2.2.1 hin.2.2.2 hf
    · have e2 : joinOk w h L r c s = false := by unfold joinOk; rw [e1]; simpa [joinFits] using hf
      rw [e1, e2]
      refine (join_no g hS r c s hin.1 hin.2.1 hin.2.2.1 hin.2.2.2 hf).mono ?_
      rintro e w' ⟨rfl, hb⟩
      exact ⟨rfl, g.only (Only.of_below (S := []) hb) (by simp) (by simp), Only.of_below hb⟩
  · have e1 : inG w h r c = false := by simpa [inG] using hin
    have e2 : joinOk w h L r c s = false := by unfold joinOk; rw [e1]; rfl
    rw [e1, e2]
    refine (join_out g r c s hin).mono ?_
    rintro e w' ⟨rfl, rfl⟩
    exact ⟨rfl, g, Only.refl _ _⟩
theorem erase_any {W : World} {p q w h : Nat} {L : List GC} (g : GridAt W p q w h L) (r a b : Int) :
    Calls Try.prog 60 #[.pointer (some ⟨p, 0, none⟩), .int .i64 r, .int .i64 a, .int .i64 b] W fun e w' => e = .returned (.int .i64 (eraseErr h r)) ∧ GridAt w' p q w h (eraseG w h L r a b) ∧ Only [q] W w' := by
  unfold eraseErr eraseG
  by_cases hr : 0 ≤ r ∧ r < h
  · rw [if_pos hr, if_pos hr]
    exact erase_ok g r a b hr.1 hr.2
  · rw [if_neg hr, if_neg hr]
    refine (erase_out g r a b hr).mono ?_
    rintro e w' ⟨rfl, rfl⟩
    exact ⟨rfl, g, Only.refl _ _⟩
end Go.Proofs.Ytekodpcedjpnjaa
