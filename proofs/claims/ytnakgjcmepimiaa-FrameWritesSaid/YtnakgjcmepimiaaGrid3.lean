/- Cell, Row. -/
import Derived.Test.YtnakgjcmepimiaaGrid2
namespace Go.Proofs.Ytnakgjcmepimiaa
set_option linter.unusedVariables false
set_option linter.unusedSimpArgs false
open Go.RowKit
/-- The cells of a row. -/
def lineL (L : List GC) (w r : Nat) : List GC := (L.drop (w * r)).take w
theorem place_lt {w h r c : Nat} (hr : r < h) (hc : c < w) : w * r + c < w * h := by
  have : w * (r + 1) ≤ w * h := Nat.mul_le_mul_left w hr
  rw [Nat.mul_add, Nat.mul_one] at this
  omega
theorem line_le {w h r : Nat} (hr : r < h) : w * r + w ≤ w * h := by
  have : w * (r + 1) ≤ w * h := Nat.mul_le_mul_left w hr
  rw [Nat.mul_add, Nat.mul_one] at this
  omega
theorem lineL_length {L : List GC} {w h r : Nat} (hl : L.length = w * h) (hr : r < h) : (lineL L w r).length = w := by
  have := line_le (w := w) hr
  simp [lineL]; omega
set_option maxRecDepth 100000 in
set_option maxHeartbeats 1000000 in
theorem cell_ok {W : World} {p q w h : Nat} {L : List GC} (g : GridAt W p q w h L) (r c : Int) (hr0 : 0 ≤ r) (hr1 : r < h) (hc0 : 0 ≤ c) (hc1 : c < w) :
    Calls Try.prog 67 #[.pointer (some ⟨p, 0, none⟩), .int .i64 r, .int .i64 c] W fun e w' => e = .returned (.tuple #[(nth GC.zero L (w * r.toNat + c.toNat)).v, .bool true]) ∧ Below W.heap.size W w' := by
  obtain ⟨k, hk⟩ : ∃ k, k = w * r.toNat := ⟨_, rfl⟩
  obtain ⟨m, rfl⟩ := Int.eq_ofNat_of_zero_le hc0
  have hlt : k + m < L.length := by rw [g.len, hk]; exact place_lt (by omega) (by omega)
  obtain ⟨C, hC⟩ : ∃ C, C = nth GC.zero L (k + m) := ⟨_, rfl⟩
  have hCi : L[k + m]? = some C := by rw [hC, nth_eq _ _ _ hlt, List.getElem?_eq_getElem hlt]
  simp only [Int.toNat_natCast]
  rw [← hk, ← hC]
  have o1 : Only [] W (W.alloc (.cells #[.string ⟨#[]⟩, .int .i64 0, .bool false, .bool false, .bool false, .int .i64 0, .int .i64 0] 67)) := (Only.refl _ _).alloc _
  have b1 : GBlk (W.alloc (.cells #[.string ⟨#[]⟩, .int .i64 0, .bool false, .bool false, .bool false, .int .i64 0, .int .i64 0] 67)) W.heap.size [GC.zero] := GBlk.made W [GC.zero]
  have g1 := g.only o1 (by simp) (by simp)
  have hs := o1.size
  generalize hW1 : W.alloc (.cells #[.string ⟨#[]⟩, .int .i64 0, .bool false, .bool false, .bool false, .int .i64 0, .int .i64 0] 67) = W1 at o1 b1 g1 hs
  have HK := Lib.hid hk
  have CM := Lib.hid (made_any g1)
  have ct := there_any g1 r (m : Int)
  rw [show decide (0 ≤ r ∧ r < (h : Int) ∧ 0 ≤ (m : Int) ∧ (m : Int) < (w : Int)) = true by simp; omega] at ct
  have CT := Lib.hid ct
  have CL := Lib.hid (line_any g1 r hr0 hr1 k hk)
  have hcw : m < w := by omega
  clear ct hk hC
  have HC := Lib.hid hCi
  clear hCi
  go_enter Try.func67, Try.ntmps67
  go_wp2_with (first
    | (go_at_call 75; refine (CM.out).mono ?_; rintro e w1 ⟨rfl, rfl⟩)
    | (go_at_call 80; refine (CT.out).mono ?_; rintro e w1 ⟨rfl, rfl⟩)
    | (go_at_call 81; refine (CL.out).mono ?_; rintro e w2 ⟨rfl, hb2⟩; have b2 := b1.only (Only.of_below (S := []) hb2) (by simp); have r2 := (g1.blk.only (Only.of_below (S := []) hb2) (by simp)).range1 HC.out)
    | (refine wpList_gload rfl _ rfl q _ rfl C (by rw [show k * 7 + m * 7 = 7 * (k + m) by omega]; exact r2) ?_)
    | (refine wpList_gstore rfl _ _ rfl W.heap.size _ rfl C rfl _ b2 0 (by omega) (by simp) ?_; intro w3 b3 o3))
  (try simp only [Exit.inBlock, Exit.then])
  refine bodyPost_ret (results_gcell rfl _ _ W.heap.size 67 _ (0, 0) rfl b3 rfl) rfl ?_
  exact ⟨rfl, (((o1.trans (Only.of_below hb2)).mono (S' := [W.heap.size]) (by simp)).trans o3).below (by simp) (Nat.le_refl _)⟩
set_option maxRecDepth 100000 in
set_option maxHeartbeats 1000000 in
theorem cell_out {W : World} {p q w h : Nat} {L : List GC} (g : GridAt W p q w h L) (r c : Int) (hrc : ¬ (0 ≤ r ∧ r < h ∧ 0 ≤ c ∧ c < w)) :
    Calls Try.prog 67 #[.pointer (some ⟨p, 0, none⟩), .int .i64 r, .int .i64 c] W fun e w' => e = .returned (.tuple #[GC.zero.v, .bool false]) ∧ Below W.heap.size W w' := by
  have o1 : Only [] W (W.alloc (.cells #[.string ⟨#[]⟩, .int .i64 0, .bool false, .bool false, .bool false, .int .i64 0, .int .i64 0] 67)) := (Only.refl _ _).alloc _
  have b1 : GBlk (W.alloc (.cells #[.string ⟨#[]⟩, .int .i64 0, .bool false, .bool false, .bool false, .int .i64 0, .int .i64 0] 67)) W.heap.size [GC.zero] := GBlk.made W [GC.zero]
  have g1 := g.only o1 (by simp) (by simp)
  have hs := o1.size
  generalize hW1 : W.alloc (.cells #[.string ⟨#[]⟩, .int .i64 0, .bool false, .bool false, .bool false, .int .i64 0, .int .i64 0] 67) = W1 at o1 b1 g1 hs
  have CM := Lib.hid (made_any g1)
  have ct := there_any g1 r c
  rw [show decide (0 ≤ r ∧ r < (h : Int) ∧ 0 ≤ c ∧ c < (w : Int)) = false by simpa using hrc] at ct
  have CT := Lib.hid ct
  clear ct hrc
  go_enter Try.func67, Try.ntmps67
  go_wp2_with (first
    | (go_at_call 75; refine (CM.out).mono ?_; rintro e w1 ⟨rfl, rfl⟩)
    | (go_at_call 80; refine (CT.out).mono ?_; rintro e w1 ⟨rfl, rfl⟩)
    | (refine wpList_gstore rfl _ _ rfl W.heap.size _ rfl GC.zero rfl _ b1 0 (by omega) (by simp) ?_; intro w3 b3 o3))
  (try simp only [Exit.inBlock, Exit.then])
  refine bodyPost_ret (results_gcell rfl _ _ W.heap.size 67 _ (0, 0) rfl b3 rfl) rfl ?_
  exact ⟨rfl, ((o1.mono (S' := [W.heap.size]) (by simp)).trans o3).below (by simp) (Nat.le_refl _)⟩
set_option maxRecDepth 100000 in
set_option maxHeartbeats 1000000 in
theorem row_ok {W : World} {p q w h : Nat} {L : List GC} (g : GridAt W p q w h L) (r : Int) (hr0 : 0 ≤ r) (hr1 : r < h) :
    Calls Try.prog 70 #[.pointer (some ⟨p, 0, none⟩), .int .i64 r] W fun e w' => e = .returned (.slice (some ⟨W.heap.size, 0, none⟩) w w) ∧ GBlk w' W.heap.size (lineL L w r.toNat) ∧ Below W.heap.size W w' := by
  obtain ⟨k, hk⟩ : ∃ k, k = w * r.toNat := ⟨_, rfl⟩
  obtain ⟨M, hM⟩ : ∃ M, M = lineL L w r.toNat := ⟨_, rfl⟩
  have hMl : M.length = w := by rw [hM]; exact lineL_length g.len (by omega)
  have hMd : M = (L.drop k).take w := by rw [hM, hk]; rfl
  rw [← hM]
  obtain ⟨c0, c1, c2⟩ := g.cells
  have hmk := run_gmake W w (by have := g.w2; omega)
  obtain ⟨Z, hZ⟩ : ∃ Z, Z = List.replicate w GC.zero := ⟨_, rfl⟩
  have hZl : Z.length = w := by rw [hZ]; simp
  rw [← hZ] at hmk
  clear hZ
  have o1 : Only [] W (W.alloc (.cells (flatV Z).toArray 67)) := (Only.refl _ _).alloc _
  have b1 : GBlk (W.alloc (.cells (flatV Z).toArray 67)) W.heap.size Z := GBlk.made W Z
  have g1 := g.only o1 (by simp) (by simp)
  generalize hW1 : W.alloc (.cells (flatV Z).toArray 67) = W1 at o1 b1 g1 hmk
  have CM := Lib.hid (made_any g)
  have CL := Lib.hid (line_any g1 r hr0 hr1 k hk)
  have HM := Lib.hid hMd
  have HK := Lib.hid hk
  have hsp : splice Z 0 M = M := by unfold splice; simp; omega
  clear hk hM hMd hW1
  go_enter Try.func70, Try.ntmps70
  go_wp2_with (first
    | (go_at_call 75; refine (CM.out).mono ?_; rintro e w1 ⟨rfl, rfl⟩)
    | (go_at_call 81; refine (CL.out).mono ?_; rintro e w2 ⟨rfl, hb2⟩; have b2 := b1.only (Only.of_below (S := []) hb2) (by simp); have r2 := (g1.blk.only (Only.of_below (S := []) hb2) (by simp)).range k w)
    | (refine wpList_gcopy rfl _ _ rfl _ _ _ _ _ _ rfl rfl W.heap.size Z M 0 b2 (by rw [hMl]; simp) (fun _ => ⟨⟨_, rfl, by omega⟩, q, _, rfl, by rw [HM.out, show k * 7 = 7 * k by omega]; exact r2⟩) (by omega) ?_; intro w3 b3 o3))
  go_ret
  rw [hsp] at b3
  exact ⟨rfl, b3, (((o1.trans (Only.of_below hb2)).mono (S' := [W.heap.size]) (by simp)).trans o3).below (by simp) (Nat.le_refl _)⟩
set_option maxRecDepth 100000 in
theorem row_out {W : World} {p q w h : Nat} {L : List GC} (g : GridAt W p q w h L) (r : Int) (hr : ¬ (0 ≤ r ∧ r < h)) :
    Calls Try.prog 70 #[.pointer (some ⟨p, 0, none⟩), .int .i64 r] W fun e w' => e = .returned (.slice none 0 0) ∧ W = w' := by
  obtain ⟨c0, c1, c2⟩ := g.cells
  have CM := Lib.hid (made_any g)
  by_cases hr0 : r < 0
  · go_enter Try.func70, Try.ntmps70
    go_wp2_with (go_at_call 75; refine (CM.out).mono ?_; rintro e w1 ⟨rfl, rfl⟩)
    go_ret
    exact ⟨rfl, rfl⟩
  · have hr1 : ¬ r < h := fun h => hr ⟨by omega, h⟩
    have hr2 : (h : Int) ≤ r := by omega
    clear hr
    go_enter Try.func70, Try.ntmps70
    go_wp2_with (go_at_call 75; refine (CM.out).mono ?_; rintro e w1 ⟨rfl, rfl⟩)
    go_ret
    exact ⟨rfl, rfl⟩
end Go.Proofs.Ytnakgjcmepimiaa
