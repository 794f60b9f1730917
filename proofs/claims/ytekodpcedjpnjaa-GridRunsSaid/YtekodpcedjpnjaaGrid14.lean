/- The law's example holds. -/
import Derived.Test.YtekodpcedjpnjaaGrid13
namespace Go.Proofs.Ytekodpcedjpnjaa
set_option linter.unusedVariables false
set_option linter.unusedSimpArgs false
open Go.RowKit Go.Maps
set_option maxRecDepth 100000 in
set_option maxHeartbeats 4000000 in
theorem awake04_any (W : World) : Calls Try.prog 9 #[] W fun e w' => e = .returned (.bool true) ∧ Below W.heap.size W w' := by
  go_enter Try.func9, Try.ntmps9
  go_wp2_with fail
  refine (new_ok 4 1 (by omega) W).mono ?_
  rintro e w1 ⟨p, rfl, hp, g1, hb1⟩
  have g1 : GridAt w1 p W.heap.size 4 1 awL0 := g1
  go_wp2_with fail
  refine (put_any g1 0 1 ⟨#[87]⟩ 2 ⟨false, false, false, 0, 0⟩).mono ?_
  rintro e w2 ⟨rfl, g2, o2⟩
  have g2 : GridAt w2 p W.heap.size 4 1 awL1 := g2
  have e1 := aw_e1
  have hb2 := hb1.trans (o2.below (by simp) hb1.size)
  clear o2 g1
  go_wp2_with fail
  refine (put_any g2 0 2 ⟨#[120]⟩ 1 ⟨true, false, false, 0, 0⟩).mono ?_
  rintro e w3 ⟨rfl, g3, o3⟩
  have g3 : GridAt w3 p W.heap.size 4 1 awL2 := g3
  have e2 := aw_e2
  have hb3 := hb2.trans (o3.below (by simp) hb2.size)
  clear o3 g2
  have c1 := cell_ok g3 0 1 (by omega) (by omega) (by omega) (by omega)
  rw [aw_c1] at c1
  go_wp2_with fail
  refine c1.mono ?_
  rintro e w4 ⟨rfl, hb4'⟩
  have hb4 := bto hb3 hb4' hb3.size
  have g4 := g3.only (Only.of_below (S := []) hb4') (by simp) (by simp)
  show _
  unfold GC.v GC.blank Sy.zero
  dsimp only
  go_wp2_with fail
  have g5 := g4.only ((Only.refl [] _).alloc (.cells #[.string ⟨#[32]⟩, .int .i64 1, .bool false, .bool false, .bool false, .int .i64 0, .int .i64 0] 70)) (by simp) (by simp)
  have hb5 := hb4.alloc hb4.size (.cells #[.string ⟨#[32]⟩, .int .i64 1, .bool false, .bool false, .bool false, .int .i64 0, .int .i64 0] 70)
  have c2 := cell_ok g5 0 2 (by omega) (by omega) (by omega) (by omega)
  rw [aw_c2] at c2
  refine c2.mono ?_
  rintro e w6 ⟨rfl, hb6'⟩
  have hb6 := bto hb5 hb6' hb5.size
  have g6 := g5.only (Only.of_below (S := []) hb6') (by simp) (by simp)
  have b6 : GBlk w6 w4.heap.size [GC.blank] := (GBlk.made w4 [GC.blank]).only (Only.of_below (S := []) hb6') (by simp)
  have g7 := g6.only ((Only.refl [] _).alloc (.cells #[.string ⟨#[120]⟩, .int .i64 1, .bool true, .bool false, .bool false, .int .i64 0, .int .i64 0] 70)) (by simp) (by simp)
  have b7 := b6.alloc (.cells #[.string ⟨#[120]⟩, .int .i64 1, .bool true, .bool false, .bool false, .int .i64 0, .int .i64 0] 70)
  have x7 : GBlk (w6.alloc (.cells #[.string ⟨#[120]⟩, .int .i64 1, .bool true, .bool false, .bool false, .int .i64 0, .int .i64 0] 70)) w6.heap.size [⟨⟨#[120]⟩, 1, ⟨true, false, false, 0, 0⟩⟩] := GBlk.made w6 [⟨⟨#[120]⟩, 1, ⟨true, false, false, 0, 0⟩⟩]
  have hb7 := hb6.alloc hb6.size (.cells #[.string ⟨#[120]⟩, .int .i64 1, .bool true, .bool false, .bool false, .int .i64 0, .int .i64 0] 70)
  unfold GC.v
  dsimp only
  go_upto_region 8 with fail
  generalize hw7 : w6.alloc (.cells #[.string ⟨#[120]⟩, .int .i64 1, .bool true, .bool false, .bool false, .int .i64 0, .int .i64 0] 70) = w7 at g7 b7 x7 hb7 ⊢
  have rb := b7.range1 (i := 0) (c := GC.blank) rfl
  have k0 : w7.cell? ⟨w4.heap.size, 0, none⟩ = some (.string ⟨#[32]⟩) := rb 0 _ rfl
  have k1 : w7.cell? ⟨w4.heap.size, 1, none⟩ = some (.int .i64 1) := rb 1 _ rfl
  have k2 : w7.cell? ⟨w4.heap.size, 2, none⟩ = some (.bool false) := rb 2 _ rfl
  have k3 : w7.cell? ⟨w4.heap.size, 3, none⟩ = some (.bool false) := rb 3 _ rfl
  have k4 : w7.cell? ⟨w4.heap.size, 4, none⟩ = some (.bool false) := rb 4 _ rfl
  have k5 : w7.cell? ⟨w4.heap.size, 5, none⟩ = some (.int .i64 0) := rb 5 _ rfl
  have k6 : w7.cell? ⟨w4.heap.size, 6, none⟩ = some (.int .i64 0) := rb 6 _ rfl
  have rx := x7.range1 (i := 0) (c := ⟨⟨#[120]⟩, 1, ⟨true, false, false, 0, 0⟩⟩) rfl
  have j0 : w7.cell? ⟨w6.heap.size, 0, none⟩ = some (.string ⟨#[120]⟩) := rx 0 _ rfl
  have j1 : w7.cell? ⟨w6.heap.size, 1, none⟩ = some (.int .i64 1) := rx 1 _ rfl
  have j2 : w7.cell? ⟨w6.heap.size, 2, none⟩ = some (.bool true) := rx 2 _ rfl
  have j3 : w7.cell? ⟨w6.heap.size, 3, none⟩ = some (.bool false) := rx 3 _ rfl
  have j4 : w7.cell? ⟨w6.heap.size, 4, none⟩ = some (.bool false) := rx 4 _ rfl
  have j5 : w7.cell? ⟨w6.heap.size, 5, none⟩ = some (.int .i64 0) := rx 5 _ rfl
  have j6 : w7.cell? ⟨w6.heap.size, 6, none⟩ = some (.int .i64 0) := rx 6 _ rfl
  have ct := gtext_ok g7 aw_ok 0 (by omega) (by omega)
  rw [aw_t] at ct
  have CT := Lib.hid ct
  clear ct rb rx g1 hb1 hb2 hb3 hb4 hb5 hb6 g2 g3 g4 g5 g6 b6 c1 c2
  go_wp2_with (go_at_call 52; refine (CT.out).mono ?_; rintro e w8 ⟨rfl, hb8⟩)
  go_ret
  exact ⟨rfl, bto hb7 hb8 hb7.size⟩
end Go.Proofs.Ytekodpcedjpnjaa
