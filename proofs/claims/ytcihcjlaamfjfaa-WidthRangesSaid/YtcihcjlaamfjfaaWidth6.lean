/- The law WidthRanges: the contract of its function. -/
import Derived.Test.YtcihcjlaamfjfaaWidth4
import Derived.Test.YtcihcjlaamfjfaaClose
namespace Go.Proofs.Ytcihcjlaamfjfaa
open Go.RowKit
attribute [local go_sem] Oper.semAt_some
theorem three_new (W : World) (o1 o2 : Obj) (L : List Int) (t : TypeId) (hL : L.length ≤ 1000) :
    Runes (((W.alloc o1).alloc o2).alloc (.cells (i32s L).toArray t)).drew.heap.size (((W.alloc o1).alloc o2).alloc (.cells (i32s L).toArray t)).drew (some ⟨W.heap.size + 1 + 1, 0, none⟩) L ∧
    Below W.heap.size W (((W.alloc o1).alloc o2).alloc (.cells (i32s L).toArray t)).drew := by
  refine ⟨⟨?_, hL⟩, ((((Below.refl _ W).alloc (Nat.le_refl _) _).alloc (by simp) _).alloc (by simp; omega) _).drew⟩
  have := RowAt.new ((W.alloc o1).alloc o2) (i32s L) t
  simp only [World.size_alloc] at this
  exact (this.below (Below.refl _ _).drew).more (by show _ ≤ (((W.alloc o1).alloc o2).alloc (.cells (i32s L).toArray t)).heap.size; simp)
set_option maxRecDepth 100000 in
set_option maxHeartbeats 2000000 in
theorem widthRanges_law (a0 : Int) (by_ : Int) (w : World) (w0 : (Lit.int .u8 a0).wf = true) (w1 : (Lit.int .i8 by_).wf = true) :
    Calls Try.prog 3 #[.int .u8 a0, .int .i8 by_] w fun e w' => e = .returned (.bool true) ∧ Below w.heap.size w w' := by
  have hk0 := bounds_u8 w0
  have hy := bounds_i8 w1
  clear w0 w1
  obtain ⟨k, rfl⟩ := Int.eq_ofNat_of_zero_le hk0.1
  have hk : k ≤ 255 := by omega
  clear hk0
  go_enter Try.func3, Try.ntmps3
  go_wp2_with (first
    | (go_at_call 15; refine (refMarks_any _).mono ?_; rintro e w' ⟨rfl, rfl⟩)
    | (go_at_call 16; refine (refWides_any _).mono ?_; rintro e w' ⟨rfl, rfl⟩))
  obtain ⟨W, hW⟩ : ∃ W, (w.alloc (.cells (i32s marksL).toArray 26)).alloc (.cells (i32s widesL).toArray 26) = W := ⟨_, rfl⟩
  have hB : Below w.heap.size w W := hW ▸ ((Below.refl _ w).alloc (Nat.le_refl _) _).alloc (by simp) _
  have hm : RowAt W.heap.size W (some ⟨w.heap.size, 0, none⟩) (i32s marksL) := hW ▸ ((RowAt.new w (i32s marksL) _).below ((Below.refl _ _).alloc (Nat.le_refl _) _)).more (by simp)
  have hsz : w.heap.size + 1 < W.heap.size := by rw [← hW]; simp
  have hw : RowAt W.heap.size W (some ⟨w.heap.size + 1, 0, none⟩) (i32s widesL) := by
    have := RowAt.new (w.alloc (.cells (i32s marksL).toArray 26)) (i32s widesL) 26
    rw [hW] at this
    rw [World.size_alloc] at this
    exact this.more (Nat.le_refl _)
  rw [hW]
  clear hW
  obtain ⟨b0, hb0⟩ : ∃ b, w.heap.size = b := ⟨_, rfl⟩
  obtain ⟨b1, hb1⟩ : ∃ b, w.heap.size + 1 = b := ⟨_, rfl⟩
  rw [hb1] at hw hsz ⊢
  rw [hb0] at hm ⊢
  have g0 : b0 < W.heap.size := by omega
  have g1 : b0 ≠ W.heap.size ∧ b1 ≠ W.heap.size ∧ b0 ≠ W.heap.size + 1 ∧ b1 ≠ W.heap.size + 1 := by omega
  rw [hb0] at hB
  have g2 : b0 ≤ w.heap.size := by omega
  clear hb0 hb1
  obtain ⟨c0, c1⟩ := row_fst hm (k % 28) (by rw [marks_len]; omega)
  obtain ⟨d0, d1⟩ := row_fst hw (k % 51) (by rw [wides_len]; omega)
  have i1 : ((k : Int) % 28).toNat = k % 28 := by omega
  have i2 : ((k : Int) % 51).toNat = k % 51 := by omega
  have i3 : 0 ≤ (k : Int) % 28 := by omega
  have i4 : 0 ≤ (k : Int) % 51 := by omega
  have i5 : (k : Int) % 28 < 28 := by omega
  have i6 : (k : Int) % 51 < 51 := by omega
  go_region
  all_goals
    go_wp2
    go_loopw [10] (fun i wr => ∃ (j : Nat) (Wx : World), j ≤ 4 ∧ i = .int .i64 j ∧ Runes Wx.heap.size Wx (some ⟨W.heap.size + 1 + 1, 0, none⟩) [fst marksL (k % 28), snd marksL (k % 28), fst widesL (k % 51), snd widesL (k % 51)] ∧ Below b0 w Wx ∧ Below Wx.heap.size Wx wr) (fun i _ => 4 - (intOf i).toNat)
    case atStart =>
      obtain ⟨t1, t2⟩ := three_new W _ _ [fst marksL (k % 28), snd marksL (k % 28), fst widesL (k % 51), snd widesL (k % 51)] 21 (by simp)
      exact ⟨0, _, by omega, rfl, t1, hB.trans (t2.mono (by omega)), Below.refl _ _⟩
    case round =>
      obtain ⟨j, Wx, hj, rfl, hr, hx1, hx2⟩ := hrel
      by_cases hlt : j < 4
      · obtain ⟨b, off, e, _, hc⟩ := (hr.below hx2).at j hlt
        simp only [Option.some.injEq, Addr.mk.injEq, and_true] at e
        obtain ⟨rfl, rfl⟩ := e
        rw [Nat.zero_add] at hc
        clear c0 c1 d0 d1 i1 i2 i3 i4 i5 i6
        go_wp2_with fail
        refine (of_any _ _).mono ?_
        rintro e w1 ⟨rfl, hb1⟩
        go_wp2_with fail
        refine (refOf_any _ _).mono ?_
        rintro e w2 ⟨rfl, hb2⟩
        go_wp2
        go_roundw
        case rel => exact ⟨j + 1, Wx, by omega, by go_num, hr, hx1, hx2.trans ((bnext hb1 hb2).mono hx2.size)⟩
        case measure => simp [intOf]; omega
      · obtain rfl : j = 4 := by omega
        clear c0 c1 d0 d1 i1 i2 i3 i4 i5 i6
        go_wp2_with (go_at_call 19; refine (awake02_any _).mono ?_; rintro e w2 ⟨rfl, hb2⟩)
        go_ret
        exact ⟨rfl, hx1.trans ((bnext hx2 hb2).mono (by have := hx1.size; omega))⟩
end Go.Proofs.Ytcihcjlaamfjfaa
