/- Put. -/
import Derived.Test.YtnakgjcmepimiaaGrid3
namespace Go.Proofs.Ytnakgjcmepimiaa
set_option linter.unusedVariables false
set_option linter.unusedSimpArgs false
open Go.RowKit
theorem not_empty {s : ByteArray} (h : s ≠ ⟨#[]⟩) : s.toList.isEmpty = false := by
  rw [ByteArray.toList_eq, List.isEmpty_eq_false_iff]
  intro h2
  exact h (ByteArray.ext (Array.toList_inj.1 (by simpa using h2)))
def putErr (w h : Nat) (r c : Int) (s : ByteArray) (wd : Int) : Int :=
  if s = ⟨#[]⟩ ∨ 64 < s.size ∨ (wd ≠ 1 ∧ wd ≠ 2) then 1 else if ¬ (0 ≤ r ∧ r < h ∧ 0 ≤ c ∧ c < w) ∨ (wd = 2 ∧ ¬ c + 1 < w) then 5 else 0
def putL (L : List GC) (w k c : Nat) (s : ByteArray) (wd : Int) (y : Sy) : List GC :=
  if wd = 2 then ((wipeL (wipeL L k w c) k w (c + 1)).set (k + (c + 1)) ⟨⟨#[]⟩, 0, y⟩).set (k + c) ⟨s, wd, y⟩ else (wipeL L k w c).set (k + c) ⟨s, wd, y⟩
theorem putL_length (L : List GC) (w k c : Nat) (s : ByteArray) (wd : Int) (y : Sy) : (putL L w k c s wd y).length = L.length := by
  unfold putL; split <;> simp [wipeL_length]
theorem GridAt.step {W W' : World} {p q w h : Nat} {L L' : List GC} (g : GridAt W p q w h L) (ho : Only [q] W W') (hb : GBlk W' q L') (hl : L'.length = L.length) : GridAt W' p q w h L' :=
  { g with head := ho.heap g.head (by simp; exact g.ne), blk := hb, len := hl.trans g.len }
theorem SyBox.only {W W' : World} {r : Nat} {y : Sy} {S : List Nat} (h : SyBox W r y) (ho : Only S W W') (hr : r ∉ S) : SyBox W' r y := ho.heap h hr
theorem SyBox.lt {W : World} {r : Nat} {y : Sy} (h : SyBox W r y) : r < W.heap.size := (Array.getElem?_eq_some_iff.1 h).1
set_option maxRecDepth 100000 in
set_option maxHeartbeats 2000000 in
theorem put_ok1 {W : World} {p q w h : Nat} {L : List GC} (g : GridAt W p q w h L) (r c : Int) (s : ByteArray) (y : Sy) (hs0 : s ≠ ⟨#[]⟩) (hs1 : s.size ≤ 64)
    (hr0 : 0 ≤ r) (hr1 : r < h) (hc0 : 0 ≤ c) (hc1 : c < w) :
    Calls Try.prog 51 #[.pointer (some ⟨p, 0, none⟩), .int .i64 r, .int .i64 c, .string s, .int .i64 1, .agg #[.bool y.b, .bool y.u, .bool y.i, .int .i64 y.f, .int .i64 y.g]] W fun e w' =>
      e = .returned (.int .i64 0) ∧ GridAt w' p q w h (putL L w (w * r.toNat) c.toNat s 1 y) ∧ Only [q] W w' := by
  obtain ⟨k, hk⟩ : ∃ k, k = w * r.toNat := ⟨_, rfl⟩
  obtain ⟨m, rfl⟩ := Int.eq_ofNat_of_zero_le hc0
  have hmw : m < w := by omega
  have hlt : k + m < L.length := by rw [g.len, hk]; exact place_lt (by omega) (by omega)
  have hkw : k + w ≤ L.length := by rw [g.len, hk]; exact line_le (by omega)
  have hw5 := g.w2
  simp only [Int.toNat_natCast]
  rw [← hk]
  have hL : putL L w k m s 1 y = (wipeL L k w m).set (k + m) ⟨s, 1, y⟩ := by unfold putL; rw [if_neg (by decide)]
  rw [hL]
  have o1 : Only [q] W (W.alloc (.cells #[.bool y.b, .bool y.u, .bool y.i, .int .i64 y.f, .int .i64 y.g] 32)) := (Only.refl _ _).alloc _
  have g1 := g.only ((Only.refl [] _).alloc (.cells #[.bool y.b, .bool y.u, .bool y.i, .int .i64 y.f, .int .i64 y.g] 32)) (by simp) (by simp)
  have y1 : SyBox (W.alloc (.cells #[.bool y.b, .bool y.u, .bool y.i, .int .i64 y.f, .int .i64 y.g] 32)) W.heap.size y := styBox_new W _ _ _ _ _
  have hq : q < W.heap.size := g.blk.lt
  generalize hW1 : W.alloc (.cells #[.bool y.b, .bool y.u, .bool y.i, .int .i64 y.f, .int .i64 y.g] 32) = W1 at o1 g1 y1
  have CM := Lib.hid (made_any g1)
  have ct := there_any g1 r (m : Int)
  rw [show decide (0 ≤ r ∧ r < (h : Int) ∧ 0 ≤ (m : Int) ∧ (m : Int) < (w : Int)) = true by simp; omega] at ct
  have CT := Lib.hid ct
  have CL := Lib.hid (line_any g1 r hr0 hr1 k hk)
  have HK := Lib.hid hk
  clear ct hk
  have hs2 : ¬ (64 : Int) < s.size := by omega
  have hs3 := not_empty hs0
  go_enter Try.func51, Try.ntmps51
  go_wp2_with (first
    | (go_at_call 75; refine (CM.out).mono ?_; rintro e w1 ⟨rfl, rfl⟩)
    | (go_at_call 80; refine (CT.out).mono ?_; rintro e w1 ⟨rfl, rfl⟩)
    | (go_at_call 81; refine (CL.out).mono ?_; rintro e w2 ⟨rfl, hb2⟩; have b2 := g1.blk.only (Only.of_below (S := []) hb2) (by simp); have y2 := y1.only (Only.of_below (S := []) hb2) (by simp))
    | (go_at_call 82; refine (wipe_any b2 k w _ hkw hw5 (m : Int) hc0 hc1).mono ?_; rintro e w3 ⟨rfl, b3, o3⟩; simp only [Int.toNat_natCast] at b3; have y3 := y2.only o3 (by simp; omega); obtain ⟨u0, u1, u2, u3, u4, u5⟩ := StyBox.cells y3)
    | (refine wpList_gstore rfl _ _ rfl q _ rfl ⟨s, 1, y⟩ rfl _ b3 (k + m) (by omega) (by rw [wipeL_length]; exact hlt) ?_; intro w4 b4 o4))
  go_ret
  have oo : Only [q] W w4 := ((o1.trans (Only.of_below hb2)).trans o3).trans o4
  exact ⟨rfl, g.step oo b4 (by simp [wipeL_length]), oo⟩
set_option maxRecDepth 100000 in
set_option maxHeartbeats 2000000 in
theorem put_ok2 {W : World} {p q w h : Nat} {L : List GC} (g : GridAt W p q w h L) (r c : Int) (s : ByteArray) (y : Sy) (hs0 : s ≠ ⟨#[]⟩) (hs1 : s.size ≤ 64)
    (hr0 : 0 ≤ r) (hr1 : r < h) (hc0 : 0 ≤ c) (hc1 : c + 1 < w) :
    Calls Try.prog 51 #[.pointer (some ⟨p, 0, none⟩), .int .i64 r, .int .i64 c, .string s, .int .i64 2, .agg #[.bool y.b, .bool y.u, .bool y.i, .int .i64 y.f, .int .i64 y.g]] W fun e w' =>
      e = .returned (.int .i64 0) ∧ GridAt w' p q w h (putL L w (w * r.toNat) c.toNat s 2 y) ∧ Only [q] W w' := by
  obtain ⟨k, hk⟩ : ∃ k, k = w * r.toNat := ⟨_, rfl⟩
  obtain ⟨m, rfl⟩ := Int.eq_ofNat_of_zero_le hc0
  have hmw : m + 1 < w := by omega
  have hlt : k + m < L.length := by rw [g.len, hk]; exact place_lt (by omega) (by omega)
  have hlt1 : k + (m + 1) < L.length := by rw [g.len, hk]; exact place_lt (by omega) (by omega)
  have hkw : k + w ≤ L.length := by rw [g.len, hk]; exact line_le (by omega)
  have hw5 := g.w2
  simp only [Int.toNat_natCast]
  rw [← hk]
  have hL : putL L w k m s 2 y = ((wipeL (wipeL L k w m) k w (m + 1)).set (k + (m + 1)) ⟨⟨#[]⟩, 0, y⟩).set (k + m) ⟨s, 2, y⟩ := by unfold putL; rw [if_pos rfl]
  rw [hL]
  have o1 : Only [q] W (W.alloc (.cells #[.bool y.b, .bool y.u, .bool y.i, .int .i64 y.f, .int .i64 y.g] 32)) := (Only.refl _ _).alloc _
  have g1 := g.only ((Only.refl [] _).alloc (.cells #[.bool y.b, .bool y.u, .bool y.i, .int .i64 y.f, .int .i64 y.g] 32)) (by simp) (by simp)
  have y1 : SyBox (W.alloc (.cells #[.bool y.b, .bool y.u, .bool y.i, .int .i64 y.f, .int .i64 y.g] 32)) W.heap.size y := styBox_new W _ _ _ _ _
  have hq : q < W.heap.size := g.blk.lt
  generalize hW1 : W.alloc (.cells #[.bool y.b, .bool y.u, .bool y.i, .int .i64 y.f, .int .i64 y.g] 32) = W1 at o1 g1 y1
  have CM := Lib.hid (made_any g1)
  have ct := there_any g1 r (m : Int)
  rw [show decide (0 ≤ r ∧ r < (h : Int) ∧ 0 ≤ (m : Int) ∧ (m : Int) < (w : Int)) = true by simp; omega] at ct
  have CT := Lib.hid ct
  have ct2 := there_any g1 r ((m : Int) + 1)
  rw [show decide (0 ≤ r ∧ r < (h : Int) ∧ 0 ≤ (m : Int) + 1 ∧ (m : Int) + 1 < (w : Int)) = true by simp; omega] at ct2
  have CT2 := Lib.hid ct2
  have CL := Lib.hid (line_any g1 r hr0 hr1 k hk)
  have HK := Lib.hid hk
  clear ct ct2 hk
  have hs2 : ¬ (64 : Int) < s.size := by omega
  have hs3 := not_empty hs0
  have ht : ((m : Int) + 1).toNat = m + 1 := by omega
  have HT := Lib.hid ht
  clear ht
  go_enter Try.func51, Try.ntmps51
  go_wp2_with (go_at_call 75; refine (CM.out).mono ?_; rintro e w1 ⟨rfl, rfl⟩)
  refine (CT.out).mono ?_
  rintro e w1 ⟨rfl, rfl⟩
  go_wp2_with fail
  refine (CT2.out).mono ?_
  rintro e w1 ⟨rfl, rfl⟩
  go_wp2_with fail
  refine (CL.out).mono ?_
  rintro e w2 ⟨rfl, hb2⟩
  have b2 := g1.blk.only (Only.of_below (S := []) hb2) (by simp)
  have y2 := y1.only (Only.of_below (S := []) hb2) (by simp)
  go_wp2_with fail
  refine (wipe_any b2 k w _ hkw hw5 (m : Int) hc0 (by omega)).mono ?_
  rintro e w3 ⟨rfl, b3, o3⟩
  simp only [Int.toNat_natCast] at b3
  have y3 := y2.only o3 (by simp; omega)
  go_wp2_with fail
  refine (wipe_any b3 k w _ (by rw [wipeL_length]; exact hkw) hw5 ((m : Int) + 1) (by omega) hc1).mono ?_
  rintro e w4 ⟨rfl, b4, o4⟩
  rw [HT.out] at b4
  have y4 := y3.only o4 (by simp; omega)
  obtain ⟨u0, u1, u2, u3, u4, u5⟩ := StyBox.cells y4
  go_wp2_with (first
    | (refine wpList_gstore rfl _ _ rfl q _ rfl ⟨⟨#[]⟩, 0, y⟩ rfl _ b4 (k + (m + 1)) (by omega) (by simp only [wipeL_length]; exact hlt1) ?_; intro w5 b5 o5; have y5 := y4.only o5 (by simp; omega); clear u0 u1 u2 u3 u4 u5; obtain ⟨u0, u1, u2, u3, u4, u5⟩ := StyBox.cells y5)
    | (refine wpList_gstore rfl _ _ rfl q _ rfl ⟨s, 2, y⟩ rfl _ b5 (k + m) (by omega) (by simp only [List.length_set, wipeL_length]; exact hlt) ?_; intro w6 b6 o6))
  go_ret
  have oo : Only [q] W w6 := ((((o1.trans (Only.of_below hb2)).trans o3).trans o4).trans o5).trans o6
  exact ⟨rfl, g.step oo b6 (by simp [wipeL_length]), oo⟩
end Go.Proofs.Ytnakgjcmepimiaa
