/- Join. -/
import Derived.Test.YtnakgjcmepimiaaGrid5
namespace Go.Proofs.Ytnakgjcmepimiaa
set_option linter.unusedVariables false
set_option linter.unusedSimpArgs false
open Go.RowKit
theorem flatV_setS (L : List GC) (i : Nat) (s : ByteArray) (C : GC) (h : L[i]? = some C) : (flatV L).set (7 * i) (.string s) = flatV (L.set i { C with s := s }) := by
  induction L generalizing i with
  | nil => simp at h
  | cons c L ih =>
    cases i with
    | zero =>
      simp only [List.getElem?_cons_zero, Option.some.injEq] at h
      subst h
      rfl
    | succ i =>
      simp only [List.getElem?_cons_succ] at h
      show (c.vals ++ flatV L).set (7 * (i + 1)) _ = c.vals ++ flatV (L.set i { C with s := s })
      rw [List.set_append_right _ _ (by rw [GC.vals_length]; omega), GC.vals_length, show 7 * (i + 1) - 7 = 7 * i by omega, ih i h]
theorem GBlk.setS {W : World} {q : Nat} {L : List GC} (hb : GBlk W q L) {i : Nat} {C : GC} (h : L[i]? = some C) (s : ByteArray) (off : Nat) (ho : off = 7 * i) : GBlk (W.setCell ⟨q, off, none⟩ (.string s)) q (L.set i { C with s := s }) ∧ Only [q] W (W.setCell ⟨q, off, none⟩ (.string s)) := by
  subst ho
  refine ⟨?_, (Only.refl [q] W).setCell (.inl (by simp)) _⟩
  rw [setCell_eq_setRow W q (7 * i) _ _ _ (.string s) hb]
  have e : (flatV L).toArray.setIfInBounds (7 * i) (.string s) = (flatV (L.set i { C with s := s })).toArray := by
    rw [← flatV_setS L i s C h]
    simp
  rw [e]
  exact hb.set _
theorem GBlk.frozen {W : World} {q : Nat} {L : List GC} (hb : GBlk W q L) (o : Nat) : W.frozen? ⟨q, o, none⟩ = false := by
  unfold GBlk at hb
  simp [World.frozen?, hb]
def joinAt (L : List GC) (k c : Nat) : Nat := if (nth GC.zero L (k + c)).w = 0 ∧ 0 < c then c - 1 else c
def joinFits (L : List GC) (k c : Nat) (s : ByteArray) : Prop := (s.size : Int) ≤ 64 - (nth GC.zero L (k + joinAt L k c)).s.size
def joinL (L : List GC) (k c : Nat) (s : ByteArray) : List GC := L.set (k + joinAt L k c) { nth GC.zero L (k + joinAt L k c) with s := (nth GC.zero L (k + joinAt L k c)).s ++ s }
theorem joinL_length (L : List GC) (k c : Nat) (s : ByteArray) : (joinL L k c s).length = L.length := by simp [joinL]
set_option maxRecDepth 100000 in
theorem join_out {W : World} {p q w h : Nat} {L : List GC} (g : GridAt W p q w h L) (r c : Int) (s : ByteArray) (hrc : ¬ (0 ≤ r ∧ r < h ∧ 0 ≤ c ∧ c < w)) :
    Calls Try.prog 115 #[.pointer (some ⟨p, 0, none⟩), .int .i64 r, .int .i64 c, .string s] W fun e w' => e = .returned (.tuple #[.bool false, .int .i64 5]) ∧ W = w' := by
  have CM := Lib.hid (made_any g)
  have ct := there_any g r c
  rw [show decide (0 ≤ r ∧ r < (h : Int) ∧ 0 ≤ c ∧ c < (w : Int)) = false by simpa using hrc] at ct
  have CT := Lib.hid ct
  clear ct hrc
  go_enter Try.func115, Try.ntmps115
  go_wp2_with (first | (go_at_call 75; refine (CM.out).mono ?_; rintro e w1 ⟨rfl, rfl⟩) | (go_at_call 80; refine (CT.out).mono ?_; rintro e w1 ⟨rfl, rfl⟩))
  go_ret2
  exact ⟨rfl, rfl⟩
set_option maxRecDepth 100000 in
set_option maxHeartbeats 1000000 in
theorem join_no {W : World} {p q w h : Nat} {L : List GC} (g : GridAt W p q w h L) (hS : ∀ c ∈ L, c.s.size ≤ 64) (r c : Int) (s : ByteArray) (hr0 : 0 ≤ r) (hr1 : r < h) (hc0 : 0 ≤ c) (hc1 : c < w) (hf : ¬ joinFits L (w * r.toNat) c.toNat s) :
    Calls Try.prog 115 #[.pointer (some ⟨p, 0, none⟩), .int .i64 r, .int .i64 c, .string s] W fun e w' => e = .returned (.tuple #[.bool false, .int .i64 0]) ∧ Below W.heap.size W w' := by
  obtain ⟨k, hk⟩ : ∃ k, k = w * r.toNat := ⟨_, rfl⟩
  obtain ⟨m, rfl⟩ := Int.eq_ofNat_of_zero_le hc0
  have hmw : m < w := by omega
  have hlt : k + m < L.length := by rw [g.len, hk]; exact place_lt (by omega) (by omega)
  have hw5 := g.w2
  simp only [Int.toNat_natCast] at hf ⊢
  rw [← hk] at hf 
  obtain ⟨j, hj⟩ : ∃ j, j = joinAt L k m := ⟨_, rfl⟩
  have hjm : j ≤ m := by rw [hj]; unfold joinAt; split <;> omega
  have hjl : k + j < L.length := by omega
  obtain ⟨C, hC⟩ : ∃ C, C = nth GC.zero L (k + m) := ⟨_, rfl⟩
  obtain ⟨D, hD⟩ : ∃ D, D = nth GC.zero L (k + j) := ⟨_, rfl⟩
  have hCi : L[k + m]? = some C := by rw [hC, nth_eq _ _ _ hlt, List.getElem?_eq_getElem hlt]
  have hDi : L[k + j]? = some D := by rw [hD, nth_eq _ _ _ hjl, List.getElem?_eq_getElem hjl]
  have hD64 : D.s.size ≤ 64 := hS D (List.mem_of_getElem? hDi)
  unfold joinFits at hf
  rw [← hj, ← hD] at hf
  
  
  have hcase : (C.w = 0 ∧ 0 < m ∧ j = m - 1) ∨ (¬ (C.w = 0 ∧ 0 < m) ∧ j = m) := by
    unfold joinAt at hj
    rw [← hC] at hj
    by_cases hh : C.w = 0 ∧ 0 < m
    · rw [if_pos hh] at hj; exact .inl ⟨hh.1, hh.2, hj⟩
    · rw [if_neg hh] at hj; exact .inr ⟨hh, hj⟩
  obtain ⟨x, hx⟩ : ∃ x, x = C.w := ⟨_, rfl⟩
  rw [← hx] at hcase
  obtain ⟨t, ht⟩ : ∃ t, t = D.s := ⟨_, rfl⟩
  rw [← ht] at hD64 hf
  have CM := Lib.hid (made_any g)
  have ct := there_any g r (m : Int)
  rw [show decide (0 ≤ r ∧ r < (h : Int) ∧ 0 ≤ (m : Int) ∧ (m : Int) < (w : Int)) = true by simp; omega] at ct
  have CT := Lib.hid ct
  have CL := Lib.hid (line_any g r hr0 hr1 k hk)
  have HK := Lib.hid hk
  have HCI := Lib.hid hCi
  have HDI := Lib.hid hDi
  have HX := Lib.hid hx
  have HTT := Lib.hid ht
  clear ct hk hCi hDi hx hC hD hj hS ht
  have hf2 : (64 : Int) - t.size < s.size := by omega
  clear hf
  rcases hcase with ⟨rfl, hm0, hjd⟩ | ⟨hn, rfl⟩
  · have hm1 : (0 : Int) < (m : Int) := by omega
    have hm2 : (m : Int) - 1 = (j : Int) := by omega
    have hjw : j < w := by omega
    have HJD := Lib.hid hjd
    clear hjd
    go_enter Try.func115, Try.ntmps115
    go_wp2_with (first
      | (go_at_call 75; refine (CM.out).mono ?_; rintro e w1 ⟨rfl, rfl⟩)
      | (go_at_call 80; refine (CT.out).mono ?_; rintro e w1 ⟨rfl, rfl⟩)
      | (go_at_call 81; refine (CL.out).mono ?_; rintro e w2 ⟨rfl, hb2⟩; have b2 := g.blk.only (Only.of_below (S := []) hb2) (by simp); have o2 : Only [q] W w2 := Only.of_below hb2; have hcw : w2.cell? ⟨q, k * 7 + m * 7 + 1, none⟩ = some (.int .i64 0) := (by have := b2.range1 HCI.out 1 _ rfl; rw [show k * 7 + m * 7 + 1 = 7 * (k + m) + 1 by omega, HX.out]; exact this); have hcs : w2.cell? ⟨q, k * 7 + j * 7, none⟩ = some (.string t) := (by have := b2.range1 HDI.out 0 _ rfl; rw [show k * 7 + j * 7 = 7 * (k + j) + 0 by omega, HTT.out]; exact this); have hfz := b2.frozen (k * 7 + j * 7)))
    all_goals first | (exfalso; omega) | skip
    all_goals go_ret2
    all_goals exact ⟨rfl, hb2⟩
  · have hn2 : j = 0 ∨ ¬ x = 0 := by omega
    go_enter Try.func115, Try.ntmps115
    go_wp2_with (first
      | (go_at_call 75; refine (CM.out).mono ?_; rintro e w1 ⟨rfl, rfl⟩)
      | (go_at_call 80; refine (CT.out).mono ?_; rintro e w1 ⟨rfl, rfl⟩)
      | (go_at_call 81; refine (CL.out).mono ?_; rintro e w2 ⟨rfl, hb2⟩; have b2 := g.blk.only (Only.of_below (S := []) hb2) (by simp); have o2 : Only [q] W w2 := Only.of_below hb2; have hcw : w2.cell? ⟨q, k * 7 + j * 7 + 1, none⟩ = some (.int .i64 x) := (by have := b2.range1 HCI.out 1 _ rfl; rw [show k * 7 + j * 7 + 1 = 7 * (k + j) + 1 by omega, HX.out]; exact this); have hcs : w2.cell? ⟨q, k * 7 + j * 7, none⟩ = some (.string t) := (by have := b2.range1 HDI.out 0 _ rfl; rw [show k * 7 + j * 7 = 7 * (k + j) + 0 by omega, HTT.out]; exact this); have hfz := b2.frozen (k * 7 + j * 7)))
    all_goals first | (exfalso; omega) | skip
    all_goals go_ret2
    all_goals exact ⟨rfl, hb2⟩
set_option maxRecDepth 100000 in
set_option maxHeartbeats 1000000 in
theorem join_yes {W : World} {p q w h : Nat} {L : List GC} (g : GridAt W p q w h L) (hS : ∀ c ∈ L, c.s.size ≤ 64) (r c : Int) (s : ByteArray) (hr0 : 0 ≤ r) (hr1 : r < h) (hc0 : 0 ≤ c) (hc1 : c < w) (hf : joinFits L (w * r.toNat) c.toNat s) :
    Calls Try.prog 115 #[.pointer (some ⟨p, 0, none⟩), .int .i64 r, .int .i64 c, .string s] W fun e w' => e = .returned (.tuple #[.bool true, .int .i64 0]) ∧ GridAt w' p q w h (joinL L (w * r.toNat) c.toNat s) ∧ Only [q] W w' := by
  obtain ⟨k, hk⟩ : ∃ k, k = w * r.toNat := ⟨_, rfl⟩
  obtain ⟨m, rfl⟩ := Int.eq_ofNat_of_zero_le hc0
  have hmw : m < w := by omega
  have hlt : k + m < L.length := by rw [g.len, hk]; exact place_lt (by omega) (by omega)
  have hw5 := g.w2
  simp only [Int.toNat_natCast] at hf ⊢
  rw [← hk] at hf ⊢
  obtain ⟨j, hj⟩ : ∃ j, j = joinAt L k m := ⟨_, rfl⟩
  have hjm : j ≤ m := by rw [hj]; unfold joinAt; split <;> omega
  have hjl : k + j < L.length := by omega
  obtain ⟨C, hC⟩ : ∃ C, C = nth GC.zero L (k + m) := ⟨_, rfl⟩
  obtain ⟨D, hD⟩ : ∃ D, D = nth GC.zero L (k + j) := ⟨_, rfl⟩
  have hCi : L[k + m]? = some C := by rw [hC, nth_eq _ _ _ hlt, List.getElem?_eq_getElem hlt]
  have hDi : L[k + j]? = some D := by rw [hD, nth_eq _ _ _ hjl, List.getElem?_eq_getElem hjl]
  have hD64 : D.s.size ≤ 64 := hS D (List.mem_of_getElem? hDi)
  unfold joinFits at hf
  rw [← hj, ← hD] at hf
  have hJ : joinL L k m s = L.set (k + j) { D with s := D.s ++ s } := by unfold joinL; rw [← hj, ← hD]
  rw [hJ]
  have hcase : (C.w = 0 ∧ 0 < m ∧ j = m - 1) ∨ (¬ (C.w = 0 ∧ 0 < m) ∧ j = m) := by
    unfold joinAt at hj
    rw [← hC] at hj
    by_cases hh : C.w = 0 ∧ 0 < m
    · rw [if_pos hh] at hj; exact .inl ⟨hh.1, hh.2, hj⟩
    · rw [if_neg hh] at hj; exact .inr ⟨hh, hj⟩
  obtain ⟨x, hx⟩ : ∃ x, x = C.w := ⟨_, rfl⟩
  rw [← hx] at hcase
  obtain ⟨t, ht⟩ : ∃ t, t = D.s := ⟨_, rfl⟩
  rw [← ht] at hD64 hf ⊢
  have CM := Lib.hid (made_any g)
  have ct := there_any g r (m : Int)
  rw [show decide (0 ≤ r ∧ r < (h : Int) ∧ 0 ≤ (m : Int) ∧ (m : Int) < (w : Int)) = true by simp; omega] at ct
  have CT := Lib.hid ct
  have CL := Lib.hid (line_any g r hr0 hr1 k hk)
  have HK := Lib.hid hk
  have HCI := Lib.hid hCi
  have HDI := Lib.hid hDi
  have HX := Lib.hid hx
  have HTT := Lib.hid ht
  clear ct hk hCi hDi hx hC hD hj hJ hS ht
  have hf2 : ¬ (64 : Int) - t.size < s.size := by omega
  have hf3 : t.size + s.size ≤ 64 := by omega
  clear hf
  rcases hcase with ⟨rfl, hm0, hjd⟩ | ⟨hn, rfl⟩
  · have hm1 : (0 : Int) < (m : Int) := by omega
    have hm2 : (m : Int) - 1 = (j : Int) := by omega
    have hjw : j < w := by omega
    have HJD := Lib.hid hjd
    clear hjd
    go_enter Try.func115, Try.ntmps115
    go_wp2_with (first
      | (go_at_call 75; refine (CM.out).mono ?_; rintro e w1 ⟨rfl, rfl⟩)
      | (go_at_call 80; refine (CT.out).mono ?_; rintro e w1 ⟨rfl, rfl⟩)
      | (go_at_call 81; refine (CL.out).mono ?_; rintro e w2 ⟨rfl, hb2⟩; have b2 := g.blk.only (Only.of_below (S := []) hb2) (by simp); have o2 : Only [q] W w2 := Only.of_below hb2; have hcw : w2.cell? ⟨q, k * 7 + m * 7 + 1, none⟩ = some (.int .i64 0) := (by have := b2.range1 HCI.out 1 _ rfl; rw [show k * 7 + m * 7 + 1 = 7 * (k + m) + 1 by omega, HX.out]; exact this); have hcs : w2.cell? ⟨q, k * 7 + j * 7, none⟩ = some (.string t) := (by have := b2.range1 HDI.out 0 _ rfl; rw [show k * 7 + j * 7 = 7 * (k + j) + 0 by omega, HTT.out]; exact this); have hfz := b2.frozen (k * 7 + j * 7)))
    all_goals first | (exfalso; omega) | skip
    all_goals go_ret2
    all_goals obtain ⟨b3, o3⟩ := b2.setS HDI.out (t ++ s) (k * 7 + j * 7) (by omega)
    all_goals exact ⟨rfl, g.step (o2.trans o3) b3 (by simp), o2.trans o3⟩
  · have hn2 : j = 0 ∨ ¬ x = 0 := by omega
    go_enter Try.func115, Try.ntmps115
    go_wp2_with (first
      | (go_at_call 75; refine (CM.out).mono ?_; rintro e w1 ⟨rfl, rfl⟩)
      | (go_at_call 80; refine (CT.out).mono ?_; rintro e w1 ⟨rfl, rfl⟩)
      | (go_at_call 81; refine (CL.out).mono ?_; rintro e w2 ⟨rfl, hb2⟩; have b2 := g.blk.only (Only.of_below (S := []) hb2) (by simp); have o2 : Only [q] W w2 := Only.of_below hb2; have hcw : w2.cell? ⟨q, k * 7 + j * 7 + 1, none⟩ = some (.int .i64 x) := (by have := b2.range1 HCI.out 1 _ rfl; rw [show k * 7 + j * 7 + 1 = 7 * (k + j) + 1 by omega, HX.out]; exact this); have hcs : w2.cell? ⟨q, k * 7 + j * 7, none⟩ = some (.string t) := (by have := b2.range1 HDI.out 0 _ rfl; rw [show k * 7 + j * 7 = 7 * (k + j) + 0 by omega, HTT.out]; exact this); have hfz := b2.frozen (k * 7 + j * 7)))
    all_goals first | (exfalso; omega) | skip
    all_goals go_ret2
    all_goals obtain ⟨b3, o3⟩ := b2.setS HDI.out (t ++ s) (k * 7 + j * 7) (by omega)
    all_goals exact ⟨rfl, g.step (o2.trans o3) b3 (by simp), o2.trans o3⟩
end Go.Proofs.Ytnakgjcmepimiaa
