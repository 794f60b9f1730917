/- Erase. -/
import Derived.Test.YtnakgjcmepimiaaGrid6
namespace Go.Proofs.Ytnakgjcmepimiaa
set_option linter.unusedVariables false
set_option linter.unusedSimpArgs false
open Go.RowKit
def wipes (k w : Nat) : Nat → Nat → List GC → List GC
  | _, 0, L => L
  | i, n + 1, L => wipes k w (i + 1) n (wipeL L k w i)
theorem wipes_length (k w : Nat) : ∀ (n i : Nat) (L : List GC), (wipes k w i n L).length = L.length
  | 0, _, _ => rfl
  | n + 1, i, L => by rw [wipes, wipes_length k w n, wipeL_length]
def eraseL (L : List GC) (k w : Nat) (a b : Int) : List GC := wipes k w (max 0 a).toNat ((min b w).toNat - (max 0 a).toNat) L
theorem eraseL_length (L : List GC) (k w : Nat) (a b : Int) : (eraseL L k w a b).length = L.length := wipes_length _ _ _ _ _
set_option maxRecDepth 100000 in
theorem erase_out {W : World} {p q w h : Nat} {L : List GC} (g : GridAt W p q w h L) (r a b : Int) (hr : ¬ (0 ≤ r ∧ r < h)) :
    Calls Try.prog 58 #[.pointer (some ⟨p, 0, none⟩), .int .i64 r, .int .i64 a, .int .i64 b] W fun e w' => e = .returned (.int .i64 5) ∧ W = w' := by
  obtain ⟨c0, c1, c2⟩ := g.cells
  have CM := Lib.hid (made_any g)
  by_cases hr0 : r < 0
  · go_enter Try.func58, Try.ntmps58
    go_wp2_with (go_at_call 75; refine (CM.out).mono ?_; rintro e w1 ⟨rfl, rfl⟩)
    go_ret
    exact ⟨rfl, rfl⟩
  · have hr2 : (h : Int) ≤ r := by omega
    clear hr
    go_enter Try.func58, Try.ntmps58
    go_wp2_with (go_at_call 75; refine (CM.out).mono ?_; rintro e w1 ⟨rfl, rfl⟩)
    go_ret
    exact ⟨rfl, rfl⟩
set_option maxRecDepth 100000 in
set_option maxHeartbeats 1000000 in
theorem erase_ok {W : World} {p q w h : Nat} {L : List GC} (g : GridAt W p q w h L) (r a b : Int) (hr0 : 0 ≤ r) (hr1 : r < h) :
    Calls Try.prog 58 #[.pointer (some ⟨p, 0, none⟩), .int .i64 r, .int .i64 a, .int .i64 b] W fun e w' => e = .returned (.int .i64 0) ∧ GridAt w' p q w h (eraseL L (w * r.toNat) w a b) ∧ Only [q] W w' := by
  obtain ⟨c0, c1, c2⟩ := g.cells
  obtain ⟨k, hk⟩ : ∃ k, k = w * r.toNat := ⟨_, rfl⟩
  have hkw : k + w ≤ L.length := by rw [g.len, hk]; exact line_le (by omega)
  have hw5 := g.w2
  rw [← hk]
  obtain ⟨FIN, hF⟩ : ∃ F, F = eraseL L k w a b := ⟨_, rfl⟩
  obtain ⟨lo, hlo⟩ : ∃ n : Nat, n = (max 0 a).toNat := ⟨_, rfl⟩
  obtain ⟨hi, hhi⟩ : ∃ n : Nat, n = (min b w).toNat := ⟨_, rfl⟩
  have hF0 : FIN = wipes k w lo (hi - lo) L := by rw [hF, hlo, hhi]; rfl
  rw [← hF]
  have hlo2 : max 0 a = (lo : Int) := by omega
  have hhw : hi ≤ w := by omega
  have HF := Lib.hid hF0
  have HH := Lib.hid hhi
  have HL := Lib.hid hlo
  have CM := Lib.hid (made_any g)
  have CL := Lib.hid (line_any g r hr0 hr1 k hk)
  have HK := Lib.hid hk
  clear hF hF0 hlo hhi hk
  by_cases ha : 0 < a
  · have haa : a = (lo : Int) := by omega
    have AA := Lib.hid haa
    clear haa hlo2
    go_enter Try.func58, Try.ntmps58
    go_wp2_with (first
      | (go_at_call 75; refine (CM.out).mono ?_; rintro e w1 ⟨rfl, rfl⟩)
      | (go_at_call 81; refine (CL.out).mono ?_; rintro e w2 ⟨rfl, hb2⟩))
    go_loopw [10] (fun i wr => ∃ (n : Nat) (M : List GC), i = .int .i64 n ∧ FIN = wipes k w n (hi - n) M ∧ M.length = L.length ∧ GBlk wr q M ∧ Only [q] W wr) (fun i _ => hi - (intOf i).toNat)
    case atStart => exact ⟨lo, L, by rw [AA], HF.out, rfl, g.blk.only (Only.of_below (S := []) hb2) (by simp), Only.of_below hb2⟩
    case round =>
      obtain ⟨n, M, rfl, hf, hml, hb, ho⟩ := hrel
      have HF2 := Lib.hid hf
      have gr := g.step ho hb hml
      obtain ⟨d0, d1, d2⟩ := gr.cells
      clear hf c0 c1 c2
      by_cases hn : n < hi
      · have hnw : (n : Int) < (w : Int) := by omega
        have hnb : (n : Int) < b := by have := HH.out; omega
        go_wp2_with (go_at_call 82; refine (wipe_any hb k w _ (by omega) hw5 (n : Int) (by omega) hnw).mono ?_; rintro e w3 ⟨rfl, b3, o3⟩; simp only [Int.toNat_natCast] at b3)
        all_goals refine ⟨⟨n + 1, _, by go_num, ?_, by rw [wipeL_length]; exact hml, b3, ho.trans o3⟩, by simp [intOf]; omega⟩
        all_goals (rw [HF2.out, show hi - n = (hi - (n + 1)) + 1 by omega]; rfl)
      · have hnm : b ≤ (n : Int) ∨ (w : Int) ≤ (n : Int) := by have := HH.out; omega
        have hfin : FIN = M := by rw [HF2.out, show hi - n = 0 by omega]; rfl
        have HFIN := Lib.hid hfin
        clear hfin
        by_cases hbw : b < (w : Int)
        · have hbn : b ≤ (n : Int) := by omega
          go_wp2
          all_goals go_ret
          all_goals exact ⟨rfl, by rw [HFIN.out]; exact gr, ho⟩
        · have hwb : (w : Int) ≤ b := by omega
          have hbn : (w : Int) ≤ (n : Int) := by omega
          go_wp2
          all_goals go_ret
          all_goals exact ⟨rfl, by rw [HFIN.out]; exact gr, ho⟩
  · have haa : (0 : Int) = (lo : Int) := by omega
    have AA : Hid ((0 : Int) = (lo : Int)) := Lib.hid haa
    have ha2 : a ≤ 0 := by omega
    clear haa hlo2
    go_enter Try.func58, Try.ntmps58
    go_wp2_with (first
      | (go_at_call 75; refine (CM.out).mono ?_; rintro e w1 ⟨rfl, rfl⟩)
      | (go_at_call 81; refine (CL.out).mono ?_; rintro e w2 ⟨rfl, hb2⟩))
    go_loopw [10] (fun i wr => ∃ (n : Nat) (M : List GC), i = .int .i64 n ∧ FIN = wipes k w n (hi - n) M ∧ M.length = L.length ∧ GBlk wr q M ∧ Only [q] W wr) (fun i _ => hi - (intOf i).toNat)
    case atStart => exact ⟨lo, L, by rw [AA], HF.out, rfl, g.blk.only (Only.of_below (S := []) hb2) (by simp), Only.of_below hb2⟩
    case round =>
      obtain ⟨n, M, rfl, hf, hml, hb, ho⟩ := hrel
      have HF2 := Lib.hid hf
      have gr := g.step ho hb hml
      obtain ⟨d0, d1, d2⟩ := gr.cells
      clear hf c0 c1 c2
      by_cases hn : n < hi
      · have hnw : (n : Int) < (w : Int) := by omega
        have hnb : (n : Int) < b := by have := HH.out; omega
        go_wp2_with (go_at_call 82; refine (wipe_any hb k w _ (by omega) hw5 (n : Int) (by omega) hnw).mono ?_; rintro e w3 ⟨rfl, b3, o3⟩; simp only [Int.toNat_natCast] at b3)
        all_goals refine ⟨⟨n + 1, _, by go_num, ?_, by rw [wipeL_length]; exact hml, b3, ho.trans o3⟩, by simp [intOf]; omega⟩
        all_goals (rw [HF2.out, show hi - n = (hi - (n + 1)) + 1 by omega]; rfl)
      · have hnm : b ≤ (n : Int) ∨ (w : Int) ≤ (n : Int) := by have := HH.out; omega
        have hfin : FIN = M := by rw [HF2.out, show hi - n = 0 by omega]; rfl
        have HFIN := Lib.hid hfin
        clear hfin
        by_cases hbw : b < (w : Int)
        · have hbn : b ≤ (n : Int) := by omega
          go_wp2
          all_goals go_ret
          all_goals exact ⟨rfl, by rw [HFIN.out]; exact gr, ho⟩
        · have hwb : (w : Int) ≤ b := by omega
          have hbn : (w : Int) ≤ (n : Int) := by omega
          go_wp2
          all_goals go_ret
          all_goals exact ⟨rfl, by rw [HFIN.out]; exact gr, ho⟩
end Go.Proofs.Ytnakgjcmepimiaa
