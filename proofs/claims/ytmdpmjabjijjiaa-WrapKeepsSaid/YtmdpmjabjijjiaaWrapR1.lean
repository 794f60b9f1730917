/- Wrap: blanks, cut, pad, dots, align, fill; reference. No condition. -/
import Derived.Test.YtmdpmjabjijjiaaWrap2
import Derived.Test.YtmdpmjabjijjiaaRClus3
namespace Go.Proofs.Ytmdpmjabjijjiaa
set_option linter.unusedVariables false
set_option linter.unusedSimpArgs false
open Go.RowKit Go.Shelf Go.Maps
set_option maxRecDepth 100000 in
theorem refBlanks_any (n : Int) (h : -9223372036854775808 ≤ n ∧ n ≤ 100000) (w : World) : Calls Try.prog 113 #[.int .i64 n] w fun e w' => e = .returned (.string (S (blanksW n))) ∧ Below w.heap.size w w' := by
  go_enter Try.func113, Try.ntmps113
  go_wp2
  go_loopw [4, 3] (fun i v wr => ∃ k : Nat, (k : Int) ≤ max 0 n ∧ i = .int .i64 (k : Int) ∧ v = .string (S (List.replicate k 32)) ∧ Below w.heap.size w wr)
    (fun i _ _ => n.toNat - (intOf i).toNat)
  case atStart => exact ⟨0, by omega, rfl, rfl, Below.refl _ _⟩
  case round =>
    obtain ⟨k, hk, rfl, rfl, hbr⟩ := hrel
    by_cases hlt : (k : Int) < n
    · have hs : (S (List.replicate k 32)).size = k := by rw [S_size]; simp
      have hkb : k ≤ 100000 := by omega
      have HAP := Lib.hid (S_append (List.replicate k 32) [32])
      go_wp2
      go_roundw
      case rel => exact ⟨k + 1, by omega, by go_num, by rw [List.replicate_succ', ← HAP.out]; rfl, hbr⟩
      case measure => simp [intOf]; omega
    · have hle : n ≤ (k : Int) := by omega
      have he : List.replicate k 32 = blanksW n := by unfold blanksW; congr 1; omega
      have HE := Lib.hid he
      clear he hlt
      go_wp2
      go_ret
      exact ⟨by rw [← HE.out]; rfl, hbr⟩
set_option maxRecDepth 100000 in
theorem refCut17_any (s : List UInt8) (m : Int) (hs : s.length ≤ 10000) (hm : -9223372036854775808 ≤ m ∧ m ≤ 9223372036854775807) (w : World) : Calls Try.prog 74 #[.string (S s), .int .i64 m] w fun e w' => e = .returned (.string (S (cutW s m))) ∧ Below w.heap.size w w' := by
  have hfl := flat_len64 s
  have C1 := Lib.hid (fun W => refFlat_any s (by omega) W)
  have C2 := Lib.hid (fun W => refFit_any (flatL s) m (by omega) hm W)
  unfold cutW
  go_enter Try.func74, Try.ntmps74
  go_wp2_with (first
    | (go_at_call 20; refine (C1.out _).mono ?_; rintro e w1 ⟨rfl, hb1⟩)
    | (go_at_call 35; refine (C2.out _).mono ?_; rintro e w2 ⟨rfl, hb2⟩))
  go_ret
  exact ⟨rfl, bnext hb1 hb2⟩
theorem cutW_cols (s : List UInt8) (m : Int) : sumC (cutL (cutW s m)) = usedW s m := by
  unfold cutW usedW fitT fitN
  rw [cut_take]
theorem cutW_len (s : List UInt8) (m : Int) (hs : s.length ≤ 10000) : (cutW s m).length ≤ 64 * 10000 := by
  unfold cutW
  have h1 := flat_len64 s
  have h2 := fitT_cut_len (flatL s) m
  have h3 : cleanL (flatL s) = flatL s := clean_clean _
  rw [h3] at h2
  omega
set_option maxRecDepth 100000 in
theorem refPad_any (s : List UInt8) (m : Int) (hs : s.length ≤ 10000) (hm : -9223372036854775808 ≤ m ∧ m ≤ 1000) (w : World) : Calls Try.prog 76 #[.string (S s), .int .i64 m] w fun e w' => e = .returned (.string (S (padW s m))) ∧ Below w.heap.size w w' := by
  have hu := usedW_bd s m
  have C1 := (fun W => refCut17_any s m hs (by omega) W)
  have hT := cutW_len s m hs
  have C2 := (fun W => refColumns_any (cutW s m) (by omega) W)
  rw [cutW_cols] at C2
  unfold padW
  obtain ⟨u, hu'⟩ : ∃ u, u = usedW s m := ⟨_, rfl⟩
  obtain ⟨T, hT'⟩ : ∃ T, T = cutW s m := ⟨_, rfl⟩
  rw [← hu'] at hu C2 ⊢
  rw [← hT'] at hT C1 C2 ⊢
  have C1 := Lib.hid C1
  have C2 := Lib.hid C2
  have hu0 : u = 0 ∨ 0 ≤ m := by omega
  have C3 := Lib.hid (fun W => refBlanks_any (m - u) (by omega) W)
  have hwr : IntKind.i64.wrap (m - u) = m - u := IntWalk.i64_in _ (by omega)
  have hsT := S_size T
  have HAP := Lib.hid (S_append T (blanksW (m - u)))
  have hBl : (S (blanksW (m - u))).size ≤ 1000 := by rw [S_size, blanksW_len]; omega
  have hTl : T.length ≤ 100000000 := by omega
  clear hu' hT' hT
  go_enter Try.func76, Try.ntmps76
  go_wp2_with (first
    | (go_at_call 74; refine (C1.out _).mono ?_; rintro e w1 ⟨rfl, hb1⟩)
    | (go_at_call 31; refine (C2.out _).mono ?_; rintro e w2 ⟨rfl, hb2⟩)
    | (go_at_call 113; refine (C3.out _).mono ?_; rintro e w3 ⟨rfl, hb3⟩))
  go_ret
  exact ⟨by rw [← HAP.out]; rfl, bnext (bnext hb1 hb2) hb3⟩
set_option maxRecDepth 100000 in
theorem refDots_any (s : List UInt8) (m : Int) (hs : s.length ≤ 10000) (hm : -9223372036854775808 ≤ m ∧ m ≤ 1000) (w : World) : Calls Try.prog 78 #[.string (S s), .int .i64 m] w fun e w' => e = .returned (.string (S (dotsW s m))) ∧ Below w.heap.size w w' := by
  have hfl := flat_len64 s
  have C1 := Lib.hid (fun W => refFlat_any s (by omega) W)
  by_cases h1 : m < 1
  · have hz : dotsW s m = [] := by unfold dotsW; rw [if_pos h1]
    rw [hz]
    clear hz
    go_enter Try.func78, Try.ntmps78
    go_wp2_with (go_at_call 20; refine (C1.out _).mono ?_; rintro e w1 ⟨rfl, hb1⟩)
    go_ret
    exact ⟨rfl, hb1⟩
  · have C2 := (fun W => refColumns_any (flatL s) (by omega) W)
    have hz : dotsW s m = if sumC (cutL (flatL s)) ≤ m then flatL s else cutW s (m - 1) ++ [226, 128, 166] := by unfold dotsW; rw [if_neg h1]
    rw [hz]
    clear hz
    have h1' : 1 ≤ m := by omega
    obtain ⟨q, hq⟩ : ∃ q, q = sumC (cutL (flatL s)) := ⟨_, rfl⟩
    rw [← hq] at C2 ⊢
    have C2 := Lib.hid C2
    clear h1 hq
    by_cases h2 : q ≤ m
    · rw [if_pos h2]
      go_enter Try.func78, Try.ntmps78
      go_wp2_with (first
        | (go_at_call 20; refine (C1.out _).mono ?_; rintro e w1 ⟨rfl, hb1⟩)
        | (go_at_call 31; refine (C2.out _).mono ?_; rintro e w2 ⟨rfl, hb2⟩))
      go_ret
      exact ⟨rfl, bnext hb1 hb2⟩
    · rw [if_neg h2]
      have h2' : m < q := by omega
      have C3 := (fun W => refCut17_any s (m - 1) hs (by omega) W)
      have hT := cutW_len s (m - 1) hs
      obtain ⟨T, hT'⟩ : ∃ T, T = cutW s (m - 1) := ⟨_, rfl⟩
      rw [← hT'] at hT C3 ⊢
      have C3 := Lib.hid C3
      have hsT := S_size T
      have hTl : T.length ≤ 100000000 := by omega
      have HAP := Lib.hid (S_append T [226, 128, 166])
      clear hT' hT h2
      go_enter Try.func78, Try.ntmps78
      go_wp2_with (first
        | (go_at_call 20; refine (C1.out _).mono ?_; rintro e w1 ⟨rfl, hb1⟩)
        | (go_at_call 31; refine (C2.out _).mono ?_; rintro e w2 ⟨rfl, hb2⟩)
        | (go_at_call 74; refine (C3.out _).mono ?_; rintro e w3 ⟨rfl, hb3⟩))
      go_ret
      exact ⟨by rw [← HAP.out]; rfl, bnext (bnext hb1 hb2) hb3⟩
end Go.Proofs.Ytmdpmjabjijjiaa
