/- The law WrapCuts. No condition. -/
import Derived.Test.YtmdpmjabjijjiaaWrap8
namespace Go.Proofs.Ytmdpmjabjijjiaa
set_option linter.unusedVariables false
set_option linter.unusedSimpArgs false
open Go.RowKit Go.Shelf Go.Maps
theorem sumC_ge : ∀ (L : List (List UInt8)), (∀ c ∈ L, Clu c) → (L.length : Int) ≤ sumC L
  | [], _ => by simp [sumC]
  | c :: L, h => by
    have h1 := sumC_ge L (fun x hx => h x (List.mem_cons_of_mem _ hx))
    have h2 := (h c (List.mem_cons_self ..)).cols
    rw [sumC_cons, List.length_cons]; push_cast; omega
theorem fillW_len (s : List UInt8) (m : Int) : (fillW s m).1.length ≤ 40000 := by
  unfold fillW
  split
  · simp
  rename_i h1
  have hD := sumC_ge (cutL (flatL s)) (fun c hc => clu_mem hc)
  have hl := flat_len (cutL (flatL s)) 64 (fun c hc => (clu_mem hc).len.2)
  rw [flat_own] at hl
  obtain ⟨q, hqq⟩ : ∃ q, q = sumC (cutL (flatL s)) := ⟨_, rfl⟩
  rw [← hqq] at hD ⊢
  split
  · show (blanksW m).length ≤ _
    rw [blanksW_len]; omega
  · rename_i h0
    show (timesL (flatL s) (m / q).toNat ++ blanksW (m % q)).length ≤ _
    rw [List.length_append, timesL_len, blanksW_len]
    have hq : 0 ≤ q := by omega
    have h5 : 0 ≤ m / q := Int.ediv_nonneg (by omega) hq
    have h6 : m / q * q ≤ m := Int.ediv_mul_le m h0
    have h7 : m % q ≤ m := by
      have := Int.emod_add_mul_ediv m q
      rw [Int.mul_comm] at this
      have h8 : 0 ≤ m / q * q := Int.mul_nonneg h5 hq
      omega
    have h9 : ((m / q).toNat : Int) * ((flatL s).length : Int) ≤ (m / q) * (64 * q) := by
      rw [Int.toNat_of_nonneg h5]
      exact Int.mul_le_mul_of_nonneg_left (by omega) h5
    have h10 : (m / q) * (64 * q) = 64 * (m / q * q) := by rw [Int.mul_left_comm]
    have h11 : (((m / q).toNat * (flatL s).length : Nat) : Int) = ((m / q).toNat : Int) * ((flatL s).length : Int) := by push_cast; rfl
    omega
theorem alignW_len (s : List UInt8) (m how : Int) (hs : s.length ≤ 10000) : (alignW s m how).1.length ≤ 1000000 := by
  have h := cutW_len s m hs
  have hu := usedW_bd s m
  unfold alignW
  split
  · simp
  split
  · simp
  split
  · show (cutW s m ++ blanksW _).length ≤ _
    rw [List.length_append, blanksW_len]; omega
  split
  · show (blanksW _ ++ cutW s m).length ≤ _
    rw [List.length_append, blanksW_len]; omega
  · show (blanksW _ ++ cutW s m ++ blanksW _).length ≤ _
    rw [List.length_append, List.length_append, blanksW_len, blanksW_len]; omega
theorem padW_len (s : List UInt8) (m : Int) (hs : s.length ≤ 10000) (hm : m ≤ 1000) : (padW s m).length ≤ 1000000 := by
  have h := cutW_len s m hs
  have hu := usedW_bd s m
  unfold padW
  rw [List.length_append, blanksW_len]; omega
set_option maxRecDepth 100000 in
set_option maxHeartbeats 16000000 in
theorem wrapCuts_law (s0 : ByteArray) (m0 how : Int) (w : World) (hs0 : s0.size ≤ maxLen) (hm0 : (Lit.int .i64 m0).wf = true) (hh0 : (Lit.int .i64 how).wf = true) :
    Calls Try.prog 14 #[.string s0, .int .i64 m0, .int .i64 how] w fun e w' => e = .returned (.bool true) ∧ Below w.heap.size w w' := by
  have hm : -9223372036854775808 ≤ m0 ∧ m0 ≤ 9223372036854775807 := by simpa [Lit.wf, IntKind.min, IntKind.max, IntKind.signed, IntKind.bits] using hm0
  have hh : -9223372036854775808 ≤ how ∧ how ≤ 9223372036854775807 := by simpa [Lit.wf, IntKind.min, IntKind.max, IntKind.signed, IntKind.bits] using hh0
  obtain ⟨l0, rfl⟩ := S_back s0
  rw [S_size] at hs0
  have C0 := Lib.hid (fun W => cut17_any l0 W hs0)
  have CW := Lib.hid (fun W => wide17_any m0 W)
  obtain ⟨s, hs'⟩ : ∃ s, s = l0.take 300 := ⟨_, rfl⟩
  obtain ⟨m, hm'⟩ : ∃ m, m = min m0 600 := ⟨_, rfl⟩
  rw [← hs'] at C0
  rw [← hm'] at CW
  have hsl : s.length ≤ 300 := by rw [hs', List.length_take]; omega
  have hml : -9223372036854775808 ≤ m ∧ m ≤ 600 := by omega
  clear hs' hm' hm hm0 hh0
  have C1 := (fun W => walign_any s m how (by omega) (by omega) hh W)
  have C2 := (fun W => refAlign_any s m how (by omega) (by omega) hh W)
  have C3 := (fun W => wfill_any s m (by omega) (by omega) W)
  have C4 := (fun W => refFill_any s m (by omega) (by omega) W)
  have C5 := Lib.hid (fun W => wcut_any s m (by omega) (by omega) W)
  have C6 := Lib.hid (fun W => refCut17_any s m (by omega) (by omega) W)
  have C7 := (fun W => wpad_any s m (by omega) (by omega) W)
  have C8 := (fun W => refPad_any s m (by omega) (by omega) W)
  have C9 := Lib.hid (fun W => wdots_any s m (by omega) (by omega) W)
  have CA := Lib.hid (fun W => refDots_any s m (by omega) (by omega) W)
  have hAc := alignW_cols s m how
  have hFc := fillW_cols s m
  have hPc := padW_cols s m
  have hAl := alignW_len s m how (by omega)
  have hFl := fillW_len s m
  have hPl := padW_len s m (by omega) (by omega)
  obtain ⟨⟨A, E⟩, hA⟩ : ∃ X, X = alignW s m how := ⟨_, rfl⟩
  obtain ⟨⟨F, G⟩, hF⟩ : ∃ X, X = fillW s m := ⟨_, rfl⟩
  obtain ⟨P, hP⟩ : ∃ X, X = padW s m := ⟨_, rfl⟩
  rw [← hA] at C1 C2 hAc hAl
  rw [← hF] at C3 C4 hFc hFl
  rw [← hP] at C7 C8 hPc hPl
  dsimp only at C1 C2 C3 C4 hAc hFc hAl hFl
  have D1 := (fun W => refColumns_any A (by omega) W)
  have D2 := (fun W => refColumns_any F (by omega) W)
  have D3 := (fun W => refColumns_any P (by omega) W)
  have C1 := Lib.hid C1
  have C2 := Lib.hid C2
  have C3 := Lib.hid C3
  have C4 := Lib.hid C4
  have C7 := Lib.hid C7
  have C8 := Lib.hid C8
  obtain ⟨a, ha⟩ : ∃ a, a = sumC (cutL A) := ⟨_, rfl⟩
  obtain ⟨f, hf⟩ : ∃ a, a = sumC (cutL F) := ⟨_, rfl⟩
  obtain ⟨p, hp⟩ : ∃ a, a = sumC (cutL P) := ⟨_, rfl⟩
  rw [← ha] at D1 hAc
  rw [← hf] at D2 hFc
  rw [← hp] at D3 hPc
  have D1 := Lib.hid D1
  have D2 := Lib.hid D2
  have D3 := Lib.hid D3
  clear hA hF hP ha hf hp hAl hFl hPl
  have hE : E = 0 ∧ a = m ∨ (E == 0) = false := by
    by_cases h : E = 0
    · exact .inl ⟨h, hAc h⟩
    · exact .inr (by simp [h])
  have hG : G = 0 ∧ f = m ∨ (G == 0) = false := by
    by_cases h : G = 0
    · exact .inl ⟨h, hFc h⟩
    · exact .inr (by simp [h])
  have hM : 0 ≤ m ∧ p = m ∨ m < 0 := by
    by_cases h : 0 ≤ m
    · exact .inl ⟨h, hPc h⟩
    · exact .inr (by omega)
  clear hAc hFc hPc
  have hB := Below.refl w.heap.size w
  rcases hM with ⟨gm, rfl⟩ | gm
  all_goals rcases hE with ⟨rfl, rfl⟩ | gE
  all_goals rcases hG with ⟨rfl, rfl⟩ | gG
  all_goals go_enter Try.func14, Try.ntmps14
  all_goals go_wp2_with (first
    | (go_at_call 57; refine (C0.out _).mono ?_; rintro e wn ⟨rfl, rfl⟩)
    | (go_at_call 58; refine (CW.out _).mono ?_; rintro e wn ⟨rfl, rfl⟩)
    | (go_at_call 69; refine (C1.out _).mono ?_; rintro e wn ⟨rfl, hbn⟩; have hB := bnext hB hbn; clear hbn)
    | (go_at_call 70; refine (C2.out _).mono ?_; rintro e wn ⟨rfl, hbn⟩; have hB := bnext hB hbn; clear hbn)
    | (go_at_call 71; refine (C3.out _).mono ?_; rintro e wn ⟨rfl, hbn⟩; have hB := bnext hB hbn; clear hbn)
    | (go_at_call 72; refine (C4.out _).mono ?_; rintro e wn ⟨rfl, hbn⟩; have hB := bnext hB hbn; clear hbn)
    | (go_at_call 73; refine (C5.out _).mono ?_; rintro e wn ⟨rfl, hbn⟩; have hB := bnext hB hbn; clear hbn)
    | (go_at_call 74; refine (C6.out _).mono ?_; rintro e wn ⟨rfl, hbn⟩; have hB := bnext hB hbn; clear hbn)
    | (go_at_call 75; refine (C7.out _).mono ?_; rintro e wn ⟨rfl, hbn⟩; have hB := bnext hB hbn; clear hbn)
    | (go_at_call 76; refine (C8.out _).mono ?_; rintro e wn ⟨rfl, hbn⟩; have hB := bnext hB hbn; clear hbn)
    | (go_at_call 77; refine (C9.out _).mono ?_; rintro e wn ⟨rfl, hbn⟩; have hB := bnext hB hbn; clear hbn)
    | (go_at_call 78; refine (CA.out _).mono ?_; rintro e wn ⟨rfl, hbn⟩; have hB := bnext hB hbn; clear hbn)
    | (go_at_call_of 31 (Value.string (S A)); refine (D1.out _).mono ?_; rintro e wn ⟨rfl, hbn⟩; have hB := bnext hB hbn; clear hbn)
    | (go_at_call_of 31 (Value.string (S F)); refine (D2.out _).mono ?_; rintro e wn ⟨rfl, hbn⟩; have hB := bnext hB hbn; clear hbn)
    | (go_at_call_of 31 (Value.string (S P)); refine (D3.out _).mono ?_; rintro e wn ⟨rfl, hbn⟩; have hB := bnext hB hbn; clear hbn)
    | (go_at_call 60; refine (awake17_any _).mono ?_; rintro e wn ⟨rfl, hbn⟩; have hB := bnext hB hbn; clear hbn))
  all_goals go_ret
  all_goals exact ⟨rfl, hB⟩
end Go.Proofs.Ytmdpmjabjijjiaa
