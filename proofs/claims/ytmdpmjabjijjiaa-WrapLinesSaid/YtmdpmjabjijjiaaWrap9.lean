/- The law WrapCuts; the law's example. No condition. The law WrapCuts. No condition. -/
import Derived.Test.YtmdpmjabjijjiaaWrap7
import Derived.Test.YtmdpmjabjijjiaaWrapR2
import Derived.Test.YtmdpmjabjijjiaaRClus7
namespace Go.Proofs.Ytmdpmjabjijjiaa
set_option linter.unusedVariables false
set_option linter.unusedSimpArgs false
open Go.RowKit Go.Shelf Go.Maps
def awwL : List (List UInt8) := [[116, 111, 32, 98, 101], [111, 114], [110, 111, 116]]
theorem aww_wrap : wrapL [116, 111, 32, 98, 101, 32, 111, 114, 32, 110, 111, 116] 5 = awwL := by decide +kernel
theorem aww_align : alignW [97, 98] 5 2 = ([32, 97, 98, 32, 32], 0) := by decide +kernel
theorem aww_dots : dotsW [97, 98, 99, 100, 101, 102] 4 = [97, 98, 99, 226, 128, 166] := by decide +kernel
theorem aww_pad : padW [97] 3 = [97, 32, 32] := by decide +kernel
set_option maxRecDepth 100000 in
set_option maxHeartbeats 4000000 in
theorem awake17_any (w : World) : Calls Try.prog 60 #[] w fun e w' => e = .returned (.bool true) ∧ Below w.heap.size w w' := by
  have C1 : ∀ W, Calls Try.prog 59 #[.string ⟨#[116, 111, 32, 98, 101, 32, 111, 114, 32, 110, 111, 116]⟩, .int .i64 5] W (StrsW awwL W) := fun W => aww_wrap ▸ wrap_any [116, 111, 32, 98, 101, 32, 111, 114, 32, 110, 111, 116] 5 (by decide) (by omega) W
  have C2 : ∀ W, Calls Try.prog 69 #[.string ⟨#[97, 98]⟩, .int .i64 5, .int .i64 2] W fun e w' => e = .returned (.tuple #[.string (S [32, 97, 98, 32, 32]), .int .i64 0]) ∧ Below W.heap.size W w' := fun W => by
    have := walign_any [97, 98] 5 2 (by decide) (by omega) (by omega) W
    rw [aww_align] at this
    exact this
  have C3 : ∀ W, Calls Try.prog 77 #[.string ⟨#[97, 98, 99, 100, 101, 102]⟩, .int .i64 4] W fun e w' => e = .returned (.string (S [97, 98, 99, 226, 128, 166])) ∧ Below W.heap.size W w' := fun W => aww_dots ▸ wdots_any [97, 98, 99, 100, 101, 102] 4 (by decide) (by omega) W
  have C4 : ∀ W, Calls Try.prog 75 #[.string ⟨#[97]⟩, .int .i64 3] W fun e w' => e = .returned (.string (S [97, 32, 32])) ∧ Below W.heap.size W w' := fun W => aww_pad ▸ wpad_any [97] 3 (by decide) (by omega) W
  have C1 := Lib.hid C1
  have C2 := Lib.hid C2
  have C3 := Lib.hid C3
  have C4 := Lib.hid C4
  have CS := Lib.hid (fun W a b n c m d hn hm ha hb => sameAll_eq awwL a b n c m d W hn hm (by decide) ha hb)
  have q1 : ((S [97, 98, 99, 226, 128, 166]).toList == [97, 98, 99, 226, 128, 166]) = true := by rw [S_toList]; rfl
  have q2 : ((S [97, 32, 32]).toList == [97, 32, 32]) = true := by rw [S_toList]; rfl
  have q3 : ((S [32, 97, 98, 32, 32]).toList == [32, 97, 98, 32, 32]) = true := by rw [S_toList]; rfl
  go_enter Try.func60, Try.ntmps60
  go_wp2_with (first
    | (go_at_call 59; refine (C1.out _).mono ?_; rintro e w1 ⟨a1, n1, c1, hn1, hnc1, hcm1, rfl, hrow1, hb1⟩; obtain rfl : n1 = 3 := hn1)
    | (go_at_call 69; refine (C2.out _).mono ?_; rintro e w2 ⟨rfl, hb2⟩; replace hrow1 := (hrow1.below hb2).more hb2.size; have hrow2 := row_next hrow1 ((Below.refl _ w2).alloc (Nat.le_refl _) (.cells #[.string ⟨#[116, 111, 32, 98, 101]⟩, .string ⟨#[111, 114]⟩, .string ⟨#[110, 111, 116]⟩] 9)); have hnew := RowAt.new w2 (strV awwL) 9))
  refine (CS.out _ _ _ _ _ _ _ (by decide) (by decide) hrow2 hnew).mono ?_
  rintro e w3 ⟨rfl, hb3⟩
  have hB3 : Below w.heap.size w w3 := bto ((bnext hb1 hb2).alloc (bnext hb1 hb2).size _) hb3 (by have := (bnext hb1 hb2).size; simp; omega)
  go_wp2_with (first
    | (go_at_call 77; refine (C3.out _).mono ?_; rintro e w4 ⟨rfl, hb4⟩)
    | (go_at_call 75; refine (C4.out _).mono ?_; rintro e w5 ⟨rfl, hb5⟩))
  go_ret
  exact ⟨rfl, bnext (bnext hB3 hb4) hb5⟩
set_option maxRecDepth 100000 in
theorem cut17_any (l : List UInt8) (w : World) (hl : l.length ≤ maxLen) : Calls Try.prog 57 #[.string (S l)] w fun e w' => e = .returned (.string (S (l.take 300))) ∧ w = w' := by
  unfold maxLen at hl
  have hs := S_size l
  obtain ⟨k, hk⟩ : ∃ k, k = min l.length 300 := ⟨_, rfl⟩
  have hmin : min (l.length : Int) 300 = (k : Int) := by omega
  have hkl : k ≤ l.length := by omega
  have hext : (S l).extract 0 k = S (l.take 300) := by
    rw [S_extract, List.drop_zero, Nat.sub_zero]
    congr 1
    rcases Nat.le_total l.length 300 with h | h
    · rw [List.take_of_length_le (by omega), List.take_of_length_le h]
    · rw [show k = 300 by omega]
  have HX := Lib.hid hext
  have hki : (k : Int) ≤ (l.length : Int) := by omega
  clear hk hext
  go_enter Try.func57, Try.ntmps57
  go_wp2
  go_ret
  exact ⟨ret_str HX.out, rfl⟩
set_option maxRecDepth 100000 in
theorem wide17_any (m : Int) (w : World) : Calls Try.prog 58 #[.int .i64 m] w fun e w' => e = .returned (.int .i64 (min m 600)) ∧ w = w' := by
  go_enter Try.func58, Try.ntmps58
  go_wp2
  go_ret
  exact ⟨rfl, rfl⟩
/-! ### columns -/
theorem cols_flat {D : List (List UInt8)} (h : ∀ c ∈ D, Clu c) : sumC (cutL D.flatten) = sumC D := by rw [cutL_flat h]
def blanksD (n : Int) : List (List UInt8) := List.replicate n.toNat [32]
theorem blanksD_flat (n : Int) : blanksW n = (blanksD n).flatten := by
  unfold blanksW blanksD
  simp
theorem blanksD_clu (n : Int) : ∀ c ∈ blanksD n, Clu c := fun c hc => by
  rw [(List.mem_replicate.1 hc).2]; exact clu32
theorem blanksD_sum (n : Int) : sumC (blanksD n) = max 0 n := by
  unfold blanksD
  have : ∀ k : Nat, sumC (List.replicate k [32]) = k := by
    intro k
    induction k with
    | zero => rfl
    | succ k ih => rw [List.replicate_succ, sumC_cons, ih, cols32]; omega
  rw [this]; omega
def cutD (s : List UInt8) (m : Int) : List (List UInt8) := (cutL (flatL s)).take (fitK (cutL (flatL s)) m)
theorem cutD_clu (s : List UInt8) (m : Int) : ∀ c ∈ cutD s m, Clu c := fun c hc => clu_mem (List.mem_of_mem_take hc)
theorem app_clu {A B : List (List UInt8)} (ha : ∀ c ∈ A, Clu c) (hb : ∀ c ∈ B, Clu c) : ∀ c ∈ A ++ B, Clu c := fun c hc => by
  rcases List.mem_append.1 hc with h | h
  · exact ha c h
  · exact hb c h
theorem padW_cols (s : List UInt8) (m : Int) (hm : 0 ≤ m) : sumC (cutL (padW s m)) = m := by
  have hu := usedW_bd s m
  have e : padW s m = (cutD s m ++ blanksD (m - usedW s m)).flatten := by
    rw [List.flatten_append, ← blanksD_flat]; rfl
  rw [e, cols_flat (app_clu (cutD_clu s m) (blanksD_clu _)), sumC_append, blanksD_sum]
  have : sumC (cutD s m) = usedW s m := rfl
  omega
theorem alignW_cols (s : List UInt8) (m how : Int) (h : (alignW s m how).2 = 0) : sumC (cutL (alignW s m how).1) = m := by
  have hu := usedW_bd s m
  have hd : sumC (cutD s m) = usedW s m := rfl
  unfold alignW at h ⊢
  split at h
  · simp at h
  rename_i h1
  split at h
  · simp at h
  rename_i h2
  rw [if_neg h1, if_neg h2]
  split
  · have e : cutW s m ++ blanksW (m - usedW s m) = (cutD s m ++ blanksD (m - usedW s m)).flatten := by rw [List.flatten_append, ← blanksD_flat]; rfl
    show sumC (cutL (cutW s m ++ blanksW (m - usedW s m))) = m
    rw [e, cols_flat (app_clu (cutD_clu s m) (blanksD_clu _)), sumC_append, blanksD_sum]
    omega
  split
  · have e : blanksW (m - usedW s m) ++ cutW s m = (blanksD (m - usedW s m) ++ cutD s m).flatten := by rw [List.flatten_append, ← blanksD_flat]; rfl
    show sumC (cutL (blanksW (m - usedW s m) ++ cutW s m)) = m
    rw [e, cols_flat (app_clu (blanksD_clu _) (cutD_clu s m)), sumC_append, blanksD_sum]
    omega
  · have e : blanksW ((m - usedW s m) / 2) ++ cutW s m ++ blanksW (m - usedW s m - (m - usedW s m) / 2) = (blanksD ((m - usedW s m) / 2) ++ cutD s m ++ blanksD (m - usedW s m - (m - usedW s m) / 2)).flatten := by
      rw [List.flatten_append, List.flatten_append, ← blanksD_flat, ← blanksD_flat]; rfl
    show sumC (cutL (blanksW ((m - usedW s m) / 2) ++ cutW s m ++ blanksW (m - usedW s m - (m - usedW s m) / 2))) = m
    rw [e, cols_flat (app_clu (app_clu (blanksD_clu _) (cutD_clu s m)) (blanksD_clu _)), sumC_append, sumC_append, blanksD_sum, blanksD_sum]
    omega
def timesD (D : List (List UInt8)) (k : Nat) : List (List UInt8) := (List.replicate k D).flatten
theorem timesD_flat (D : List (List UInt8)) : ∀ k, (timesD D k).flatten = timesL D.flatten k
  | 0 => rfl
  | k + 1 => by
    have h := timesD_flat D k
    unfold timesD timesL at h ⊢
    rw [List.replicate_succ, List.replicate_succ, List.flatten_cons, List.flatten_cons, List.flatten_append, h]
theorem timesD_clu {D : List (List UInt8)} (h : ∀ c ∈ D, Clu c) (k : Nat) : ∀ c ∈ timesD D k, Clu c := fun c hc => by
  unfold timesD at hc
  obtain ⟨l, hl, hcl⟩ := List.mem_flatten.1 hc
  rw [(List.mem_replicate.1 hl).2] at hcl
  exact h c hcl
theorem timesD_sum (D : List (List UInt8)) : ∀ k : Nat, sumC (timesD D k) = k * sumC D
  | 0 => by simp [timesD, sumC]
  | k + 1 => by
    have h := timesD_sum D k
    unfold timesD at h ⊢
    rw [List.replicate_succ, List.flatten_cons, sumC_append, h]
    push_cast
    rw [Int.add_mul]; omega
theorem flat_own (s : List UInt8) : (cutL (flatL s)).flatten = flatL s := by
  unfold flatL
  exact clean_clean _
theorem fillW_cols (s : List UInt8) (m : Int) (h : (fillW s m).2 = 0) : sumC (cutL (fillW s m).1) = m := by
  unfold fillW at h ⊢
  split at h
  · simp at h
  rename_i h1
  rw [if_neg h1]
  have hq := (sumC_bd (cutL (flatL s))).1
  obtain ⟨q, hqq⟩ : ∃ q, q = sumC (cutL (flatL s)) := ⟨_, rfl⟩
  rw [← hqq] at hq ⊢
  split
  · show sumC (cutL (blanksW m)) = m
    rw [blanksD_flat, cols_flat (blanksD_clu _), blanksD_sum]; omega
  · rename_i h0
    show sumC (cutL (timesL (flatL s) (m / q).toNat ++ blanksW (m % q))) = m
    have e : timesL (flatL s) (m / q).toNat ++ blanksW (m % q) = (timesD (cutL (flatL s)) (m / q).toNat ++ blanksD (m % q)).flatten := by
      rw [List.flatten_append, ← blanksD_flat, timesD_flat, flat_own]
    rw [e, cols_flat (app_clu (timesD_clu (fun c hc => clu_mem hc) _) (blanksD_clu _)), sumC_append, blanksD_sum, timesD_sum, ← hqq]
    have h3 := Int.emod_add_mul_ediv m q
    have h4 : 0 ≤ m % q := Int.emod_nonneg _ h0
    have h5 : 0 ≤ m / q := Int.ediv_nonneg (by omega) hq
    rw [Int.toNat_of_nonneg h5, Int.mul_comm]
    omega
end Go.Proofs.Ytmdpmjabjijjiaa
namespace Go.Proofs.Ytmdpmjabjijjiaa
set_option linter.unusedVariables false
set_option linter.unusedSimpArgs false
open Go.RowKit Go.Shelf Go.Maps
theorem sumC_ge : ∀ (L : List (List UInt8)), (∀ c ∈ L, Clu c) → (L.length : Int) ≤ sumC L
  | [], _ => by simp [sumC]
  | c :: L, h => by
    have h1 := sumC_ge L (fun x hx => h x (List.mem_cons_of_mem _ hx))
    have h2 := (h c (List.mem_cons_self ..)).cols
    rw [sumC_cons, List.length_cons]; push_cast; omega
theorem fillW_len (s : List UInt8) (m : Int) : (fillW s m).1.length ≤ 40000 := by
  unfold fillW
  split
  · simp
  rename_i h1
  have hD := sumC_ge (cutL (flatL s)) (fun c hc => clu_mem hc)
  have hl := flat_len (cutL (flatL s)) 64 (fun c hc => (clu_mem hc).len.2)
  rw [flat_own] at hl
  obtain ⟨q, hqq⟩ : ∃ q, q = sumC (cutL (flatL s)) := ⟨_, rfl⟩
  rw [← hqq] at hD ⊢
  split
  · show (blanksW m).length ≤ _
    rw [blanksW_len]; omega
  · rename_i h0
    show (timesL (flatL s) (m / q).toNat ++ blanksW (m % q)).length ≤ _
    rw [List.length_append, timesL_len, blanksW_len]
    have hq : 0 ≤ q := by omega
    have h5 : 0 ≤ m / q := Int.ediv_nonneg (by omega) hq
    have h6 : m / q * q ≤ m := Int.ediv_mul_le m h0
    have h7 : m % q ≤ m := by
      have := Int.emod_add_mul_ediv m q
      rw [Int.mul_comm] at this
      have h8 : 0 ≤ m / q * q := Int.mul_nonneg h5 hq
      omega
    have h9 : ((m / q).toNat : Int) * ((flatL s).length : Int) ≤ (m / q) * (64 * q) := by
      rw [Int.toNat_of_nonneg h5]
      exact Int.mul_le_mul_of_nonneg_left (by omega) h5
    have h10 : (m / q) * (64 * q) = 64 * (m / q * q) := by rw [Int.mul_left_comm]
    have h11 : (((m / q).toNat * (flatL s).length : Nat) : Int) = ((m / q).toNat : Int) * ((flatL s).length : Int) := by push_cast; rfl
    omega
theorem alignW_len (s : List UInt8) (m how : Int) (hs : s.length ≤ 10000) : (alignW s m how).1.length ≤ 1000000 := by
  have h := cutW_len s m hs
  have hu := usedW_bd s m
  unfold alignW
  split
  · simp
  split
  · simp
  split
  · show (cutW s m ++ blanksW _).length ≤ _
    rw [List.length_append, blanksW_len]; omega
  split
  · show (blanksW _ ++ cutW s m).length ≤ _
    rw [List.length_append, blanksW_len]; omega
  · show (blanksW _ ++ cutW s m ++ blanksW _).length ≤ _
    rw [List.length_append, List.length_append, blanksW_len, blanksW_len]; omega
theorem padW_len (s : List UInt8) (m : Int) (hs : s.length ≤ 10000) (hm : m ≤ 1000) : (padW s m).length ≤ 1000000 := by
  have h := cutW_len s m hs
  have hu := usedW_bd s m
  unfold padW
  rw [List.length_append, blanksW_len]; omega
set_option maxRecDepth 100000 in
set_option maxHeartbeats 16000000 in
theorem wrapCuts_law (s0 : ByteArray) (m0 how : Int) (w : World) (hs0 : s0.size ≤ maxLen) (hm0 : (Lit.int .i64 m0).wf = true) (hh0 : (Lit.int .i64 how).wf = true) :
    Calls Try.prog 14 #[.string s0, .int .i64 m0, .int .i64 how] w fun e w' => e = .returned (.bool true) ∧ Below w.heap.size w w' := by
  have hm : -9223372036854775808 ≤ m0 ∧ m0 ≤ 9223372036854775807 := by simpa [Lit.wf, IntKind.min, IntKind.max, IntKind.signed, IntKind.bits] using hm0
  have hh : -9223372036854775808 ≤ how ∧ how ≤ 9223372036854775807 := by simpa [Lit.wf, IntKind.min, IntKind.max, IntKind.signed, IntKind.bits] using hh0
  obtain ⟨l0, rfl⟩ := S_back s0
  rw [S_size] at hs0
  have C0 := Lib.hid (fun W => cut17_any l0 W hs0)
  have CW := Lib.hid (fun W => wide17_any m0 W)
  obtain ⟨s, hs'⟩ : ∃ s, s = l0.take 300 := ⟨_, rfl⟩
  obtain ⟨m, hm'⟩ : ∃ m, m = min m0 600 := ⟨_, rfl⟩
  rw [← hs'] at C0
  rw [← hm'] at CW
  have hsl : s.length ≤ 300 := by rw [hs', List.length_take]; omega
  have hml : -9223372036854775808 ≤ m ∧ m ≤ 600 := by omega
  clear hs' hm' hm hm0 hh0
  have C1 := (fun W => walign_any s m how (by omega) (by omega) hh W)
  have C2 := (fun W => refAlign_any s m how (by omega) (by omega) hh W)
  have C3 := (fun W => wfill_any s m (by omega) (by omega) W)
  have C4 := (fun W => refFill_any s m (by omega) (by omega) W)
  have C5 := Lib.hid (fun W => wcut_any s m (by omega) (by omega) W)
  have C6 := Lib.hid (fun W => refCut17_any s m (by omega) (by omega) W)
  have C7 := (fun W => wpad_any s m (by omega) (by omega) W)
  have C8 := (fun W => refPad_any s m (by omega) (by omega) W)
  have C9 := Lib.hid (fun W => wdots_any s m (by omega) (by omega) W)
  have CA := Lib.hid (fun W => refDots_any s m (by omega) (by omega) W)
  have hAc := alignW_cols s m how
  have hFc := fillW_cols s m
  have hPc := padW_cols s m
  have hAl := alignW_len s m how (by omega)
  have hFl := fillW_len s m
  have hPl := padW_len s m (by omega) (by omega)
  obtain ⟨⟨A, E⟩, hA⟩ : ∃ X, X = alignW s m how := ⟨_, rfl⟩
  obtain ⟨⟨F, G⟩, hF⟩ : ∃ X, X = fillW s m := ⟨_, rfl⟩
  obtain ⟨P, hP⟩ : ∃ X, X = padW s m := ⟨_, rfl⟩
  rw [← hA] at C1 C2 hAc hAl
  rw [← hF] at C3 C4 hFc hFl
  rw [← hP] at C7 C8 hPc hPl
  dsimp only at C1 C2 C3 C4 hAc hFc hAl hFl
  have D1 := (fun W => refColumns_any A (by omega) W)
  have D2 := (fun W => refColumns_any F (by omega) W)
  have D3 := (fun W => refColumns_any P (by omega) W)
  have C1 := Lib.hid C1
  have C2 := Lib.hid C2
  have C3 := Lib.hid C3
  have C4 := Lib.hid C4
  have C7 := Lib.hid C7
  have C8 := Lib.hid C8
  obtain ⟨a, ha⟩ : ∃ a, a = sumC (cutL A) := ⟨_, rfl⟩
  obtain ⟨f, hf⟩ : ∃ a, a = sumC (cutL F) := ⟨_, rfl⟩
  obtain ⟨p, hp⟩ : ∃ a, a = sumC (cutL P) := ⟨_, rfl⟩
  rw [← ha] at D1 hAc
  rw [← hf] at D2 hFc
  rw [← hp] at D3 hPc
  have D1 := Lib.hid D1
  have D2 := Lib.hid D2
  have D3 := Lib.hid D3
  clear hA hF hP ha hf hp hAl hFl hPl
  have hE : E = 0 ∧ a = m ∨ (E == 0) = false := by
    by_cases h : E = 0
    · exact .inl ⟨h, hAc h⟩
    · exact .inr (by simp [h])
  have hG : G = 0 ∧ f = m ∨ (G == 0) = false := by
    by_cases h : G = 0
    · exact .inl ⟨h, hFc h⟩
    · exact .inr (by simp [h])
  have hM : 0 ≤ m ∧ p = m ∨ m < 0 := by
    by_cases h : 0 ≤ m
    · exact .inl ⟨h, hPc h⟩
    · exact .inr (by omega)
  clear hAc hFc hPc
  have hB := Below.refl w.heap.size w
  rcases hM with ⟨gm, rfl⟩ | gm
  all_goals rcases hE with ⟨rfl, rfl⟩ | gE
  all_goals rcases hG with ⟨rfl, rfl⟩ | gG
  all_goals go_enter Try.func14, Try.ntmps14
  all_goals go_wp2_with (first
    | (go_at_call 57; refine (C0.out _).mono ?_; rintro e wn ⟨rfl, rfl⟩)
    | (go_at_call 58; refine (CW.out _).mono ?_; rintro e wn ⟨rfl, rfl⟩)
    | (go_at_call 69; refine (C1.out _).mono ?_; rintro e wn ⟨rfl, hbn⟩; have hB := bnext hB hbn; clear hbn)
    | (go_at_call 70; refine (C2.out _).mono ?_; rintro e wn ⟨rfl, hbn⟩; have hB := bnext hB hbn; clear hbn)
    | (go_at_call 71; refine (C3.out _).mono ?_; rintro e wn ⟨rfl, hbn⟩; have hB := bnext hB hbn; clear hbn)
    | (go_at_call 72; refine (C4.out _).mono ?_; rintro e wn ⟨rfl, hbn⟩; have hB := bnext hB hbn; clear hbn)
    | (go_at_call 73; refine (C5.out _).mono ?_; rintro e wn ⟨rfl, hbn⟩; have hB := bnext hB hbn; clear hbn)
    | (go_at_call 74; refine (C6.out _).mono ?_; rintro e wn ⟨rfl, hbn⟩; have hB := bnext hB hbn; clear hbn)
    | (go_at_call 75; refine (C7.out _).mono ?_; rintro e wn ⟨rfl, hbn⟩; have hB := bnext hB hbn; clear hbn)
    | (go_at_call 76; refine (C8.out _).mono ?_; rintro e wn ⟨rfl, hbn⟩; have hB := bnext hB hbn; clear hbn)
    | (go_at_call 77; refine (C9.out _).mono ?_; rintro e wn ⟨rfl, hbn⟩; have hB := bnext hB hbn; clear hbn)
    | (go_at_call 78; refine (CA.out _).mono ?_; rintro e wn ⟨rfl, hbn⟩; have hB := bnext hB hbn; clear hbn)
    | (go_at_call_of 31 (Value.string (S A)); refine (D1.out _).mono ?_; rintro e wn ⟨rfl, hbn⟩; have hB := bnext hB hbn; clear hbn)
    | (go_at_call_of 31 (Value.string (S F)); refine (D2.out _).mono ?_; rintro e wn ⟨rfl, hbn⟩; have hB := bnext hB hbn; clear hbn)
    | (go_at_call_of 31 (Value.string (S P)); refine (D3.out _).mono ?_; rintro e wn ⟨rfl, hbn⟩; have hB := bnext hB hbn; clear hbn)
    | (go_at_call 60; refine (awake17_any _).mono ?_; rintro e wn ⟨rfl, hbn⟩; have hB := bnext hB hbn; clear hbn))
  all_goals go_ret
  all_goals exact ⟨rfl, hB⟩
end Go.Proofs.Ytmdpmjabjijjiaa
