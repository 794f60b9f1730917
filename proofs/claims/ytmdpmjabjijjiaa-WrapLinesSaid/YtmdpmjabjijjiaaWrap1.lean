/- Wrap: cut, pad, dots, align and fill; program. No condition. -/
import Derived.Test.YtmdpmjabjijjiaaClus6
namespace Go.Proofs.Ytmdpmjabjijjiaa
set_option linter.unusedVariables false
set_option linter.unusedSimpArgs false
open Go.RowKit Go.Shelf Go.Maps
theorem flat_len64 (l : List UInt8) : (flatL l).length ≤ 64 * l.length := by
  have := clean_len (blanksL l)
  unfold flatL
  unfold blanksL at this ⊢
  simpa using this
def blanksW (n : Int) : List UInt8 := List.replicate n.toNat 32
def cutW (s : List UInt8) (w : Int) : List UInt8 := fitT (flatL s) w
def usedW (s : List UInt8) (w : Int) : Int := fitN (flatL s) w
def padW (s : List UInt8) (w : Int) : List UInt8 := cutW s w ++ blanksW (w - usedW s w)
def dotsW (s : List UInt8) (w : Int) : List UInt8 := if w < 1 then [] else if sumC (cutL (flatL s)) ≤ w then flatL s else cutW s (w - 1) ++ [226, 128, 166]
def alignW (s : List UInt8) (w how : Int) : List UInt8 × Int :=
  if w < 0 ∨ 500 < w then ([], 170) else if how < 0 ∨ 2 < how then ([], 1)
  else if how = 0 then (cutW s w ++ blanksW (w - usedW s w), 0)
  else if how = 1 then (blanksW (w - usedW s w) ++ cutW s w, 0)
  else (blanksW ((w - usedW s w) / 2) ++ cutW s w ++ blanksW (w - usedW s w - (w - usedW s w) / 2), 0)
def timesL (t : List UInt8) (k : Nat) : List UInt8 := (List.replicate k t).flatten
def fillW (s : List UInt8) (w : Int) : List UInt8 × Int :=
  if w < 0 ∨ 500 < w then ([], 170)
  else if sumC (cutL (flatL s)) = 0 then (blanksW w, 0)
  else (timesL (flatL s) (w / sumC (cutL (flatL s))).toNat ++ blanksW (w % sumC (cutL (flatL s))), 0)
theorem blanksW_neg {n : Int} (h : n ≤ 0) : blanksW n = [] := by unfold blanksW; rw [Int.toNat_of_nonpos h]; rfl
theorem blanksW_len (n : Int) : (blanksW n).length = n.toNat := by simp [blanksW]
theorem fitT_len (l : List UInt8) (w : Int) : (fitT l w).length ≤ 64 * l.length := by
  unfold fitT
  have h1 := flat_len ((cutL l).take (fitK (cutL l) w)) 64 (fun c hc => (clu_mem (List.mem_of_mem_take hc)).len.2)
  have h2 := cutL_len l
  rw [List.length_take] at h1
  omega
theorem fitT_cut_len (l : List UInt8) (w : Int) : (fitT l w).length ≤ (cleanL l).length := by
  unfold fitT cleanL
  conv => rhs; rw [← List.take_append_drop (fitK (cutL l) w) (cutL l), List.flatten_append, List.length_append]
  omega
theorem fitK_sum : ∀ (L : List (List UInt8)) (n : Int), sumC (L.take (fitK L n)) ≤ max 0 n
  | [], n => by simp [fitK, sumC]; omega
  | c :: L, n => by
    unfold fitK
    split
    · simp [sumC]; omega
    · rename_i h
      have := fitK_sum L (n - colsL c)
      have hc := colsL_bd c
      rw [List.take_succ_cons, sumC_cons]
      omega
theorem usedW_bd (s : List UInt8) (w : Int) : 0 ≤ usedW s w ∧ usedW s w ≤ max 0 w := by
  unfold usedW fitN
  exact ⟨(sumC_bd _).1, fitK_sum _ _⟩
theorem rep32 : ∀ k, Lib.repeatL ([32] : List UInt8) k = List.replicate k 32
  | 0 => rfl
  | k + 1 => by rw [Lib.repeatL, rep32 k, List.replicate_succ]; rfl
theorem repeat32 (k : Nat) (hk : k ≤ 100000) (W : World) : Calls Try.prog 114 #[.string ⟨#[32]⟩, .int .i64 k] W fun e w' => e = .returned (.string (S (List.replicate k 32))) ∧ Below W.heap.size W w' := by
  refine (Try.strings_Repeat ⟨#[32]⟩ k W (by omega) (by show 1 * k ≤ _; omega)).mono fun e w' hh => ⟨?_, hh.2⟩
  rw [hh.1]
  show Ending.returned (.string (S (Lib.repeatL [32] k))) = _
  rw [rep32]
set_option maxRecDepth 100000 in
theorem blanks_any' (n : Int) (h : n ≤ 100000) (w : World) : Calls Try.prog 112 #[.int .i64 n] w fun e w' => e = .returned (.string (S (blanksW n))) ∧ Below w.heap.size w w' := by
  have CR := Lib.hid (fun W => repeat32 n.toNat (by omega) W)
  have hm : max 0 n = (n.toNat : Int) := by omega
  obtain ⟨k, hk⟩ : ∃ k, k = n.toNat := ⟨_, rfl⟩
  rw [← hk] at CR hm
  have HK := Lib.hid hk
  clear hk
  go_enter Try.func112, Try.ntmps112
  go_wp2_with (go_at_call 114; refine (CR.out _).mono ?_; rintro e w1 ⟨rfl, hb1⟩)
  go_ret
  exact ⟨by unfold blanksW; rw [← HK.out]; rfl, hb1⟩
set_option maxRecDepth 100000 in
theorem wcut_any (s : List UInt8) (m : Int) (hs : s.length ≤ 10000) (hm : -9223372036854775808 ≤ m ∧ m ≤ 9223372036854775807) (w : World) : Calls Try.prog 73 #[.string (S s), .int .i64 m] w fun e w' => e = .returned (.string (S (cutW s m))) ∧ Below w.heap.size w w' := by
  have hfl := flat_len64 s
  have C1 := Lib.hid (fun W => flat_any s (by omega) W)
  have C2 := Lib.hid (fun W => fitc_any (flatL s) m (by omega) hm W)
  unfold cutW
  go_enter Try.func73, Try.ntmps73
  go_wp2_with (first
    | (go_at_call 19; refine (C1.out _).mono ?_; rintro e w1 ⟨rfl, hb1⟩)
    | (go_at_call 34; refine (C2.out _).mono ?_; rintro e w2 ⟨rfl, hb2⟩))
  go_ret
  exact ⟨rfl, bnext hb1 hb2⟩
set_option maxRecDepth 100000 in
theorem wpad_any (s : List UInt8) (m : Int) (hs : s.length ≤ 10000) (hm : -9223372036854775808 ≤ m ∧ m ≤ 1000) (w : World) : Calls Try.prog 75 #[.string (S s), .int .i64 m] w fun e w' => e = .returned (.string (S (padW s m))) ∧ Below w.heap.size w w' := by
  have hfl := flat_len64 s
  have hu := usedW_bd s m
  have C1 := Lib.hid (fun W => flat_any s (by omega) W)
  have C2 := (fun W => fitc_any (flatL s) m (by omega) (by omega) W)
  have hT := fitT_len (flatL s) m
  unfold padW cutW
  unfold usedW at hu ⊢
  obtain ⟨u, hu'⟩ : ∃ u, u = fitN (flatL s) m := ⟨_, rfl⟩
  obtain ⟨T, hT'⟩ : ∃ T, T = fitT (flatL s) m := ⟨_, rfl⟩
  rw [← hu'] at hu C2 ⊢
  rw [← hT'] at hT C2 ⊢
  have C2 := Lib.hid C2
  have C3 := Lib.hid (fun W => blanks_any' (m - u) (by omega) W)
  have hsT := S_size T
  have hTl : T.length ≤ 100000000 := by omega
  clear hu' hT' hT
  by_cases h : m < u
  · have hbl : blanksW (m - u) = [] := blanksW_neg (by omega)
    have HB := Lib.hid hbl
    clear hbl
    go_enter Try.func75, Try.ntmps75
    go_wp2_with (first
      | (go_at_call 19; refine (C1.out _).mono ?_; rintro e w1 ⟨rfl, hb1⟩)
      | (go_at_call 34; refine (C2.out _).mono ?_; rintro e w2 ⟨rfl, hb2⟩))
    go_ret
    exact ⟨by rw [HB.out, List.append_nil]; rfl, bnext hb1 hb2⟩
  · have h' : u ≤ m := by omega
    have HBL := Lib.hid (blanksW_len (m - u))
    have HAP := Lib.hid (S_append T (blanksW (m - u)))
    obtain ⟨B, hB⟩ : ∃ B, B = blanksW (m - u) := ⟨_, rfl⟩
    rw [← hB] at C3 HBL HAP ⊢
    have hsB := S_size B
    have hBl : B.length ≤ 1000 := by rw [HBL.out]; omega
    clear h hB
    go_enter Try.func75, Try.ntmps75
    go_wp2_with (first
      | (go_at_call 19; refine (C1.out _).mono ?_; rintro e w1 ⟨rfl, hb1⟩)
      | (go_at_call 34; refine (C2.out _).mono ?_; rintro e w2 ⟨rfl, hb2⟩)
      | (go_at_call 112; refine (C3.out _).mono ?_; rintro e w3 ⟨rfl, hb3⟩))
    go_ret
    exact ⟨by rw [← HAP.out]; rfl, bnext (bnext hb1 hb2) hb3⟩
set_option maxRecDepth 100000 in
theorem wdots_any (s : List UInt8) (m : Int) (hs : s.length ≤ 10000) (hm : -9223372036854775808 ≤ m ∧ m ≤ 1000) (w : World) : Calls Try.prog 77 #[.string (S s), .int .i64 m] w fun e w' => e = .returned (.string (S (dotsW s m))) ∧ Below w.heap.size w w' := by
  have hfl := flat_len64 s
  have C1 := Lib.hid (fun W => flat_any s (by omega) W)
  by_cases h1 : m < 1
  · have hz : dotsW s m = [] := by unfold dotsW; rw [if_pos h1]
    rw [hz]
    clear hz
    go_enter Try.func77, Try.ntmps77
    go_wp2_with (go_at_call 19; refine (C1.out _).mono ?_; rintro e w1 ⟨rfl, hb1⟩)
    go_ret
    exact ⟨rfl, hb1⟩
  · have C2 := (fun W => columns_any (flatL s) (by omega) W)
    have hz : dotsW s m = if sumC (cutL (flatL s)) ≤ m then flatL s else cutW s (m - 1) ++ [226, 128, 166] := by unfold dotsW; rw [if_neg h1]
    rw [hz]
    clear hz
    have h1' : 1 ≤ m := by omega
    obtain ⟨q, hq⟩ : ∃ q, q = sumC (cutL (flatL s)) := ⟨_, rfl⟩
    rw [← hq] at C2 ⊢
    have C2 := Lib.hid C2
    clear h1 hq
    by_cases h2 : q ≤ m
    · rw [if_pos h2]
      go_enter Try.func77, Try.ntmps77
      go_wp2_with (first
        | (go_at_call 19; refine (C1.out _).mono ?_; rintro e w1 ⟨rfl, hb1⟩)
        | (go_at_call 30; refine (C2.out _).mono ?_; rintro e w2 ⟨rfl, hb2⟩))
      go_ret
      exact ⟨rfl, bnext hb1 hb2⟩
    · rw [if_neg h2]
      have h2' : m < q := by omega
      have C3 := (fun W => fitc_any (flatL s) (m - 1) (by omega) (by omega) W)
      unfold cutW
      have hT := fitT_len (flatL s) (m - 1)
      obtain ⟨T, hT'⟩ : ∃ T, T = fitT (flatL s) (m - 1) := ⟨_, rfl⟩
      rw [← hT'] at hT C3 ⊢
      have C3 := Lib.hid C3
      have hsT := S_size T
      have hTl : T.length ≤ 100000000 := by omega
      have HAP := Lib.hid (S_append T [226, 128, 166])
      clear hT' hT h2
      go_enter Try.func77, Try.ntmps77
      go_wp2_with (first
        | (go_at_call 19; refine (C1.out _).mono ?_; rintro e w1 ⟨rfl, hb1⟩)
        | (go_at_call 30; refine (C2.out _).mono ?_; rintro e w2 ⟨rfl, hb2⟩)
        | (go_at_call 34; refine (C3.out _).mono ?_; rintro e w3 ⟨rfl, hb3⟩))
      go_ret
      exact ⟨by rw [← HAP.out]; rfl, bnext (bnext hb1 hb2) hb3⟩
end Go.Proofs.Ytmdpmjabjijjiaa
