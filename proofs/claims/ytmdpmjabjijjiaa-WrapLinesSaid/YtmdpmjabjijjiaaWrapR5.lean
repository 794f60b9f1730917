/- Wrap: words and narrow words; reference. No condition. Wrap: lines; plain laws of the reference's way. No condition. Wrap: lines; reference. No condition. -/
import Derived.Test.YtmdpmjabjijjiaaWrapR2
import Derived.Test.YtmdpmjabjijjiaaWrapK
import Derived.Test.YtmdpmjabjijjiaaWrap9
namespace Go.Proofs.Ytmdpmjabjijjiaa
set_option linter.unusedVariables false
set_option linter.unusedSimpArgs false
open Go.RowKit Go.Shelf Go.Maps
/-! ### words as texts -/
def wordR (st : List (List UInt8) × List UInt8) (c : List UInt8) : List (List UInt8) × List UInt8 := if b32 c then (if st.2 = [] then st.1 else st.1 ++ [st.2], []) else (st.1, st.2 ++ c)
def endR (st : List (List UInt8) × List UInt8) : List (List UInt8) := if st.2 = [] then st.1 else st.1 ++ [st.2]
def WrRel (s : Ws × Bool) (r : List (List UInt8) × List UInt8) : Prop :=
  (s.2 = false ∧ r = (s.1.map List.flatten, [])) ∨ (s.2 = true ∧ ∃ A x, s.1 = A ++ [x] ∧ r = (A.map List.flatten, x.flatten) ∧ x.flatten ≠ [])
theorem wordR_rel {s : Ws × Bool} {r : List (List UInt8) × List UInt8} (h : WrRel s r) (c : List UInt8) (hc : c ≠ []) : WrRel (wordS s c) (wordR r c) := by
  obtain ⟨ws, op⟩ := s
  unfold wordS wordR
  rcases h with ⟨h1, rfl⟩ | ⟨h1, A, x, h2, rfl, h3⟩
  · dsimp only at h1; subst h1
    dsimp only
    by_cases hb : b32 c = true
    · rw [if_pos hb, if_pos hb, if_pos rfl]; exact .inl ⟨rfl, rfl⟩
    · rw [if_neg hb, if_neg hb, if_neg (by simp)]
      exact .inr ⟨rfl, ws, [c], rfl, by simp, by simpa using hc⟩
  · dsimp only at h1 h2; subst h1; subst h2
    dsimp only
    by_cases hb : b32 c = true
    · rw [if_pos hb, if_pos hb, if_neg h3]
      exact .inl ⟨rfl, by simp⟩
    · rw [if_neg hb, if_neg hb, if_pos rfl, snocW_eq]
      exact .inr ⟨rfl, A, x ++ [c], rfl, by simp, by simp [h3]⟩
theorem foldR_rel : ∀ (l : List (List UInt8)) (s : Ws × Bool) (r : List (List UInt8) × List UInt8), WrRel s r → (∀ c ∈ l, c ≠ []) → WrRel (l.foldl wordS s) (l.foldl wordR r)
  | [], _, _, h, _ => h
  | c :: l, s, r, h, hl => foldR_rel l _ _ (wordR_rel h c (hl c (List.mem_cons_self ..))) (fun y hy => hl y (List.mem_cons_of_mem _ hy))
theorem endR_rel {s : Ws × Bool} {r : List (List UInt8) × List UInt8} (h : WrRel s r) : endR r = s.1.map List.flatten := by
  unfold endR
  rcases h with ⟨_, rfl⟩ | ⟨_, A, x, h2, rfl, h3⟩
  · rw [if_pos rfl]
  · rw [if_neg h3, h2]; simp
theorem clu_ne {c : List UInt8} (h : Clu c) : c ≠ [] := fun e => by have := h.len.1; rw [e] at this; simp at this
theorem wordsR_eq (l : List (List UInt8)) (h : ∀ c ∈ l, Clu c) : endR (l.foldl wordR ([], [])) = (wordsL l).map List.flatten :=
  endR_rel (foldR_rel l ([], false) ([], []) (.inl ⟨rfl, rfl⟩) (fun c hc => clu_ne (h c hc)))
theorem foldR_len : ∀ (l : List (List UInt8)) (r : List (List UInt8) × List UInt8), (∀ c ∈ l, c.length ≤ 64) → (l.foldl wordR r).1.length ≤ r.1.length + l.length ∧ (l.foldl wordR r).2.length ≤ r.2.length + 64 * l.length
  | [], r, _ => ⟨by simp, by simp⟩
  | c :: l, r, hl => by
    have h1 := foldR_len l (wordR r c) (fun y hy => hl y (List.mem_cons_of_mem _ hy))
    have h2 := hl c (List.mem_cons_self ..)
    have h3 : (wordR r c).1.length ≤ r.1.length + 1 ∧ (wordR r c).2.length ≤ r.2.length + 64 := by
      unfold wordR
      split
      · dsimp only
        split <;> simp
      · simp; omega
    rw [List.foldl_cons, List.length_cons]; omega
def narL (m : Int) (D : List (List UInt8)) : List (List UInt8) := D.filter (fun c => decide (colsL c ≤ m))
theorem filter_take2 (f : List UInt8 → Bool) (D : CL) (j : Nat) (h : j < D.length) : ((D.take (j + 1)).filter f).flatten = ((D.take j).filter f).flatten ++ (if f (nth [] D j) = true then nth [] D j else []) := by
  rw [List.take_succ_eq_append_getElem h, List.filter_append, List.flatten_append, nth_eq _ _ _ h]
  congr 1
  by_cases hf : f D[j] = true
  · rw [if_pos hf, List.filter_cons, if_pos hf]; simp
  · rw [if_neg hf, List.filter_cons, if_neg hf]; simp
theorem filt_len2 {D : CL} (f : List UInt8 → Bool) (h : ∀ c ∈ D, Clu c) : (D.filter f).flatten.length ≤ 64 * D.length :=
  Nat.le_trans (flat_len _ 64 (fun c hc => (h c (List.mem_filter.1 hc).1).len.2)) (Nat.mul_le_mul (Nat.le_refl _) (List.length_filter_le _ _))
set_option maxRecDepth 100000 in
set_option maxHeartbeats 4000000 in
theorem refNarrow_any (D : List (List UInt8)) (m : Int) (hD : ∀ c ∈ D, Clu c) (hl : D.length ≤ 30000) (hf : D.flatten.length ≤ 1100000) (hm : -9223372036854775808 ≤ m ∧ m ≤ 9223372036854775807) (w : World) :
    Calls Try.prog 110 #[.string (S D.flatten), .int .i64 m] w fun e w' => e = .returned (.string (S (narL m D).flatten)) ∧ Below w.heap.size w w' := by
  have CC := (fun W => refCut_any D.flatten hf W)
  rw [cutL_flat hD] at CC
  have CC := Lib.hid CC
  have HD := Lib.hid hD
  clear hD hf
  go_enter Try.func110, Try.ntmps110
  go_wp2_with (go_at_call 22; refine (CC.out _).mono ?_; rintro e w2 ⟨a2, n2, c2, hn2, hnc2, hcm2, rfl, hrow2, hb2, _⟩; obtain rfl : n2 = D.length := hn2)
  go_loopw [7, 5] (fun i v wr => ∃ k : Nat, k ≤ D.length ∧ i = .int .i64 (k : Int) ∧ v = .string (S (((D.take k).filter (fun c => decide (colsL c ≤ m))).flatten)) ∧ Below w2.heap.size w2 wr) (fun i _ _ => D.length - (intOf i).toNat)
  case atStart => exact ⟨0, Nat.zero_le _, rfl, rfl, Below.refl _ _⟩
  case round =>
    obtain ⟨k, hk, rfl, rfl, hbr⟩ := hrel
    by_cases hlt : k < D.length
    · obtain ⟨b5, o5, rfl, hb5, hc5⟩ := strs_at hrow2 k hlt
      have hd5 := (hbr.cell (p := ⟨b5, o5 + k, none⟩) hb5).trans hc5
      have hyc := HD.out (nth [] D k) (by rw [nth_eq _ _ _ hlt]; exact List.getElem_mem hlt)
      have hyl := hyc.len
      have HF := Lib.hid (filter_take2 (fun c => decide (colsL c ≤ m)) D k hlt)
      have hfl2 := filt_len2 (D := D.take k) (fun c => decide (colsL c ≤ m)) (fun c hc => HD.out c (List.mem_of_mem_take hc))
      have hfl3 : (D.take k).length ≤ 30000 := by rw [List.length_take]; omega
      obtain ⟨y, hy⟩ : ∃ y, y = nth [] D k := ⟨_, rfl⟩
      rw [← hy] at hd5 hyl HF hyc
      have CY := (fun W => refWidth_any y (by omega) W)
      rw [widthL_clu hyc] at CY
      have hs5 := S_size y
      obtain ⟨v, hv⟩ : ∃ v, v = colsL y := ⟨_, rfl⟩
      rw [← hv] at CY HF
      have CY := Lib.hid CY
      obtain ⟨T, hT⟩ : ∃ T, T = ((D.take k).filter (fun c => decide (colsL c ≤ m))).flatten := ⟨_, rfl⟩
      rw [← hT] at HF hfl2 ⊢
      have hsT := S_size T
      have hTl : T.length ≤ 100000000 := by omega
      have HAP := Lib.hid (S_append T y)
      by_cases hvm : v ≤ m
      · rw [if_pos (by simpa using hvm)] at HF
        clear hy hT hyc hfl2 hfl3 hv
        go_wp2_with (go_at_call 29; refine (CY.out _).mono ?_; rintro e w7 ⟨rfl, hb7⟩; have hB7 := bto hbr hb7 hbr.size; have hd7 := (hb7.cell (p := ⟨b5, o5 + k, none⟩) (World.block_lt_of_cell? _ _ hd5)).trans hd5)
        go_roundw
        case rel => exact ⟨k + 1, hlt, by go_num, by rw [HF.out, ← HAP.out], hB7⟩
        case measure => simp [intOf]; omega
      · rw [if_neg (by simpa using hvm), List.append_nil] at HF
        have hvm' : m < v := by omega
        clear hy hT hyc hfl2 hfl3 hv hvm
        go_wp2_with (go_at_call 29; refine (CY.out _).mono ?_; rintro e w7 ⟨rfl, hb7⟩; have hB7 := bto hbr hb7 hbr.size)
        go_roundw
        case rel => exact ⟨k + 1, hlt, by go_num, by rw [HF.out], hB7⟩
        case measure => simp [intOf]; omega
    · obtain rfl : k = D.length := by omega
      rw [List.take_length]
      go_wp2
      go_ret
      exact ⟨rfl, bnext hb2 hbr⟩
theorem foldR_take (D : List (List UInt8)) (k : Nat) (h : k < D.length) (st : List (List UInt8) × List UInt8) : (D.take (k + 1)).foldl wordR st = wordR ((D.take k).foldl wordR st) (nth [] D k) := by
  rw [List.take_succ_eq_append_getElem h, List.foldl_append, nth_eq _ _ _ h]; rfl
theorem ne_true {l : List UInt8} (h : l ≠ []) : (S l).toList.isEmpty = false := by rw [S_isEmpty]; simp [h]
theorem ne_false {l : List UInt8} (h : l = []) : (S l).toList.isEmpty = true := by rw [S_isEmpty]; simp [h]
theorem own_StrsW {w W : World} {n₀ : Nat} {v : Value} {L : List (List UInt8)} (h : W.ownsRow n₀ 9 1 v L.length (strV L)) (hb : Below w.heap.size w W) : StrsW L w (.returned v) W := by
  obtain ⟨a, c, rfl⟩ := own_slice h
  obtain ⟨hr, hnc, hcm⟩ := own_row_at h
  exact ⟨a, _, c, rfl, hnc, hcm, rfl, hr, hb⟩
set_option maxRecDepth 100000 in
set_option maxHeartbeats 8000000 in
theorem refWords_any (s : List UInt8) (hs : s.length ≤ 10000) (w : World) : Calls Try.prog 109 #[.string (S s)] w (StrsW ((wordsL (cutL (flatL s))).map List.flatten) w) := by
  obtain ⟨i0, hi, hz0, hz1, hz2⟩ := info_parts infoStrc
  have hfl := flat_len64 s
  have CF := Lib.hid (fun W => refFlat_any s (by omega) W)
  have CC := (fun W => refCut_any (flatL s) (by omega) W)
  have hC : ∀ c ∈ cutL (flatL s), Clu c := fun c hc => clu_mem hc
  have hzl := cutL_len (flatL s)
  rw [← wordsR_eq _ hC]
  obtain ⟨D, hD⟩ : ∃ D, D = cutL (flatL s) := ⟨_, rfl⟩
  rw [← hD] at CC hC hzl ⊢
  have CC := Lib.hid CC
  have HC := Lib.hid hC
  have hDl : D.length ≤ 640000 := by omega
  clear hD hC
  go_enter Try.func109, Try.ntmps109
  go_wp2_with (first
    | (go_at_call 20; refine (CF.out _).mono ?_; rintro e w1 ⟨rfl, hb1⟩)
    | (go_at_call 22; refine (CC.out _).mono ?_; rintro e w2 ⟨a2, n2, c2, hn2, hnc2, hcm2, rfl, hrow2, hb2, _⟩; obtain rfl : n2 = D.length := hn2))
  have hB2 := bnext hb1 hb2
  have hB2s := hB2.size
  go_loopw [6, 3, 4] (fun i v t wr => ∃ k : Nat, ∃ st : List (List UInt8) × List UInt8, k ≤ D.length ∧ i = .int .i64 (k : Int) ∧ t = .string (S st.2) ∧ Hid ((D.take k).foldl wordR ([], []) = st) ∧ wr.ownsRow w2.heap.size 9 1 v st.1.length (strV st.1) ∧ st.1.length ≤ k ∧ Below w2.heap.size w2 wr) (fun i _ _ _ => D.length - (intOf i).toNat)
  case atStart => exact ⟨0, ([], []), Nat.zero_le _, rfl, rfl, Lib.hid rfl, World.ownsRow_nil _ _ _ _, Nat.le_refl _, Below.refl _ _⟩
  case round =>
    obtain ⟨k, ⟨X, m⟩, hk, rfl, rfl, hst, ho, hXk, hbr⟩ := hrel
    dsimp only at ho hXk ⊢
    have hbs := hbr.size
    have hml := (foldR_len (D.take k) ([], []) (fun c hc => (HC.out c (List.mem_of_mem_take hc)).len.2)).2
    rw [hst.out, List.length_take] at hml
    have hml2 : m.length ≤ 100000000 := by simp at hml; omega
    have hsm := S_size m
    obtain ⟨a3, c3, rfl⟩ := own_slice ho
    by_cases hlt : k < D.length
    · obtain ⟨b5, o5, rfl, hb5, hc5⟩ := strs_at hrow2 k hlt
      have hd5 := (hbr.cell (p := ⟨b5, o5 + k, none⟩) hb5).trans hc5
      have hyl := (HC.out (nth [] D k) (by rw [nth_eq _ _ _ hlt]; exact List.getElem_mem hlt)).len
      have hst2 := foldR_take D k hlt ([], [])
      rw [hst.out] at hst2
      unfold wordR at hst2
      dsimp only at hst2
      obtain ⟨y, hy⟩ : ∃ y, y = nth [] D k := ⟨_, rfl⟩
      rw [← hy] at hd5 hyl hst2
      have hg5 := byte_get y (by omega)
      have hs5 := S_size y
      obtain ⟨z5, hz5⟩ : ∃ z, z = (nth 0 y 0).toNat := ⟨_, rfl⟩
      have hz5i : ((nth 0 y 0).toNat : Int) = (z5 : Int) := by rw [hz5]
      have hsol : b32 y = decide (z5 = 32) := by unfold b32; rw [← hz5]
      have hposC : (0 : Int) < (y.length : Int) := by omega
      have HAP := Lib.hid (S_append m y)
      by_cases h32 : z5 = 32
      · have hzz : ((z5 : Int) == 32) = true := by simp [h32]
        have hzz2 : ((z5 : Int) != 32) = false := by simp [h32]
        rw [hsol, if_pos (by simp [h32])] at hst2
        by_cases hm0 : m = []
        · rw [if_pos hm0] at hst2
          have HST := Lib.hid hst2
          have hne := ne_false hm0
          clear h32 hsol hz5 hy hst2 hml hm0
          go_wp2
          go_roundw
          case rel => exact ⟨k + 1, (X, []), hlt, by go_num, rfl, HST, ho, Nat.le_succ_of_le hXk, hbr⟩
          case measure => simp [intOf]; omega
        · rw [if_neg hm0] at hst2
          have HST := Lib.hid hst2
          have hne := ne_true hm0
          clear h32 hsol hz5 hy hst2 hml hm0
          go_wp2_with (at_builtin; refine wpList_append_own _ rfl _ _ 23 rfl w2.heap.size 9 i0 (.string ⟨#[]⟩) 1 16 Try.underlying23 hi hz0 hz1 hz2 rfl (by decide) _ _ _ rfl (ho.alloc _) ⟨wr.heap.size, 0, none⟩ 1 1 [.string (S m)] rfl rfl (cell_one_new wr _ _) (by intro u hu; rw [List.mem_singleton.1 hu]; rfl) (by unfold maxLen; omega) (by omega) (by simp; omega) ?_; intro v4 w4 ho4 hg4 _; obtain ⟨g4, c4, rfl⟩ := ownsRow_succ ho4)
          have hb4 : Below w2.heap.size w2 w4 := (hbr.alloc hbs _).grown hg4 (by simp; omega) (fun k e => (own_cells ho k e).1)
          go_roundw
          case rel => exact ⟨k + 1, (X ++ [m], []), hlt, by go_num, rfl, HST, by rw [strV_snoc, List.length_append]; exact ho4, by rw [List.length_append]; exact Nat.succ_le_succ hXk, hb4⟩
          case measure => simp [intOf]; omega
      · have hzz : ((z5 : Int) == 32) = false := by simp; omega
        have hzz2 : ((z5 : Int) != 32) = true := by simp; omega
        rw [hsol, if_neg (by simp [h32])] at hst2
        have HST := Lib.hid hst2
        clear h32 hsol hz5 hy hst2 hml
        go_wp2
        go_roundw
        case rel => exact ⟨k + 1, (X, m ++ y), hlt, by go_num, by rw [← HAP.out], HST, ho, Nat.le_succ_of_le hXk, hbr⟩
        case measure => simp [intOf]; omega
    · obtain rfl : k = D.length := by omega
      have hT : endR (D.foldl wordR ([], [])) = if m = [] then X else X ++ [m] := by
        rw [List.take_length] at hst
        rw [hst.out]; rfl
      by_cases hm0 : m = []
      · rw [if_pos hm0] at hT
        have HT := Lib.hid hT
        have hne := ne_false hm0
        clear hml hT hm0
        go_wp2
        go_ret
        rw [HT.out]
        exact own_StrsW ho (hB2.trans (hbr.mono hB2s))
      · rw [if_neg hm0] at hT
        have HT := Lib.hid hT
        have hne := ne_true hm0
        clear hml hT hm0
        go_wp2_with (at_builtin; refine wpList_append_own _ rfl _ _ 23 rfl w2.heap.size 9 i0 (.string ⟨#[]⟩) 1 16 Try.underlying23 hi hz0 hz1 hz2 rfl (by decide) _ _ _ rfl (ho.alloc _) ⟨wr.heap.size, 0, none⟩ 1 1 [.string (S m)] rfl rfl (cell_one_new wr _ _) (by intro u hu; rw [List.mem_singleton.1 hu]; rfl) (by unfold maxLen; omega) (by omega) (by simp; omega) ?_; intro v4 w4 ho4 hg4 _; obtain ⟨g4, c4, rfl⟩ := ownsRow_succ ho4)
        have hb4 : Below w2.heap.size w2 w4 := (hbr.alloc hbs _).grown hg4 (by simp; omega) (fun k e => (own_cells ho k e).1)
        go_ret
        rw [HT.out]
        exact own_StrsW (by rw [strV_snoc, List.length_append]; exact ho4) (hB2.trans (hb4.mono hB2s))
end Go.Proofs.Ytmdpmjabjijjiaa
namespace Go.Proofs.Ytmdpmjabjijjiaa
set_option linter.unusedVariables false
set_option linter.unusedSimpArgs false
open Go.RowKit Go.Shelf Go.Maps
theorem add_join {m : Int} {d : List (List UInt8)} {l : List UInt8} {u : Int} {x : CL} (hx : ∀ c ∈ x, Clu c) (hu : 0 < u) (hf : sumC x ≤ m - 1 - u) :
    addG m (d, l, u) x = (d, l ++ [32] ++ x.flatten, u + 1 + sumC x) := by
  have hs := (sumC_bd x).1
  have e : putG m (d, l, u) [32] = (d, l ++ [32], u + 1) := by
    unfold putG
    rw [cols32, if_neg (by omega), if_neg (by show ¬ m - u < 1; omega)]
    unfold putS; rw [cols32]
  unfold addG
  rw [if_pos ⟨hu, by show sumC x ≤ m - u - 1; omega⟩, e, put_all x d (l ++ [32]) (u + 1) hx (by omega) (by omega)]
theorem put_nar {m : Int} : ∀ (x : CL) (st : Pg), x.foldl (putG m) st = (narL m x).foldl (putG m) st
  | [], _ => rfl
  | c :: x, st => by
    have ih := put_nar (m := m) x
    unfold narL at ih ⊢
    rw [List.foldl_cons, List.filter_cons]
    by_cases h : colsL c ≤ m
    · rw [if_pos (by simpa using h), List.foldl_cons, ih]
    · have e : putG m st c = st := by unfold putG; rw [if_pos (by omega)]
      rw [if_neg (by simpa using h), e, ih]
/-- The word that goes on to be cut: with the clusters that are too wide struck out, where the whole is too wide. -/
def onL (m : Int) (x : CL) : CL := if m < sumC x then narL m x else x
theorem put_on {m : Int} (x : CL) (st : Pg) : x.foldl (putG m) st = (onL m x).foldl (putG m) st := by
  unfold onL
  split
  · exact put_nar x st
  · rfl
theorem add_else {m : Int} {d : List (List UInt8)} {l : List UInt8} {u : Int} {x : CL} (h : u = 0 ∨ m - 1 - u < sumC x) :
    addG m (d, l, u) x = (onL m x).foldl (putG m) ((endG (d, l, u)).1, [], 0) := by
  unfold addG
  rw [if_neg (by dsimp only; omega), put_on]
  congr 1
  unfold endG
  split <;> rfl
theorem sumC_mem {x : CL} {c : List UInt8} (h : c ∈ x) : colsL c ≤ sumC x := by
  obtain ⟨a, b, rfl⟩ := List.append_of_mem h
  rw [sumC_append, sumC_cons]
  have := (sumC_bd a).1
  have := (sumC_bd b).1
  omega
theorem on_cols {m : Int} {x : CL} (hx : ∀ c ∈ x, Clu c) : ∀ c ∈ onL m x, Clu c ∧ colsL c ≤ m := by
  intro c hc
  unfold onL at hc
  split at hc
  · have h := List.mem_filter.1 hc
    exact ⟨hx c h.1, by simpa using h.2⟩
  · rename_i h
    exact ⟨hx c hc, by have := sumC_mem hc; omega⟩
theorem on_len (m : Int) (x : CL) : (onL m x).length ≤ x.length := by
  unfold onL narL
  split
  · exact List.length_filter_le _ _
  · exact Nat.le_refl _
theorem sub_len {A B : CL} (h : A.Sublist B) : A.flatten.length ≤ B.flatten.length := by
  induction h with
  | slnil => simp
  | cons a _ ih => rw [List.flatten_cons, List.length_append]; omega
  | cons_cons a _ ih => rw [List.flatten_cons, List.flatten_cons, List.length_append, List.length_append]; omega
theorem on_flen (m : Int) (x : CL) : (onL m x).flatten.length ≤ x.flatten.length := by
  unfold onL narL
  split
  · exact sub_len List.filter_sublist
  · exact Nat.le_refl _
theorem drop_flen (R : CL) (k : Nat) : (R.drop k).flatten.length ≤ R.flatten.length := sub_len (List.drop_sublist k R)
theorem chop {m : Int} : ∀ (R : CL) (d : List (List UInt8)) (l : List UInt8) (u : Int), (∀ c ∈ R, Clu c ∧ colsL c ≤ m) → 0 ≤ u → u ≤ m → m - u < sumC R →
    R.foldl (putG m) (d, l, u) = (R.drop (fitK R (m - u))).foldl (putG m) (d ++ [l ++ (R.take (fitK R (m - u))).flatten], [], 0) ∧ (u = 0 → 0 < fitK R (m - u)) ∧ fitK R (m - u) < R.length
  | [], d, l, u, _, _, hu, h => by simp [sumC] at h; omega
  | c :: R, d, l, u, hR, h0, hu, h => by
    obtain ⟨hc, hm⟩ := hR c (List.mem_cons_self ..)
    have hcc := hc.cols
    rw [sumC_cons] at h
    unfold fitK
    by_cases hf : m - u < colsL c
    · rw [if_pos hf]
      have e1 : putG m (d, l, u) c = (d ++ [l], c, colsL c) := by
        unfold putG
        rw [if_neg (by omega), if_pos (by exact hf)]
        unfold putS endG
        rw [if_pos (by show 0 < u; omega)]
        simp
      have e2 : putG m (d ++ [l], [], 0) c = (d ++ [l], c, colsL c) := by
        unfold putG
        rw [if_neg (by omega), if_neg (by show ¬ m - 0 < colsL c; omega)]
        unfold putS
        simp
      refine ⟨?_, fun e => by omega, by simp⟩
      rw [List.drop_zero, List.take_zero, List.flatten_nil, List.append_nil, List.foldl_cons, List.foldl_cons, e1, e2]
    · rw [if_neg hf]
      have e1 : putG m (d, l, u) c = (d, l ++ c, u + colsL c) := by
        unfold putG
        rw [if_neg (by omega), if_neg (by exact hf)]; rfl
      have ih := chop R d (l ++ c) (u + colsL c) (fun y hy => hR y (List.mem_cons_of_mem _ hy)) (by omega) (by omega) (by omega)
      rw [show m - (u + colsL c) = m - u - colsL c by omega] at ih
      refine ⟨?_, fun _ => by omega, by rw [List.length_cons]; omega⟩
      rw [List.foldl_cons, e1, ih.1, List.drop_succ_cons, List.take_succ_cons, List.flatten_cons, List.append_assoc]
theorem chop0 {m : Int} (R : CL) (d : List (List UInt8)) (hR : ∀ c ∈ R, Clu c ∧ colsL c ≤ m) (hm : 0 ≤ m) (h : m < sumC R) :
    R.foldl (putG m) (d, [], 0) = (R.drop (fitK R m)).foldl (putG m) (d ++ [(R.take (fitK R m)).flatten], [], 0) ∧ 0 < fitK R m ∧ fitK R m < R.length := by
  have := chop R d [] 0 hR (Int.le_refl _) hm (by omega)
  rw [Int.sub_zero] at this
  exact ⟨by simpa using this.1, this.2.1 rfl, this.2.2⟩
theorem whole0 {m : Int} (R : CL) (d : List (List UInt8)) (hR : ∀ c ∈ R, Clu c) (h : sumC R ≤ m) : R.foldl (putG m) (d, [], 0) = (d, R.flatten, sumC R) := by
  have := put_all (w := m) R d [] 0 hR (Int.le_refl _) (by omega)
  simpa using this
/-! ### flat texts -/
theorem foldl_noctrl' : ∀ (rs : List Nat) (out : List (List Nat)), (∀ c ∈ out, ∀ r ∈ c, ctrlB r = false) → ∀ c ∈ rs.foldl stepG out, ∀ r ∈ c, ctrlB r = false
  | [], out, h => h
  | r :: t, out, h => by
    rw [List.foldl_cons]
    refine foldl_noctrl' t _ ?_
    rcases stepG_two out r with e | ⟨e, hc⟩ | ⟨o, c, eo, e, hj, _⟩
    · rw [e]; exact h
    · rw [e]; intro c hc' x hx
      rcases List.mem_append.1 hc' with h1 | h1
      · exact h c h1 x hx
      · rw [List.mem_singleton.1 h1, List.mem_singleton] at hx
        subst hx
        unfold colsB at hc
        split at hc
        · omega
        · rename_i hz
          simp only [Bool.or_eq_true, not_or, Bool.not_eq_true] at hz
          exact hz.1.2
    · rw [e]; intro c' hc' x hx
      rcases List.mem_append.1 hc' with h1 | h1
      · exact h c' (by rw [eo]; exact List.mem_append_left _ h1) x hx
      · rw [List.mem_singleton.1 h1] at hx
        rcases List.mem_append.1 hx with h2 | h2
        · exact h c (by rw [eo]; simp) x h2
        · rw [List.mem_singleton] at h2
          subst h2
          unfold joinB at hj
          simp at hj
          exact hj.2.2
theorem cl_noctrl' {g : List Nat} (h : Cl g) : ∀ r ∈ g, ctrlB r = false := by
  have := foldl_noctrl' g [] (by simp)
  have e := h.one
  unfold cutG at e
  rw [e] at this
  exact this g (by simp)
theorem byte_low' {n : Nat} (hn : isR n = true) {b : UInt8} (hb : b ∈ bytesN n) (h : b.toNat < 128) : n = b.toNat := by
  have hr := (isR_iff n).1 hn
  unfold bytesN at hb
  split at hb
  · rw [List.mem_singleton] at hb
    subst hb
    rw [byteB_nat' n (by omega)]
  · exfalso
    split at hb
    · simp only [List.mem_cons, List.not_mem_nil, or_false] at hb
      rcases hb with rfl | rfl <;> rw [byteB_nat' _ (by omega)] at h <;> omega
    · split at hb
      · simp only [List.mem_cons, List.not_mem_nil, or_false] at hb
        rcases hb with rfl | rfl | rfl <;> rw [byteB_nat' _ (by omega)] at h <;> omega
      · simp only [List.mem_cons, List.not_mem_nil, or_false] at hb
        rcases hb with rfl | rfl | rfl | rfl <;> rw [byteB_nat' _ (by omega)] at h <;> omega
theorem clu_blank' {c : List UInt8} (h : Clu c) : blanksL c = c := by
  obtain ⟨g, hg, rfl⟩ := h
  unfold blanksL
  conv => rhs; rw [← List.map_id (encL g)]
  apply List.map_congr_left
  intro b hb
  unfold encL at hb
  obtain ⟨r, hr, hbr⟩ := List.mem_flatMap.1 hb
  refine blankB_no b fun hc => ?_
  have e := byte_low' (hg.rune r hr) hbr (by omega)
  have := cl_noctrl' hg r hr
  unfold ctrlB at this
  rw [decide_eq_false_iff_not] at this
  omega
theorem flat_clus' {D : List (List UInt8)} (h : ∀ c ∈ D, Clu c) : flatL D.flatten = D.flatten := by
  have e : blanksL D.flatten = D.flatten := by
    induction D with
    | nil => rfl
    | cons c t ih =>
      have e1 := clu_blank' (h c (List.mem_cons_self ..))
      have e2 := ih (fun x hx => h x (List.mem_cons_of_mem _ hx))
      unfold blanksL at e1 e2 ⊢
      rw [List.flatten_cons, List.map_append, e1, e2]
  unfold flatL cleanL
  rw [e, cutL_flat h]
set_option maxRecDepth 100000 in
theorem refCutR_any (R : CL) (m : Int) (hR : ∀ c ∈ R, Clu c) (hl : R.flatten.length ≤ 1100000) (hm : -9223372036854775808 ≤ m ∧ m ≤ 9223372036854775807) (w : World) :
    Calls Try.prog 74 #[.string (S R.flatten), .int .i64 m] w fun e w' => e = .returned (.string (S (R.take (fitK R m)).flatten)) ∧ Below w.heap.size w w' := by
  have C1 := (fun W => refFlat_any R.flatten hl W)
  rw [flat_clus' hR] at C1
  have C2 := (fun W => refFit_any R.flatten m hl hm W)
  have hT : fitT R.flatten m = (R.take (fitK R m)).flatten := by unfold fitT; rw [cutL_flat hR]
  rw [hT] at C2
  have C1 := Lib.hid C1
  have C2 := Lib.hid C2
  obtain ⟨T, hT'⟩ : ∃ T, T = (R.take (fitK R m)).flatten := ⟨_, rfl⟩
  rw [← hT'] at C2 ⊢
  obtain ⟨F, hF⟩ : ∃ F, F = R.flatten := ⟨_, rfl⟩
  rw [← hF] at C1 C2 ⊢
  clear hT hT' hF hl hR
  go_enter Try.func74, Try.ntmps74
  go_wp2_with (first
    | (go_at_call 20; refine (C1.out _).mono ?_; rintro e w1 ⟨rfl, hb1⟩)
    | (go_at_call 35; refine (C2.out _).mono ?_; rintro e w2 ⟨rfl, hb2⟩))
  go_ret
  exact ⟨rfl, bnext hb1 hb2⟩
/-! ### what the words are -/
theorem words_facts (C : CL) (hC : ∀ c ∈ C, Clu c) : (∀ x ∈ wordsL C, x ≠ [] ∧ (∀ c ∈ x, Clu c ∧ b32 c = false) ∧ x.flatten.length ≤ C.flatten.length) := by
  intro x hx
  have hwf := words_fold C ([], false) (by simp) (by simp)
  have hwc := wordS_clu C ([], false) hC (by simp)
  refine ⟨(hwf.2 x hx).1, fun c hc => ⟨hwc x hx c hc, (hwf.2 x hx).2 c hc⟩, ?_⟩
  have h1 : (wordsL C).flatten = C.filter solid := by have := hwf.1; simpa [wordsL] using this
  have h2 : x.Sublist (wordsL C).flatten := by
    obtain ⟨a, b, e⟩ := List.append_of_mem hx
    rw [e, List.flatten_append, List.flatten_cons]
    exact (List.sublist_append_left x _).trans (List.sublist_append_right _ _)
  rw [h1] at h2
  exact sub_len (h2.trans List.filter_sublist)
end Go.Proofs.Ytmdpmjabjijjiaa
namespace Go.Proofs.Ytmdpmjabjijjiaa
set_option linter.unusedVariables false
set_option linter.unusedSimpArgs false
open Go.RowKit Go.Shelf Go.Maps
def lenOf : Value → Nat
  | .string s => s.size
  | _ => 0
theorem page_facts {m : Int} (hm : 1 ≤ m) (ws : Ws) (hw : ∀ x ∈ ws, x ≠ [] ∧ (∀ c ∈ x, Clu c ∧ b32 c = false)) (k : Nat) (d : List (List UInt8)) (l : List UInt8) (u : Int) (h : (ws.take k).foldl (addG m) ([], [], 0) = (d, l, u)) :
    0 ≤ u ∧ u ≤ m ∧ sumC (cutL l) = u ∧ (l = [] ↔ u = 0) ∧ (l.length : Int) ≤ 64 * u ∧ d.length ≤ ws.length + bulkW ws := by
  have hI := foldAdd_I (w := m) (ws.take k) 0 (([], [], 0) : Pg) ⟨⟨⟨Int.le_refl _, by show (0 : Int) ≤ m; omega⟩, fun _ => rfl⟩, fun e1 => absurd e1 (by simp), by simp, Nat.le_refl _⟩ (fun y hy c hc => ((hw y (List.mem_of_mem_take hy)).2 c hc).1)
  have hbt := bulk_take ws k
  obtain ⟨DD, LD, hK⟩ := KI.adds (w := m) (by omega) (ws.take k) [] ([], [], 0) [] [] ⟨rfl, rfl, rfl, by simp, fine_nil (by omega), by simp⟩ (fun x hx => hw x (List.mem_of_mem_take hx))
  rw [h] at hI hK
  have hu := hI.ok.used
  have hl := hK.line
  have hs := hK.used
  have hlb := hI.lb
  have hdb := hI.db
  dsimp only at hu hl hs hlb hdb
  rw [List.length_take] at hdb
  refine ⟨hu.1, hu.2, by rw [hl, cutL_flat hK.last.1, hs], ⟨fun e => ?_, hI.ok.zero⟩, hlb, by omega⟩
  by_cases h0 : 0 < u
  · exact absurd e (hI.ln h0)
  · omega
theorem take_fit_len (R : CL) (k : Nat) : (R.take k).flatten.length ≤ R.flatten.length := sub_len (List.take_sublist k R)
theorem flat_split (R : CL) (k : Nat) : R.flatten.drop (R.take k).flatten.length = (R.drop k).flatten := by
  have : R.flatten = (R.take k).flatten ++ (R.drop k).flatten := by rw [← List.flatten_append, List.take_append_drop]
  conv => lhs; rw [this]
  rw [List.drop_left]
theorem flat_pos (R : CL) (k : Nat) (h : ∀ c ∈ R, Clu c) (hk : 0 < k) (hR : k < R.length) : 0 < (R.take k).flatten.length := by
  cases R with
  | nil => simp at hR
  | cons a t =>
    cases k with
    | zero => omega
    | succ k =>
      have := (h a (List.mem_cons_self ..)).len.1
      rw [List.take_succ_cons, List.flatten_cons, List.length_append]; omega
theorem own_StrsO {w W : World} {n₀ : Nat} {v : Value} {L : List (List UInt8)} (hn : w.heap.size ≤ n₀) (h : W.ownsRow n₀ 9 1 v L.length (strV L)) (hb : Below w.heap.size w W) : StrsO L w (.returned v) W :=
  ⟨v, rfl, own_base h hn, hb⟩
set_option maxRecDepth 100000 in
set_option maxHeartbeats 16000000 in
theorem refWrap17_own (s : List UInt8) (m : Int) (hs : s.length ≤ 400) (hm : -9223372036854775808 ≤ m ∧ m ≤ 1000) (w : World) : Calls Try.prog 67 #[.string (S s), .int .i64 m] w (StrsO (wrapL s m) w) := by
  by_cases h1 : m < 1
  · have hz : wrapL s m = [] := by unfold wrapL; rw [if_pos h1]
    rw [hz]
    clear hz
    go_enter Try.func67, Try.ntmps67
    go_wp2
    go_ret
    exact ⟨_, rfl, World.ownsRow_nil _ _ _ _, Below.refl _ _⟩
  · have h1' : 1 ≤ m := by omega
    obtain ⟨i0, hi, hz0, hz1, hz2⟩ := info_parts infoStrc
    have hfl := flat_len64 s
    have hcl := cutL_len (flatL s)
    have CW := (fun W => refWords_any s (by omega) W)
    have hfacts := words_facts (cutL (flatL s)) (fun c hc => clu_mem hc)
    rw [flat_own] at hfacts
    have hbulk := wordS_bulk (cutL (flatL s)) ([], false)
    obtain ⟨Z, hZ⟩ : ∃ Z, Z = wrapL s m := ⟨_, rfl⟩
    rw [← hZ]
    unfold wrapL at hZ
    rw [if_neg h1] at hZ
    change bulkW (wordsL (cutL (flatL s))) ≤ _ ∧ (wordsL (cutL (flatL s))).length ≤ _ at hbulk
    obtain ⟨ws, hws⟩ : ∃ ws, ws = wordsL (cutL (flatL s)) := ⟨_, rfl⟩
    rw [← hws] at CW hZ hfacts hbulk
    have CW := Lib.hid CW
    have hb : bulkW ws ≤ 30000 ∧ ws.length ≤ 30000 := by simp [bulkW] at hbulk; unfold bulkW; omega
    have HPF := Lib.hid (page_facts h1' ws (fun x hx => ⟨(hfacts x hx).1, (hfacts x hx).2.1⟩))
    have HF := Lib.hid (fun x (hx : x ∈ ws) => (⟨(hfacts x hx).1, fun c hc => ((hfacts x hx).2.1 c hc).1, by have := (hfacts x hx).2.2; omega⟩ : x ≠ [] ∧ (∀ c ∈ x, Clu c) ∧ x.flatten.length ≤ 25600))
    have hlw : (ws.map List.flatten).length = ws.length := by simp
    have HZ := Lib.hid hZ
    clear hZ hws hfacts hbulk hcl hfl h1
    go_enter Try.func67, Try.ntmps67
    go_wp2_with (go_at_call 109; refine (CW.out _).mono ?_; rintro e w2 ⟨a2, n2, c2, hn2, hnc2, hcm2, rfl, hrow2, hb2⟩; rw [hlw] at hn2; obtain rfl : n2 = ws.length := hn2)
    have hb2s := hb2.size
    go_loopw [8, 5, 6] (fun i o t wr => ∃ (k : Nat) (d : List (List UInt8)) (l : List UInt8) (u : Int), k ≤ ws.length ∧ i = .int .i64 (k : Int) ∧ t = .string (S l) ∧ Hid ((ws.take k).foldl (addG m) ([], [], 0) = (d, l, u)) ∧ wr.ownsRow w2.heap.size 9 1 o d.length (strV d) ∧ Below w2.heap.size w2 wr) (fun i _ _ _ => ws.length - (intOf i).toNat)
    case atStart => exact ⟨0, [], [], 0, Nat.zero_le _, rfl, rfl, Lib.hid rfl, World.ownsRow_nil _ _ _ _, Below.refl _ _⟩
    case round =>
      obtain ⟨k, d, l, u, hk, rfl, rfl, hst, ho, hbr⟩ := hrel
      have hbs := hbr.size
      obtain ⟨hu0, hum, hul, hlu, hll, hdl⟩ := HPF.out k d l u hst.out
      obtain ⟨a3, c3, rfl⟩ := own_slice ho
      have hsl := S_size l
      by_cases hlt : k < ws.length
      · obtain ⟨b5, o5, rfl, hb5, hc5⟩ := strs_at hrow2 k (by rw [hlw]; exact hlt)
        have hd5 := (hbr.cell (p := ⟨b5, o5 + k, none⟩) hb5).trans hc5
        have hx0 : nth [] (ws.map List.flatten) k = (nth [] ws k).flatten := by
          rw [nth_eq _ _ _ (by rw [hlw]; exact hlt), nth_eq _ _ _ hlt, List.getElem_map]
        rw [hx0] at hd5
        have hmem : nth [] ws k ∈ ws := by rw [nth_eq _ _ _ hlt]; exact List.getElem_mem hlt
        obtain ⟨hxn, hxc, hxl⟩ := HF.out _ hmem
        have hxb : (nth [] ws k).length ≤ 30000 := by have := bulk_mem hmem; omega
        have hnext := fold_take34 (addG m) [] ws k hlt ([], [], 0)
        rw [hst.out] at hnext
        obtain ⟨x, hx⟩ : ∃ x, x = nth [] ws k := ⟨_, rfl⟩
        rw [← hx] at hd5 hxn hxc hxl hxb hnext
        have CN := (fun W => refColumns_any x.flatten (by omega) W)
        rw [cutL_flat hxc] at CN
        have CL1 := (fun W => refColumns_any l (by omega) W)
        rw [hul] at CL1
        have CL1 := Lib.hid CL1
        have hxs := sumC_bd x
        have hsx := S_size x.flatten
        obtain ⟨n, hn⟩ : ∃ n, n = sumC x := ⟨_, rfl⟩
        obtain ⟨X, hX⟩ : ∃ X, X = x.flatten := ⟨_, rfl⟩
        rw [← hn] at CN hxs
        rw [← hX] at CN hd5 hxl hsx
        have CN := Lib.hid CN
        have hnb : 0 ≤ n ∧ n ≤ 60000 := by omega
        have HXC := Lib.hid hxc
        have HXE := Lib.hid hX
        have HNE := Lib.hid hn
        have HKW := Lib.hid hlt
        have HBR := Lib.hid hbr
        have HO := Lib.hid ho
        have hkc : k < c2 := by omega
        clear hx hx0 hmem hxn hxc hX hn hul hc5
        by_cases hj : 0 < u ∧ n ≤ m - 1 - u
        · have hl0 : l ≠ [] := fun e => by have := hlu.1 e; omega
          have hne := ne_true hl0
          rw [add_join HXC.out hj.1 (by rw [← HNE.out]; exact hj.2), ← HXE.out] at hnext
          have HNX := Lib.hid hnext
          obtain ⟨hj1, hj2⟩ := hj
          have hs32 := S_size (l ++ [32])
          have hl32 : (l ++ [32]).length = l.length + 1 := by simp
          have HA1 := Lib.hid (S_append l [32])
          have HA2 := Lib.hid (S_append (l ++ [32]) X)
          clear hl0 hlu hnext
          go_wp2_with (first
            | (go_at_call_of 31 (Value.string (S X)); refine (CN.out _).mono ?_; rintro e w3 ⟨rfl, hb3⟩; have hB3 := bto HBR.out hb3 HBR.out.size)
            | (go_at_call_of 31 (Value.string (S l)); refine (CL1.out _).mono ?_; rintro e w4 ⟨rfl, hb4⟩; have hB4 := bto hB3 hb4 hB3.size))
          go_roundw
          case rel => exact ⟨k + 1, d, l ++ [32] ++ X, u + 1 + sumC x, HKW.out, by go_num, by rw [← HA2.out, ← HA1.out]; rfl, HNX, own_below (own_below HO.out hb3) hb4, hB4⟩
          case measure => simp [intOf]; omega
        · have hnj : u = 0 ∨ m - 1 - u < n := by omega
          rw [add_else (by rw [← HNE.out]; exact hnj)] at hnext
          clear hj
          have HXL := Lib.hid (show x.length ≤ 30000 ∧ x.flatten.length ≤ 1100000 from ⟨hxb, by rw [← HXE.out]; omega⟩)
          by_cases hl0 : l = []
          · by_cases hnm : m < n
            · have hne := ne_false hl0
              have hu1 : u = 0 := hlu.1 hl0
              have hend : (endG (d, l, u)).1 = d := by unfold endG; rw [if_neg (by show ¬ 0 < u; omega)]
              rw [hend] at hnext
              have hoc := on_cols (m := m) HXC.out
              have hol := on_len m x
              have hof := on_flen m x
              rw [← HXE.out] at hof
              have hon : onL m x = narL m x := by unfold onL; rw [if_pos (by rw [← HNE.out]; exact hnm)]
              have CR := (fun W => refNarrow_any x m HXC.out HXL.out.1 HXL.out.2 (by omega) W)
              rw [← hon, ← HXE.out] at CR
              obtain ⟨R0, hR0⟩ : ∃ R0, R0 = onL m x := ⟨_, rfl⟩
              rw [← hR0] at hnext hoc hol hof CR
              have CR := Lib.hid CR
              have HNX := Lib.hid hnext
              have HOC := Lib.hid hoc
              clear hR0 hon hoc hnext hend hlu hl0
              go_wp2_with (first
                | (go_at_call_of 31 (Value.string (S X)); refine (CN.out _).mono ?_; rintro e w3 ⟨rfl, hb3⟩; have hB3 := bto HBR.out hb3 HBR.out.size; have ho3 := own_below HO.out hb3)
                | (go_at_call 110; refine (CR.out _).mono ?_; rintro e w6 ⟨rfl, hb6⟩; have hB6 := bto hB3 hb6 hB3.size; have ho6 := own_below ho3 hb6))
              go_loopw [9, 5] (fun v o wr' => ∃ (R : CL) (D : List (List UInt8)), v = .string (S R.flatten) ∧ Hid (R.foldl (putG m) (D, [], 0) = R0.foldl (putG m) (d, [], 0)) ∧ Hid (∀ c ∈ R, Clu c ∧ colsL c ≤ m) ∧ R.length + D.length ≤ 100000 ∧ R.length ≤ 30000 ∧ R.flatten.length ≤ 25600 ∧ wr'.ownsRow w2.heap.size 9 1 o D.length (strV D) ∧ Below w2.heap.size w2 wr') (fun v _ _ => lenOf v)
              case atStart => exact ⟨R0, d, rfl, Lib.hid rfl, HOC, by omega, by omega, by omega, ho6, hB6⟩
              case round =>
                obtain ⟨R, D, rfl, hfin, hRc, hRD, hRl, hRf, hoD, hbD⟩ := hrel
                obtain ⟨aD, cD, rfl⟩ := own_slice hoD
                have hbDs := hbD.size
                have HRC := Lib.hid (fun c hc => (hRc.out c hc).1)
                have CQ := (fun W => refColumns_any R.flatten (by omega) W)
                rw [cutL_flat HRC.out] at CQ
                have hqb := sumC_bd R
                obtain ⟨q, hq⟩ : ∃ q, q = sumC R := ⟨_, rfl⟩
                rw [← hq] at CQ hqb
                by_cases hqm : m < q
                · obtain ⟨hch, hk0, hkR⟩ := chop0 R D hRc.out (by omega) (by rw [← hq]; exact hqm)
                  have CP := (fun W => refCutR_any R m HRC.out (by omega) (by omega) W)
                  have hPl := take_fit_len R (fitK R m)
                  have hDl := drop_flen R (fitK R m)
                  have hsp := flat_split R (fitK R m)
                  have hPp := flat_pos R (fitK R m) HRC.out hk0 hkR
                  have hdlen : (R.drop (fitK R m)).length < R.length := by rw [List.length_drop]; omega
                  have hdc : ∀ c ∈ R.drop (fitK R m), Clu c ∧ colsL c ≤ m := fun c hc => hRc.out c (List.mem_of_mem_drop hc)
                  have hfl2 : (R.drop (fitK R m)).flatten.length = R.flatten.length - (R.take (fitK R m)).flatten.length := by rw [← hsp, List.length_drop]
                  obtain ⟨P, hP⟩ : ∃ P, P = (R.take (fitK R m)).flatten := ⟨_, rfl⟩
                  obtain ⟨R', hR'⟩ : ∃ R', R' = R.drop (fitK R m) := ⟨_, rfl⟩
                  rw [← hP] at hch CP hPl hsp hPp hfl2
                  rw [← hR'] at hch hsp hdlen hdc hDl hfl2
                  rw [hfin.out] at hch
                  have HCH := Lib.hid hch.symm
                  have HDC := Lib.hid hdc
                  obtain ⟨F, hF⟩ : ∃ F, F = R.flatten := ⟨_, rfl⟩
                  rw [← hF] at CQ CP hPl hsp hRf hDl hfl2 ⊢
                  have hex : (S F).extract P.length F.length = S R'.flatten := by rw [S_extract, hsp]; congr 1; exact List.take_of_length_le (by omega)
                  have HEX := Lib.hid hex
                  have hsF := S_size F
                  have hsP := S_size P
                  have CQ := Lib.hid CQ
                  have CP := Lib.hid CP
                  have HSL := Lib.hid (show lenOf (.string (S R'.flatten)) < lenOf (.string (S F)) by show (S R'.flatten).size < (S F).size; rw [S_size, S_size]; omega)
                  clear hP hR' hF hch hsp hdc hex hq hk0 hkR hfl2
                  go_wp2_with (first
                    | (go_at_call 31; refine (CQ.out _).mono ?_; rintro e w7 ⟨rfl, hb7⟩; have hB7 := bto hbD hb7 hbDs; have ho7 := own_below hoD hb7)
                    | (go_at_call 74; refine (CP.out _).mono ?_; rintro e w8 ⟨rfl, hb8⟩; have hB8 := bto hB7 hb8 hB7.size; have ho8 := own_below ho7 hb8; have hB8s := hB8.size)
                    | (at_builtin; refine wpList_append_own _ rfl _ _ 23 rfl w2.heap.size 9 i0 (.string ⟨#[]⟩) 1 16 Try.underlying23 hi hz0 hz1 hz2 rfl (by decide) _ _ _ rfl (ho8.alloc _) ⟨w8.heap.size, 0, none⟩ 1 1 [.string (S P)] rfl rfl (cell_one_new w8 _ _) (by intro u hu; rw [List.mem_singleton.1 hu]; rfl) (by unfold maxLen; omega) (by omega) (by simp; omega) ?_; intro v9 w9 ho9 hg9 _; have hB9 : Below w2.heap.size w2 w9 := (hB8.alloc hB8s _).grown hg9 (by simp; omega) (fun k e => (own_cells ho8 k e).1); obtain ⟨g9, c9, rfl⟩ := ownsRow_succ ho9))
                  go_roundw
                  case rel => exact ⟨R', D ++ [P], by rw [← HEX.out], HCH, HDC, by simp; omega, by omega, by omega, by have := ho9; simpa [strV_snoc] using this, hB9⟩
                  case measure => rw [HEX.out]; exact HSL.out
                · have hqm' : q ≤ m := by omega
                  have hwh := whole0 (m := m) R D HRC.out (by rw [← hq]; exact hqm')
                  rw [hfin.out, ← HNX.out] at hwh
                  have HWH := Lib.hid hwh
                  have CQ := Lib.hid CQ
                  obtain ⟨F, hF⟩ : ∃ F, F = R.flatten := ⟨_, rfl⟩
                  have HFF := Lib.hid hF
                  rw [← hF] at CQ hRf ⊢
                  clear hwh hq hF hqm
                  go_wp2_with (go_at_call 31; refine (CQ.out _).mono ?_; rintro e w7 ⟨rfl, hb7⟩; have hB7 := bto hbD hb7 hbDs; have ho7 := own_below hoD hb7)
                  go_roundw
                  case rel => exact ⟨k + 1, D, F, sumC R, HKW.out, by go_num, rfl, by rw [HFF.out]; exact HWH, ho7, hB7⟩
                  case measure => simp [intOf]; omega
            · have hne := ne_false hl0
              have hu1 : u = 0 := hlu.1 hl0
              have hend : (endG (d, l, u)).1 = d := by unfold endG; rw [if_neg (by show ¬ 0 < u; omega)]
              rw [hend] at hnext
              have hoc := on_cols (m := m) HXC.out
              have hol := on_len m x
              have hof := on_flen m x
              rw [← HXE.out] at hof
              have hnm' : n ≤ m := by omega
              have hon : onL m x = x := by unfold onL; rw [if_neg (by rw [← HNE.out]; exact hnm)]
              obtain ⟨R0, hR0⟩ : ∃ R0, R0 = onL m x := ⟨_, rfl⟩
              rw [← hR0] at hnext hoc hol hof hon
              have HXE2 := Lib.hid (show X = R0.flatten by rw [hon]; exact HXE.out)
              have HNX := Lib.hid hnext
              have HOC := Lib.hid hoc
              clear hR0 hon hoc hnext hend hlu hl0 hnm
              go_wp2_with (first
                | (go_at_call_of 31 (Value.string (S X)); refine (CN.out _).mono ?_; rintro e w3 ⟨rfl, hb3⟩; have hB3 := bto HBR.out hb3 HBR.out.size; have ho3 := own_below HO.out hb3))
              go_loopw [9, 5] (fun v o wr' => ∃ (R : CL) (D : List (List UInt8)), v = .string (S R.flatten) ∧ Hid (R.foldl (putG m) (D, [], 0) = R0.foldl (putG m) (d, [], 0)) ∧ Hid (∀ c ∈ R, Clu c ∧ colsL c ≤ m) ∧ R.length + D.length ≤ 100000 ∧ R.length ≤ 30000 ∧ R.flatten.length ≤ 25600 ∧ wr'.ownsRow w2.heap.size 9 1 o D.length (strV D) ∧ Below w2.heap.size w2 wr') (fun v _ _ => lenOf v)
              case atStart => exact ⟨R0, d, by rw [← HXE2.out], Lib.hid rfl, HOC, by omega, by omega, by omega, ho3, hB3⟩
              case round =>
                obtain ⟨R, D, rfl, hfin, hRc, hRD, hRl, hRf, hoD, hbD⟩ := hrel
                obtain ⟨aD, cD, rfl⟩ := own_slice hoD
                have hbDs := hbD.size
                have HRC := Lib.hid (fun c hc => (hRc.out c hc).1)
                have CQ := (fun W => refColumns_any R.flatten (by omega) W)
                rw [cutL_flat HRC.out] at CQ
                have hqb := sumC_bd R
                obtain ⟨q, hq⟩ : ∃ q, q = sumC R := ⟨_, rfl⟩
                rw [← hq] at CQ hqb
                by_cases hqm : m < q
                · obtain ⟨hch, hk0, hkR⟩ := chop0 R D hRc.out (by omega) (by rw [← hq]; exact hqm)
                  have CP := (fun W => refCutR_any R m HRC.out (by omega) (by omega) W)
                  have hPl := take_fit_len R (fitK R m)
                  have hDl := drop_flen R (fitK R m)
                  have hsp := flat_split R (fitK R m)
                  have hPp := flat_pos R (fitK R m) HRC.out hk0 hkR
                  have hdlen : (R.drop (fitK R m)).length < R.length := by rw [List.length_drop]; omega
                  have hdc : ∀ c ∈ R.drop (fitK R m), Clu c ∧ colsL c ≤ m := fun c hc => hRc.out c (List.mem_of_mem_drop hc)
                  have hfl2 : (R.drop (fitK R m)).flatten.length = R.flatten.length - (R.take (fitK R m)).flatten.length := by rw [← hsp, List.length_drop]
                  obtain ⟨P, hP⟩ : ∃ P, P = (R.take (fitK R m)).flatten := ⟨_, rfl⟩
                  obtain ⟨R', hR'⟩ : ∃ R', R' = R.drop (fitK R m) := ⟨_, rfl⟩
                  rw [← hP] at hch CP hPl hsp hPp hfl2
                  rw [← hR'] at hch hsp hdlen hdc hDl hfl2
                  rw [hfin.out] at hch
                  have HCH := Lib.hid hch.symm
                  have HDC := Lib.hid hdc
                  obtain ⟨F, hF⟩ : ∃ F, F = R.flatten := ⟨_, rfl⟩
                  rw [← hF] at CQ CP hPl hsp hRf hDl hfl2 ⊢
                  have hex : (S F).extract P.length F.length = S R'.flatten := by rw [S_extract, hsp]; congr 1; exact List.take_of_length_le (by omega)
                  have HEX := Lib.hid hex
                  have hsF := S_size F
                  have hsP := S_size P
                  have CQ := Lib.hid CQ
                  have CP := Lib.hid CP
                  have HSL := Lib.hid (show lenOf (.string (S R'.flatten)) < lenOf (.string (S F)) by show (S R'.flatten).size < (S F).size; rw [S_size, S_size]; omega)
                  clear hP hR' hF hch hsp hdc hex hq hk0 hkR hfl2
                  go_wp2_with (first
                    | (go_at_call 31; refine (CQ.out _).mono ?_; rintro e w7 ⟨rfl, hb7⟩; have hB7 := bto hbD hb7 hbDs; have ho7 := own_below hoD hb7)
                    | (go_at_call 74; refine (CP.out _).mono ?_; rintro e w8 ⟨rfl, hb8⟩; have hB8 := bto hB7 hb8 hB7.size; have ho8 := own_below ho7 hb8; have hB8s := hB8.size)
                    | (at_builtin; refine wpList_append_own _ rfl _ _ 23 rfl w2.heap.size 9 i0 (.string ⟨#[]⟩) 1 16 Try.underlying23 hi hz0 hz1 hz2 rfl (by decide) _ _ _ rfl (ho8.alloc _) ⟨w8.heap.size, 0, none⟩ 1 1 [.string (S P)] rfl rfl (cell_one_new w8 _ _) (by intro u hu; rw [List.mem_singleton.1 hu]; rfl) (by unfold maxLen; omega) (by omega) (by simp; omega) ?_; intro v9 w9 ho9 hg9 _; have hB9 : Below w2.heap.size w2 w9 := (hB8.alloc hB8s _).grown hg9 (by simp; omega) (fun k e => (own_cells ho8 k e).1); obtain ⟨g9, c9, rfl⟩ := ownsRow_succ ho9))
                  go_roundw
                  case rel => exact ⟨R', D ++ [P], by rw [← HEX.out], HCH, HDC, by simp; omega, by omega, by omega, by have := ho9; simpa [strV_snoc] using this, hB9⟩
                  case measure => rw [HEX.out]; exact HSL.out
                · have hqm' : q ≤ m := by omega
                  have hwh := whole0 (m := m) R D HRC.out (by rw [← hq]; exact hqm')
                  rw [hfin.out, ← HNX.out] at hwh
                  have HWH := Lib.hid hwh
                  have CQ := Lib.hid CQ
                  obtain ⟨F, hF⟩ : ∃ F, F = R.flatten := ⟨_, rfl⟩
                  have HFF := Lib.hid hF
                  rw [← hF] at CQ hRf ⊢
                  clear hwh hq hF hqm
                  go_wp2_with (go_at_call 31; refine (CQ.out _).mono ?_; rintro e w7 ⟨rfl, hb7⟩; have hB7 := bto hbD hb7 hbDs; have ho7 := own_below hoD hb7)
                  go_roundw
                  case rel => exact ⟨k + 1, D, F, sumC R, HKW.out, by go_num, rfl, by rw [HFF.out]; exact HWH, ho7, hB7⟩
                  case measure => simp [intOf]; omega
          · by_cases hnm : m < n
            · have hne := ne_true hl0
              have hu1 : 0 < u := by have := hlu.2; by_cases e : u = 0; exact absurd (this e) hl0; omega
              have hnj2 : m - 1 - u < n := by omega
              have hend : (endG (d, l, u)).1 = d ++ [l] := by unfold endG; rw [if_pos hu1]
              rw [hend] at hnext
              have hoc := on_cols (m := m) HXC.out
              have hol := on_len m x
              have hof := on_flen m x
              rw [← HXE.out] at hof
              have hon : onL m x = narL m x := by unfold onL; rw [if_pos (by rw [← HNE.out]; exact hnm)]
              have CR := (fun W => refNarrow_any x m HXC.out HXL.out.1 HXL.out.2 (by omega) W)
              rw [← hon, ← HXE.out] at CR
              obtain ⟨R0, hR0⟩ : ∃ R0, R0 = onL m x := ⟨_, rfl⟩
              rw [← hR0] at hnext hoc hol hof CR
              have CR := Lib.hid CR
              have HNX := Lib.hid hnext
              have HOC := Lib.hid hoc
              clear hR0 hon hoc hnext hend hlu hl0
              go_wp2_with (first
                | (go_at_call_of 31 (Value.string (S X)); refine (CN.out _).mono ?_; rintro e w3 ⟨rfl, hb3⟩; have hB3 := bto HBR.out hb3 HBR.out.size; have ho3 := own_below HO.out hb3)
                | (go_at_call_of 31 (Value.string (S l)); refine (CL1.out _).mono ?_; rintro e w4 ⟨rfl, hb4⟩; have hB4 := bto hB3 hb4 hB3.size; have ho4 := own_below ho3 hb4; have hB4s := hB4.size)
                | (at_builtin; refine wpList_append_own _ rfl _ _ 23 rfl w2.heap.size 9 i0 (.string ⟨#[]⟩) 1 16 Try.underlying23 hi hz0 hz1 hz2 rfl (by decide) _ _ _ rfl (ho4.alloc _) ⟨w4.heap.size, 0, none⟩ 1 1 [.string (S l)] rfl rfl (cell_one_new w4 _ _) (by intro u hu; rw [List.mem_singleton.1 hu]; rfl) (by unfold maxLen; omega) (by omega) (by simp; omega) ?_; intro v5 w5 ho5 hg5 _; have hB5 : Below w2.heap.size w2 w5 := (hB4.alloc hB4s _).grown hg5 (by simp; omega) (fun k e => (own_cells ho4 k e).1); obtain ⟨g5, c5, rfl⟩ := ownsRow_succ ho5)
                | (go_at_call 110; refine (CR.out _).mono ?_; rintro e w6 ⟨rfl, hb6⟩; have hB6 := bto hB5 hb6 hB5.size; have ho6 := own_below ho5 hb6))
              go_loopw [9, 5] (fun v o wr' => ∃ (R : CL) (D : List (List UInt8)), v = .string (S R.flatten) ∧ Hid (R.foldl (putG m) (D, [], 0) = R0.foldl (putG m) ((d ++ [l]), [], 0)) ∧ Hid (∀ c ∈ R, Clu c ∧ colsL c ≤ m) ∧ R.length + D.length ≤ 100000 ∧ R.length ≤ 30000 ∧ R.flatten.length ≤ 25600 ∧ wr'.ownsRow w2.heap.size 9 1 o D.length (strV D) ∧ Below w2.heap.size w2 wr') (fun v _ _ => lenOf v)
              case atStart => exact ⟨R0, (d ++ [l]), rfl, Lib.hid rfl, HOC, by simp; omega, by omega, by omega, by have := ho6; simpa [strV_snoc] using this, hB6⟩
              case round =>
                obtain ⟨R, D, rfl, hfin, hRc, hRD, hRl, hRf, hoD, hbD⟩ := hrel
                obtain ⟨aD, cD, rfl⟩ := own_slice hoD
                have hbDs := hbD.size
                have HRC := Lib.hid (fun c hc => (hRc.out c hc).1)
                have CQ := (fun W => refColumns_any R.flatten (by omega) W)
                rw [cutL_flat HRC.out] at CQ
                have hqb := sumC_bd R
                obtain ⟨q, hq⟩ : ∃ q, q = sumC R := ⟨_, rfl⟩
                rw [← hq] at CQ hqb
                by_cases hqm : m < q
                · obtain ⟨hch, hk0, hkR⟩ := chop0 R D hRc.out (by omega) (by rw [← hq]; exact hqm)
                  have CP := (fun W => refCutR_any R m HRC.out (by omega) (by omega) W)
                  have hPl := take_fit_len R (fitK R m)
                  have hDl := drop_flen R (fitK R m)
                  have hsp := flat_split R (fitK R m)
                  have hPp := flat_pos R (fitK R m) HRC.out hk0 hkR
                  have hdlen : (R.drop (fitK R m)).length < R.length := by rw [List.length_drop]; omega
                  have hdc : ∀ c ∈ R.drop (fitK R m), Clu c ∧ colsL c ≤ m := fun c hc => hRc.out c (List.mem_of_mem_drop hc)
                  have hfl2 : (R.drop (fitK R m)).flatten.length = R.flatten.length - (R.take (fitK R m)).flatten.length := by rw [← hsp, List.length_drop]
                  obtain ⟨P, hP⟩ : ∃ P, P = (R.take (fitK R m)).flatten := ⟨_, rfl⟩
                  obtain ⟨R', hR'⟩ : ∃ R', R' = R.drop (fitK R m) := ⟨_, rfl⟩
                  rw [← hP] at hch CP hPl hsp hPp hfl2
                  rw [← hR'] at hch hsp hdlen hdc hDl hfl2
                  rw [hfin.out] at hch
                  have HCH := Lib.hid hch.symm
                  have HDC := Lib.hid hdc
                  obtain ⟨F, hF⟩ : ∃ F, F = R.flatten := ⟨_, rfl⟩
                  rw [← hF] at CQ CP hPl hsp hRf hDl hfl2 ⊢
                  have hex : (S F).extract P.length F.length = S R'.flatten := by rw [S_extract, hsp]; congr 1; exact List.take_of_length_le (by omega)
                  have HEX := Lib.hid hex
                  have hsF := S_size F
                  have hsP := S_size P
                  have CQ := Lib.hid CQ
                  have CP := Lib.hid CP
                  have HSL := Lib.hid (show lenOf (.string (S R'.flatten)) < lenOf (.string (S F)) by show (S R'.flatten).size < (S F).size; rw [S_size, S_size]; omega)
                  clear hP hR' hF hch hsp hdc hex hq hk0 hkR hfl2
                  go_wp2_with (first
                    | (go_at_call 31; refine (CQ.out _).mono ?_; rintro e w7 ⟨rfl, hb7⟩; have hB7 := bto hbD hb7 hbDs; have ho7 := own_below hoD hb7)
                    | (go_at_call 74; refine (CP.out _).mono ?_; rintro e w8 ⟨rfl, hb8⟩; have hB8 := bto hB7 hb8 hB7.size; have ho8 := own_below ho7 hb8; have hB8s := hB8.size)
                    | (at_builtin; refine wpList_append_own _ rfl _ _ 23 rfl w2.heap.size 9 i0 (.string ⟨#[]⟩) 1 16 Try.underlying23 hi hz0 hz1 hz2 rfl (by decide) _ _ _ rfl (ho8.alloc _) ⟨w8.heap.size, 0, none⟩ 1 1 [.string (S P)] rfl rfl (cell_one_new w8 _ _) (by intro u hu; rw [List.mem_singleton.1 hu]; rfl) (by unfold maxLen; omega) (by omega) (by simp; omega) ?_; intro v9 w9 ho9 hg9 _; have hB9 : Below w2.heap.size w2 w9 := (hB8.alloc hB8s _).grown hg9 (by simp; omega) (fun k e => (own_cells ho8 k e).1); obtain ⟨g9, c9, rfl⟩ := ownsRow_succ ho9))
                  go_roundw
                  case rel => exact ⟨R', D ++ [P], by rw [← HEX.out], HCH, HDC, by simp; omega, by omega, by omega, by have := ho9; simpa [strV_snoc] using this, hB9⟩
                  case measure => rw [HEX.out]; exact HSL.out
                · have hqm' : q ≤ m := by omega
                  have hwh := whole0 (m := m) R D HRC.out (by rw [← hq]; exact hqm')
                  rw [hfin.out, ← HNX.out] at hwh
                  have HWH := Lib.hid hwh
                  have CQ := Lib.hid CQ
                  obtain ⟨F, hF⟩ : ∃ F, F = R.flatten := ⟨_, rfl⟩
                  have HFF := Lib.hid hF
                  rw [← hF] at CQ hRf ⊢
                  clear hwh hq hF hqm
                  go_wp2_with (go_at_call 31; refine (CQ.out _).mono ?_; rintro e w7 ⟨rfl, hb7⟩; have hB7 := bto hbD hb7 hbDs; have ho7 := own_below hoD hb7)
                  go_roundw
                  case rel => exact ⟨k + 1, D, F, sumC R, HKW.out, by go_num, rfl, by rw [HFF.out]; exact HWH, ho7, hB7⟩
                  case measure => simp [intOf]; omega
            · have hne := ne_true hl0
              have hu1 : 0 < u := by have := hlu.2; by_cases e : u = 0; exact absurd (this e) hl0; omega
              have hnj2 : m - 1 - u < n := by omega
              have hend : (endG (d, l, u)).1 = d ++ [l] := by unfold endG; rw [if_pos hu1]
              rw [hend] at hnext
              have hoc := on_cols (m := m) HXC.out
              have hol := on_len m x
              have hof := on_flen m x
              rw [← HXE.out] at hof
              have hnm' : n ≤ m := by omega
              have hon : onL m x = x := by unfold onL; rw [if_neg (by rw [← HNE.out]; exact hnm)]
              obtain ⟨R0, hR0⟩ : ∃ R0, R0 = onL m x := ⟨_, rfl⟩
              rw [← hR0] at hnext hoc hol hof hon
              have HXE2 := Lib.hid (show X = R0.flatten by rw [hon]; exact HXE.out)
              have HNX := Lib.hid hnext
              have HOC := Lib.hid hoc
              clear hR0 hon hoc hnext hend hlu hl0 hnm
              go_wp2_with (first
                | (go_at_call_of 31 (Value.string (S X)); refine (CN.out _).mono ?_; rintro e w3 ⟨rfl, hb3⟩; have hB3 := bto HBR.out hb3 HBR.out.size; have ho3 := own_below HO.out hb3)
                | (go_at_call_of 31 (Value.string (S l)); refine (CL1.out _).mono ?_; rintro e w4 ⟨rfl, hb4⟩; have hB4 := bto hB3 hb4 hB3.size; have ho4 := own_below ho3 hb4; have hB4s := hB4.size)
                | (at_builtin; refine wpList_append_own _ rfl _ _ 23 rfl w2.heap.size 9 i0 (.string ⟨#[]⟩) 1 16 Try.underlying23 hi hz0 hz1 hz2 rfl (by decide) _ _ _ rfl (ho4.alloc _) ⟨w4.heap.size, 0, none⟩ 1 1 [.string (S l)] rfl rfl (cell_one_new w4 _ _) (by intro u hu; rw [List.mem_singleton.1 hu]; rfl) (by unfold maxLen; omega) (by omega) (by simp; omega) ?_; intro v5 w5 ho5 hg5 _; have hB5 : Below w2.heap.size w2 w5 := (hB4.alloc hB4s _).grown hg5 (by simp; omega) (fun k e => (own_cells ho4 k e).1); obtain ⟨g5, c5, rfl⟩ := ownsRow_succ ho5))
              go_loopw [9, 5] (fun v o wr' => ∃ (R : CL) (D : List (List UInt8)), v = .string (S R.flatten) ∧ Hid (R.foldl (putG m) (D, [], 0) = R0.foldl (putG m) ((d ++ [l]), [], 0)) ∧ Hid (∀ c ∈ R, Clu c ∧ colsL c ≤ m) ∧ R.length + D.length ≤ 100000 ∧ R.length ≤ 30000 ∧ R.flatten.length ≤ 25600 ∧ wr'.ownsRow w2.heap.size 9 1 o D.length (strV D) ∧ Below w2.heap.size w2 wr') (fun v _ _ => lenOf v)
              case atStart => exact ⟨R0, (d ++ [l]), by rw [← HXE2.out], Lib.hid rfl, HOC, by simp; omega, by omega, by omega, by have := ho5; simpa [strV_snoc] using this, hB5⟩
              case round =>
                obtain ⟨R, D, rfl, hfin, hRc, hRD, hRl, hRf, hoD, hbD⟩ := hrel
                obtain ⟨aD, cD, rfl⟩ := own_slice hoD
                have hbDs := hbD.size
                have HRC := Lib.hid (fun c hc => (hRc.out c hc).1)
                have CQ := (fun W => refColumns_any R.flatten (by omega) W)
                rw [cutL_flat HRC.out] at CQ
                have hqb := sumC_bd R
                obtain ⟨q, hq⟩ : ∃ q, q = sumC R := ⟨_, rfl⟩
                rw [← hq] at CQ hqb
                by_cases hqm : m < q
                · obtain ⟨hch, hk0, hkR⟩ := chop0 R D hRc.out (by omega) (by rw [← hq]; exact hqm)
                  have CP := (fun W => refCutR_any R m HRC.out (by omega) (by omega) W)
                  have hPl := take_fit_len R (fitK R m)
                  have hDl := drop_flen R (fitK R m)
                  have hsp := flat_split R (fitK R m)
                  have hPp := flat_pos R (fitK R m) HRC.out hk0 hkR
                  have hdlen : (R.drop (fitK R m)).length < R.length := by rw [List.length_drop]; omega
                  have hdc : ∀ c ∈ R.drop (fitK R m), Clu c ∧ colsL c ≤ m := fun c hc => hRc.out c (List.mem_of_mem_drop hc)
                  have hfl2 : (R.drop (fitK R m)).flatten.length = R.flatten.length - (R.take (fitK R m)).flatten.length := by rw [← hsp, List.length_drop]
                  obtain ⟨P, hP⟩ : ∃ P, P = (R.take (fitK R m)).flatten := ⟨_, rfl⟩
                  obtain ⟨R', hR'⟩ : ∃ R', R' = R.drop (fitK R m) := ⟨_, rfl⟩
                  rw [← hP] at hch CP hPl hsp hPp hfl2
                  rw [← hR'] at hch hsp hdlen hdc hDl hfl2
                  rw [hfin.out] at hch
                  have HCH := Lib.hid hch.symm
                  have HDC := Lib.hid hdc
                  obtain ⟨F, hF⟩ : ∃ F, F = R.flatten := ⟨_, rfl⟩
                  rw [← hF] at CQ CP hPl hsp hRf hDl hfl2 ⊢
                  have hex : (S F).extract P.length F.length = S R'.flatten := by rw [S_extract, hsp]; congr 1; exact List.take_of_length_le (by omega)
                  have HEX := Lib.hid hex
                  have hsF := S_size F
                  have hsP := S_size P
                  have CQ := Lib.hid CQ
                  have CP := Lib.hid CP
                  have HSL := Lib.hid (show lenOf (.string (S R'.flatten)) < lenOf (.string (S F)) by show (S R'.flatten).size < (S F).size; rw [S_size, S_size]; omega)
                  clear hP hR' hF hch hsp hdc hex hq hk0 hkR hfl2
                  go_wp2_with (first
                    | (go_at_call 31; refine (CQ.out _).mono ?_; rintro e w7 ⟨rfl, hb7⟩; have hB7 := bto hbD hb7 hbDs; have ho7 := own_below hoD hb7)
                    | (go_at_call 74; refine (CP.out _).mono ?_; rintro e w8 ⟨rfl, hb8⟩; have hB8 := bto hB7 hb8 hB7.size; have ho8 := own_below ho7 hb8; have hB8s := hB8.size)
                    | (at_builtin; refine wpList_append_own _ rfl _ _ 23 rfl w2.heap.size 9 i0 (.string ⟨#[]⟩) 1 16 Try.underlying23 hi hz0 hz1 hz2 rfl (by decide) _ _ _ rfl (ho8.alloc _) ⟨w8.heap.size, 0, none⟩ 1 1 [.string (S P)] rfl rfl (cell_one_new w8 _ _) (by intro u hu; rw [List.mem_singleton.1 hu]; rfl) (by unfold maxLen; omega) (by omega) (by simp; omega) ?_; intro v9 w9 ho9 hg9 _; have hB9 : Below w2.heap.size w2 w9 := (hB8.alloc hB8s _).grown hg9 (by simp; omega) (fun k e => (own_cells ho8 k e).1); obtain ⟨g9, c9, rfl⟩ := ownsRow_succ ho9))
                  go_roundw
                  case rel => exact ⟨R', D ++ [P], by rw [← HEX.out], HCH, HDC, by simp; omega, by omega, by omega, by have := ho9; simpa [strV_snoc] using this, hB9⟩
                  case measure => rw [HEX.out]; exact HSL.out
                · have hqm' : q ≤ m := by omega
                  have hwh := whole0 (m := m) R D HRC.out (by rw [← hq]; exact hqm')
                  rw [hfin.out, ← HNX.out] at hwh
                  have HWH := Lib.hid hwh
                  have CQ := Lib.hid CQ
                  obtain ⟨F, hF⟩ : ∃ F, F = R.flatten := ⟨_, rfl⟩
                  have HFF := Lib.hid hF
                  rw [← hF] at CQ hRf ⊢
                  clear hwh hq hF hqm
                  go_wp2_with (go_at_call 31; refine (CQ.out _).mono ?_; rintro e w7 ⟨rfl, hb7⟩; have hB7 := bto hbD hb7 hbDs; have ho7 := own_below hoD hb7)
                  go_roundw
                  case rel => exact ⟨k + 1, D, F, sumC R, HKW.out, by go_num, rfl, by rw [HFF.out]; exact HWH, ho7, hB7⟩
                  case measure => simp [intOf]; omega
      · obtain rfl : k = ws.length := by omega
        have hT := hst.out
        rw [List.take_length] at hT
        have hZe : Z = if 0 < u then d ++ [l] else d := by
          rw [HZ.out, hT]
          unfold endG
          split <;> rfl
        by_cases hl0 : l = []
        · have hne := ne_false hl0
          rw [if_neg (by have := hlu.1 hl0; omega)] at hZe
          have HZE := Lib.hid hZe
          clear hZe hl0 hT hlu hul
          go_wp2
          go_ret
          rw [HZE.out]
          exact own_StrsO hb2s ho (hb2.trans (hbr.mono hb2s))
        · have hne := ne_true hl0
          rw [if_pos (by have := hlu.2; by_cases e : u = 0; exact absurd (this e) hl0; omega)] at hZe
          have HZE := Lib.hid hZe
          clear hZe hl0 hT hlu hul
          go_wp2_with (at_builtin; refine wpList_append_own _ rfl _ _ 23 rfl w2.heap.size 9 i0 (.string ⟨#[]⟩) 1 16 Try.underlying23 hi hz0 hz1 hz2 rfl (by decide) _ _ _ rfl (ho.alloc _) ⟨wr.heap.size, 0, none⟩ 1 1 [.string (S l)] rfl rfl (cell_one_new wr _ _) (by intro u hu; rw [List.mem_singleton.1 hu]; rfl) (by unfold maxLen; omega) (by omega) (by simp; omega) ?_; intro v4 w4 ho4 hg4 _; obtain ⟨g4, c4, rfl⟩ := ownsRow_succ ho4)
          have hb4 : Below w2.heap.size w2 w4 := (hbr.alloc hbs _).grown hg4 (by simp; omega) (fun k e => (own_cells ho k e).1)
          go_ret
          rw [HZE.out]
          exact own_StrsO hb2s (by rw [strV_snoc, List.length_append]; exact ho4) (hb2.trans (hb4.mono hb2s))
end Go.Proofs.Ytmdpmjabjijjiaa
