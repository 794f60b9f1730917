/- The law WrapKeeps. No condition. -/
import Derived.Test.YtmdpmjabjijjiaaWrapK
import Derived.Test.YtmdpmjabjijjiaaWrap9
namespace Go.Proofs.Ytmdpmjabjijjiaa
set_option linter.unusedVariables false
set_option linter.unusedSimpArgs false
open Go.RowKit Go.Shelf Go.Maps
theorem fine_len {w : Int} {D : CL} (h : Fine w D) (hw : w ≤ 600) : D.length ≤ 600 ∧ D.flatten.length ≤ 38400 := by
  have h1 := sumC_ge D h.1
  have h2 := h.2.1
  have h3 := flat_len D 64 (fun c hc => (h.1 c hc).len.2)
  omega
theorem head_byte {D : CL} (hn : D ≠ []) (hc : ∀ c ∈ D, Clu c) : nth 0 D.flatten 0 = nth 0 (nth [] D 0) 0 := by
  cases D with
  | nil => exact absurd rfl hn
  | cons a t =>
    have h1 := (hc a (List.mem_cons_self ..)).len.1
    cases a with
    | nil => simp at h1
    | cons b r => rfl
theorem b32_no {c : List UInt8} (h : b32 c = false) : (nth 0 c 0).toNat ≠ 32 := by
  unfold b32 at h
  simpa using h
theorem take_snoc3 (L : CL) (k : Nat) (h : k < L.length) : L.take (k + 1) = L.take k ++ [nth [] L k] := by
  rw [List.take_succ_eq_append_getElem h, nth_eq _ _ _ h]
theorem filter_take (f : List UInt8 → Bool) (D : CL) (j : Nat) (h : j < D.length) : ((D.take (j + 1)).filter f).flatten = ((D.take j).filter f).flatten ++ (if f (nth [] D j) = true then nth [] D j else []) := by
  rw [take_snoc3 D j h, List.filter_append, List.flatten_append]
  congr 1
  by_cases hf : f (nth [] D j) = true
  · rw [if_pos hf, List.filter_cons, if_pos hf]; simp
  · rw [if_neg hf, List.filter_cons, if_neg hf]; simp
theorem filt_len {D : CL} (f : List UInt8 → Bool) (h : ∀ c ∈ D, Clu c) : (D.filter f).flatten.length ≤ 64 * (D.filter f).length :=
  flat_len _ 64 (fun c hc => (h c (List.mem_filter.1 hc).1).len.2)
theorem index_get (C : List UInt8) (h : 0 < C.length) : (S C)[0]'(by rw [S_size]; exact h) = nth 0 C 0 := byte_get C h
set_option maxRecDepth 100000 in
set_option maxHeartbeats 16000000 in
theorem wrapKeeps_law (s0 : ByteArray) (m0 : Int) (w : World) (hs0 : s0.size ≤ maxLen) (hm0 : (Lit.int .i64 m0).wf = true) :
    Calls Try.prog 10 #[.string s0, .int .i64 m0] w fun e w' => e = .returned (.bool true) ∧ Below w.heap.size w w' := by
  have hm : -9223372036854775808 ≤ m0 ∧ m0 ≤ 9223372036854775807 := by simpa [Lit.wf, IntKind.min, IntKind.max, IntKind.signed, IntKind.bits] using hm0
  obtain ⟨l0, rfl⟩ := S_back s0
  rw [S_size] at hs0
  have C0 := Lib.hid (fun W => cut17_any l0 W hs0)
  have CW := Lib.hid (fun W => wide17_any m0 W)
  obtain ⟨s, hs'⟩ : ∃ s, s = l0.take 300 := ⟨_, rfl⟩
  obtain ⟨m, hm'⟩ : ∃ m, m = min m0 600 := ⟨_, rfl⟩
  rw [← hs'] at C0
  rw [← hm'] at CW
  have hsl : s.length ≤ 300 := by rw [hs', List.length_take]; omega
  have hml : -9223372036854775808 ≤ m ∧ m ≤ 600 := by omega
  clear hs' hm' hm hm0
  have C1 := (fun W => wrap_any s m (by omega) (by omega) W)
  obtain ⟨DD, hDD, hfine, hkeep⟩ := wrap_keeps s m
  have hfl := flat_len64 s
  have C2 := Lib.hid (fun W => refFlat_any s (by omega) W)
  have C3 := (fun W => refCut_any (flatL s) (by omega) W)
  have hCl := cutL_len (flatL s)
  have hCc : ∀ c ∈ cutL (flatL s), Clu c := fun c hc => clu_mem hc
  obtain ⟨C, hC⟩ : ∃ C, C = cutL (flatL s) := ⟨_, rfl⟩
  rw [← hC] at C3 hCl hCc hkeep
  rw [hDD] at C1
  have C1 := Lib.hid C1
  have C3 := Lib.hid C3
  have hlD : (DD.map List.flatten).length = DD.length := by simp
  have hkl : (DD.flatten.filter solid).length ≤ 19200 := by
    rw [hkeep]
    exact Nat.le_trans (List.length_filter_le _ _) (Nat.le_trans (List.length_filter_le _ _) (by omega))
  have hDclu : ∀ c ∈ DD.flatten, Clu c := fun c hc => by
    obtain ⟨D, hD, hcD⟩ := List.mem_flatten.1 hc
    exact (hfine D hD).2.1 c hcD
  have hpre : ∀ k, (((DD.take k).flatten).filter solid).flatten.length ≤ 1300000 := fun k => by
    have h1 := filt_len (D := (DD.take k).flatten) solid (fun c hc => hDclu c (by
      obtain ⟨D, hD, hcD⟩ := List.mem_flatten.1 hc
      exact List.mem_flatten.2 ⟨D, List.mem_of_mem_take hD, hcD⟩))
    have h2 : ((DD.take k).flatten.filter solid).length ≤ (DD.flatten.filter solid).length := by
      conv => rhs; rw [← List.take_append_drop k DD, List.flatten_append, List.filter_append, List.length_append]
      omega
    omega
  have HPRE := Lib.hid hpre
  have HFINE := Lib.hid hfine
  have HKEEP := Lib.hid hkeep
  have HCC := Lib.hid hCc
  clear hpre hfine hkeep hDclu hkl hDD hC hCc
  go_enter Try.func10, Try.ntmps10
  go_wp2_with (first
    | (go_at_call 57; refine (C0.out _).mono ?_; rintro e wn ⟨rfl, rfl⟩)
    | (go_at_call 58; refine (CW.out _).mono ?_; rintro e wn ⟨rfl, rfl⟩)
    | (go_at_call 59; refine (C1.out _).mono ?_; rintro e w2 ⟨a2, n2, c2, hn2, hnc2, hcm2, rfl, hrow2, hb2⟩; rw [hlD] at hn2; obtain rfl : n2 = DD.length := hn2))
  have hcm9 : c2 ≤ 9223372036854775807 := by unfold maxLen at hcm2; omega
  go_loopw [8, 6] (fun i g wr => ∃ k : Nat, k ≤ DD.length ∧ i = .int .i64 (k : Int) ∧ g = .string (S (((DD.take k).flatten.filter solid).flatten)) ∧ Below w2.heap.size w2 wr) (fun i _ _ => DD.length - (intOf i).toNat)
  case atStart => exact ⟨0, Nat.zero_le _, rfl, rfl, Below.refl _ _⟩
  case round =>
    obtain ⟨k, hk, rfl, rfl, hbr⟩ := hrel
    by_cases hlt : k < DD.length
    · obtain ⟨b, off, rfl, hbb, hcx⟩ := strs_at hrow2 k (by rw [hlD]; exact hlt)
      have hdx := (hbr.cell (p := ⟨b, off + k, none⟩) hbb).trans hcx
      have hDm : nth [] DD k ∈ DD := by rw [nth_eq _ _ _ hlt]; exact List.getElem_mem hlt
      have hx0 : nth [] (DD.map List.flatten) k = (nth [] DD k).flatten := by
        rw [nth_eq _ _ _ (by rw [hlD]; exact hlt), nth_eq _ _ _ hlt, List.getElem_map]
      rw [hx0] at hdx
      obtain ⟨hDn, hDf⟩ := HFINE.out _ hDm
      have hnext : ((DD.take (k + 1)).flatten.filter solid).flatten = ((DD.take k).flatten.filter solid).flatten ++ ((nth [] DD k).filter solid).flatten := by
        rw [List.take_succ_eq_append_getElem hlt, List.flatten_append, List.filter_append, List.flatten_append, nth_eq _ _ _ hlt]
        simp
      have HNEXT := Lib.hid hnext
      have hG := HPRE.out k
      obtain ⟨G, hGe⟩ : ∃ G, G = ((DD.take k).flatten.filter solid).flatten := ⟨_, rfl⟩
      obtain ⟨D, hDe⟩ : ∃ D, D = nth [] DD k := ⟨_, rfl⟩
      rw [← hGe] at hG HNEXT ⊢
      rw [← hDe] at hdx hDn hDf HNEXT
      have hDl := fine_len hDf hml.2
      have hcut : cutL D.flatten = D := cutL_flat hDf.1
      have CC := (fun W => refColumns_any D.flatten (by omega) W)
      have CU := (fun W => refCut_any D.flatten (by omega) W)
      rw [hcut] at CC CU
      have CC := Lib.hid CC
      have CU := Lib.hid CU
      have hsum := hDf.2.1
      obtain ⟨q, hq⟩ : ∃ q, q = sumC D := ⟨_, rfl⟩
      rw [← hq] at CC hsum
      have hDp : 0 < D.length := List.length_pos_iff.2 hDn
      have hhd : (nth 0 D.flatten 0).toNat ≠ 32 := by
        rw [head_byte hDn hDf.1]
        refine b32_no (hDf.2.2.1 _ ?_)
        cases D with
        | nil => exact absurd rfl hDn
        | cons a t => rfl
      obtain ⟨d, hd⟩ : ∃ d, D.length = d + 1 := ⟨D.length - 1, by omega⟩
      have hdl : d < D.length := by omega
      have hlastb : (nth 0 (nth [] D d) 0).toNat ≠ 32 := by
        refine b32_no (hDf.2.2.2 _ ?_)
        rw [nth_eq _ _ _ hdl, List.getLast?_eq_getElem?, hd, Nat.add_sub_cancel, List.getElem?_eq_getElem hdl]
      have hfp : 0 < D.flatten.length := by
        cases D with
        | nil => exact absurd rfl hDn
        | cons a t =>
          have := (hDf.1 a (List.mem_cons_self ..)).len.1
          rw [List.flatten_cons, List.length_append]; omega
      obtain ⟨X, hXe⟩ : ∃ X, X = D.flatten := ⟨_, rfl⟩
      rw [← hXe] at hdx hDl CC CU hhd hfp
      have hg1 := index_get X hfp
      have hs1 := S_size X
      obtain ⟨z1, hz1⟩ : ∃ z, z = (nth 0 X 0).toNat := ⟨_, rfl⟩
      have hz1i : ((nth 0 X 0).toNat : Int) = (z1 : Int) := by rw [hz1]
      have hzn1 : ((z1 : Int) == 32) = false := by simp; omega
      have hcld := (hDf.1 (nth [] D d) (by rw [nth_eq _ _ _ hdl]; exact List.getElem_mem hdl)).len
      have hg2 := index_get (nth [] D d) (by omega)
      have hs2 := S_size (nth [] D d)
      obtain ⟨z2, hz2⟩ : ∃ z, z = (nth 0 (nth [] D d) 0).toNat := ⟨_, rfl⟩
      have hz2i : ((nth 0 (nth [] D d) 0).toNat : Int) = (z2 : Int) := by rw [hz2]
      have hzn2 : ((z2 : Int) == 32) = false := by simp; omega
      have HDC := Lib.hid hDf.1
      have HAT := Lib.hid (fun (W : World) (a : Option Addr) (h : RowAt W.heap.size W a (strV D)) => strs_at h d hdl)
      have hne0 : ((X.length : Int) == 0) = false := by rw [beq_eq_false_iff_ne]; omega
      have hposf : (0 : Int) < (X.length : Int) := by omega
      have hposl : (0 : Int) < ((nth [] D d).length : Int) := by omega
      have hdd : ((d : Int) + 1 == 0) = false := by rw [beq_eq_false_iff_ne]; omega
      have HD1 := Lib.hid hd
      have hdb : d ≤ 600 := by omega
      clear hXe hx0 hnext hGe hDe hcut hq hhd hlastb hz1 hz2 hDf hDm hcx
      go_wp2_with (first
        | (go_at_call 31; refine (CC.out _).mono ?_; rintro e w3 ⟨rfl, hb3⟩; have hdx3 := (hb3.cell (p := ⟨b, off + k, none⟩) (World.block_lt_of_cell? _ _ hdx)).trans hdx; have hB3 := bto hbr hb3 hbr.size)
        | (go_at_call 22; refine (CU.out _).mono ?_; rintro e w4 ⟨a4, n4, c4, hn4, hnc4, hcm4, rfl, hrow4, hb4, _⟩; rw [HD1.out] at hn4; obtain rfl : n4 = d + 1 := hn4; obtain ⟨b4, o4, rfl, hb4b, hc4⟩ := HAT.out _ _ hrow4; have hB4 := bto hB3 hb4 hB3.size))
      have hBs4 := hB4.size
      go_loopw [11, 6] (fun i g wr' => ∃ j : Nat, j ≤ D.length ∧ i = .int .i64 (j : Int) ∧ g = .string (S (G ++ ((D.take j).filter solid).flatten)) ∧ Below w4.heap.size w4 wr') (fun i _ _ => D.length - (intOf i).toNat)
      case atStart => exact ⟨0, Nat.zero_le _, rfl, by simp, Below.refl _ _⟩
      case round =>
        obtain ⟨j, hj, rfl, rfl, hbr2⟩ := hrel
        by_cases hlt2 : j < D.length
        · obtain ⟨b5, o5, e5, hb5, hc5⟩ := strs_at hrow4 j hlt2
          simp only [Option.some.injEq, Addr.mk.injEq] at e5
          obtain ⟨rfl, rfl, _⟩ := e5
          have hd5 := (hbr2.cell (p := ⟨b4, o4 + j, none⟩) hb5).trans hc5
          have hyc := HDC.out (nth [] D j) (by rw [nth_eq _ _ _ hlt2]; exact List.getElem_mem hlt2)
          have hyl := hyc.len
          have HF := Lib.hid (filter_take solid D j hlt2)
          have hfl2 := filt_len (D := D.take j) solid (fun c hc => HDC.out c (List.mem_of_mem_take hc))
          have hfl3 : ((D.take j).filter solid).length ≤ 600 := Nat.le_trans (List.length_filter_le _ _) (by rw [List.length_take]; omega)
          obtain ⟨y, hy⟩ : ∃ y, y = nth [] D j := ⟨_, rfl⟩
          rw [← hy] at hd5 hyl HF
          have hg5 := index_get y (by omega)
          have hs5 := S_size y
          obtain ⟨z5, hz5⟩ : ∃ z, z = (nth 0 y 0).toNat := ⟨_, rfl⟩
          have hz5i : ((nth 0 y 0).toNat : Int) = (z5 : Int) := by rw [hz5]
          have hsol : solid y = decide (z5 ≠ 32) := by unfold solid b32; rw [← hz5]; simp
          obtain ⟨T, hT⟩ : ∃ T, T = ((D.take j).filter solid).flatten := ⟨_, rfl⟩
          rw [← hT] at HF hfl2 ⊢
          have hsGT := S_size (G ++ T)
          have hGT : (G ++ T).length ≤ 100000000 := by rw [List.length_append]; omega
          have HAP := Lib.hid (S_append (G ++ T) y)
          have hjd : j < d + 1 := by rw [← HD1.out]; exact hlt2
          by_cases h32 : z5 = 32
          · have hzz : ((z5 : Int) == 32) = true := by simp [h32]
            have hzz2 : ((z5 : Int) != 32) = false := by simp [h32]
            have hsf : solid y = false := by rw [hsol]; simp [h32]
            rw [hsf, if_neg (by simp), List.append_nil] at HF
            clear h32 hsol hsf hz5 hy hT hyc hfl2 hfl3
            go_wp2
            go_roundw
            case rel => exact ⟨j + 1, hlt2, by go_num, by rw [HF.out], hbr2⟩
            case measure => simp [intOf]; omega
          · have hzz : ((z5 : Int) == 32) = false := by simp; omega
            have hzz2 : ((z5 : Int) != 32) = true := by simp; omega
            have hst : solid y = true := by rw [hsol]; simp [h32]
            rw [hst, if_pos rfl] at HF
            clear h32 hsol hst hz5 hy hT hyc hfl2 hfl3
            go_wp2
            go_roundw
            case rel => exact ⟨j + 1, hlt2, by go_num, by rw [HF.out, ← List.append_assoc, ← HAP.out], hbr2⟩
            case measure => simp [intOf]; omega
        · obtain rfl : j = D.length := by omega
          have hjd : D.length = d + 1 := HD1.out
          have hjI : ¬ ((D.length : Int) < (d : Int) + 1) := by omega
          rw [List.take_length]
          clear hjd
          go_wp2
          go_roundw
          case rel => exact ⟨k + 1, hlt, by go_num, by rw [HNEXT.out], bto hB4 hbr2 hBs4⟩
          case measure => simp [intOf]; omega
    · obtain rfl : k = DD.length := by omega
      rw [List.take_length]
      have hG : ((DD.flatten).filter solid).flatten.length ≤ 1300000 := by have := HPRE.out DD.length; rw [List.take_length] at this; exact this
      obtain ⟨G, hGe⟩ : ∃ G, G = (DD.flatten.filter solid).flatten := ⟨_, rfl⟩
      rw [← hGe]
      have hGK : G = ((C.filter solid).filter (fun c => decide (colsL c ≤ m))).flatten := by rw [hGe, HKEEP.out]
      have hGK2 : G = (C.filter (fun c => solid c && decide (colsL c ≤ m))).flatten := by
        rw [hGK, List.filter_filter]
        congr 1
        apply List.filter_congr
        intro c _
        exact Bool.and_comm _ _
      have HG := Lib.hid hGK2
      clear hGe hGK hGK2 hG
      go_wp2_with (first
        | (go_at_call 20; refine (C2.out _).mono ?_; rintro e w5 ⟨rfl, hb5⟩; have hB5 := bto hbr hb5 hbr.size)
        | (go_at_call 22; refine (C3.out _).mono ?_; rintro e w6 ⟨a6, n6, c6, hn6, hnc6, hcm6, rfl, hrow6, hb6, _⟩; obtain rfl : n6 = C.length := hn6; have hB6 := bto hB5 hb6 hB5.size))
      have hBs6 := hB6.size
      go_loopw [13, 7] (fun i g wr' => ∃ j : Nat, j ≤ C.length ∧ i = .int .i64 (j : Int) ∧ g = .string (S (((C.take j).filter (fun c => solid c && decide (colsL c ≤ m))).flatten)) ∧ Below w6.heap.size w6 wr') (fun i _ _ => C.length - (intOf i).toNat)
      case atStart => exact ⟨0, Nat.zero_le _, rfl, rfl, Below.refl _ _⟩
      case round =>
        obtain ⟨j, hj, rfl, rfl, hbr2⟩ := hrel
        by_cases hlt2 : j < C.length
        · obtain ⟨b5, o5, rfl, hb5, hc5⟩ := strs_at hrow6 j hlt2
          have hd5 := (hbr2.cell (p := ⟨b5, o5 + j, none⟩) hb5).trans hc5
          have hyc := HCC.out (nth [] C j) (by rw [nth_eq _ _ _ hlt2]; exact List.getElem_mem hlt2)
          have hyl := hyc.len
          have HF := Lib.hid (filter_take (fun c => solid c && decide (colsL c ≤ m)) C j hlt2)
          have hfl2 := filt_len (D := C.take j) (fun c => solid c && decide (colsL c ≤ m)) (fun c hc => HCC.out c (List.mem_of_mem_take hc))
          have hfl3 : ((C.take j).filter (fun c => solid c && decide (colsL c ≤ m))).length ≤ 19200 := Nat.le_trans (List.length_filter_le _ _) (by rw [List.length_take]; omega)
          obtain ⟨y, hy⟩ : ∃ y, y = nth [] C j := ⟨_, rfl⟩
          rw [← hy] at hd5 hyl HF hyc
          have CY := (fun W => refWidth_any y (by omega) W)
          rw [widthL_clu hyc] at CY
          have hg5 := index_get y (by omega)
          have hs5 := S_size y
          obtain ⟨z5, hz5⟩ : ∃ z, z = (nth 0 y 0).toNat := ⟨_, rfl⟩
          have hz5i : ((nth 0 y 0).toNat : Int) = (z5 : Int) := by rw [hz5]
          have hsol : solid y = decide (z5 ≠ 32) := by unfold solid b32; rw [← hz5]; simp
          obtain ⟨v, hv⟩ : ∃ v, v = colsL y := ⟨_, rfl⟩
          rw [← hv] at CY HF
          have CY := Lib.hid CY
          obtain ⟨T, hT⟩ : ∃ T, T = ((C.take j).filter (fun c => solid c && decide (colsL c ≤ m))).flatten := ⟨_, rfl⟩
          rw [← hT] at HF hfl2 ⊢
          have hsT := S_size T
          have hTl : T.length ≤ 100000000 := by omega
          have HAP := Lib.hid (S_append T y)
          by_cases h32 : z5 = 32
          · have hzz : ((z5 : Int) == 32) = true := by simp [h32]
            have hzz2 : ((z5 : Int) != 32) = false := by simp [h32]
            have hsf : solid y = false := by rw [hsol]; simp [h32]
            rw [hsf, Bool.false_and, if_neg (by simp), List.append_nil] at HF
            clear h32 hsol hsf hz5 hy hT hyc hfl2 hfl3 hv
            go_wp2
            go_roundw
            case rel => exact ⟨j + 1, hlt2, by go_num, by rw [HF.out], hbr2⟩
            case measure => simp [intOf]; omega
          · have hzz : ((z5 : Int) == 32) = false := by simp; omega
            have hzz2 : ((z5 : Int) != 32) = true := by simp; omega
            have hst : solid y = true := by rw [hsol]; simp [h32]
            rw [hst, Bool.true_and] at HF
            by_cases hvm : v ≤ m
            · rw [if_pos (by simpa using hvm)] at HF
              clear h32 hsol hst hz5 hy hT hyc hfl2 hfl3 hv
              go_wp2_with (go_at_call 29; refine (CY.out _).mono ?_; rintro e w7 ⟨rfl, hb7⟩; have hB7 := bto hbr2 hb7 hbr2.size; have hd7 := (hb7.cell (p := ⟨b5, o5 + j, none⟩) (World.block_lt_of_cell? _ _ hd5)).trans hd5)
              go_roundw
              case rel => exact ⟨j + 1, hlt2, by go_num, by rw [HF.out, ← HAP.out], hB7⟩
              case measure => simp [intOf]; omega
            · rw [if_neg (by simpa using hvm), List.append_nil] at HF
              have hvm' : m < v := by omega
              clear h32 hsol hst hz5 hy hT hyc hfl2 hfl3 hv hvm
              go_wp2_with (go_at_call 29; refine (CY.out _).mono ?_; rintro e w7 ⟨rfl, hb7⟩; have hB7 := bto hbr2 hb7 hbr2.size)
              go_roundw
              case rel => exact ⟨j + 1, hlt2, by go_num, by rw [HF.out], hB7⟩
              case measure => simp [intOf]; omega
        · obtain rfl : j = C.length := by omega
          rw [List.take_length, ← HG.out]
          go_wp2_with (go_at_call 60; refine (awake17_any _).mono ?_; rintro e w8 ⟨rfl, hb8⟩)
          go_ret
          exact ⟨rfl, bnext hb2 (bto (bto hB6 hbr2 hBs6) hb8 (bto hB6 hbr2 hBs6).size)⟩
end Go.Proofs.Ytmdpmjabjijjiaa
