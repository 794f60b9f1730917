/- The law's cut and example of layer 3; the law ClusterCleans, ClusterFits, ClusterJoins. -/
import Derived.Test.YtmdpmjabjijjiaaRClus3
namespace Go.Proofs.Ytmdpmjabjijjiaa
set_option linter.unusedVariables false
set_option linter.unusedSimpArgs false
open Go.RowKit Go.Shelf Go.Maps
theorem S_extract (l : List UInt8) (a b : Nat) : (S l).extract a b = S ((l.drop a).take (b - a)) := by
  unfold S
  apply ByteArray.ext
  rw [ByteArray.data_extract]
  apply Array.ext'
  simp [List.extract]
set_option maxRecDepth 100000 in
theorem cut3_any (l : List UInt8) (w : World) (hl : l.length ≤ maxLen) : Calls Try.prog 15 #[.string (S l)] w fun e w' => e = .returned (.string (S (l.take 600))) ∧ w = w' := by
  unfold maxLen at hl
  have hs := S_size l
  have hx : (S l).extract 0 (min (l.length : Int) 600).toNat = S (l.take 600) := by
    rw [S_extract, List.drop_zero, Nat.sub_zero]
    congr 1
    by_cases h : l.length ≤ 600
    · rw [List.take_of_length_le (by omega), List.take_of_length_le h]
    · rw [show (min (l.length : Int) 600).toNat = 600 by omega]
  have HX := Lib.hid hx
  clear hx
  go_enter Try.func15, Try.ntmps15
  go_wp2
  go_ret
  exact ⟨ret_str HX.out, rfl⟩
set_option maxRecDepth 100000 in
set_option maxHeartbeats 2000000 in
theorem sameAll_any (A B : List (List UInt8)) (a b : Option Addr) (n c m d : Nat) (w : World) (hn : (n == A.length) = true) (hm : (m == B.length) = true) (hl : n ≤ 100000000) (hl2 : m ≤ 100000000) (ha : RowAt w.heap.size w a (strV A)) (hb : RowAt w.heap.size w b (strV B)) :
    Calls Try.prog 24 #[.slice a n c, .slice b m d] w fun e w' => e = .returned (.bool (decide (A = B))) ∧ Below w.heap.size w w' := by
  obtain rfl : n = A.length := by simpa using hn
  obtain rfl : m = B.length := by simpa using hm
  clear hn hm
  obtain ⟨n, hn⟩ : ∃ n, n = A.length := ⟨_, rfl⟩
  obtain ⟨m, hm⟩ : ∃ m, m = B.length := ⟨_, rfl⟩
  obtain ⟨z, hz⟩ : ∃ z, z = decide (A = B) := ⟨_, rfl⟩
  rw [← hn, ← hm, ← hz]
  rw [← hn] at hl
  rw [← hm] at hl2
  by_cases hnm : n = m
  · subst hnm
    have HZ := Lib.hid hz
    have HN := Lib.hid hn
    have HM := Lib.hid hm
    clear hn hm hz
    go_enter Try.func24, Try.ntmps24
    go_wp2
    go_loopw [5] (fun i wr => ∃ k : Nat, k ≤ n ∧ i = .int .i64 (k : Int) ∧ Hid (∀ j, j < k → nth [] A j = nth [] B j) ∧ Below w.heap.size w wr) (fun i _ => n - (intOf i).toNat)
    case atStart => exact ⟨0, Nat.zero_le _, rfl, Lib.hid (fun j hj => by omega), Below.refl _ _⟩
    case round =>
      obtain ⟨k, hk, rfl, hall, hbr⟩ := hrel
      by_cases hlt : k < n
      · have hkA : k < A.length := by rw [← HN.out]; exact hlt
        have hkB : k < B.length := by rw [← HM.out]; exact hlt
        obtain ⟨b1, o1, rfl, hb1, hc1⟩ := strs_at ha k hkA
        obtain ⟨b2, o2, rfl, hb2, hc2⟩ := strs_at hb k hkB
        have hd1 := (hbr.cell (p := ⟨b1, o1 + k, none⟩) hb1).trans hc1
        have hd2 := (hbr.cell (p := ⟨b2, o2 + k, none⟩) hb2).trans hc2
        obtain ⟨x, hx⟩ : ∃ x, x = nth [] A k := ⟨_, rfl⟩
        obtain ⟨y, hy⟩ : ∃ y, y = nth [] B k := ⟨_, rfl⟩
        rw [← hx] at hd1
        rw [← hy] at hd2
        have HX := Lib.hid hx
        have HY := Lib.hid hy
        have HKA := Lib.hid (And.intro hkA hkB)
        clear hx hy hkA hkB hc1 hc2
        by_cases hxy : x = y
        · have hS := S_eq x y
          rw [decide_eq_true hxy] at hS
          have hS2 : ((S x).toList != (S y).toList) = false := by simp [bne, hS]
          have HXY := Lib.hid hxy
          clear hxy
          go_wp2
          go_quiet (fail)
          go_wp2
          go_roundw
          case rel => exact ⟨k + 1, by omega, by go_num, Lib.hid (fun j hj => by
            by_cases e : j = k
            · subst e; rw [← HX.out, ← HY.out, HXY.out]
            · exact hall.out j (by omega)), below_drewN hbr nq⟩
          case measure => simp [intOf]; omega
        · have hS := S_eq x y
          rw [decide_eq_false hxy] at hS
          have hS2 : ((S x).toList != (S y).toList) = true := by simp [bne, hS]
          have hz0 : z = false := by
            rw [HZ.out]
            refine decide_eq_false (fun e => hxy ?_)
            rw [HX.out, HY.out, e]
          subst hz0
          clear hxy
          go_wp2
          go_quiet (fail)
          go_wp2
          go_ret
          exact ⟨rfl, below_drewN hbr nq⟩
      · obtain rfl : k = n := by omega
        have hz1 : z = true := by
          rw [HZ.out]
          refine decide_eq_true (List.ext_getElem (by rw [← HN.out, ← HM.out]) (fun j h1 h2 => ?_))
          have := hall.out j (by rw [HN.out]; exact h1)
          rwa [nth_eq _ _ _ h1, nth_eq _ _ _ h2] at this
        subst hz1
        go_wp2
        go_ret
        exact ⟨rfl, hbr⟩
  · have hz0 : z = false := by
      rw [hz]
      refine decide_eq_false (fun e => hnm (by rw [hn, hm, e]))
    subst hz0
    have hne : ((n : Int) != (m : Int)) = true := by simp; omega
    clear hz hn hm hnm
    go_enter Try.func24, Try.ntmps24
    go_wp2
    go_ret
    exact ⟨rfl, Below.refl _ _⟩
/-! ### the example -/
theorem aw_cut : cutL [204, 129, 97, 204, 129, 7] = [[97, 204, 129]] := by decide +kernel
theorem aw_width : widthL [97, 204, 129] = 1 := by decide +kernel
theorem aw_cols : sumC (cutL [97, 228, 184, 173]) = 3 := by decide +kernel
theorem aw_flat : flatL [97, 9, 98] = [97, 32, 98] := by decide +kernel
theorem aw_is : isCl [97] = true := by decide +kernel
set_option maxRecDepth 100000 in
set_option maxHeartbeats 2000000 in
theorem awake03_any (w : World) : Calls Try.prog 21 #[] w fun e w' => e = .returned (.bool true) ∧ Below w.heap.size w w' := by
  have C1 : ∀ W, Calls Try.prog 17 #[.string ⟨#[204, 129, 97, 204, 129, 7]⟩] W (StrsPost [[97, 204, 129]] W) := fun W => aw_cut ▸ cut_any [204, 129, 97, 204, 129, 7] (by decide) W
  have C2 : ∀ W, Calls Try.prog 28 #[.string (S [97, 204, 129])] W fun e w' => e = .returned (.int .i64 1) ∧ Below W.heap.size W w' := fun W => aw_width ▸ cwidth_any [97, 204, 129] (by decide) W
  have C3 : ∀ W, Calls Try.prog 30 #[.string ⟨#[97, 228, 184, 173]⟩] W fun e w' => e = .returned (.int .i64 3) ∧ Below W.heap.size W w' := fun W => aw_cols ▸ columns_any [97, 228, 184, 173] (by decide) W
  have C4 : ∀ W, Calls Try.prog 19 #[.string ⟨#[97, 9, 98]⟩] W fun e w' => e = .returned (.string (S [97, 32, 98])) ∧ Below W.heap.size W w' := fun W => aw_flat ▸ flat_any [97, 9, 98] (by decide) W
  have C5 : ∀ W, Calls Try.prog 26 #[.string ⟨#[97]⟩] W fun e w' => e = .returned (.bool true) ∧ Below W.heap.size W w' := fun W => aw_is ▸ is_any' [97] (by decide) W
  have C1 := Lib.hid C1
  have C2 := Lib.hid C2
  have C3 := Lib.hid C3
  have C4 := Lib.hid C4
  have C5 := Lib.hid C5
  have q1 : ((S [97, 204, 129]).toList == [97, 204, 129]) = true := by rw [S_toList]; rfl
  have q2 : ((S [97, 32, 98]).toList == [97, 32, 98]) = true := by rw [S_toList]; rfl
  go_enter Try.func21, Try.ntmps21
  go_wp2_with (first
    | (go_at_call 17; refine (C1.out _).mono ?_; rintro e w1 ⟨a, n, c, hn, hnc, hcm, rfl, hrow, hb1, _⟩; obtain rfl : n = 1 := hn; obtain ⟨b0, o0, rfl, hb0, hc0⟩ := hrow 0 (by simp [strV]); rw [Nat.add_zero] at hc0; replace hc0 : w1.cell? ⟨b0, o0, none⟩ = some (.string (S [97, 204, 129])) := hc0)
    | (go_at_call 28; refine (C2.out _).mono ?_; rintro e w2 ⟨rfl, hb2⟩)
    | (go_at_call 30; refine (C3.out _).mono ?_; rintro e w3 ⟨rfl, hb3⟩)
    | (go_at_call 19; refine (C4.out _).mono ?_; rintro e w4 ⟨rfl, hb4⟩)
    | (go_at_call 26; refine (C5.out _).mono ?_; rintro e w5 ⟨rfl, hb5⟩))
  go_ret
  exact ⟨rfl, bnext (bnext (bnext (bnext hb1 hb2) hb3) hb4) hb5⟩
/-! ### the laws -/
set_option maxRecDepth 100000 in
set_option maxHeartbeats 4000000 in
theorem clusterCleans_law (s : ByteArray) (w : World) (hsz : s.size ≤ maxLen) : Calls Try.prog 3 #[.string s] w fun e w' => e = .returned (.bool true) ∧ Below w.heap.size w w' := by
  obtain ⟨l0, rfl⟩ := S_back s
  rw [S_size] at hsz
  have C0 := Lib.hid (fun W => cut3_any l0 W hsz)
  obtain ⟨l, hl⟩ : ∃ l, l = l0.take 600 := ⟨_, rfl⟩
  rw [← hl] at C0
  have hll : l.length ≤ 600 := by rw [hl, List.length_take]; omega
  clear hl
  have hcl := clean_len l
  have C1 := Lib.hid (fun W => clean_any l (by omega) W)
  have C2 := Lib.hid (fun W => cut_any l (by omega) W)
  have C3 := Lib.hid (fun W => refClean_any l (by omega) W)
  have C4 := Lib.hid (fun W => flat_any l (by omega) W)
  have C5 := Lib.hid (fun W => refFlat_any l (by omega) W)
  have C6 := Lib.hid (fun W => clean_any (cleanL l) (by omega) W)
  rw [clean_clean] at C6
  have HT := Lib.hid (take_len64 l)
  have HF := Lib.hid (take_flat' (cutL l))
  have HC := Lib.hid (fun k h => (@nth_clu l k h).len)
  have hLl := cutL_len l
  obtain ⟨L, hL⟩ : ∃ L, L = cutL l := ⟨_, rfl⟩
  have HE := Lib.hid (show (L.take L.length).flatten = cleanL l by rw [List.take_length, hL]; rfl)
  rw [← hL] at C2 HT HF HC hLl
  obtain ⟨D, hD⟩ : ∃ D, D = cleanL l := ⟨_, rfl⟩
  obtain ⟨E, hE⟩ : ∃ E, E = flatL l := ⟨_, rfl⟩
  rw [← hD] at C1 C3 C6 HE
  rw [← hE] at C4 C5
  have hDD : ((S D).toList == (S D).toList) = true := by rw [S_eq]; simp
  have hEE : ((S E).toList == (S E).toList) = true := by rw [S_eq]; simp
  clear hL hD hE hcl
  go_enter Try.func3, Try.ntmps3
  go_wp2_with (first
    | (go_at_call 15; refine (C0.out _).mono ?_; rintro e w0 ⟨rfl, rfl⟩)
    | (go_at_call 16; refine (C1.out _).mono ?_; rintro e w1 ⟨rfl, hb1⟩)
    | (go_at_call 17; refine (C2.out _).mono ?_; rintro e w2 ⟨a, n, c, hn, hnc, hcm, rfl, hrow, hb2, _⟩; have HN := Lib.hid hn; clear hn))
  have hnl : n ≤ 1100000 := by rw [HN.out]; omega
  have hB2 := bnext hb1 hb2
  go_loop [14, 4] (fun i s => ∃ k : Nat, k ≤ n ∧ i = .int .i64 (k : Int) ∧ s = .string (S (L.take k).flatten)) (fun i _ => n - (intOf i).toNat)
  case atStart => exact ⟨0, Nat.zero_le _, rfl, rfl⟩
  case round =>
    obtain ⟨k, hk, rfl, rfl⟩ := hrel
    by_cases hlt : k < n
    · have hkL : k < L.length := by rw [← HN.out]; exact hlt
      obtain ⟨b0, o0, rfl, hb0, hck⟩ := strs_at hrow k hkL
      have hf := HF.out k hkL
      have hl1 := HT.out k
      have hl2 := HC.out k hkL
      obtain ⟨A, hA⟩ : ∃ A, A = (L.take k).flatten := ⟨_, rfl⟩
      obtain ⟨C, hC⟩ : ∃ C, C = nth [] L k := ⟨_, rfl⟩
      rw [← hC] at hck hf hl2
      rw [← hA] at hf hl1 ⊢
      have hab : S A ++ S C = S (A ++ C) := S_append _ _
      have hs1 := S_size A
      have hs2 := S_size C
      have HFF := Lib.hid hf
      clear hf hA hC hkL
      go_wp2
      go_round
      case rel => exact ⟨k + 1, by omega, by go_num, by rw [HFF.out]⟩
      case measure => simp [intOf]; omega
    · obtain rfl : k = n := by omega
      have hE := HE.out
      rw [← HN.out] at hE
      rw [hE]
      clear hE
      go_wp2_with (first
        | (go_at_call 18; refine (C3.out _).mono ?_; rintro e w3 ⟨rfl, hb3⟩)
        | (go_at_call 19; refine (C4.out _).mono ?_; rintro e w4 ⟨rfl, hb4⟩)
        | (go_at_call 20; refine (C5.out _).mono ?_; rintro e w5 ⟨rfl, hb5⟩)
        | (go_at_call 16; refine (C6.out _).mono ?_; rintro e w6 ⟨rfl, hb6⟩)
        | (go_at_call 21; refine (awake03_any _).mono ?_; rintro e w7 ⟨rfl, hb7⟩))
      go_ret
      exact ⟨rfl, bnext (bnext (bnext (bnext (bnext hB2 hb3) hb4) hb5) hb6) hb7⟩
end Go.Proofs.Ytmdpmjabjijjiaa
