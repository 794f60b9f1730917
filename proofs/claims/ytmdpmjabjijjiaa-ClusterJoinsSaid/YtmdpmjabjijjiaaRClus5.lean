/- The laws ClusterFits and ClusterJoins. -/
import Derived.OpenShut
import Derived.Test.YtmdpmjabjijjiaaRClus4
namespace Go.Proofs.Ytmdpmjabjijjiaa
open Go.RowKit Go.Shelf Go.Maps
theorem join_clu {l : List UInt8} {r : Int} (h : (cjoinL l r).2 = true) : isCl (cjoinL l r).1 = true := by
  unfold cjoinL at h ⊢
  split
  · rename_i hc
    rw [Bool.and_eq_true, Bool.and_eq_true, decide_eq_true_eq] at hc
    obtain ⟨hj, hi, hl⟩ := hc
    have hR : isR r = true := by unfold joinB at hj; rw [Bool.and_eq_true, Bool.and_eq_true] at hj; exact hj.2.1
    have h0 : 0 ≤ r := by unfold isR at hR; have := of_decide_eq_true hR; omega
    obtain ⟨n, rfl⟩ := Int.eq_ofNat_of_zero_le h0
    have hb : bytesR (n : Int) = bytesN n := by unfold bytesR runeN; rw [if_pos hR]; simp
    rw [hb] at hl ⊢
    have hcut : cutL l = [l] := of_decide_eq_true hi
    obtain ⟨g, hg, he⟩ := isCl_clu hi
    refine decide_eq_true ?_
    have hrs : runesL (l ++ bytesN n) = g ++ [n] := by
      rw [he, ← encL_one, ← encL_append]
      exact runes_enc0 _ (by
        intro x hx
        rcases List.mem_append.1 hx with hx | hx
        · exact hg.rune x hx
        · rw [List.mem_singleton.1 hx]; exact hR)
    unfold cutL
    rw [hrs, cutG_snoc, hg.one]
    have := stepG_join [] g n (joinB_cols hj) hj (by rw [← he]; exact hl)
    rw [List.nil_append] at this
    rw [this]
    simp [encL_append, encL_one, he]
  · rename_i hc
    rw [if_neg hc] at h
    cases h
set_option maxRecDepth 100000 in
set_option maxHeartbeats 4000000 in
theorem clusterJoins_law (s : ByteArray) (r : Int) (w : World) (hsz : s.size ≤ maxLen) (_ : (Lit.int .i32 r).wf = true) : Calls Try.prog 5 #[.string s, .int .i32 r] w fun e w' => e = .returned (.bool true) ∧ Below w.heap.size w w' := by
  obtain ⟨l0, rfl⟩ := S_back s
  rw [S_size] at hsz
  have C0 := Lib.hid (fun W => cut3_any l0 W hsz)
  obtain ⟨l, hl⟩ : ∃ l, l = l0.take 600 := ⟨_, rfl⟩
  rw [← hl] at C0
  have hll : l.length ≤ 600 := by rw [hl, List.length_take]; omega
  clear hl
  have C1 := Lib.hid (fun W => cjoin_any l r (by omega) W)
  have C2 := Lib.hid (fun W => refJoin_any l r (by omega) W)
  have hj := @join_clu l r
  have hb := bytesN_len (runeN r)
  have hal : (cjoinL l r).1.length ≤ 100000 := by
    unfold cjoinL
    split
    · show (l ++ bytesR r).length ≤ _
      rw [List.length_append]; unfold bytesR; omega
    · show l.length ≤ _; omega
  obtain ⟨A, hA⟩ : ∃ A, A = (cjoinL l r).1 := ⟨_, rfl⟩
  obtain ⟨ok, hok⟩ : ∃ ok, ok = (cjoinL l r).2 := ⟨_, rfl⟩
  rw [← hA] at C1 C2 hj hal
  rw [← hok] at C1 C2 hj
  have C3 := Lib.hid (fun W => is_any' A hal W)
  have hAA : ((S A).toList == (S A).toList) = true := by rw [S_eq]; simp
  clear hA hok hb
  cases ok with
  | true =>
    rw [hj rfl] at C3
    clear hj
    go_enter Try.func5, Try.ntmps5
    go_wp2_with (first
      | (go_at_call 15; refine (C0.out _).mono ?_; rintro e w0 ⟨rfl, rfl⟩)
      | (go_at_call 32; refine (C1.out _).mono ?_; rintro e w1 ⟨rfl, hb1⟩)
      | (go_at_call 33; refine (C2.out _).mono ?_; rintro e w2 ⟨rfl, hb2⟩)
      | (go_at_call 26; refine (C3.out _).mono ?_; rintro e w3 ⟨rfl, hb3⟩)
      | (go_at_call 21; refine (awake03_any _).mono ?_; rintro e w7 ⟨rfl, hb7⟩))
    go_ret
    exact ⟨rfl, bnext (bnext (bnext hb1 hb2) hb3) hb7⟩
  | false =>
    clear hj
    go_enter Try.func5, Try.ntmps5
    go_wp2_with (first
      | (go_at_call 15; refine (C0.out _).mono ?_; rintro e w0 ⟨rfl, rfl⟩)
      | (go_at_call 32; refine (C1.out _).mono ?_; rintro e w1 ⟨rfl, hb1⟩)
      | (go_at_call 33; refine (C2.out _).mono ?_; rintro e w2 ⟨rfl, hb2⟩)
      | (go_at_call 26; refine (C3.out _).mono ?_; rintro e w3 ⟨rfl, hb3⟩)
      | (go_at_call 21; refine (awake03_any _).mono ?_; rintro e w7 ⟨rfl, hb7⟩))
    go_ret
    exact ⟨rfl, bnext (bnext hb1 hb2) hb7⟩
/-- What Fit says. -/
theorem fit_bd : ∀ (L : List (List UInt8)) (n : Int), sumC (L.take (fitK L n)) ≤ max 0 n
  | [], n => by simp [fitK, sumC]; omega
  | c :: L, n => by
    unfold fitK
    split
    · simp [sumC]; omega
    · rename_i h
      have := fit_bd L (n - colsL c)
      have hc := colsL_bd c
      rw [List.take_succ_cons, sumC_cons]
      omega
theorem fit_next : ∀ (L : List (List UInt8)) (n : Int), fitK L n < L.length → n - sumC (L.take (fitK L n)) < colsL (nth [] L (fitK L n))
  | [], n, h => by simp [fitK] at h
  | c :: L, n, h => by
    unfold fitK at h ⊢
    split
    · rename_i hc
      simp only [List.take_zero, nth, List.getD_cons_zero, sumC, List.foldr_nil, Int.sub_zero]
      exact hc
    · rename_i hc
      rw [if_neg hc] at h
      have := fit_next L (n - colsL c) (by simpa using h)
      rw [List.take_succ_cons, sumC_cons]
      have e : nth [] (c :: L) (fitK L (n - colsL c) + 1) = nth [] L (fitK L (n - colsL c)) := rfl
      rw [e]
      omega
set_option maxRecDepth 100000 in
set_option maxHeartbeats 4000000 in
theorem clusterFits_law (s : ByteArray) (most : Int) (w : World) (hsz : s.size ≤ maxLen) (hmw : (Lit.int .i64 most).wf = true) : Calls Try.prog 6 #[.string s, .int .i64 most] w fun e w' => e = .returned (.bool true) ∧ Below w.heap.size w w' := by
  have hm : -9223372036854775808 ≤ most ∧ most ≤ 9223372036854775807 := bounds_i64 hmw
  obtain ⟨l0, rfl⟩ := S_back s
  rw [S_size] at hsz
  have C0 := Lib.hid (fun W => cut3_any l0 W hsz)
  obtain ⟨l, hl⟩ : ∃ l, l = l0.take 600 := ⟨_, rfl⟩
  rw [← hl] at C0
  have hll : l.length ≤ 600 := by rw [hl, List.length_take]; omega
  clear hl hmw
  have C1 := Lib.hid (fun W => fitc_any l most (by omega) hm W)
  have C2 := Lib.hid (fun W => refFit_any l most (by omega) hm W)
  have C3 := Lib.hid (fun W => cut_any l (by omega) W)
  have hal := take_len64 l (fitK (cutL l) most)
  have hcut := cut_take l (fitK (cutL l) most)
  have hkl := fitK_le (cutL l) most
  have hbd := fit_bd (cutL l) most
  have hnx := fit_next (cutL l) most
  have h0s := (sumC_take_bd (cutL l) (fitK (cutL l) most)).1
  have h1s := (sumC_take_bd (cutL l) (fitK (cutL l) most)).2
  have hzl := cutL_len l
  have hwd : fitK (cutL l) most < (cutL l).length → widthL (nth [] (cutL l) (fitK (cutL l) most)) = colsL (nth [] (cutL l) (fitK (cutL l) most)) ∧ (nth [] (cutL l) (fitK (cutL l) most)).length ≤ 64 := fun h => ⟨widthL_clu (nth_clu h), (nth_clu h).len.2⟩
  obtain ⟨T, hT⟩ : ∃ T, T = fitT l most := ⟨_, rfl⟩
  obtain ⟨N, hN⟩ : ∃ N, N = fitN l most := ⟨_, rfl⟩
  rw [← hT, ← hN] at C1 C2
  have hT' : T = ((cutL l).take (fitK (cutL l) most)).flatten := hT
  have hN' : N = sumC ((cutL l).take (fitK (cutL l) most)) := hN
  rw [← hT'] at hal hcut
  rw [← hN'] at hbd hnx h0s h1s
  have hTl : T.length ≤ 100000 := by omega
  have C4 := fun W => columns_any T hTl W
  have C5 := fun W => count_any T hTl W
  rw [hcut, ← hN'] at C4
  rw [hcut, List.length_take, Nat.min_eq_left hkl] at C5
  have C4 := Lib.hid C4
  obtain ⟨K, hK⟩ : ∃ K, K = fitK (cutL l) most := ⟨_, rfl⟩
  obtain ⟨L, hL⟩ : ∃ L, L = cutL l := ⟨_, rfl⟩
  rw [← hL] at C3 hkl hnx hwd hzl h1s hK
  rw [← hL, ← hK] at C5
  rw [← hK] at hkl hnx hwd
  have C5 := Lib.hid C5
  have hTT : ((S T).toList == (S T).toList) = true := by rw [S_eq]; simp
  have hbm : ¬ max 0 most < N := by omega
  have hNb : N ≤ 2000 := by omega
  clear hal hcut hT hN hT' hN' hK hL
  have HNX := Lib.hid hnx
  have HWD := Lib.hid hwd
  clear hnx hwd
  by_cases hKL : K = L.length
  · have HKL := Lib.hid hKL
    clear hKL
    go_enter Try.func6, Try.ntmps6
    go_wp2_with (first
      | (go_at_call 15; refine (C0.out _).mono ?_; rintro e w0 ⟨rfl, rfl⟩)
      | (go_at_call 34; refine (C1.out _).mono ?_; rintro e w1 ⟨rfl, hb1⟩)
      | (go_at_call 35; refine (C2.out _).mono ?_; rintro e w2 ⟨rfl, hb2⟩)
      | (go_at_call 30; refine (C4.out _).mono ?_; rintro e w3 ⟨rfl, hb3⟩)
      | (go_at_call 17; refine (C3.out _).mono ?_; rintro e w4 ⟨a, n, c, hn, hnc, hcm, rfl, hrow, hb4, _⟩; rw [← HKL.out] at hn; have hnK : ((K : Int) == (n : Int)) = true := by rw [hn]; simp
         have HN := Lib.hid hn
         clear hn)
      | (go_at_call 25; refine (C5.out _).mono ?_; rintro e w5 ⟨rfl, hb5⟩)
      | (go_at_call 21; refine (awake03_any _).mono ?_; rintro e w7 ⟨rfl, hb7⟩))
    go_ret
    exact ⟨rfl, bnext (bnext (bnext (bnext (bnext hb1 hb2) hb3) hb4) hb5) hb7⟩
  · have hKlt : K < L.length := by omega
    obtain ⟨hw1, hw2⟩ := HWD.out hKlt
    have hq := HNX.out hKlt
    obtain ⟨C, hC⟩ : ∃ C, C = nth [] L K := ⟨_, rfl⟩
    rw [← hC] at hw1 hw2 hq
    have C6 := Lib.hid (fun W => cwidth_any C (by omega) W)
    rw [hw1] at C6
    obtain ⟨q, hqe⟩ : ∃ q, q = colsL C := ⟨_, rfl⟩
    rw [← hqe] at C6 hq
    have HAT := Lib.hid (fun (w4 : World) (a : Option Addr) (h : RowAt w4.heap.size w4 a (strV L)) => (by rw [hC]; exact strs_at h K hKlt : ∃ b off, a = some ⟨b, off, none⟩ ∧ b < w4.heap.size ∧ w4.cell? ⟨b, off + K, none⟩ = some (.string (S C))))
    have HKLT := Lib.hid hKlt
    clear hw1 hw2 hC hqe hKlt
    go_enter Try.func6, Try.ntmps6
    go_wp2_with (first
      | (go_at_call 15; refine (C0.out _).mono ?_; rintro e w0 ⟨rfl, rfl⟩)
      | (go_at_call 34; refine (C1.out _).mono ?_; rintro e w1 ⟨rfl, hb1⟩)
      | (go_at_call 35; refine (C2.out _).mono ?_; rintro e w2 ⟨rfl, hb2⟩)
      | (go_at_call 30; refine (C4.out _).mono ?_; rintro e w3 ⟨rfl, hb3⟩)
      | (go_at_call 17; refine (C3.out _).mono ?_; rintro e w4 ⟨a, n, c, hn, hnc, hcm, rfl, hrow, hb4, _⟩; obtain ⟨b0, o0, rfl, hb0, hc0⟩ := HAT.out _ _ hrow; have hKn : K < n := by rw [hn]; exact HKLT.out
         have hnK : ((K : Int) == (n : Int)) = false := by simp; omega
         have HN := Lib.hid hn
         clear hn)
      | (go_at_call 25; refine (C5.out _).mono ?_; rintro e w5 ⟨rfl, hb5⟩; have hc5 := (hb5.cell (p := ⟨b0, o0 + K, none⟩) hb0).trans hc0)
      | (go_at_call 28; refine (C6.out _).mono ?_; rintro e w6 ⟨rfl, hb6⟩)
      | (go_at_call 21; refine (awake03_any _).mono ?_; rintro e w7 ⟨rfl, hb7⟩))
    go_ret
    exact ⟨rfl, bnext (bnext (bnext (bnext (bnext (bnext hb1 hb2) hb3) hb4) hb5) hb6) hb7⟩
end Go.Proofs.Ytmdpmjabjijjiaa
