/- The law ClusterCuts. -/
import Derived.OpenShut
import Derived.Test.YtmdpmjabjijjiaaRClus6
namespace Go.Proofs.Ytmdpmjabjijjiaa
set_option linter.unusedVariables false
set_option linter.unusedSimpArgs false
open Go.RowKit Go.Shelf Go.Maps
theorem row_take {B : Nat} {w : World} {a : Option Addr} {L : List (List UInt8)} (h : RowAt B w a (strV L)) (k : Nat) : RowAt B w a (strV (L.take k)) := fun j hj => by
  have hs : strV (L.take k) = (strV L).take k := by unfold strV; rw [List.map_take]
  rw [hs] at hj ⊢
  rw [List.length_take] at hj
  obtain ⟨b, off, e, hb, hc⟩ := h j (by omega)
  refine ⟨b, off, e, hb, ?_⟩
  rw [hc]
  have : (strV L)[j]? = ((strV L).take k)[j]? := by rw [List.getElem?_take_of_lt (by omega)]
  unfold nth
  rw [List.getD_eq_getElem?_getD, List.getD_eq_getElem?_getD, this]
theorem row_next {w w' : World} {a : Option Addr} {vs : List Value} (h : RowAt w.heap.size w a vs) (hb : Below w.heap.size w w') : RowAt w'.heap.size w' a vs := (h.below hb).more hb.size
theorem sameAll_eq (A : List (List UInt8)) (a b : Option Addr) (n c m d : Nat) (w : World) (hn : (n == A.length) = true) (hm : (m == A.length) = true) (hl : A.length ≤ 100000000) (ha : RowAt w.heap.size w a (strV A)) (hb : RowAt w.heap.size w b (strV A)) :
    Calls Try.prog 24 #[.slice a n c, .slice b m d] w fun e w' => e = .returned (.bool true) ∧ Below w.heap.size w w' := by
  have h1 : n = A.length := by simpa using hn
  have h2 : m = A.length := by simpa using hm
  have := sameAll_any A A a b n c m d w hn hm (by omega) (by omega) ha hb
  simpa using this
set_option maxRecDepth 100000 in
set_option maxHeartbeats 8000000 in
theorem clusterCuts_law (s : ByteArray) (stop : Int) (w : World) (hsz : s.size ≤ maxLen) (hst : (Lit.int .u8 stop).wf = true) : Calls Try.prog 4 #[.string s, .int .u8 stop] w fun e w' => e = .returned (.bool true) ∧ Below w.heap.size w w' := by
  have hm : 0 ≤ stop ∧ stop ≤ 255 := bounds_u8 hst
  obtain ⟨st, rfl⟩ := Int.eq_ofNat_of_zero_le hm.1
  obtain ⟨l0, rfl⟩ := S_back s
  rw [S_size] at hsz
  have C0 := Lib.hid (fun W => cut3_any l0 W hsz)
  obtain ⟨l, hl⟩ : ∃ l, l = l0.take 600 := ⟨_, rfl⟩
  rw [← hl] at C0
  have hll : l.length ≤ 600 := by rw [hl, List.length_take]; omega
  have hls := S_size l
  have hzl := cutL_len l
  clear hl hst
  have C1 := Lib.hid (fun W => refCut_any l (by omega) W)
  have T2 := (fun W => told3_any l (by omega) (l.length + 1) (by omega) W)
  rw [List.take_of_length_le (by omega : (cutL l).length ≤ l.length + 1)] at T2
  have T2 := Lib.hid (fun W => (by simpa using T2 W : Calls Try.prog 23 #[.string (S l), .int .i64 ((l.length : Int) + 1)] W (Told3 (cutL l) W)))
  obtain ⟨k, hk⟩ : ∃ k, k = min (cutL l).length st := ⟨_, rfl⟩
  have hkb : k ≤ 255 := by omega
  have T1 := Lib.hid (fun W => told3_any l (by omega) k (by omega) W)
  have C3 := Lib.hid (fun W => cut_any l (by omega) W)
  have C4 := Lib.hid (fun W => count_any l (by omega) W)
  have C5 := Lib.hid (fun W => is_any' l (by omega) W)
  have C6 := Lib.hid (fun W => refIs3_any l (by omega) W)
  have C7 := Lib.hid (fun W => cwidth_any l (by omega) W)
  have C8 := Lib.hid (fun W => refWidth_any l (by omega) W)
  have C9 := Lib.hid (fun W => columns_any l (by omega) W)
  have CA := Lib.hid (fun W => refColumns_any l (by omega) W)
  obtain ⟨L, hL⟩ : ∃ L, L = cutL l := ⟨_, rfl⟩
  rw [← hL] at C1 T1 T2 C3 C4 C9 CA hzl hk
  clear hL
  have CS := Lib.hid (fun W a b n c m d hn hm ha hb => sameAll_eq L a b n c m d W hn hm (by omega) ha hb)
  have CT := Lib.hid (fun W a b n c m d hn hm ha hb => sameAll_eq (L.take k) a b n c m d W hn hm (by rw [List.length_take]; omega) ha hb)
  have hlk : (L.take k).length = k := by rw [List.length_take]; omega
  have hmin : min (L.length : Int) (st : Int) = (k : Int) := by omega
  have HK := Lib.hid hk
  have HLK := Lib.hid hlk
  clear hk hlk
  go_enter Try.func4, Try.ntmps4
  go_wp2_with (first
    | (go_at_call 15; refine (C0.out _).mono ?_; rintro e w0 ⟨rfl, rfl⟩)
    | (go_at_call 22; refine (C1.out _).mono ?_; rintro e w1 ⟨a1, n1, c1, hn1, hnc1, hcm1, rfl, hrow1, hb1, _⟩))
  refine (T1.out _).mono ?_
  rintro e w2 ⟨a2, n2, c2, hn2, hnc2, hcm2, rfl, hrow2, hb2⟩
  replace hrow1 := row_next hrow1 hb2
  have hkn : k ≤ L.length := by rw [HK.out]; omega
  have hkc : k ≤ c1 := by omega
  have HN2 := Lib.hid hn2
  clear hn2
  go_wp2_with fail
  refine (T2.out _).mono ?_
  rintro e w3 ⟨a3, n3, c3, hn3, hnc3, hcm3, rfl, hrow3, hb3⟩
  replace hrow1 := row_next hrow1 hb3
  replace hrow2 := row_next hrow2 hb3
  have HN3 := Lib.hid hn3
  clear hn3
  have hc1m : c1 ≤ 9223372036854775807 := by unfold maxLen at hcm1; omega
  go_wp2_with fail
  refine (CT.out _ _ _ _ _ _ _ (by rw [HN2.out]; simp) (by rw [HLK.out]; simp) hrow2 (row_take hrow1 k)).mono ?_
  rintro e w4 ⟨rfl, hb4⟩
  replace hrow1 := row_next hrow1 hb4
  replace hrow3 := row_next hrow3 hb4
  go_wp2_with fail
  refine (CS.out _ _ _ _ _ _ _ (by rw [HN3.out]; simp) (by simp) hrow3 hrow1).mono ?_
  rintro e w5 ⟨rfl, hb5⟩
  replace hrow1 := row_next hrow1 hb5
  go_wp2_with fail
  refine (C3.out _).mono ?_
  rintro e w6 ⟨a6, n6, c6, hn6, hnc6, hcm6, rfl, hrow6, hb6, _⟩
  replace hrow1 := row_next hrow1 hb6
  have HN6 := Lib.hid hn6
  clear hn6
  go_wp2_with fail
  refine (CS.out _ _ _ _ _ _ _ (by rw [HN6.out]; simp) (by simp) hrow6 hrow1).mono ?_
  rintro e w7 ⟨rfl, hb7⟩
  have hB7 := bnext (bnext (bnext (bnext (bnext (bnext hb1 hb2) hb3) hb4) hb5) hb6) hb7
  go_wp2_with (first
    | (go_at_call 25; refine (C4.out _).mono ?_; rintro e w8 ⟨rfl, hb8⟩)
    | (go_at_call 26; refine (C5.out _).mono ?_; rintro e w9 ⟨rfl, hb9⟩)
    | (go_at_call 27; refine (C6.out _).mono ?_; rintro e w10 ⟨rfl, hb10⟩)
    | (go_at_call 28; refine (C7.out _).mono ?_; rintro e w11 ⟨rfl, hb11⟩)
    | (go_at_call 29; refine (C8.out _).mono ?_; rintro e w12 ⟨rfl, hb12⟩)
    | (go_at_call 30; refine (C9.out _).mono ?_; rintro e w13 ⟨rfl, hb13⟩)
    | (go_at_call 31; refine (CA.out _).mono ?_; rintro e w14 ⟨rfl, hb14⟩)
    | (go_at_call 21; refine (awake03_any _).mono ?_; rintro e w15 ⟨rfl, hb15⟩))
  go_ret
  exact ⟨rfl, bnext (bnext (bnext (bnext (bnext (bnext (bnext (bnext hB7 hb8) hb9) hb10) hb11) hb12) hb13) hb14) hb15⟩
end Go.Proofs.Ytmdpmjabjijjiaa
