/- The reference's grid: Text; equal cells and styles compared. No condition but that the rows' strings are not too long. The law's few; the reference's Bytes. No condition but on the lengths. Printed by gen_rn8.py. -/
import Derived.Test.YtekodpcedjpnjaaGreatRC02
import Derived.Test.YtekodpcedjpnjaaGreatRC04
import Derived.Test.YtekodpcedjpnjaaGreatRC07
import Derived.Test.YtekodpcedjpnjaaGreatRC15
import Derived.Test.YtekodpcedjpnjaaGreatRC25
import Derived.Test.YtekodpcedjpnjaaGreatRC41
import Derived.Test.YtekodpcedjpnjaaGreatRC43
import Derived.Test.YtekodpcedjpnjaaGreatRC44
set_option linter.unusedVariables false
set_option linter.unusedSimpArgs false
namespace Go.Proofs.YtekodpcedjpnjaaGreat
open Go.RowKit Go.Shelf Go.Maps
theorem S_cut (l : List UInt8) (n : Nat) : (S l).extract 0 n = S (l.take n) := by
  unfold S
  apply ByteArray.ext
  rw [ByteArray.data_extract]
  apply Array.ext'
  simp [List.extract]
theorem textL_line (M : List GC) : textL M = lineT M := rfl
set_option maxRecDepth 100000 in
set_option maxHeartbeats 8000000 in
theorem rtext_ok {F : Nat → Prop} {W : World} {a : Option Addr} {cap w h : Nat} {R : List (List GC)} (g : RG F W a cap w h R) (ro : ROk R) (hw5 : w ≤ 500) (r : Int) (h0 : 0 ≤ r) (h1 : r < h) :
    Calls Tryz.prog 67 #[.agg #[.int .i64 w, .int .i64 h, .slice a h cap], .int .i64 r] W fun e w' => e = .returned (.string (S (trimL (textL (nth [] R r.toNat))))) ∧ Below W.heap.size W w' := by
  have b1 : Below W.heap.size W (W.alloc (.cells #[.int .i64 w, .int .i64 h, .slice a h cap] 29)) := (Below.refl _ _).alloc (Nat.le_refl _) _
  have CC := Lib.hid (rcells_ok (g.below b1) r h0 h1)
  have hs : ∀ c ∈ nth [] R r.toNat, c.s.size ≤ 64 := fun c hc => ro.at _ c hc
  have hMl : (nth [] R r.toNat).length = w := g.ok.at (by omega)
  obtain ⟨M, hM⟩ : ∃ M, M = nth [] R r.toNat := ⟨_, rfl⟩
  rw [← hM] at CC hs hMl ⊢
  have hlen : ∀ k, (lineT (M.take k)).length ≤ 64000 := fun k => by
    have h1 := lineT_len (M.take k) (fun c hc => hs c (List.mem_of_mem_take hc))
    rw [List.length_take] at h1
    omega
  have HLEN := Lib.hid hlen
  have HMl := Lib.hid hMl
  have HS := Lib.hid hs
  rw [textL_line]
  clear hlen g ro hM h0 h1 hMl hs
  go_enter Tryz.func67, Tryz.ntmps67
  go_wp2_with fail
  refine (CC.out).mono ?_
  rintro e w1 ⟨a2, c2, rfl, hM, ⟨_, _⟩, hb1⟩
  have B1 := bto b1 hb1 b1.size
  clear b1 hb1
  go_wp2
  go_loopw [7, 6] (fun i g wr => ∃ k : Nat, k ≤ w ∧ i = .int .i64 k ∧ g = .string (S (lineT (M.take k))) ∧ Below w1.heap.size w1 wr) (fun i _ _ => w - (intOf i).toNat)
  case atStart => exact ⟨0, Nat.zero_le _, rfl, rfl, Below.refl _ _⟩
  case round =>
    obtain ⟨k, hk, rfl, rfl, hb⟩ := hrel
    by_cases hlt : k < w
    · have hMl := HMl.out
      have hCi : M[k]? = some (nth GC.zero M k) := by rw [nth_eq _ _ _ (by omega), List.getElem?_eq_getElem (by omega)]
      have HT := Lib.hid (lineT_take M k (by omega))
      have hsz := HS.out (nth GC.zero M k) (by rw [nth_eq _ _ _ (by omega)]; exact List.getElem_mem (by omega))
      obtain ⟨b1, o1, rfl, hb1, r1⟩ := (hM.below hb).at_ k _ hCi
      obtain ⟨C, hC⟩ : ∃ C, C = nth GC.zero M k := ⟨_, rfl⟩
      rw [← hC] at HT hsz r1
      obtain ⟨x0, _⟩ := vals_at r1
      have hL := HLEN.out k
      obtain ⟨T, hT⟩ : ∃ T, T = lineT (M.take k) := ⟨_, rfl⟩
      rw [← hT] at HT hL ⊢
      have hsT := S_size T
      have HAP := Lib.hid (show S T ++ C.s = S (T ++ C.s.data.toList) by rw [← S_append, S_list])
      clear hT hC hCi r1 hMl
      go_wp2
      go_roundw
      case rel => exact ⟨k + 1, hlt, by go_num, by rw [HT.out, ← HAP.out], hb⟩
      case measure => simp [intOf]; omega
    · obtain rfl : k = w := by omega
      have ht : M.take k = M := List.take_of_length_le (by rw [HMl.out]; exact Nat.le_refl _)
      have hL := HLEN.out k
      rw [ht] at hL ⊢
      obtain ⟨T, hT⟩ : ∃ T, T = lineT M := ⟨_, rfl⟩
      rw [← hT] at hL ⊢
      have BV := bto B1 hb B1.size
      have hsz := S_size T
      have hget := S_get T
      have hcut := S_cut T
      obtain ⟨len, hlen⟩ : ∃ n, n = T.length := ⟨_, rfl⟩
      rw [← hlen] at hL hsz
      have HL := Lib.hid hlen
      have HTL : Hid (trimL (lineT M) = T.take (trimN T len)) := Lib.hid (by rw [← hT, hlen]; rfl)
      clear hlen ht hT
      go_wp2
      go_loop [8] (fun i => ∃ n : Nat, n ≤ len ∧ i = .int .i64 n ∧ Hid (trimN T len = trimN T n)) (fun i => (intOf i).toNat)
      case atStart => exact ⟨len, Nat.le_refl _, rfl, rfl⟩
      case round =>
        obtain ⟨n, hn, rfl, htr⟩ := hrel
        cases n with
        | zero =>
          have hz : trimN T len = 0 := by rw [htr.out]; rfl
          have HZ := Lib.hid hz
          clear hz
          go_wp2
          go_ret
          exact ⟨ret_str (by rw [HTL.out, HZ.out]; rfl), BV⟩
        | succ n =>
          have hn1 : n + 1 ≤ len := hn
          by_cases h32 : nth 0 T n = 32
          · have hs : trimN T (n + 1) = trimN T n := by rw [trimN, if_pos h32]
            have HS := Lib.hid hs
            have he : (((nth 0 T n).toNat : Int) == 32) = true := by rw [h32]; rfl
            clear hs h32
            go_wp2
            go_round
            case rel => exact ⟨n, by omega, by go_num, Lib.hid (htr.out.trans HS.out)⟩
            case measure => simp [intOf]
          · have HZ : Hid (trimN T len = n + 1) := Lib.hid (by rw [htr.out, trimN, if_neg h32])
            have hne : (((nth 0 T n).toNat : Int) == 32) = false := by
              have : (nth 0 T n).toNat ≠ 32 := fun h => h32 (UInt8.toNat_inj.1 h)
              simp; omega
            go_wp2
            go_ret
            exact ⟨ret_str (by rw [HTL.out, HZ.out]), BV⟩
end Go.Proofs.YtekodpcedjpnjaaGreat
namespace Go.Proofs.YtekodpcedjpnjaaGreat
open Go.RowKit Go.Shelf Go.Maps
def fewL (L : List (List UInt8)) : List (List UInt8) := (L.take 62).map (List.take 200)
theorem fewL_len (L : List (List UInt8)) : (fewL L).length = min 62 L.length := by
  unfold fewL
  rw [List.length_map, List.length_take]
theorem fewL_get {L : List (List UInt8)} {j : Nat} {l : List UInt8} (h : L[j]? = some l) (hj : j < 62) : (fewL L)[j]? = some (l.take 200) := by
  unfold fewL
  rw [List.getElem?_map, List.getElem?_take, if_pos hj, h]
  rfl
theorem fewL_short (L : List (List UInt8)) : ∀ l ∈ fewL L, l.length ≤ 200 := fun l hl => by
  unfold fewL at hl
  obtain ⟨m, _, rfl⟩ := List.mem_map.1 hl
  rw [List.length_take]
  omega
theorem StrsAt.of_own {W : World} {n₀ : Nat} {a : Option Addr} {n c : Nat} {L : List (List UInt8)} (hn : L.length = n) (h : W.ownsRow n₀ 9 1 (.slice a n c) n (strV L)) : StrsAt W a n L :=
  ⟨hn, fun i l hl => by
    have hi := (List.getElem?_eq_some_iff.1 hl).1
    obtain ⟨g, c', hv, _, _, _⟩ := own_neK h (by omega)
    simp only [Value.slice.injEq, true_and] at hv
    obtain ⟨rfl, rfl⟩ := hv
    have hs : (strV L)[i]? = some (.string (S l)) := by unfold strV; rw [List.getElem?_map, hl]; rfl
    have hc := (own_getK h hs).1
    exact ⟨g, 0, rfl, World.block_lt_of_cell? _ _ hc, by rw [Nat.zero_add]; exact hc⟩⟩
def FewP (M : List (List UInt8)) (W : World) (e : Ending) (w' : World) : Prop := ∃ a c, e = .returned (.slice a M.length c) ∧ StrsAt w' a M.length M ∧ Below W.heap.size W w'
set_option maxRecDepth 100000 in
set_option maxHeartbeats 16000000 in
theorem few11_any {W : World} {a : Option Addr} {n cap : Nat} {L : List (List UInt8)} (hL : StrsAt W a n L) (hn : n ≤ maxLen) (hl : ∀ l ∈ L, l.length ≤ maxLen) :
    Calls Tryz.prog 69 #[.slice a n cap] W (FewP (fewL L) W) := by
  obtain ⟨i0, hi, hz0, hz1, hz2⟩ := info_parts infoStrc
  have hLl := hL.len
  have HL := Lib.hid hL
  have HLM := Lib.hid hl
  have HFG := Lib.hid (fewL_len L)
  unfold maxLen at hn
  obtain ⟨k, hk⟩ : ∃ k, k = (fewL L).length := ⟨_, rfl⟩
  have HK := Lib.hid hk
  have hk62 : k ≤ 62 ∧ k ≤ n := by have := HFG.out; omega
  clear hL hl hk
  go_enter Tryz.func69, Tryz.ntmps69
  go_wp2
  go_loopw [3, 4] (fun v iv wr => ∃ j : Nat, j ≤ k ∧ iv = .int .i64 j ∧ wr.ownsRow W.heap.size 9 1 v j (strV ((fewL L).take j)) ∧ Below W.heap.size W wr) (fun _ iv _ => k - (intOf iv).toNat)
  case atStart => exact ⟨0, Nat.zero_le _, rfl, World.ownsRow_nil _ _ _ _, Below.refl _ _⟩
  case round =>
    obtain ⟨j, hj, rfl, hown, hb⟩ := hrel
    obtain ⟨av, cv, rfl⟩ := own_sliceF hown
    by_cases hlt : j < k
    · have hjn : (j : Int) < (n : Int) := by omega
      have hj62 : (j : Int) < 62 := by omega
      obtain ⟨l, hl⟩ : ∃ l, l = nth [] L j := ⟨_, rfl⟩
      have hl' : L[j]? = some l := by rw [hl, nth_eq _ _ _ (by omega)]; exact List.getElem?_eq_getElem (by omega)
      have hlm := HLM.out l (List.mem_of_getElem? hl')
      unfold maxLen at hlm
      obtain ⟨g, off, rfl, hg, hgc⟩ := HL.out.at_ j l hl'
      have hF := fewL_get hl' (by omega)
      obtain ⟨m, hm⟩ : ∃ m, m = l.length := ⟨_, rfl⟩
      obtain ⟨km, hkm⟩ : ∃ q, q = (l.take 200).length := ⟨_, rfl⟩
      have hkm2 : km = min 200 m := by rw [hkm, hm, List.length_take]
      have HKM : Hid (min (m : Int) 200 = (km : Int)) := Lib.hid (by omega)
      have HTK : Hid ((S l).extract 0 km = S (l.take 200)) := Lib.hid (by
        rw [S_cut, hkm2, hm]
        congr 1
        rw [Nat.min_def]
        split
        · rfl
        · rw [List.take_of_length_le (Nat.le_refl _), List.take_of_length_le (by omega)])
      have HSZ : Hid ((S l).size = m) := Lib.hid (by rw [S_size, hm])
      have hsz : (S l).size = m := HSZ.out
      have hkmm : km ≤ m := by omega
      have HSN : Hid (strV ((fewL L).take (j + 1)) = strV ((fewL L).take j) ++ [.string (S (l.take 200))]) := Lib.hid (by
        have h1 := HK.out
        rw [List.take_succ_eq_append_getElem (by omega)]
        have : (fewL L)[j]'(by omega) = l.take 200 := (List.getElem?_eq_some_iff.1 hF).2
        rw [this]
        unfold strV
        rw [List.map_append]
        rfl)
      obtain ⟨t, ht⟩ : ∃ t, t = l.take 200 := ⟨_, rfl⟩
      rw [← ht] at HTK HSN
      have htl : t.length ≤ 200 := by rw [ht, List.length_take]; omega
      have hgr : wr.cell? ⟨g, off + j, none⟩ = some (.string (S l)) := (hb.cell (p := ⟨g, off + j, none⟩) hg).trans hgc
      have hgw : g < wr.heap.size := Nat.lt_of_lt_of_le hg hb.size
      have hbs := hb.size
      obtain ⟨q, hq⟩ : ∃ q, wr.drew = q := ⟨_, rfl⟩
      have dB : Below wr.heap.size wr q := by rw [← hq]; exact (Below.refl _ _).drew
      have hSq : (fun Y => Y.cell? ⟨g, off + j, none⟩ = some (.string (S l))) q := (dB.cell (p := ⟨g, off + j, none⟩) hgw).trans hgr
      have hS0 : (fun Y => Y.cell? ⟨g, off + j, none⟩ = some (.string (S l))) wr.drew := by rw [hq]; exact hSq
      have HQ := Lib.hid hq
      obtain ⟨Z, hZ⟩ : ∃ Z, q.alloc (.cells #[.string (S t)] 9) = Z := ⟨_, rfl⟩
      have bA : Below q.heap.size q Z := by rw [← hZ]; exact (Below.refl _ _).alloc (Nat.le_refl _) _
      have hcn : ∀ (i : Nat) (u : Value), [Value.string (S t)][i]? = some u → Z.cell? ((⟨q.heap.size, 0, none⟩ : Addr).add i) = some u := by rw [← hZ]; exact row_oneK q (.string (S t)) 9
      have HZ := Lib.hid hZ
      have bZ := bto dB bA dB.size
      have hown1 := own_belowF hown bZ
      have hZs := bZ.size
      have hS1 : (fun Y => Y.cell? ⟨g, off + j, none⟩ = some (.string (S l))) Z := (bA.cell (p := ⟨g, off + j, none⟩) (Nat.lt_of_lt_of_le hgw dB.size)).trans hSq
      clear hl hl' hgc hF hkm hkm2 hq hZ hm ht
      go_upto_region 5 with (fail)
      · skip
        refine wp_region_mix2 [(true, 0), (true, 1), (true, 2), (true, 3), (true, 4), (true, 5), (true, 6), (true, 7), (true, 8), (true, 9), (true, 10), (true, 11), (false, 12), (false, 13), (true, 14)] ((fun Y => Y.cell? ⟨g, off + j, none⟩ = some (.string (S l)))) (by kernel_rfl) (by kernel_rfl) (by rfl) (by kernel_rfl) (by kernel_rfl) (fun _ _ d _ _ h => by cases d <;> exact h) hS0 ?_
        simp only [mixL, List.getElem?_cons_succ, List.getElem?_cons_zero]
        rw [HQ.out]
        refine' wpMix2_read (v := _) rfl ?_ ?_
        rotate_left 1
        · intro w' hw'; go_simp; try with_reducible rfl
        try simp only [Act.put, List.setIfInBounds_toArray, List.set_cons_zero, List.set_cons_succ]
        refine' wpMix2_read (v := _) rfl ?_ ?_
        rotate_left 1
        · intro w' hw'; go_simp; try with_reducible rfl
        try simp only [Act.put, List.setIfInBounds_toArray, List.set_cons_zero, List.set_cons_succ]
        refine' wpMix2_read (v := _) rfl ?_ ?_
        rotate_left 1
        · intro w' hw'; go_simp; try with_reducible rfl
        try simp only [Act.put, List.setIfInBounds_toArray, List.set_cons_zero, List.set_cons_succ]
        refine' wpMix2_read (v := _) rfl ?_ ?_
        rotate_left 1
        · intro w' hw'; go_simp; try with_reducible rfl
        try simp only [Act.put, List.setIfInBounds_toArray, List.set_cons_zero, List.set_cons_succ]
        refine' wpMix2_read (v := _) rfl ?_ ?_
        rotate_left 1
        · intro w' hw'; go_simp; try with_reducible rfl
        try simp only [Act.put, List.setIfInBounds_toArray, List.set_cons_zero, List.set_cons_succ]
        refine' wpMix2_read (v := _) rfl ?_ ?_
        rotate_left 1
        · intro w' hw'; go_simp; try with_reducible rfl
        try simp only [Act.put, List.setIfInBounds_toArray, List.set_cons_zero, List.set_cons_succ]
        refine' wpMix2_read (v := _) rfl ?_ ?_
        rotate_left 1
        · intro w' hw'; go_simp; try with_reducible rfl
        try simp only [Act.put, List.setIfInBounds_toArray, List.set_cons_zero, List.set_cons_succ]
        refine' wpMix2_read (v := _) rfl ?_ ?_
        rotate_left 1
        · intro w' hw'; go_simp; try with_reducible rfl
        try simp only [Act.put, List.setIfInBounds_toArray, List.set_cons_zero, List.set_cons_succ]
        refine' wpMix2_read (v := _) rfl ?_ ?_
        rotate_left 1
        · intro w' hw'; go_simp; try with_reducible rfl
        try simp only [Act.put, List.setIfInBounds_toArray, List.set_cons_zero, List.set_cons_succ]
        refine' wpMix2_read (v := _) rfl ?_ ?_
        rotate_left 1
        · intro w' hw'; go_simp; try with_reducible rfl
        try simp only [Act.put, List.setIfInBounds_toArray, List.set_cons_zero, List.set_cons_succ]
        refine' wpMix2_read (v := (.int .i64 km)) rfl ?_ ?_
        · intro w' hw'; go_simp; first | done | exact HKM.out | (rw [HKM.out]) | (have := HKM.out; simp; omega)
        try simp only [Act.put, List.setIfInBounds_toArray, List.set_cons_zero, List.set_cons_succ]
        refine' wpMix2_read (v := (.string (S t))) rfl ?_ ?_
        · intro w' hw'; go_simp; first | done | exact HTK.out | (rw [HTK.out]) | (simp [HTK.out]) | trace_state
        try simp only [Act.put, List.setIfInBounds_toArray, List.set_cons_zero, List.set_cons_succ]
        refine wpMix2_act (fun K hK => ?_)
        go_wp2
        try rw [HZ.out]
        refine hK _ _ hS1 ?_
        clear hK K
        refine wpMix2_act (fun K hK => ?_)
        go_wp2_with (at_builtin; refine wpList_append_own_at _ rfl _ _ 112 rfl W.heap.size 9 i0 (.string ⟨#[]⟩) 1 16 Tryz.underlying112 hi hz0 hz1 hz2 rfl (by decide) _ _ _ rfl hown1 ⟨q.heap.size, 0, none⟩ 1 1 [.string (S t)] rfl rfl hcn (by intro u hu; rw [List.mem_singleton.1 hu]; rfl) (by unfold maxLen; omega) (by omega) (by omega) ?_; intro v' w1 hown' hgrow _ _)
        have hB1 : Below W.heap.size Z w1 := (Below.refl _ Z).grown hgrow (by omega) (fun k e => (own_cells hown1 k e).1)
        have hS2 : (fun Y => Y.cell? ⟨g, off + j, none⟩ = some (.string (S l))) w1 := (hB1.cell (p := ⟨g, off + j, none⟩) hg).trans hS1
        refine hK _ _ hS2 ?_
        clear hK K
        refine' wpMix2_read (v := _) rfl ?_ ?_
        rotate_left 1
        · intro w' hw'; go_simp; try with_reducible rfl
        try simp only [Act.put, List.setIfInBounds_toArray, List.set_cons_zero, List.set_cons_succ]
        refine wpMix2_nil ?_
        go_wp2
        go_roundw
        case rel => exact ⟨j + 1, hlt, by go_num, by rw [HSN.out]; exact hown', (bto hb bZ hb.size).trans hB1⟩
        case measure => simp [intOf]; omega
    · obtain rfl : j = k := by omega
      have hke := HK.out
      rw [List.take_of_length_le (by omega)] at hown
      have HO : Hid (∃ c, Value.slice av j cv = .slice av (fewL L).length c ∧ StrsAt wr av (fewL L).length (fewL L)) := Lib.hid ⟨cv, by rw [← hke], by rw [← hke]; exact StrsAt.of_own hke.symm hown⟩
      have hor : (j : Int) = (n : Int) ∨ ((j : Int) < (n : Int) ∧ ¬ ((j : Int) < 62)) := by have := HFG.out; omega
      clear hke hown
      rcases hor with h | ⟨h1, h2⟩
      · have hni : ¬ ((j : Int) < (n : Int)) := by omega
        clear h
        go_wp2
        go_ret
        obtain ⟨cc, e1, e2⟩ := HO.out
        exact ⟨av, cc, congrArg Ending.returned e1, e2, hb⟩
      · go_wp2
        go_ret
        obtain ⟨cc, e1, e2⟩ := HO.out
        exact ⟨av, cc, congrArg Ending.returned e1, e2, hb⟩
def bytesF (w : Nat) (L : List (List UInt8)) : Nat := (L.map fun l => (clsF w l).flatten.length).sum
theorem linesB_bytes (w : Nat) : ∀ L : List (List UInt8), (linesB (L.map (clsF w))).length = bytesF w L + 2 * L.length
  | [] => rfl
  | l :: L => by
    have h := linesB_bytes w L
    show (((clsF w l).flatten ++ [13, 10]) ++ linesB (L.map (clsF w))).length = ((clsF w l).flatten.length + bytesF w L) + _
    rw [List.length_append, List.length_append, h]
    simp
    omega
theorem bytesF_le (w : Nat) (hw : w ≤ 500) (L : List (List UInt8)) : bytesF w L ≤ 32000 * L.length := by
  induction L with
  | nil => exact Nat.le_refl _
  | cons l L ih =>
    have := clsF_len w hw l
    show (clsF w l).flatten.length + bytesF w L ≤ _
    rw [List.length_cons]
    omega
theorem bytesF_take (w : Nat) {L : List (List UInt8)} {j : Nat} {l : List UInt8} (h : L[j]? = some l) : bytesF w (L.take (j + 1)) = bytesF w (L.take j) + (fitT (flatL l) w).length := by
  have hj := (List.getElem?_eq_some_iff.1 h)
  obtain ⟨h1, h2⟩ := hj
  rw [List.take_succ_eq_append_getElem h1, h2]
  unfold bytesF
  rw [List.map_append, List.sum_append]
  rfl
set_option maxRecDepth 100000 in
set_option maxHeartbeats 16000000 in
theorem bytes11_any {W : World} {a : Option Addr} {n cap : Nat} {L : List (List UInt8)} (hL : StrsAt W a n L) (hn : n ≤ 1000) (hl : ∀ l ∈ L, l.length ≤ 10000) (w : Nat) (hw : w ≤ 500) :
    Calls Tryz.prog 74 #[.slice a n cap, .int .i64 w] W fun e w' => e = .returned (.int .i64 (bytesF w L : Nat)) ∧ Below W.heap.size W w' := by
  have hLl := hL.len
  have HL := Lib.hid hL
  have HLM := Lib.hid hl
  clear hL hl
  go_enter Tryz.func74, Tryz.ntmps74
  go_wp2
  go_loopw [5, 6] (fun v iv wr => ∃ j : Nat, j ≤ n ∧ iv = .int .i64 j ∧ v = .int .i64 (bytesF w (L.take j) : Nat) ∧ Below W.heap.size W wr) (fun _ iv _ => n - (intOf iv).toNat)
  case atStart => exact ⟨0, Nat.zero_le _, rfl, rfl, Below.refl _ _⟩
  case round =>
    obtain ⟨j, hj, rfl, rfl, hb⟩ := hrel
    by_cases hlt : j < n
    · have hjn : (j : Int) < (n : Int) := by omega
      obtain ⟨l, hl⟩ : ∃ l, l = nth [] L j := ⟨_, rfl⟩
      have hl' : L[j]? = some l := by rw [hl, nth_eq _ _ _ (by omega)]; exact List.getElem?_eq_getElem (by omega)
      have hlm := HLM.out l (List.mem_of_getElem? hl')
      have hfl := flat_len64G l
      obtain ⟨g, off, rfl, hg, hgc⟩ := HL.out.at_ j l hl'
      have hgr : wr.cell? ⟨g, off + j, none⟩ = some (.string (S l)) := (hb.cell (p := ⟨g, off + j, none⟩) hg).trans hgc
      have CF := Lib.hid (fun Y => refFlat_any l (by omega) Y)
      have CT := Lib.hid (fun Y => refFit_any (flatL l) w (by omega) (by omega) Y)
      have HS := Lib.hid (bytesF_take w hl')
      have h1 := bytesF_le w hw (L.take j)
      rw [List.length_take] at h1
      obtain ⟨s0, hs0⟩ : ∃ s, s = bytesF w (L.take j) := ⟨_, rfl⟩
      have hfit : (fitT (flatL l) w).length ≤ 32000 := clsF_len w hw l
      obtain ⟨f, hf⟩ : ∃ f, f = fitT (flatL l) w := ⟨_, rfl⟩
      obtain ⟨m, hm⟩ : ∃ m, m = fitN (flatL l) w := ⟨_, rfl⟩
      rw [← hs0, ← hf] at HS
      rw [← hs0] at h1
      rw [← hf] at hfit
      simp only [← hf, ← hm] at CT
      rw [← hs0]
      have hs1 : s0 ≤ 40000000 := by have := Nat.min_le_right j L.length; omega
      have hfz := S_size f
      clear hl hl' hlm hfl hgc hs0 hf hm h1 HL HLM
      go_wp2_with (first
        | (go_at_call 94; refine (CF.out _).mono ?_; rintro e w1 ⟨rfl, hb1⟩)
        | (go_at_call 139; refine (CT.out _).mono ?_; rintro e w2 ⟨rfl, hb2⟩))
      go_roundw
      case rel => exact ⟨j + 1, hlt, by go_num, by rw [HS.out]; go_num, bto (bto hb hb1 hb.size) hb2 (bto hb hb1 hb.size).size⟩
      case measure => simp [intOf]; omega
    · obtain rfl : j = n := by omega
      rw [List.take_of_length_le (by omega)]
      go_wp2
      go_ret
      exact ⟨rfl, hb⟩
end Go.Proofs.YtekodpcedjpnjaaGreat
