/- The law's few; the reference's Bytes. No condition but on the lengths. Printed by gen_rn8.py. The program's region: Draw of a frame that may be drawn; Shown. No condition but that the strings are not too long for a cut. Printed by gen_rn7.py. The law's do: a call of the program's region. No condition but that the strings are not too long for a cut. Printed by gen_rn9.py. -/
import Derived.Test.YtjkajojjehgmdaaGreatRE38
import Derived.Test.YtjkajojjehgmdaaGreatRE43
import Derived.Test.YtjkajojjehgmdaaGreatRE44
import Derived.Test.YtjkajojjehgmdaaGreatRE45
set_option linter.unusedVariables false
set_option linter.unusedSimpArgs false
namespace Go.Proofs.YtjkajojjehgmdaaGreat
open Go.RowKit Go.Shelf Go.Maps
def fewL (L : List (List UInt8)) : List (List UInt8) := (L.take 62).map (List.take 200)
theorem fewL_len (L : List (List UInt8)) : (fewL L).length = min 62 L.length := by
 unfold fewL
 rw [List.length_map, List.length_take]
theorem fewL_get {L : List (List UInt8)} {j : Nat} {l : List UInt8} (h : L[j]? = some l) (hj : j < 62) : (fewL L)[j]? = some (l.take 200) := by
 unfold fewL
 rw [List.getElem?_map, List.getElem?_take, if_pos hj, h]
 rfl
theorem fewL_short (L : List (List UInt8)) : ∀ l ∈ fewL L, l.length ≤ 200 := fun l hl => by
 unfold fewL at hl
 obtain ⟨m, _, rfl⟩ := List.mem_map.1 hl
 rw [List.length_take]
 omega
theorem StrsAt.of_own {W : World} {n₀ : Nat} {a : Option Addr} {n c : Nat} {L : List (List UInt8)} (hn : L.length = n) (h : W.ownsRow n₀ 9 1 (.slice a n c) n (strV L)) : StrsAt W a n L :=
 ⟨hn, fun i l hl => by
  have hi := (List.getElem?_eq_some_iff.1 hl).1
  obtain ⟨g, c', hv, _, _, _⟩ := own_neK h (by omega)
  simp only [Value.slice.injEq, true_and] at hv
  obtain ⟨rfl, rfl⟩ := hv
  have hs : (strV L)[i]? = some (.string (S l)) := by unfold strV; rw [List.getElem?_map, hl]; rfl
  have hc := (own_getK h hs).1
  exact ⟨g, 0, rfl, World.block_lt_of_cell? _ _ hc, by rw [Nat.zero_add]; exact hc⟩⟩
def FewP (M : List (List UInt8)) (W : World) (e : Ending) (w' : World) : Prop := ∃ a c, e = .returned (.slice a M.length c) ∧ StrsAt w' a M.length M ∧ Below W.heap.size W w' ∧ (M.length ≤ c ∧ c ≤ maxLen)
set_option maxRecDepth 100000 in
set_option maxHeartbeats 16000000 in
theorem few11_any {W : World} {a : Option Addr} {n cap : Nat} {L : List (List UInt8)} (hL : StrsAt W a n L) (hn : n ≤ maxLen) (hl : ∀ l ∈ L, l.length ≤ maxLen) :
    Calls Tryz.prog 17 #[.slice a n cap] W (FewP (fewL L) W) := by
 obtain ⟨i0, hi, hz0, hz1, hz2⟩ := info_parts infoStrc
 have hLl := hL.len
 have HL := Lib.hid hL
 have HLM := Lib.hid hl
 have HFG := Lib.hid (fewL_len L)
 unfold maxLen at hn
 obtain ⟨k, hk⟩ : ∃ k, k = (fewL L).length := ⟨_, rfl⟩
 have HK := Lib.hid hk
 have hk62 : k ≤ 62 ∧ k ≤ n := by have := HFG.out; omega
 clear hL hl hk
 go_enter Tryz.func17, Tryz.ntmps17
 go_wp2
 go_loopw [3, 4] (fun v iv wr => ∃ j : Nat, j ≤ k ∧ iv = .int .i64 j ∧ wr.ownsRow W.heap.size 9 1 v j (strV ((fewL L).take j)) ∧ Below W.heap.size W wr) (fun _ iv _ => k - (intOf iv).toNat)
 case atStart => exact ⟨0, Nat.zero_le _, rfl, World.ownsRow_nil _ _ _ _, Below.refl _ _⟩
 case round =>
  obtain ⟨j, hj, rfl, hown, hb⟩ := hrel
  obtain ⟨av, cv, rfl⟩ := own_sliceF hown
  by_cases hlt : j < k
  ·have hjn : (j : Int) < (n : Int) := by omega
   have hj62 : (j : Int) < 62 := by omega
   obtain ⟨l, hl⟩ : ∃ l, l = nth [] L j := ⟨_, rfl⟩
   have hl' : L[j]? = some l := by rw [hl, nth_eq _ _ _ (by omega)]; exact List.getElem?_eq_getElem (by omega)
   have hlm := HLM.out l (List.mem_of_getElem? hl')
   unfold maxLen at hlm
   obtain ⟨g, off, rfl, hg, hgc⟩ := HL.out.at_ j l hl'
   have hF := fewL_get hl' (by omega)
   obtain ⟨m, hm⟩ : ∃ m, m = l.length := ⟨_, rfl⟩
   obtain ⟨km, hkm⟩ : ∃ q, q = (l.take 200).length := ⟨_, rfl⟩
   have hkm2 : km = min 200 m := by rw [hkm, hm, List.length_take]
   have HKM : Hid (min (m : Int) 200 = (km : Int)) := Lib.hid (by omega)
   have HTK : Hid ((S l).extract 0 km = S (l.take 200)) := Lib.hid (by
    rw [S_cut, hkm2, hm]
    congr 1
    rw [Nat.min_def]
    split
    ·rfl
    ·rw [List.take_of_length_le (Nat.le_refl _), List.take_of_length_le (by omega)])
   have HSZ : Hid ((S l).size = m) := Lib.hid (by rw [S_size, hm])
   have hsz : (S l).size = m := HSZ.out
   have hkmm : km ≤ m := by omega
   have HSN : Hid (strV ((fewL L).take (j + 1)) = strV ((fewL L).take j) ++ [.string (S (l.take 200))]) := Lib.hid (by
    have h1 := HK.out
    rw [List.take_succ_eq_append_getElem (by omega)]
    have : (fewL L)[j]'(by omega) = l.take 200 := (List.getElem?_eq_some_iff.1 hF).2
    rw [this]
    unfold strV
    rw [List.map_append]
    rfl)
   obtain ⟨t, ht⟩ : ∃ t, t = l.take 200 := ⟨_, rfl⟩
   rw [← ht] at HTK HSN
   have htl : t.length ≤ 200 := by rw [ht, List.length_take]; omega
   have hgr : wr.cell? ⟨g, off + j, none⟩ = some (.string (S l)) := (hb.cell (p := ⟨g, off + j, none⟩) hg).trans hgc
   have hgw : g < wr.heap.size := Nat.lt_of_lt_of_le hg hb.size
   have hbs := hb.size
   obtain ⟨q, hq⟩ : ∃ q, wr.drew = q := ⟨_, rfl⟩
   have dB : Below wr.heap.size wr q := by rw [← hq]; exact (Below.refl _ _).drew
   have hSq : (fun Y => Y.cell? ⟨g, off + j, none⟩ = some (.string (S l))) q := (dB.cell (p := ⟨g, off + j, none⟩) hgw).trans hgr
   have hS0 : (fun Y => Y.cell? ⟨g, off + j, none⟩ = some (.string (S l))) wr.drew := by rw [hq]; exact hSq
   have HQ := Lib.hid hq
   obtain ⟨Z, hZ⟩ : ∃ Z, q.alloc (.cells #[.string (S t)] 9) = Z := ⟨_, rfl⟩
   have bA : Below q.heap.size q Z := by rw [← hZ]; exact (Below.refl _ _).alloc (Nat.le_refl _) _
   have hcn : ∀ (i : Nat) (u : Value), [Value.string (S t)][i]? = some u → Z.cell? ((⟨q.heap.size, 0, none⟩ : Addr).add i) = some u := by rw [← hZ]; exact row_oneK q (.string (S t)) 9
   have HZ := Lib.hid hZ
   have bZ := bto dB bA dB.size
   have hown1 := own_belowF hown bZ
   have hZs := bZ.size
   have hS1 : (fun Y => Y.cell? ⟨g, off + j, none⟩ = some (.string (S l))) Z := (bA.cell (p := ⟨g, off + j, none⟩) (Nat.lt_of_lt_of_le hgw dB.size)).trans hSq
   clear hl hl' hgc hF hkm hkm2 hq hZ hm ht
   go_upto_region 5 with (fail)
   ·skip
    refine wp_region_mix2 [(true, 0), (true, 1), (true, 2), (true, 3), (true, 4), (true, 5), (true, 6), (true, 7), (true, 8), (true, 9), (true, 10), (true, 11), (false, 12), (false, 13), (true, 14)] ((fun Y => Y.cell? ⟨g, off + j, none⟩ = some (.string (S l)))) (by kernel_rfl) (by kernel_rfl) (by rfl) (by kernel_rfl) (by kernel_rfl) (fun _ _ d _ _ h => by cases d <;> exact h) hS0 ?_
    simp only [mixL, List.getElem?_cons_succ, List.getElem?_cons_zero]
    rw [HQ.out]
    refine' wpMix2_read (v := _) rfl ?_ ?_
    rotate_left 1
    ·intro w' hw'; go_simp; try with_reducible rfl
    try simp only [Act.put, List.setIfInBounds_toArray, List.set_cons_zero, List.set_cons_succ]
    refine' wpMix2_read (v := _) rfl ?_ ?_
    rotate_left 1
    ·intro w' hw'; go_simp; try with_reducible rfl
    try simp only [Act.put, List.setIfInBounds_toArray, List.set_cons_zero, List.set_cons_succ]
    refine' wpMix2_read (v := _) rfl ?_ ?_
    rotate_left 1
    ·intro w' hw'; go_simp; try with_reducible rfl
    try simp only [Act.put, List.setIfInBounds_toArray, List.set_cons_zero, List.set_cons_succ]
    refine' wpMix2_read (v := _) rfl ?_ ?_
    rotate_left 1
    ·intro w' hw'; go_simp; try with_reducible rfl
    try simp only [Act.put, List.setIfInBounds_toArray, List.set_cons_zero, List.set_cons_succ]
    refine' wpMix2_read (v := _) rfl ?_ ?_
    rotate_left 1
    ·intro w' hw'; go_simp; try with_reducible rfl
    try simp only [Act.put, List.setIfInBounds_toArray, List.set_cons_zero, List.set_cons_succ]
    refine' wpMix2_read (v := _) rfl ?_ ?_
    rotate_left 1
    ·intro w' hw'; go_simp; try with_reducible rfl
    try simp only [Act.put, List.setIfInBounds_toArray, List.set_cons_zero, List.set_cons_succ]
    refine' wpMix2_read (v := _) rfl ?_ ?_
    rotate_left 1
    ·intro w' hw'; go_simp; try with_reducible rfl
    try simp only [Act.put, List.setIfInBounds_toArray, List.set_cons_zero, List.set_cons_succ]
    refine' wpMix2_read (v := _) rfl ?_ ?_
    rotate_left 1
    ·intro w' hw'; go_simp; try with_reducible rfl
    try simp only [Act.put, List.setIfInBounds_toArray, List.set_cons_zero, List.set_cons_succ]
    refine' wpMix2_read (v := _) rfl ?_ ?_
    rotate_left 1
    ·intro w' hw'; go_simp; try with_reducible rfl
    try simp only [Act.put, List.setIfInBounds_toArray, List.set_cons_zero, List.set_cons_succ]
    refine' wpMix2_read (v := _) rfl ?_ ?_
    rotate_left 1
    ·intro w' hw'; go_simp; try with_reducible rfl
    try simp only [Act.put, List.setIfInBounds_toArray, List.set_cons_zero, List.set_cons_succ]
    refine' wpMix2_read (v := (.int .i64 km)) rfl ?_ ?_
    ·intro w' hw'; go_simp; first | done | exact HKM.out | (rw [HKM.out]) | (have := HKM.out; simp; omega)
    try simp only [Act.put, List.setIfInBounds_toArray, List.set_cons_zero, List.set_cons_succ]
    refine' wpMix2_read (v := (.string (S t))) rfl ?_ ?_
    ·intro w' hw'; go_simp; first | done | exact HTK.out | (rw [HTK.out]) | (simp [HTK.out]) | trace_state
    try simp only [Act.put, List.setIfInBounds_toArray, List.set_cons_zero, List.set_cons_succ]
    refine wpMix2_act (fun K hK => ?_)
    go_wp2
    try rw [HZ.out]
    refine hK _ _ hS1 ?_
    clear hK K
    refine wpMix2_act (fun K hK => ?_)
    go_wp2_with (at_builtin; refine wpList_append_own_at _ rfl _ _ 51 rfl W.heap.size 9 i0 (.string ⟨#[]⟩) 1 16 Tryz.underlying51 hi hz0 hz1 hz2 rfl (by decide) _ _ _ rfl hown1 ⟨q.heap.size, 0, none⟩ 1 1 [.string (S t)] rfl rfl hcn (by intro u hu; rw [List.mem_singleton.1 hu]; rfl) (by unfold maxLen; omega) (by omega) (by omega) ?_; intro v' w1 hown' hgrow _ _)
    have hB1 : Below W.heap.size Z w1 := (Below.refl _ Z).grown hgrow (by omega) (fun k e => (own_cells hown1 k e).1)
    have hS2 : (fun Y => Y.cell? ⟨g, off + j, none⟩ = some (.string (S l))) w1 := (hB1.cell (p := ⟨g, off + j, none⟩) hg).trans hS1
    refine hK _ _ hS2 ?_
    clear hK K
    refine' wpMix2_read (v := _) rfl ?_ ?_
    rotate_left 1
    ·intro w' hw'; go_simp; try with_reducible rfl
    try simp only [Act.put, List.setIfInBounds_toArray, List.set_cons_zero, List.set_cons_succ]
    refine wpMix2_nil ?_
    go_wp2
    go_roundw
    case rel => exact ⟨j + 1, hlt, by go_num, by rw [HSN.out]; exact hown', (bto hb bZ hb.size).trans hB1⟩
    case measure => simp [intOf]; omega
  ·obtain rfl : j = k := by omega
   have hke := HK.out
   rw [List.take_of_length_le (by omega)] at hown
   have HO : Hid (∃ c, Value.slice av j cv = .slice av (fewL L).length c ∧ StrsAt wr av (fewL L).length (fewL L) ∧ ((fewL L).length ≤ c ∧ c ≤ maxLen)) := Lib.hid ⟨cv, by rw [← hke], by rw [← hke]; exact StrsAt.of_own hke.symm hown, by rw [← hke]; exact (own_row_at hown).2⟩
   have hor : (j : Int) = (n : Int) ∨ ((j : Int) < (n : Int) ∧ ¬ ((j : Int) < 62)) := by have := HFG.out; omega
   clear hke hown
   rcases hor with h | ⟨h1, h2⟩
   ·have hni : ¬ ((j : Int) < (n : Int)) := by omega
    clear h
    go_wp2
    go_ret
    obtain ⟨cc, e1, e2, e3⟩ := HO.out
    exact ⟨av, cc, congrArg Ending.returned e1, e2, hb, e3⟩
   ·go_wp2
    go_ret
    obtain ⟨cc, e1, e2, e3⟩ := HO.out
    exact ⟨av, cc, congrArg Ending.returned e1, e2, hb, e3⟩
def RgF (F : Nat → Prop) (W : World) (b : Nat) (x : RSt) : Prop := ∃ av cap, RgB W b (.slice av x.A.length cap) x.r x.c x.s x.w x.h x.want x.ph ∧ RowsF F W av x.A.length x.A ∧ x.A.length ≤ cap ∧ cap ≤ maxLen
theorem RgF.rgi {F : Nat → Prop} {W : World} {b : Nat} {x : RSt} (z : RgF F W b x) : RgI W b x := by
 obtain ⟨av, cap, h1, h2, h3⟩ := z
 exact ⟨av, cap, h1, h2.at, h3⟩
theorem mayD_pos {x : RSt} {B : List (List GC)} {r c : Int} (h : mayD x B r c = true) : okF B r c = true ∧ B.length = x.rows ∧ (nth [] B 0).length = x.w := by
 unfold mayD at h
 simp only [Bool.and_eq_true, decide_eq_true_eq] at h
 exact ⟨h.1, h.2.1, h.2.2⟩
def RSt.drawn (x : RSt) (B : List (List GC)) (r c : Int) (s : Bool) : RSt := { x with A := B, r := r, c := c, s := s }
theorem OkR.fit {x : RSt} (k : OkR x) (hp : x.ph = 2) {B : List (List GC)} {r c : Int} (h : mayD x B r c = true) : fitF x.A x.r x.c B r c = true := by
 obtain ⟨h1, h2, h3⟩ := k.op hp
 obtain ⟨d1, d2, d3⟩ := mayD_pos h
 unfold fitF
 rw [h1, d1, h2, d2, h3, d3]
 simp [RSt.rows]
theorem OkR.drawn {x : RSt} (k : OkR x) (hp : x.ph = 2) {B : List (List GC)} {r c : Int} (s : Bool) (h : mayD x B r c = true) : OkR (x.drawn B r c s) := by
 obtain ⟨d1, d2, d3⟩ := mayD_pos h
 exact { w := k.w, h := k.h, n := k.n, ph := k.ph, op := fun _ => ⟨d1, d2, d3⟩, cl := fun h => absurd hp h }
theorem whole_small {M : List GC} (h : wholeB M = true) : ∀ c ∈ M, c.s.size ≤ 64 :=
 whole_ind (P := fun M => ∀ c ∈ M, c.s.size ≤ 64) (fun c hc => by cases hc)
  (fun c t ho _ _ ih x hx => by
   rcases List.mem_cons.1 hx with rfl | hx
   ·exact (okB_facts ho).2.2.2.2
   ·exact ih x hx)
  (fun c t ho _ _ ih x hx => by
   rcases List.mem_cons.1 hx with rfl | hx
   ·exact (okB_facts ho).2.2.2.2
   ·rcases List.mem_cons.1 hx with rfl | hx
    ·exact Nat.zero_le _
    ·exact ih x hx) _ M (Nat.le_refl _) h
theorem ok_small {R : List (List GC)} {r c : Int} (h : okF R r c = true) : ∀ M ∈ R, ∀ c ∈ M, c.s.size ≤ 1100000 := fun M hM x hx => by
 obtain ⟨_, _, _, _, _, _, _, _, p9⟩ := okF_pos h
 exact Nat.le_trans (whole_small (p9 M hM).2 x hx) (by omega)
set_option maxRecDepth 100000 in
set_option maxHeartbeats 16000000 in
theorem gdraw_ok {W : World} {b : Nat} {x : RSt} (z : RgI W b x) (k : OkR x) (hp : x.ph = 2) {a : Option Addr} {n cap : Nat} {B : List (List GC)} (hR : RowsAt W a n B) (hn : n ≤ maxLen) (hs : ∀ M ∈ B, ∀ c ∈ M, c.s.size ≤ 1100000) (r c : Int) (s : Bool) (hd : mayD x B r c = true) :
    Calls Tryz.prog 10 #[.pointer (some ⟨b, 0, none⟩), .agg #[.slice a n cap, .int .i64 r, .int .i64 c, .bool s]] W fun e w' => e = .returned (.tuple #[.string (S (paintE x.A x.r x.c x.s B r c s false)), .int .i64 0]) ∧ Only [b] W w' ∧ RgF (fun g => W.heap.size ≤ g) w' b (x.drawn B r c s) := by
 obtain ⟨av, cp, zB, hA, hc1, hc2⟩ := z
 obtain ⟨h1, h2, h3⟩ := k.op hp
 obtain ⟨n1, n2, n3⟩ := k.rows
 obtain ⟨X, hX⟩ : ∃ X, W.alloc (.cells #[.slice a n cap, .int .i64 r, .int .i64 c, .bool s] 42) = X := ⟨_, rfl⟩
 have zf : FBI X W.heap.size (.slice a n cap) r c s := by rw [← hX]; exact World.alloc_heap_new W _
 have bX : Below W.heap.size W X := by rw [← hX]; exact (Below.refl _ _).alloc (Nat.le_refl _) _
 have hXs : W.heap.size < X.heap.size := zf.lt
 have zX := zB.below bX
 have hAX := hA.below bX
 have hRX := hR.below bX
 have hbW := zB.lt
 have HX := Lib.hid hX
 have CM := Lib.hid (gmade_any zX (by omega))
 have CK := fun (Y : World) (hY : Below X.heap.size X Y) => check_any (cap := cap) (hRX.below hY) hn hs r c s
 have CR := Lib.hid (fun (Y : World) (hY : Below X.heap.size X Y) => (by
  have := grows_any (zX.below hY)
  rw [n3] at this
  exact this : Calls Tryz.prog 38 #[.pointer (some ⟨b, 0, none⟩)] Y fun e w' => e = .returned (.int .i64 x.rows) ∧ Below Y.heap.size Y w'))
 have hpi : (x.ph : Int) = 2 := by omega
 have hRl := hRX.len
 obtain ⟨d1, d2, d3⟩ := mayD_pos hd
 have hfit := k.fit hp hd
 obtain ⟨p1, p2, p3, p4, p5, p6, p7, p8, p9⟩ := okF_pos d1
 have e0 : B[0]? = some (nth [] B 0) := by rw [nth_eq _ _ _ (by omega)]; exact List.getElem?_eq_getElem (by omega)
 obtain ⟨b0, off, a2, c2, rfl, hbl, hrow, _⟩ := hRX.at_ 0 _ e0
 rw [Nat.add_zero] at hrow
 have CD := fun (Y : World) (hY : Below X.heap.size X Y) => ddiff_any (c1 := cp) (c2 := cap) (hAX.below hY) (hRX.below hY) (by have := hc2; omega) hn (ok_small h1) hs x.r x.c r c x.s s
 rw [hfit, show errD true = 0 from rfl] at CD
 have CD := Lib.hid CD
 have CKp := Lib.hid (fun (Y : World) (hY : Below X.heap.size X Y) => gkept_any (cap := cap) (hRX.below hY) (by omega) (fun M hM => ⟨okF_ne d1 M hM, by rw [(p9 M hM).1]; omega⟩) r c s)
 obtain ⟨m, hm⟩ : ∃ m, m = (nth [] B 0).length := ⟨_, rfl⟩
 obtain ⟨q, hq⟩ : ∃ q, q = x.rows := ⟨_, rfl⟩
 simp only [← hm] at hrow
 simp only [← hq] at CR
 rw [d1] at CK
 simp only [errF, if_true] at CK
 have CK := Lib.hid CK
 have HE : Hid ((n : Int) = (q : Int)) := Lib.hid (by omega)
 have HW : Hid ((m : Int) = (x.w : Int)) := Lib.hid (by omega)
 have hn0 : 0 < n := by omega
 have HA := Lib.hid hA
 have HNE := Lib.hid (okF_ne d1)
 have HNA := Lib.hid (okF_ne h1)
 have HRL := Lib.hid hRl
 obtain ⟨str, hstr⟩ : ∃ t, t = paintE x.A x.r x.c x.s B r c s false := ⟨_, rfl⟩
 simp only [← hstr] at CD ⊢
 clear hstr hm hq hd hfit p1 p2 p3 p4 p5 p6 p7 p8 p9 e0 d1 d2 d3 h1 h2 h3 hRl hA hAX n1 n2 n3
 have zfX := zf
 obtain ⟨c0, c1, c2', c3, c4, c5, c6, c7⟩ := zX.cells
 rw [hpi] at c7
 go_enter Tryz.func10, Tryz.ntmps10
 go_upto_region 1 with (fail)
 try rw [HX.out]
 go_upto_region 5 with (go_at_call 31; refine CM.out.mono ?_; rintro e X ⟨rfl, rfl⟩)
 clear c0 c1 c2' c3 c4 c5 c6 c7
 ·skip
  refine wp_region_mix2 [(true, 0), (false, 1), (true, 2), (true, 3), (true, 4), (true, 5), (true, 6), (true, 7), (false, 8), (true, 9), (true, 10), (true, 11), (true, 12), (true, 13), (true, 14), (true, 15), (true, 16), (true, 17), (true, 18), (true, 19), (true, 20), (true, 21), (true, 22)] (fun Y => Below X.heap.size X Y) (by kernel_rfl) (by kernel_rfl) (by rfl) (by kernel_rfl) (by kernel_rfl) (fun _ _ d _ _ h => by cases d <;> exact h) ((Below.refl _ _).drew) ?_
  simp only [mixL, List.getElem?_cons_succ, List.getElem?_cons_zero]
  obtain ⟨q0, hq0⟩ : ∃ q, X.drew = q := ⟨_, rfl⟩
  have Bq0 : Below X.heap.size X q0 := by rw [← hq0]; exact (Below.refl _ _).drew
  rw [hq0]
  clear hq0
  iterate 1 (first | (refine wpMix2_skip rfl ?_; try simp only [Act.put, List.setIfInBounds_toArray, List.set_cons_zero, List.set_cons_succ]) | (refine' wpMix2_read (v := _) rfl ?_ ?_; rotate_left 1; (intro w' hw'; obtain ⟨c0, c1, c2, c3, c4, c5, c6, c7⟩ := (zX.below hw').cells; obtain ⟨g0, g1, g2, g3⟩ := (zf.below hw').cells; have gr := (hw'.cell (p := ⟨b0, off, none⟩) hbl).trans hrow; go_simp; try with_reducible rfl); try simp only [Act.put, List.setIfInBounds_toArray, List.set_cons_zero, List.set_cons_succ]))
  refine wpMix2_act (fun K hK => ?_)
  go_wp2_with fail
  refine (CK.out _ Bq0).mono ?_
  rintro e q1 ⟨rfl, hq1⟩
  have Bq1 : Below X.heap.size X q1 := bto Bq0 hq1 Bq0.size
  go_wp2
  refine hK _ _ Bq1 ?_
  clear hK K
  iterate 6 (first | (refine wpMix2_skip rfl ?_; try simp only [Act.put, List.setIfInBounds_toArray, List.set_cons_zero, List.set_cons_succ]) | (refine' wpMix2_read (v := _) rfl ?_ ?_; rotate_left 1; (intro w' hw'; obtain ⟨c0, c1, c2, c3, c4, c5, c6, c7⟩ := (zX.below hw').cells; obtain ⟨g0, g1, g2, g3⟩ := (zf.below hw').cells; have gr := (hw'.cell (p := ⟨b0, off, none⟩) hbl).trans hrow; go_simp; try with_reducible rfl); try simp only [Act.put, List.setIfInBounds_toArray, List.set_cons_zero, List.set_cons_succ]))
  refine wpMix2_act (fun K hK => ?_)
  go_wp2_with fail
  refine (CR.out _ Bq1).mono ?_
  rintro e q2 ⟨rfl, hq2⟩
  have Bq2 : Below X.heap.size X q2 := bto Bq1 hq2 Bq1.size
  go_wp2
  refine hK _ _ Bq2 ?_
  clear hK K
  refine' wpMix2_read (v := (.bool false)) rfl ?_ ?_
  ·intro w' hw'; obtain ⟨c0, c1, c2, c3, c4, c5, c6, c7⟩ := (zX.below hw').cells; obtain ⟨g0, g1, g2, g3⟩ := (zf.below hw').cells; have gr := (hw'.cell (p := ⟨b0, off, none⟩) hbl).trans hrow; go_simp; first | done | exact HE.out | (have := HE.out; omega) | (have := HE.out; simp; omega)
  try simp only [Act.put, List.setIfInBounds_toArray, List.set_cons_zero, List.set_cons_succ]
  iterate 11 (first | (refine wpMix2_skip rfl ?_; try simp only [Act.put, List.setIfInBounds_toArray, List.set_cons_zero, List.set_cons_succ]) | (refine' wpMix2_read (v := _) rfl ?_ ?_; rotate_left 1; (intro w' hw'; obtain ⟨c0, c1, c2, c3, c4, c5, c6, c7⟩ := (zX.below hw').cells; obtain ⟨g0, g1, g2, g3⟩ := (zf.below hw').cells; have gr := (hw'.cell (p := ⟨b0, off, none⟩) hbl).trans hrow; go_simp; try with_reducible rfl); try simp only [Act.put, List.setIfInBounds_toArray, List.set_cons_zero, List.set_cons_succ]))
  refine' wpMix2_read (v := (.bool false)) rfl ?_ ?_
  ·intro w' hw'; obtain ⟨c0, c1, c2, c3, c4, c5, c6, c7⟩ := (zX.below hw').cells; obtain ⟨g0, g1, g2, g3⟩ := (zf.below hw').cells; have gr := (hw'.cell (p := ⟨b0, off, none⟩) hbl).trans hrow; go_simp; first | done | exact HW.out | (have := HW.out; omega) | (have := HW.out; simp; omega)
  try simp only [Act.put, List.setIfInBounds_toArray, List.set_cons_zero, List.set_cons_succ]
  iterate 1 (first | (refine wpMix2_skip rfl ?_; try simp only [Act.put, List.setIfInBounds_toArray, List.set_cons_zero, List.set_cons_succ]) | (refine' wpMix2_read (v := _) rfl ?_ ?_; rotate_left 1; (intro w' hw'; obtain ⟨c0, c1, c2, c3, c4, c5, c6, c7⟩ := (zX.below hw').cells; obtain ⟨g0, g1, g2, g3⟩ := (zf.below hw').cells; have gr := (hw'.cell (p := ⟨b0, off, none⟩) hbl).trans hrow; go_simp; try with_reducible rfl); try simp only [Act.put, List.setIfInBounds_toArray, List.set_cons_zero, List.set_cons_succ]))
  refine wpMix2_nil ?_
  go_wp2_with fail
  have zY := zX.below Bq2
  have zg := zf.below Bq2
  have CD2 := Lib.hid (fun (Y : World) (hY : Below q2.heap.size q2 Y) => CD.out Y (bto Bq2 hY Bq2.size))
  have CD := CD2
  refine wp_region_mix2 [(true, 0), (true, 1), (true, 2), (true, 3), (true, 4), (true, 5), (false, 6), (true, 7), (true, 8), (true, 9), (true, 10), (true, 11)] (fun Y => Below q2.heap.size q2 Y) (by kernel_rfl) (by kernel_rfl) (by rfl) (by kernel_rfl) (by kernel_rfl) (fun _ _ d _ _ h => by cases d <;> exact h) ((Below.refl _ _).drew) ?_
  simp only [mixL, List.getElem?_cons_succ, List.getElem?_cons_zero]
  obtain ⟨y0, hy0⟩ : ∃ q, q2.drew = q := ⟨_, rfl⟩
  have By0 : Below q2.heap.size q2 y0 := by rw [← hy0]; exact (Below.refl _ _).drew
  rw [hy0]
  clear hy0
  iterate 6 (refine' wpMix2_read (v := _) rfl ?_ ?_; rotate_left 1; (intro w' hw'; obtain ⟨c0, c1, c2, c3, c4, c5, c6, c7⟩ := (zY.below hw').cells; obtain ⟨g0, g1, g2, g3⟩ := (zg.below hw').cells; go_simp; try with_reducible rfl); try simp only [Act.put, List.setIfInBounds_toArray, List.set_cons_zero, List.set_cons_succ])
  refine wpMix2_act (fun K hK => ?_)
  go_wp2_with fail
  refine (CD.out _ By0).mono ?_
  rintro e y1 ⟨rfl, hy1⟩
  have By1 : Below q2.heap.size q2 y1 := bto By0 hy1 By0.size
  go_wp2
  refine hK _ _ By1 ?_
  clear hK K
  iterate 5 (refine' wpMix2_read (v := _) rfl ?_ ?_; rotate_left 1; (intro w' hw'; obtain ⟨c0, c1, c2, c3, c4, c5, c6, c7⟩ := (zY.below hw').cells; obtain ⟨g0, g1, g2, g3⟩ := (zg.below hw').cells; go_simp; try with_reducible rfl); try simp only [Act.put, List.setIfInBounds_toArray, List.set_cons_zero, List.set_cons_succ])
  refine wpMix2_nil ?_
  have By := bto Bq2 By1 Bq2.size
  have CK2 := Lib.hid (CKp.out _ By)
  have zg1 := zf.below By
  obtain ⟨g0, g1, g2, g3⟩ := zg1.cells
  go_wp2_with (go_at_call 40; refine CK2.out.mono ?_; rintro e w3 ⟨a5, c5, rfl, hR5, hc5, hb5⟩; have B3 := bto By hb5 By.size; have z3 := zX.below B3; obtain ⟨c0, c1, c2', c3, c4, c5', c6, c7⟩ := z3.cells; have f0 := z3.froz 0; have f1 := z3.froz 1; have f2 := z3.froz 2; have f3 := z3.froz 3)
  go_ret2
  obtain ⟨zW, oW⟩ := z3.fill (.slice a5 B.length c5) r c s _ rfl
  have bW3 := bto bX B3 bX.size
  refine ⟨rfl, (Only.of_below bW3).trans oW, a5, c5, zW, ?_, hc5⟩
  have hBs := By.size
  have h6 := hR5.keep (Y := (((w3.setCell ⟨b, 0, none⟩ (.slice a5 B.length c5)).setCell ⟨b, 1, none⟩ (.int .i64 r)).setCell ⟨b, 2, none⟩ (.int .i64 c)).setCell ⟨b, 3, none⟩ (.bool s)) oW.size (fun g hg hlt => oW.block g hlt (by simp; omega))
  exact h6.mono (fun g hg _ => by omega)
abbrev Ans := List UInt8 × Int × RSt
def drawF (x : RSt) (B : List (List GC)) (r c : Int) (s : Bool) : Ans := if x.ph = 2 then (if mayD x B r c = true then (paintE x.A x.r x.c x.s B r c s false, 0, x.drawn B r c s) else ([], 90, x)) else ([], 110, x)
theorem OkR.size {x : RSt} (k : OkR x) {w h : Nat} (hw : 1 ≤ w ∧ w ≤ 500) (hh : 1 ≤ h ∧ h ≤ 500) : OkR (x.size w h).blank := by
 have hn : 1 ≤ (x.size w h).rows ∧ (x.size w h).rows ≤ 60 := by
  have := k.n
  unfold RSt.rows RSt.size
  dsimp only
  omega
 exact
 { w := hw, h := hh, n := k.n, ph := ⟨(by decide : 1 ≤ 2), (by decide : 2 ≤ 3)⟩
   op := fun _ => ⟨blankM_ok hw hn, by show (blankM w (x.size w h).rows).length = _; unfold blankM; rw [List.length_replicate]; rfl, by show (nth [] (blankM w (x.size w h).rows) 0).length = w; rw [blankM_nth hn.1, List.length_replicate]⟩
   cl := fun h => absurd rfl h }
end Go.Proofs.YtjkajojjehgmdaaGreat
