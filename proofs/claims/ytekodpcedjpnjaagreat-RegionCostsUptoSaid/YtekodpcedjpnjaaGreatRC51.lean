/- The law RegionCosts. No condition but on the lengths of strings. Printed by gen_rn10.py. -/
import Derived.Test.YtekodpcedjpnjaaGreatRC46
import Derived.Test.YtekodpcedjpnjaaGreatRC50
set_option linter.unusedVariables false
set_option linter.unusedSimpArgs false
namespace Go.Proofs.YtekodpcedjpnjaaGreat
open Go.RowKit Go.Shelf Go.Maps
def OpsR (W : World) (a : Option Addr) (len cap : Nat) : Prop :=
  len ≤ cap ∧ cap ≤ maxLen ∧ ∀ i, i < len → ∃ g off kd fa fn fc r c s ow oh la ln lc B L, a = some ⟨g, off, none⟩ ∧ g < W.heap.size ∧ W.rangeAt g (off + i * 8) [.int .u8 kd, .slice fa fn fc, .int .i64 r, .int .i64 c, .bool s, .int .i64 ow, .int .i64 oh, .slice la ln lc] ∧ (0 ≤ kd ∧ kd ≤ 255) ∧ RowsAt W fa fn B ∧ (fn ≤ fc ∧ fc ≤ maxLen) ∧ (∀ M ∈ B, ∀ c ∈ M, c.s.size ≤ 1100000) ∧ StrsAt W la ln L ∧ ln ≤ maxLen ∧ (∀ l ∈ L, l.length ≤ maxLen)
theorem run_load_midG {op : Oper} {a : Act} {w : World} (ty : TypeId) (x : Operand) (ho : op.op = .load ty x) (b o : Nat) (hx : a.eval x = .pointer (some ⟨b, o, none⟩)) (cs : List Value) (d : TypeDesc) (hc : w.rangeAt b o cs)
    (hu : Tryz.prog.underlying ty = some d) (hd : d.isRow = true) (hi : (Tryz.prog.info? ty).map (·.size) = some cs.length) : (execOp a.eval op).run Tryz.prog w = .ok (Next.value (.agg cs.toArray)) w := by
  have hl := run_loadVar_mid (P := Tryz.prog) w b o ty cs d hc hu hd hi
  unfold execOp
  simp only [ho, hx, Sem.run_bind, Sem.run_pure, Result.andThen_ok, Instr.loadAt, Instr.sureAddr, asAddr, hl]
theorem range_only {W X : World} {S : List Nat} {g o : Nat} {cs : List Value} (h : W.rangeAt g o cs) (ho : Only S W X) (hg : g < W.heap.size) (hS : g ∉ S) : X.rangeAt g o cs := fun j v hv => (cell_block (ho.block g hg hS)).trans (h j v hv)
theorem cost_ok {x : RSt} (k : OkR x) (kd w h : Int) (L : List (List UInt8)) (B : List (List GC)) (r c : Int) (s : Bool) (hk : kd % 8 = 0 ∨ kd % 8 = 5) : (doF x kd w h L B r c s).1.length ≤ 60 + (doF x kd w h L B r c s).2.2.rows := by
  have hl1 := fun n : Int => byL_len n 65
  unfold doF
  rcases hk with hk | hk
  · rw [if_pos hk]
    unfold startF
    split
    · show (startB x.rows).length ≤ 60 + x.rows
      unfold startB reserveB belowB usualB seenB pasteB
      have := hl1 ((x.rows : Int) - 1)
      have := k.rows.1
      simp only [List.length_append, List.length_cons, List.length_nil, List.length_replicate]
      omega
    · exact Nat.zero_le _
  · rw [if_neg (by omega), if_pos hk]
    unfold sizeF
    split
    · split
      · show (sizedB x.r.toNat (x.size w.toNat h.toNat).rows).length ≤ 60 + (x.size w.toNat h.toNat).rows
        unfold sizedB reserveB belowB seenB
        have := hl1 (((x.size w.toNat h.toNat).rows : Int) - 1)
        have := hl1 (x.r.toNat : Int)
        simp only [List.length_append, List.length_cons, List.length_nil, List.length_replicate]
        omega
      · exact Nat.zero_le _
    · exact Nat.zero_le _
theorem cost_lines {x : RSt} (k : OkR x) (kd w h : Int) (L : List (List UInt8)) (B : List (List GC)) (r c : Int) (s : Bool) (hk : kd % 8 = 6 ∨ kd % 8 = 7) : (doF x kd w h L B r c s).1.length ≤ 60 + (doF x kd w h L B r c s).2.2.rows + bytesF (doF x kd w h L B r c s).2.2.w (fewL L) + 2 * (fewL L).length := by
  have hl1 := fun n : Int => byL_len n 65
  have hlb := linesB_bytes x.w (fewL L)
  unfold doF
  rcases hk with hk | hk
  · rw [if_neg (by omega), if_neg (by omega), if_pos hk]
    unfold aboveF
    split
    · split
      · show (laidB x.r.toNat ((fewL L).map (clsF x.w)) x.rows).length ≤ 60 + x.rows + bytesF x.w (fewL L) + 2 * (fewL L).length
        unfold laidB reserveB belowB seenB
        have := hl1 ((x.rows : Int) - 1)
        have := hl1 (x.r.toNat : Int)
        simp only [List.length_append, List.length_cons, List.length_nil, List.length_replicate, hlb]
        omega
      · exact Nat.zero_le _
    · exact Nat.zero_le _
  · rw [if_neg (by omega), if_neg (by omega), if_neg (by omega), if_pos hk]
    unfold endF
    split
    · split
      · show (endedB x.r.toNat ((fewL L).map (clsF x.w))).length ≤ 60 + x.rows + bytesF x.w (fewL L) + 2 * (fewL L).length
        unfold endedB belowB seenB pasteB
        have := hl1 (x.r.toNat : Int)
        simp only [List.length_append, List.length_cons, List.length_nil, hlb]
        omega
      · exact Nat.zero_le _
    · exact Nat.zero_le _
set_option maxRecDepth 100000 in
set_option maxHeartbeats 32000000 in
theorem regionCosts_any {W : World} (w h rows : Int) {a : Option Addr} {len cap : Nat} (hO : OpsR W a len cap) :
    Calls Tryz.prog 12 #[.int .i64 w, .int .i64 h, .int .i64 rows, .slice a len cap] W fun e w' => e = .returned (.bool true) ∧ Below W.heap.size W w' := by
  by_cases hd : sideOk w h = true ∧ 1 ≤ rows ∧ rows ≤ 60
  · obtain ⟨hd1, hd2, hd3⟩ := hd
    have hsd : 1 ≤ w ∧ w ≤ 500 ∧ 1 ≤ h ∧ h ≤ 500 := of_decide_eq_true hd1
    obtain ⟨w, rfl⟩ := Int.eq_ofNat_of_zero_le (by omega : 0 ≤ w)
    obtain ⟨h, rfl⟩ := Int.eq_ofNat_of_zero_le (by omega : 0 ≤ h)
    obtain ⟨rows, rfl⟩ := Int.eq_ofNat_of_zero_le (by omega : 0 ≤ rows)
    have CN := Lib.hid (rgnew_ok w h rows hd1 hd2 hd3 W)
    have K0 : OkR ⟨[], 0, 0, false, w, h, rows, 1⟩ := { w := (by show 1 ≤ w ∧ w ≤ 500; omega), h := (by show 1 ≤ h ∧ h ≤ 500; omega), n := (by show 1 ≤ rows ∧ rows ≤ 60; omega), ph := ⟨(by decide : 1 ≤ 1), (by decide : 1 ≤ 3)⟩, op := fun h => absurd h (by decide : ¬ ((1 : Nat) = 2)), cl := fun _ => ⟨rfl, rfl, rfl, rfl⟩ }
    obtain ⟨ho1, ho2, hops⟩ := hO
    have HOPS := Lib.hid hops
    clear hd1 hd2 hd3 hsd hops
    unfold maxLen at ho2
    go_enter Tryz.func12, Tryz.ntmps12
    go_upto_region 4 with (go_at_call 59; refine CN.out.mono ?_; rintro e X ⟨p, rfl, z0, hp, hbX⟩)
    have i0 : RgI X p ⟨[], 0, 0, false, w, h, rows, 1⟩ := ⟨none, 0, z0, ⟨rfl, fun i M h => by simp at h⟩, Nat.le_refl _, by unfold maxLen; omega⟩
    have hpX := z0.lt
    go_wp2
    go_loopw [11] (fun iv wr => ∃ (j : Nat) (x : RSt), j ≤ len ∧ j ≤ 30 ∧ iv = .int .i64 j ∧ RgI wr p x ∧ OkR x ∧ Only [p] X wr) (fun iv _ => 30 - (intOf iv).toNat)
    case atStart => exact ⟨0, _, Nat.zero_le _, Nat.zero_le _, rfl, i0, K0, Only.refl _ _⟩
    case round =>
      obtain ⟨j, x, hj, hj30, rfl, ix, kx, ob⟩ := hrel
      have obs := ob.size
      have hbW : Below W.heap.size W wr := hbX.trans (ob.below (by simp; omega) hbX.size)
      by_cases hlt : j < len ∧ j < 30
      · obtain ⟨hlt, hlt30⟩ := hlt
        have hji : (j : Int) < (len : Int) := by omega
        have hj3 : (j : Int) < 30 := by omega
        obtain ⟨g, off, kd, fa, fn, fc, r, c, s, ow, oh, la, ln, lc, B, L, rfl, hg, hro, hkd, hB, ⟨hfc1, hfc2⟩, hsB, hL, hln, hlL⟩ := HOPS.out j hlt
        have hgp : g ≠ p := by omega
        have hro1 : wr.rangeAt g (off + j * 8) [.int .u8 kd, .slice fa fn fc, .int .i64 r, .int .i64 c, .bool s, .int .i64 ow, .int .i64 oh, .slice la ln lc] := fun i v hv => (hbW.cell (p := ⟨g, _, none⟩) hg).trans (hro i v hv)
        have hr4 : wr.rangeAt g (off + j * 8 + 1) [.slice fa fn fc, .int .i64 r, .int .i64 c, .bool s] := fun i v hv => by
          have := hro1 (i + 1) v (by rcases i with _ | _ | _ | _ | i <;> first | exact hv | (simp at hv))
          rw [show off + j * 8 + 1 + i = off + j * 8 + (i + 1) by omega]
          exact this
        have CF := Lib.hid (frame11_any (hB.below hbW) hfc1 hfc2 r c s)
        have HOPSL : ∀ i l, L[i]? = some l → ∃ g2 o2, la = some ⟨g2, o2, none⟩ ∧ g2 < W.heap.size ∧ W.cell? ⟨g2, o2 + i, none⟩ = some (.string (S l)) := hL.at_
        have HOX : ∀ i l, L[i]? = some l → ∃ g2 o2, la = some ⟨g2, o2, none⟩ ∧ g2 < W.heap.size ∧ X.cell? ⟨g2, o2 + i, none⟩ = some (.string (S l)) := fun i l hi => by
          obtain ⟨g2, o2, e1, e2, e3⟩ := HOPSL i l hi
          exact ⟨g2, o2, e1, e2, (hbX.cell (p := ⟨g2, o2 + i, none⟩) e2).trans e3⟩
        have hgw : g < wr.heap.size := Nat.lt_of_lt_of_le hg hbW.size
        have HR1 := Lib.hid hro1
        clear hro hro1
        go_upto_region 8 with (first
          | (refine wpList_load_mid rfl _ _ rfl g _ rfl [.slice fa fn fc, .int .i64 r, .int .i64 c, .bool s] _ hr4 Tryz.underlying52 rfl (by kernel_rfl) ?_)
          | (go_at_call 63; refine CF.out.mono ?_; rintro e w1 ⟨a1, c1, rfl, hR1, hc1, hb1⟩; have zb : FBI (w1.alloc (.cells #[.slice none 0 0, .int .i64 0, .int .i64 0, .bool false] 52)) w1.heap.size (.slice none 0 0) 0 0 false := World.alloc_heap_new w1 _; obtain ⟨u0, u1, u2, u3⟩ := zb.cells; have f0 := zb.froz 0; have f1 := zb.froz 1; have f2 := zb.froz 2; have f3 := zb.froz 3))
        obtain ⟨Y, hY⟩ : ∃ Y, w1.alloc (.cells #[.slice a1 (frG B).length c1, .int .i64 r, .int .i64 c, .bool s] 52) = Y := ⟨_, rfl⟩
        have zY : FBI Y w1.heap.size (.slice a1 (frG B).length c1) r c s := by rw [← hY]; exact World.alloc_heap_new w1 _
        have bY : Below w1.heap.size w1 Y := by rw [← hY]; exact (Below.refl _ _).alloc (Nat.le_refl _) _
        rw [hY]
        have bwY := bto hb1 bY hb1.size
        have hgY : g < Y.heap.size := Nat.lt_of_lt_of_le hgw bwY.size
        have hbxp : w1.heap.size ≠ p := by have := hb1.size; omega
        have hrY : Y.rangeAt g (off + j * 8) [.int .u8 kd, .slice fa fn fc, .int .i64 r, .int .i64 c, .bool s, .int .i64 ow, .int .i64 oh, .slice la ln lc] := range_only HR1.out (Only.of_below (S := []) bwY) hgw (by simp)
        have CD := Lib.hid (fun (Z : World) (hZ : Below Y.heap.size Y Z) => do11_any (cap := c1) ((ix.below bwY).below hZ) kx kd hkd (.slice fa fn fc) r c s ow oh (lc := lc) (((hL.below hbW).below bwY).below hZ) hln hlL (((hR1.at).below bY).below hZ) (by have := frG_len B; unfold maxLen; omega) (fun M hM c hc => by
          unfold frG at hM
          obtain ⟨N, hN, rfl⟩ := List.mem_map.1 hM
          exact hsB N (List.mem_of_mem_take hN) c (List.mem_of_mem_take hc)) r c s)
        have HC1 := Lib.hid (fun hk => cost_ok kx kd ow oh L (frG B) r c s hk)
        have HC2 := Lib.hid (fun hk => cost_lines kx kd ow oh L (frG B) r c s hk)
        obtain ⟨y, hy⟩ : ∃ y, y = doF x kd ow oh L (frG B) r c s := ⟨_, rfl⟩
        simp only [← hy] at CD HC1 HC2
        have HLY := Lib.hid ((hL.below hbW).below bwY)
        clear hy hY hr4 hB hsB hL hR1 hb1 u0 u1 u2 u3 f0 f1 f2 f3 zb
        · skip
          refine wp_region_mix2 [(true, 0), (true, 1), (true, 2), (true, 3), (true, 4), (true, 5), (false, 6), (true, 7), (true, 8), (true, 9), (true, 10), (true, 11)] (fun Z => Only [p] Y Z) (by kernel_rfl) (by kernel_rfl) (by rfl) (by kernel_rfl) (by kernel_rfl) (fun _ _ d _ _ h => by cases d <;> exact h) (Only.of_below ((Below.refl _ _).drew)) ?_
          simp only [mixL, List.getElem?_cons_succ, List.getElem?_cons_zero]
          obtain ⟨q0, hq0⟩ : ∃ q, Y.drew = q := ⟨_, rfl⟩
          have Bq0 : Below Y.heap.size Y q0 := by rw [← hq0]; exact (Below.refl _ _).drew
          rw [hq0]
          clear hq0
          refine' wpMix2_read (v := _) rfl ?_ ?_
          rotate_left 1
          · intro w' hw'; go_simp; try with_reducible rfl
          try simp only [Act.put, List.setIfInBounds_toArray, List.set_cons_zero, List.set_cons_succ]
          refine' wpMix2_read (v := _) rfl ?_ ?_
          rotate_left 1
          · intro w' hw'; go_simp; try with_reducible rfl
          try simp only [Act.put, List.setIfInBounds_toArray, List.set_cons_zero, List.set_cons_succ]
          refine' wpMix2_read (v := _) rfl ?_ ?_
          rotate_left 1
          · intro w' hw'; go_simp; try with_reducible rfl
          try simp only [Act.put, List.setIfInBounds_toArray, List.set_cons_zero, List.set_cons_succ]
          refine' wpMix2_read (v := _) rfl ?_ ?_
          rotate_left 1
          · intro w' hw'; go_simp; try with_reducible rfl
          try simp only [Act.put, List.setIfInBounds_toArray, List.set_cons_zero, List.set_cons_succ]
          refine' wpMix2_read (v := .agg #[.int .u8 kd, .slice fa fn fc, .int .i64 r, .int .i64 c, .bool s, .int .i64 ow, .int .i64 oh, .slice la ln lc]) rfl ?_ ?_
          · intro w' hw'; exact run_load_midG 118 _ rfl g _ rfl [.int .u8 kd, .slice fa fn fc, .int .i64 r, .int .i64 c, .bool s, .int .i64 ow, .int .i64 oh, .slice la ln lc] _ (range_only hrY hw' hgY (by simpa using hgp)) Tryz.underlying118 rfl (by kernel_rfl)
          try simp only [Act.put, List.setIfInBounds_toArray, List.set_cons_zero, List.set_cons_succ]
          refine' wpMix2_read (v := .agg #[.slice a1 (frG B).length c1, .int .i64 r, .int .i64 c, .bool s]) rfl ?_ ?_
          · intro w' hw'; obtain ⟨u0, u1, u2, u3⟩ := (show FBI w' w1.heap.size (.slice a1 (frG B).length c1) r c s from hw'.heap zY (by simpa using hbxp)).cells; go_simp; try with_reducible rfl
          try simp only [Act.put, List.setIfInBounds_toArray, List.set_cons_zero, List.set_cons_succ]
          refine wpMix2_act (fun K hK => ?_)
          go_wp2_with fail
          refine (CD.out _ Bq0).mono ?_
          rintro e q1 ⟨rfl, oq1, iq1, kq1⟩
          have Oq1 : Only [p] Y q1 := (Only.of_below Bq0).trans oq1
          go_wp2
          refine hK _ _ Oq1 ?_
          clear hK K CD
          refine' wpMix2_read (v := _) rfl ?_ ?_
          rotate_left 1
          · intro w' hw'; go_simp; try with_reducible rfl
          try simp only [Act.put, List.setIfInBounds_toArray, List.set_cons_zero, List.set_cons_succ]
          refine' wpMix2_read (v := _) rfl ?_ ?_
          rotate_left 1
          · intro w' hw'; go_simp; try with_reducible rfl
          try simp only [Act.put, List.setIfInBounds_toArray, List.set_cons_zero, List.set_cons_succ]
          refine' wpMix2_read (v := _) rfl ?_ ?_
          rotate_left 1
          · intro w' hw'; go_simp; try with_reducible rfl
          try simp only [Act.put, List.setIfInBounds_toArray, List.set_cons_zero, List.set_cons_succ]
          refine' wpMix2_read (v := _) rfl ?_ ?_
          rotate_left 1
          · intro w' hw'; go_simp; try with_reducible rfl
          try simp only [Act.put, List.setIfInBounds_toArray, List.set_cons_zero, List.set_cons_succ]
          refine' wpMix2_read (v := _) rfl ?_ ?_
          rotate_left 1
          · intro w' hw'; go_simp; try with_reducible rfl
          try simp only [Act.put, List.setIfInBounds_toArray, List.set_cons_zero, List.set_cons_succ]
          refine wpMix2_nil ?_
          obtain ⟨avq, cpq, zq, _⟩ := id iq1
          have hphq := kq1.ph
          have hrq := kq1.rows
          have CSz := gSize_any zq (by omega)
          rw [hrq.2.2] at CSz
          have hwd := kq1.w
          obtain ⟨nn, hnn⟩ : ∃ n, n = y.2.2.rows := ⟨_, rfl⟩
          obtain ⟨wd, hwdd⟩ : ∃ n, n = y.2.2.w := ⟨_, rfl⟩
          obtain ⟨str, hstr⟩ : ∃ t, t = y.1 := ⟨_, rfl⟩
          obtain ⟨sl, hsl⟩ : ∃ n, n = y.1.length := ⟨_, rfl⟩
          have hsz : (S str).size = sl := by rw [S_size, hstr, hsl]
          obtain ⟨bt, hbt⟩ : ∃ n, n = bytesF y.2.2.w (fewL L) := ⟨_, rfl⟩
          obtain ⟨ll, hll⟩ : ∃ n, n = (fewL L).length := ⟨_, rfl⟩
          have hbtl : bt ≤ 2000000 := by
            have h1 := bytesF_le y.2.2.w hwd.2 (fewL L)
            have h2 := fewL_len L
            omega
          have hlll : ll ≤ 62 := by have h2 := fewL_len L; omega
          have hnn60 : nn ≤ 60 := by omega
          rw [← hnn, ← hwdd] at CSz
          rw [← hwdd] at hwd
          have oqw : Only [p] X q1 := ob.trans ((Only.of_below bwY).trans Oq1)
          have hrq1 : q1.rangeAt g (off + j * 8) [.int .u8 kd, .slice fa fn fc, .int .i64 r, .int .i64 c, .bool s, .int .i64 ow, .int .i64 oh, .slice la ln lc] := range_only hrY Oq1 hgY (by simpa using hgp)
          have HC1' : Hid (kd % 8 = 0 ∨ kd % 8 = 5 → sl ≤ 60 + nn) := Lib.hid (fun hk => by have := HC1.out hk; rw [hsl, hnn]; exact this)
          have HC2' : Hid (kd % 8 = 6 ∨ kd % 8 = 7 → sl ≤ 60 + nn + bt + 2 * ll) := Lib.hid (fun hk => by have := HC2.out hk; rw [hsl, hnn, hbt, hll]; exact this)
          have hLq : StrsAt q1 la ln L := ⟨HLY.out.len, fun i l hi => by
            obtain ⟨g2, o2, e1, e2, e3⟩ := HOX i l hi
            have e4 := hbX.size
            have e5 := oqw.size
            exact ⟨g2, o2, e1, by omega, (cell_block (oqw.block g2 (by omega) (by simp; omega))).trans e3⟩⟩
          have CSz := Lib.hid CSz
          have CFw := fun (Z : World) (hZ : Below q1.heap.size q1 Z) => few11_any (cap := lc) (hLq.below hZ) hln hlL
          unfold FewP at CFw
          simp only [← hll] at CFw
          have CFw := Lib.hid CFw
          have hgq1 : g < q1.heap.size := Nat.lt_of_lt_of_le hgY Oq1.size
          have r7 := hrq1 7 _ rfl
          have r0 : q1.cell? ⟨g, off + j * 8, none⟩ = some (.int .u8 kd) := hrq1 0 _ rfl
          have HIQ := Lib.hid iq1
          have hc : kd % 8 = 0 ∨ kd % 8 = 5 ∨ kd % 8 = 6 ∨ kd % 8 = 7 ∨ (¬ kd % 8 = 0 ∧ ¬ kd % 8 = 5 ∧ ¬ kd % 8 = 6 ∧ ¬ kd % 8 = 7) := by omega
          have hst : y.1 = str := hstr.symm
          rw [hst]
          have HHS := Lib.hid hsl
          have HLL := Lib.hid hll
          have HBT := Lib.hid hbt
          have HWD := Lib.hid hwdd
          clear hst hstr hsl hll hbt hwdd hnn HC1 HC2 HOPSL HOX hLq hrq1
          go_upto_region 11 with (first
            | (go_at_call 73; refine CSz.out.mono ?_; rintro e q2 ⟨rfl, hb2⟩; have o7 := (hb2.cell (p := ⟨g, off + j * 8 + 7, none⟩) hgq1).trans r7)
            | (go_at_call 69; refine (CFw.out _ hb2).mono ?_; rintro e w3 ⟨av3, cv3, rfl, hL3, hb3⟩))
          have B3 := bto hb2 hb3 hb2.size
          have o0 : w3.cell? ⟨g, off + j * 8, none⟩ = some (.int .u8 kd) := (B3.cell (p := ⟨g, off + j * 8, none⟩) hgq1).trans r0
          clear r7 r0 o7 CSz CFw
          rcases hc with hk | hk | hk | hk | ⟨h0, h5, h6, h7⟩
          · skip
            have CB := bytes11_any (W := w3) (cap := 0) (StrsAt.nil w3 none) (by omega) (fun l h => by cases h) wd hwd.2
            rw [show bytesF wd [] = 0 from rfl] at CB
            have CB := Lib.hid CB
            have hle := HC1'.out (by omega)
            have hni : ¬ (60 + (nn : Int) < (sl : Int)) := by omega
            go_wp2_with (go_at_call 74; refine CB.out.mono ?_; rintro e w4 ⟨rfl, hb4⟩)
            go_roundw
            case rel => exact ⟨j + 1, y.2.2, hlt, hlt30, by go_num, (iq1.below B3).below (by have := bto (Below.refl w3.heap.size w3) hb4 (Nat.le_refl _); exact this), kq1, oqw.trans ((Only.of_below B3).trans (Only.of_below hb4))⟩
            case measure => simp [intOf]; omega
          · skip
            have CB := bytes11_any (W := w3) (cap := 0) (StrsAt.nil w3 none) (by omega) (fun l h => by cases h) wd hwd.2
            rw [show bytesF wd [] = 0 from rfl] at CB
            have CB := Lib.hid CB
            have hle := HC1'.out (by omega)
            have hni : ¬ (60 + (nn : Int) < (sl : Int)) := by omega
            go_wp2_with (go_at_call 74; refine CB.out.mono ?_; rintro e w4 ⟨rfl, hb4⟩)
            go_roundw
            case rel => exact ⟨j + 1, y.2.2, hlt, hlt30, by go_num, (iq1.below B3).below (by have := bto (Below.refl w3.heap.size w3) hb4 (Nat.le_refl _); exact this), kq1, oqw.trans ((Only.of_below B3).trans (Only.of_below hb4))⟩
            case measure => simp [intOf]; omega
          · skip
            have CB := bytes11_any (W := w3) (cap := cv3) hL3 (by omega) (fun l hl => Nat.le_trans (fewL_short L l hl) (by omega)) wd hwd.2
            rw [show bytesF wd (fewL L) = bt by rw [HWD.out, HBT.out]] at CB
            have CB := Lib.hid CB
            have hle := HC2'.out (by omega)
            have hni : ¬ (60 + (nn : Int) + (bt : Int) + 2 * (ll : Int) < (sl : Int)) := by omega
            go_wp2_with (go_at_call 74; refine CB.out.mono ?_; rintro e w4 ⟨rfl, hb4⟩)
            go_roundw
            case rel => exact ⟨j + 1, y.2.2, hlt, hlt30, by go_num, (iq1.below B3).below (by have := bto (Below.refl w3.heap.size w3) hb4 (Nat.le_refl _); exact this), kq1, oqw.trans ((Only.of_below B3).trans (Only.of_below hb4))⟩
            case measure => simp [intOf]; omega
          · skip
            have CB := bytes11_any (W := w3) (cap := cv3) hL3 (by omega) (fun l hl => Nat.le_trans (fewL_short L l hl) (by omega)) wd hwd.2
            rw [show bytesF wd (fewL L) = bt by rw [HWD.out, HBT.out]] at CB
            have CB := Lib.hid CB
            have hle := HC2'.out (by omega)
            have hni : ¬ (60 + (nn : Int) + (bt : Int) + 2 * (ll : Int) < (sl : Int)) := by omega
            go_wp2_with (go_at_call 74; refine CB.out.mono ?_; rintro e w4 ⟨rfl, hb4⟩)
            go_roundw
            case rel => exact ⟨j + 1, y.2.2, hlt, hlt30, by go_num, (iq1.below B3).below (by have := bto (Below.refl w3.heap.size w3) hb4 (Nat.le_refl _); exact this), kq1, oqw.trans ((Only.of_below B3).trans (Only.of_below hb4))⟩
            case measure => simp [intOf]; omega
          · have f0 : (kd % 8 == 0) = false := by simpa using h0
            have f5 : (kd % 8 == 5) = false := by simpa using h5
            have f6 : (kd % 8 == 6) = false := by simpa using h6
            have f7 : (kd % 8 == 7) = false := by simpa using h7
            go_wp2
            go_roundw
            case rel => exact ⟨j + 1, y.2.2, hlt, hlt30, by go_num, iq1.below B3, kq1, oqw.trans (Only.of_below B3)⟩
            case measure => simp [intOf]; omega
      · have hor : (j : Int) = (len : Int) ∨ ((j : Int) < (len : Int) ∧ ¬ ((j : Int) < 30)) := by omega
        rcases hor with h1 | ⟨h1, h2⟩
        · have hni : ¬ ((j : Int) < (len : Int)) := by omega
          clear h1 hlt
          go_wp2_with (go_at_call 68; refine (awake11_any _).mono ?_; rintro e w8 ⟨rfl, hb8⟩)
          go_ret
          exact ⟨rfl, bto hbW hb8 hbW.size⟩
        · clear hlt hj30
          go_wp2_with (go_at_call 68; refine (awake11_any _).mono ?_; rintro e w8 ⟨rfl, hb8⟩)
          go_ret
          exact ⟨rfl, bto hbW hb8 hbW.size⟩
  · have CN := Lib.hid (rgnew_bad w h rows hd W)
    clear hd hO
    go_enter Tryz.func12, Tryz.ntmps12
    go_wp2_with (first
      | (go_at_call 59; refine CN.out.mono ?_; rintro e X ⟨rfl, rfl⟩)
      | (go_at_call 68; refine (awake11_any _).mono ?_; rintro e w8 ⟨rfl, hb8⟩))
    go_ret
    exact ⟨rfl, hb8⟩
end Go.Proofs.YtekodpcedjpnjaaGreat
