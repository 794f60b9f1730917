/- The reference's terminal: style, numbers. No condition. The reference's terminal: erase, erased. No condition. The reference's terminal: plain. No condition. The reference's terminal: plain, styles; plain whole. No condition. -/
import Derived.Test.YtjkajojjehgmdaaGreatRE04
import Derived.Test.YtjkajojjehgmdaaGreatRE33
import Derived.Test.YtjkajojjehgmdaaGreatRE34
set_option linter.unusedVariables false
set_option linter.unusedSimpArgs false
namespace Go.Proofs.YtjkajojjehgmdaaGreat
open Go.RowKit Go.Shelf Go.Maps
set_option maxRecDepth 100000 in
set_option maxHeartbeats 4000000 in
theorem rstyle_raw (b u i : Bool) (f g : Int) (n : Nat) (w : World) : Calls Tryz.prog 157 #[.agg #[.bool b, .bool u, .bool i, .int .i64 f, .int .i64 g], .int .i64 n] w fun e w' => e = .returned (styT ⟨b, u, i, f, g⟩ n).v ∧ Below w.heap.size w w' := by
 obtain ⟨m, hm⟩ : ∃ m : Int, m = (n : Int) := ⟨_, rfl⟩
 rw [← hm]
 have HM := Lib.hid hm
 have h0 : 0 ≤ m := by omega
 clear hm
 go_enter Tryz.func157, Tryz.ntmps157
 go_wp2
 all_goals
  (try simp only [Exit.inBlock, Exit.then])
  refine bodyPost_ret (results_cell_row rfl _ _ (w.heap.size + 1) 32 _ (0, 0) _ rfl (heap_alloc2_new w _ _) Tryz.underlying32 rfl (by kernel_rfl)) rfl ?_
  refine ⟨congrArg Ending.returned ?_, ((Below.refl _ _).alloc (Nat.le_refl _) _).alloc (by simp) _⟩
  have hm := HM.out
  simp only [beq_iff_eq, beq_eq_false_iff_ne, ne_eq] at *
  unfold styT
  repeat (first | rw [if_pos (by omega)] | rw [if_neg (by omega)])
  first
   | rfl
   | (subst hm; rfl)
   | (have e : n = 1 := by omega
      subst e; subst hm; rfl)
   | (have e : n = 22 := by omega
      subst e; subst hm; rfl)
   | (have e : n = 4 := by omega
      subst e; subst hm; rfl)
   | (have e : n = 24 := by omega
      subst e; subst hm; rfl)
   | (have e : n = 7 := by omega
      subst e; subst hm; rfl)
   | (have e : n = 27 := by omega
      subst e; subst hm; rfl)
theorem rstyle_any (y : Sy) (n : Nat) (w : World) : Calls Tryz.prog 157 #[.agg #[.bool y.b, .bool y.u, .bool y.i, .int .i64 y.f, .int .i64 y.g], .int .i64 n] w fun e w' => e = .returned (.agg #[.bool (styT y n).b, .bool (styT y n).u, .bool (styT y n).i, .int .i64 (styT y n).f, .int .i64 (styT y n).g]) ∧ Below w.heap.size w w' := rstyle_raw y.b y.u y.i y.f y.g n w
def intV (l : List Nat) : List Value := l.map fun (n : Nat) => Value.int .i64 (n : Int)
theorem intV_app (a b : List Nat) : intV (a ++ b) = intV a ++ intV b := by simp [intV]
theorem intV_len (l : List Nat) : (intV l).length = l.length := by simp [intV]
theorem intV_one (l : List Nat) : ∀ v ∈ intV l, v.oneCell' = true := fun v hv => by
 obtain ⟨x, _, rfl⟩ := List.mem_map.1 hv
 rfl
theorem own_set1 {W : World} {n₀ : Nat} {e : TypeId} {g n c : Nat} {xs : List Value} (h : W.ownsRow n₀ e 1 (.slice (some ⟨g, 0, none⟩) n c) n xs) (k : Nat) (hk : k < n) (v : Value) : (W.setCell ⟨g, k, none⟩ v).ownsRow n₀ e 1 (.slice (some ⟨g, 0, none⟩) n c) n (xs.set k v) := by
 rcases h with ⟨hl, ⟨h1, _⟩ | ⟨g', cap, cur, h1, hg, hc, h2, h3, h4, h5⟩⟩
 ·cases h1
 ·simp only [Value.slice.injEq, Option.some.injEq, Addr.mk.injEq, true_and, and_true] at h1
  obtain ⟨rfl, rfl⟩ := h1
  refine ⟨by rw [List.length_set]; exact hl, .inr ⟨g, c, cur.setIfInBounds k v, rfl, hg, set_at hc k v, h2, h3, by simpa using h4, ?_⟩⟩
  rw [Array.toList_setIfInBounds, List.take_set, h5]
theorem own_cell1 {W : World} {n₀ : Nat} {e : TypeId} {g n c : Nat} {xs : List Value} (h : W.ownsRow n₀ e 1 (.slice (some ⟨g, 0, none⟩) n c) n xs) (k : Nat) (hk : k < n) : W.cell? ⟨g, k, none⟩ = some (nth undef xs k) ∧ W.frozen? ⟨g, k, none⟩ = false := by
 have hr := (own_row_at h).1 k (by have := h.1; omega)
 obtain ⟨b, off, e1, _, hc⟩ := hr
 simp only [Option.some.injEq, Addr.mk.injEq] at e1
 obtain ⟨rfl, rfl, _⟩ := e1
 rw [Nat.zero_add] at hc
 refine ⟨hc, ?_⟩
 obtain ⟨_, cur, hcc⟩ := own_cells h g rfl
 simp [World.frozen?, hcc]
theorem infoIntT : (Tryz.prog.info? 3).map (fun i => (i.zero, i.size, i.bytes)) = some (some (.int .i64 0), 1, 8) := by kernel_rfl
def NumPost (L : List Nat) (W : World) (e : Ending) (w' : World) : Prop := ∃ a c, e = .returned (.tuple #[.slice a L.length c, .bool true]) ∧ w'.ownsRow W.heap.size 3 1 (.slice a L.length c) L.length (intV L) ∧ Below W.heap.size W w'
theorem nums_len : ∀ (l : List UInt8) (a : Nat), (numsT a l).length ≤ l.length + 1
 | [], a => by simp [numsT]
 | c :: l, a => by
  unfold numsT
  split
  ·have := nums_len l 0; simp; omega
  ·have := nums_len l (min 9999 (10 * a + (c.toNat - 48))); simp; omega
def NumPost2 (l : List UInt8) (W : World) (e : Ending) (w' : World) : Prop := (plainB l = true ∧ NumPost (numsT 0 l) W e w') ∨ (plainB l = false ∧ e = .returned (.tuple #[.slice none 0 0, .bool false]) ∧ Below W.heap.size W w')
set_option maxRecDepth 100000 in
set_option maxHeartbeats 8000000 in
theorem rnumbers_any {W : World} {g off n cap : Nat} {l : List UInt8} (hB : Bys W g off l) (hn : l.length = n) (hn2 : n ≤ 1000000) :
    Calls Tryz.prog 115 #[.slice (some ⟨g, off, none⟩) n cap] W (NumPost2 l W) := by
 unfold NumPost2
 obtain ⟨PB, hPB⟩ : ∃ PB, PB = plainB l := ⟨_, rfl⟩
 rw [← hPB]
 have HPB0 : Hid (PB = plainB (l.drop 0)) := Lib.hid hPB
 clear hPB
 obtain ⟨i0, hi, hz0, hz1, hz2⟩ := info_parts infoIntT
 have HN := Lib.hid hn
 have HP := Lib.hid (fun k (hk : k < l.length) => (plainB_drop l k hk).trans (by rw [okPl_nat]))
 have HA := Lib.hid (fun k a (hk : k < l.length) => nums_at l k a hk)
 have hNL := nums_len l 0
 obtain ⟨NL, hNLe⟩ : ∃ NL, NL = numsT 0 l := ⟨_, rfl⟩
 rw [← hNLe] at hNL ⊢
 have HNL : Hid (NL = [] ++ numsT 0 (l.drop 0)) := Lib.hid hNLe
 have hB2 : Below W.heap.size W (W.alloc (.cells #[.int .i64 0] 3)) := (Below.refl _ _).alloc (Nat.le_refl _) _
 have hO : (W.alloc (.cells #[.int .i64 0] 3)).ownsRow W.heap.size 3 1 (.slice (some ⟨W.heap.size, 0, none⟩) 1 1) 1 (intV ([] ++ [0])) :=
  ⟨rfl, .inr ⟨W.heap.size, 1, _, rfl, Nat.le_refl _, World.alloc_heap_new W _, Nat.le_refl _, by unfold maxLen; omega, rfl, rfl⟩⟩
 have hgl := hB.lt
 clear hn hNLe
 go_enter Tryz.func115, Tryz.ntmps115
 go_wp2
 go_loopw [4, 5] (fun v i wr => ∃ (k m : Nat) (D : List Nat) (acc : Nat) (g' c' : Nat), k ≤ n ∧ i = .int .i64 k ∧ v = .slice (some ⟨g', 0, none⟩) m c' ∧ m ≤ k + 1 ∧ 1 ≤ m ∧ acc ≤ 9999 ∧ Hid (m = D.length + 1) ∧ Hid (NL = D ++ numsT acc (l.drop k)) ∧ Hid (PB = plainB (l.drop k)) ∧ wr.ownsRow W.heap.size 3 1 (.slice (some ⟨g', 0, none⟩) m c') m (intV (D ++ [acc])) ∧ Below W.heap.size W wr)
  (fun _ i _ => n - (intOf i).toNat)
 case atStart => exact ⟨0, 1, [], 0, W.heap.size, 1, Nat.zero_le _, rfl, rfl, by omega, by omega, by omega, Lib.hid rfl, HNL, HPB0, hO, hB2⟩
 case round =>
  obtain ⟨k, m, D, acc, g', c', hk, rfl, rfl, hm1, hm2, hacc, HM, HF, HPB, hown, hb⟩ := hrel
  clear hO hB2
  have hOWN := Lib.hid hown
  obtain ⟨_, _, hcm⟩ := own_row_at hown
  have hgc := own_cells hown g' rfl
  have hg0 : W.heap.size ≤ g' := hgc.1
  unfold maxLen at hcm
  by_cases hlt : k < n
  ·have hlt2 : k < l.length := by rw [HN.out]; exact hlt
   have hcc := (hB.below hb).at_ k hlt2
   have hpa := HP.out k hlt2
   have hna := HA.out k acc hlt2
   obtain ⟨x, hx⟩ : ∃ x, x = (nth 0 l k).toNat := ⟨_, rfl⟩
   rw [← hx] at hcc hpa hna
   have hx256 : x < 256 := by rw [hx]; exact (nth 0 l k).toNat_lt
   clear hx hlt2
   have hne : ¬ g = g' := by omega
   by_cases h59 : x = 59
   ·rw [if_pos h59] at hna
    have hne59 : ((x : Int) == 59) = true := by simp; omega
    have HF2 : Hid (NL = (D ++ [acc]) ++ numsT 0 (l.drop (k + 1))) := Lib.hid (by rw [HF.out, hna]; simp)
    have HPB2 : Hid (PB = plainB (l.drop (k + 1))) := Lib.hid (by rw [HPB.out, hpa]; simp [h59])
    clear h59 hpa hna hown hgc
    go_wp2_with (at_builtin; refine wpList_append_own_at _ rfl _ _ 180 rfl W.heap.size 3 i0 (.int .i64 0) 1 8 Tryz.underlying180 hi hz0 hz1 hz2 rfl (by decide) _ _ _ rfl (hOWN.out.alloc _) ⟨wr.heap.size, 0, none⟩ 1 1 (intV [0]) rfl rfl (fun j u hj => by match j, hj with | 0, hj => simp [intV] at hj; subst hj; exact (cell_new_l wr _ _).1) (intV_one _) (by unfold maxLen; omega) (by omega) (by have := hb.size; simp; omega) ?_; intro v' w1 hown' hgrow _ _; rw [← intV_app] at hown'; obtain ⟨g2, c2, hv2⟩ := own_ne hown' (by omega); subst hv2)
    have hB1 : Below W.heap.size W w1 := (hb.alloc hb.size _).grown hgrow (by have := hb.size; simp; omega) (fun j e => by cases e; exact hg0)
    have HO1 := Lib.hid hown'
    clear hown' hgrow
    go_roundw
    case rel => exact ⟨k + 1, m + 1, D ++ [acc], 0, g2, c2, hlt, by go_num, rfl, by omega, by omega, by omega, Lib.hid (by rw [HM.out]; simp), HF2, HPB2, HO1.out, hB1⟩
    case measure => simp [intOf]; omega
   by_cases h48' : 48 ≤ x ∧ x ≤ 57
   ·rw [if_neg h59] at hna
    have hne59 : ((x : Int) == 59) = false := by simp; omega
    have h48 : 48 ≤ (x : Int) ∧ (x : Int) ≤ 57 := by omega
    have HPB2 : Hid (PB = plainB (l.drop (k + 1))) := Lib.hid (by rw [HPB.out, hpa]; simp [h48'.1, h48'.2])
    have HF2 : Hid (NL = D ++ numsT (min 9999 (10 * acc + (x - 48))) (l.drop (k + 1))) := Lib.hid (by rw [HF.out, hna])
    have hcell := own_cell1 hown (m - 1) (by omega)
    have hnth : nth undef (intV (D ++ [acc])) (m - 1) = .int .i64 (acc : Int) := by
     rw [show m - 1 = D.length by have := HM.out; omega, intV_app]
     unfold nth
     rw [List.getD_eq_getElem?_getD, List.getElem?_append_right (by rw [intV_len]; exact Nat.le_refl _), intV_len, Nat.sub_self]
     rfl
    rw [hnth] at hcell
    obtain ⟨hcell, hfro⟩ := hcell
    have hm1m : m - 1 < m := by omega
    have hset := own_set1 hown (m - 1) (by omega) (.int .i64 ((min 9999 (10 * acc + (x - 48)) : Nat) : Int))
    have hse : (intV (D ++ [acc])).set (m - 1) (.int .i64 ((min 9999 (10 * acc + (x - 48)) : Nat) : Int)) = intV (D ++ [min 9999 (10 * acc + (x - 48))]) := by
     rw [show m - 1 = D.length by have := HM.out; omega, intV_app, intV_app, List.set_append_right _ _ (by rw [intV_len]; exact Nat.le_refl _), intV_len, Nat.sub_self]
     rfl
    rw [hse] at hset
    have HSET := Lib.hid hset
    have hMIN : min (9999 : Int) (10 * (acc : Int) + ((x : Int) - 48)) = ((min 9999 (10 * acc + (x - 48)) : Nat) : Int) := by omega
    obtain ⟨ac2, hac2⟩ : ∃ ac2, ac2 = min 9999 (10 * acc + (x - 48)) := ⟨_, rfl⟩
    rw [← hac2] at HSET hMIN HF2
    have hac9 : ac2 ≤ 9999 := by omega
    clear h59 hpa hna hown hgc hnth hset hse hac2
    have dB : Below wr.heap.size wr wr.drew := (Below.refl _ _).drew
    have hmi1 : (1 : Int) ≤ (m : Int) := by omega
    have hmi2 : (m : Int) - 1 < (m : Int) := by omega
    have hccD : wr.drew.cell? ⟨g, off + k, none⟩ = some (.int .u8 (x : Int)) := hcc
    have hcellD : wr.drew.cell? ⟨g', m - 1, none⟩ = some (.int .i64 (acc : Int)) := hcell
    go_wp2_with fail
    refine wp_region_mixT 10 [(true, 0), (true, 1), (true, 2), (true, 3), (true, 4), (true, 5), (true, 6), (true, 7), (true, 8), (true, 9), (true, 10), (true, 11), (true, 12), (true, 13), (true, 14), (true, 15), (false, 16)] (fun X => X.cell? ⟨g, off + k, none⟩ = some (.int .u8 (x : Int)) ∧ X.cell? ⟨g', m - 1, none⟩ = some (.int .i64 (acc : Int))) (by kernel_rfl) (by kernel_rfl) (by rfl) (by kernel_rfl) (by kernel_rfl) (fun _ _ d _ _ h => by cases d <;> exact h) ⟨hccD, hcellD⟩ ?_
    simp only [mixL, List.getElem?_cons_succ, List.getElem?_cons_zero]
    repeat (refine' wpMix_read (v := _) rfl ?_ ?_; rotate_left 1; (intro w' hw'; obtain ⟨hw1, hw2⟩ := hw'; go_simp; try with_reducible rfl); try simp only [Act.put, List.setIfInBounds_toArray, List.set_cons_zero, List.set_cons_succ])
    refine wpMix_act (fun K hK => ?_)
    go_wp2
    refine hK _ _ (fun h => absurd rfl h) ?_
    clear hK K
    refine wpMix_nil ?_
    go_wp2
    refine ⟨⟨k + 1, m, D, ac2, g', c', hlt, by go_num, rfl, by omega, hm2, hac9, HM, HF2, HPB2, HSET.out, (hb.setCell (p := ⟨g', m - 1, none⟩) hg0 _).drew⟩, ?_⟩
    simp [intOf]; omega
   ·have hne59 : ((x : Int) == 59) = false := by simp; omega
    have HBAD : Hid (PB = false) := Lib.hid (by
     rw [HPB.out, hpa]
     have e1 : decide (x = 59) = false := by simp; omega
     have e2 : decide (48 ≤ x ∧ x ≤ 57) = false := by simp; omega
     rw [e1, e2]; rfl)
    clear hpa hna hown hgc HPB
    by_cases h48a : 48 ≤ x
    ·have k1 : (48 : Int) ≤ (x : Int) := by omega
     have k2 : ¬ (x : Int) ≤ 57 := by omega
     clear h48'
     go_wp2
     go_ret2
     exact .inr ⟨HBAD.out, rfl, hb⟩
    ·have k1 : ¬ (48 : Int) ≤ (x : Int) := by omega
     clear h48'
     go_wp2
     go_ret2
     exact .inr ⟨HBAD.out, rfl, hb⟩
  ·obtain rfl : k = n := by omega
   have hend : numsT acc (l.drop k) = [acc] := by rw [List.drop_eq_nil_of_le (by rw [HN.out]; omega)]; rfl
   have HE : Hid (NL = D ++ [acc]) := Lib.hid (by rw [HF.out, hend])
   have HL : Hid (NL.length = m) := Lib.hid (by rw [HE.out, List.length_append, HM.out]; rfl)
   clear hend hown hgc
   go_wp2
   go_ret2
   have hpt : PB = true := by rw [HPB.out, List.drop_eq_nil_of_le (by rw [HN.out]; omega)]; rfl
   refine .inl ⟨hpt, some ⟨g', 0, none⟩, c', ?_, ?_, hb⟩
   ·rw [HL.out]; rfl
   ·rw [HL.out, HE.out]; exact hOWN.out
def eraseX (w h : Nat) (r0 x0 r1 x1 : Int) : Nat → Int → List (List GC) → List (List GC)
 | 0, _, R => R
 | n + 1, i, R => eraseX w h r0 x0 r1 x1 n (i + 1) (eraseR w h R i (if i = r0 then x0 else 0) (if i = r1 then x1 else w))
set_option maxRecDepth 100000 in
set_option maxHeartbeats 8000000 in
theorem rerasex {F : Nat → Prop} {W : World} (hF : ∀ b, W.heap.size ≤ b → F b) {a : Option Addr} {cap : Nat} {t : TS} {bv : Value} (h1 : OneV bv) (ok : TO0 t) (g : RG F W a cap t.W t.H t.R) (r0 x0 r1 x1 : Int) (hr0 : 0 ≤ r0 ∧ r0 ≤ 1000) (hr1 : -1000 ≤ r1 ∧ r1 ≤ 1000) :
    Calls Tryz.prog 182 #[.agg (tCells a cap t bv), .int .i64 r0, .int .i64 x0, .int .i64 r1, .int .i64 x1] W (TPost F { t with R := eraseX t.W t.H r0 x0 r1 x1 (r1 + 1 - r0).toNat r0 t.R } bv W) := by
 obtain ⟨ow1, ow2, oh1, oh2, ook, oro, orow, ocol⟩ := ok
 obtain ⟨XR, hXR⟩ : ∃ XR, XR = eraseX t.W t.H r0 x0 r1 x1 (r1 + 1 - r0).toNat r0 t.R := ⟨_, rfl⟩
 rw [← hXR]
 have HX := Lib.hid hXR
 have G := Lib.hid (g.mono (F' := fun b => F b ∧ b ≠ W.heap.size ∧ b ≠ W.heap.size + 1) (fun b h1 h2 => ⟨h1, by omega, by omega⟩))
 have CS := Lib.hid (fun (X : World) (a : Option Addr) (c : Nat) (R : List (List GC)) (hX : W.heap.size + 1 < X.heap.size) (gX : RG (fun b => F b ∧ b ≠ W.heap.size ∧ b ≠ W.heap.size + 1) X a c t.W t.H R) (r x y : Int) => rerase_any (F := fun b => F b ∧ b ≠ W.heap.size ∧ b ≠ W.heap.size + 1) (fun b hb => ⟨hF b (by omega), by omega, by omega⟩) gX ⟨ow1, by omega⟩ (by omega) r x y)
 obtain ⟨hr01, hr02⟩ := hr0
 obtain ⟨hr11, hr12⟩ := hr1
 clear ook oro orow ocol g hXR
 go_enter Tryz.func182, Tryz.ntmps182
 go_upto_region 0 with (fail)
 go_cut [5, 10] (fun u v wx => u = .pointer (some ⟨W.heap.size, 0, none⟩) ∧ v = .pointer (some ⟨W.heap.size + 1, 0, none⟩) ∧ TIn W (tCells a cap t bv) wx)
 case first =>
  go_wp2
  go_meet
  exact ⟨rfl, rfl, tin W _⟩
 case rest =>
  obtain ⟨rfl, rfl, p1, p2, bX, sX⟩ := hcut
  have GX := Lib.hid (G.out.below bX)
  go_wp2
  go_loopw [11] (fun i wr => ∃ (k : Int) (R' : List (List GC)) (a' : Option Addr) (c' : Nat), i = .int .i64 k ∧ r0 ≤ k ∧ k ≤ 2000 ∧ TBx wr W.heap.size (tCells a' c' { t with R := R' } bv) ∧ TBx wr (W.heap.size + 1) zCells ∧ Hid (RG (fun b => F b ∧ b ≠ W.heap.size ∧ b ≠ W.heap.size + 1) wr a' c' t.W t.H R') ∧ Below W.heap.size W wr ∧ Hid (XR = eraseX t.W t.H r0 x0 r1 x1 (r1 + 1 - k).toNat k R'))
   (fun i _ => (r1 + 1 - intOf i).toNat)
  case atStart => exact ⟨r0, t.R, a, cap, rfl, by omega, by omega, p1, p2, GX, bX, HX⟩
  case round =>
   obtain ⟨k, R', a', c', rfl, hk0, hk2, q1, q2, HG, hb, HE⟩ := hrel
   clear p1 p2 bX sX GX
   by_cases hlt : k ≤ r1
   ·obtain ⟨c0, c1, c2, c3, c4, c5, c6, c7, c8, c9, c10, c11, c12, c13, c14, c15, c16, c17, c18, fz⟩ := q1.tc
    clear c3 c4 c5 c6 c7 c8 c9 c10 c11 c12 c13 c14 c15 c16 c17 c18
    have dB : Below wr.heap.size wr wr.drew := (Below.refl _ _).drew
    have hXs := q2.lt
    go_wp2_with fail
    refine wp_region_still_lit (by kernel_rfl) (by kernel_rfl) ?_
    repeat still_step
    refine wpStill_nil ?_
    change Exit.then _ _ Exit.normal _ wr.drew
    have u1 := q1.below dB
    have u2 := q2.below dB
    have HG2 := Lib.hid (HG.out.below dB)
    have hb2 := bto hb dB hb.size
    clear q1 q2 HG hb c0 c1 c2 fz hXs dB
    generalize wr.drew = wd at *
    obtain ⟨c0, c1, c2, c3, c4, c5, c6, c7, c8, c9, c10, c11, c12, c13, c14, c15, c16, c17, c18, fz⟩ := u1.tc
    clear c3 c4 c5 c6 c7 c8 c9 c10 c11 c12 c13 c14 c15 c16 c17 c18
    have hXs := u2.lt
    have C1 := Lib.hid (CS.out wd a' c' R' hXs HG2.out)
    have HE2 : Hid (XR = eraseX t.W t.H r0 x0 r1 x1 (r1 + 1 - (k + 1)).toNat (k + 1) (eraseR t.W t.H R' k (if k = r0 then x0 else 0) (if k = r1 then x1 else t.W))) := Lib.hid (by rw [HE.out, show (r1 + 1 - k).toNat = (r1 + 1 - (k + 1)).toNat + 1 by omega, eraseX])
    clear HE
    go_wp2_with fail
    all_goals
     refine (C1.out _ _ _).mono ?_
     rintro e w2 ⟨a2, cap2, rfl, g2, hb3⟩
     have v1 := u1.below hb3
     have v2 := u2.below hb3
     have b2 : Below W.heap.size W w2 := bto hb2 hb3 hb2.size
     clear c0 c1 c2 fz
     obtain ⟨x0', y0⟩ := v1.set 0 (.int .i64 t.W) _ rfl
     obtain ⟨x1', y1⟩ := x0'.set 1 (.int .i64 t.H) _ rfl
     obtain ⟨x2', y2⟩ := x1'.set 2 (.slice a2 t.H cap2) (tCells a2 cap2 { t with R := R' } bv) rfl
     have o3 := (y0.trans y1).trans y2
     have v3 := v2.only o3 (by simp)
     have g3 := Lib.hid (g2.keep o3.size (fun b hb hlt => o3.block b hlt (by simpa using hb.2.1)))
     have b3 := b2.trans (o3.below (by simp) b2.size)
     clear x0' y0 x1' y1 y2
     obtain ⟨c0, c1, c2, c3, c4, c5, c6, c7, c8, c9, c10, c11, c12, c13, c14, c15, c16, c17, c18, fz⟩ := v1.tc
     clear c3 c4 c5 c6 c7 c8 c9 c10 c11 c12 c13 c14 c15 c16 c17 c18
     go_wp2
     refine ⟨⟨k + 1, eraseR t.W t.H R' k _ _, a2, cap2, rfl, by omega, by omega, x2', v3, g3, b3, Lib.hid (by simp only [beq_iff_eq, beq_eq_false_iff_ne, ne_eq] at *; rw [HE2.out]; first | rw [if_pos (by omega), if_pos (by omega)] | rw [if_pos (by omega), if_neg (by omega)] | rw [if_neg (by omega), if_pos (by omega)] | rw [if_neg (by omega), if_neg (by omega)])⟩, ?_⟩
     simp only [intOf]
     omega
   ·have hz : (r1 + 1 - k).toNat = 0 := by omega
    have HE2 : Hid (XR = R') := Lib.hid (by rw [HE.out, hz]; rfl)
    go_wp2_with (first
        | (refine wpList_tload rfl _ rfl W.heap.size rfl (tCells a' c' { t with R := R' } bv) ?_ rfl ?_; exact q1)
        | (refine wpList_tstore rfl _ _ rfl (W.heap.size + 1) rfl _ rfl zCells ?_ rfl rfl (tCells_one _ _ _ h1) ?_; exact q2; intro w7 p7 o7))
    have b7 : Below W.heap.size W w7 := hb.trans (o7.below (by simp) hb.size)
    refine tret rfl rfl p7 rfl ?_
    rw [HE2.out]
    exact ⟨a', c', rfl, (HG.out.keep o7.size (fun b hb hlt => o7.block b hlt (by simpa using hb.2.2))).mono (fun b hb _ => hb.1), b7⟩
theorem eraseX_rows {w h : Nat} {r0 x0 r1 x1 : Int} : ∀ (n i : Nat) (R : List (List GC)), (∀ j : Nat, i ≤ j → j < i + n → ((j : Int) = r0 → x0 = 0) ∧ ((j : Int) = r1 → x1 = w)) → eraseX w h r0 x0 r1 x1 n i R = eraseRowsR w h i n R
 | 0, _, _, _ => rfl
 | n + 1, i, R, H => by
  have h0 := H i (Nat.le_refl _) (by omega)
  have e1 : (if (i : Int) = r0 then x0 else 0) = 0 := by
   split
   ·exact h0.1 ‹_›
   ·rfl
  have e2 : (if (i : Int) = r1 then x1 else (w : Int)) = w := by
   split
   ·exact h0.2 ‹_›
   ·rfl
  rw [eraseX, eraseRowsR, e1, e2, show (i : Int) + 1 = ((i + 1 : Nat) : Int) by omega]
  exact eraseX_rows n (i + 1) _ (fun j a b => H j (by omega) (by omega))
theorem eraseX_rows0 {w h : Nat} {r0 x0 r1 x1 : Int} (n : Nat) (R : List (List GC)) (H : ∀ j : Nat, 0 ≤ j → j < 0 + n → ((j : Int) = r0 → x0 = 0) ∧ ((j : Int) = r1 → x1 = w)) : eraseX w h r0 x0 r1 x1 n 0 R = eraseRowsR w h 0 n R := eraseX_rows n 0 R H
theorem eraseX_snoc {w h : Nat} {r0 x0 r1 x1 : Int} : ∀ (n : Nat) (i : Int) (R : List (List GC)), eraseX w h r0 x0 r1 x1 (n + 1) i R = eraseR w h (eraseX w h r0 x0 r1 x1 n i R) (i + n) (if i + n = r0 then x0 else 0) (if i + n = r1 then x1 else w)
 | 0, i, R => by simp [eraseX]
 | n + 1, i, R => by
  rw [eraseX, eraseX_snoc n (i + 1), eraseX, show i + 1 + (n : Int) = i + ((n + 1 : Nat) : Int) by omega]
theorem erased0l (t : TS) : t.erased 0 true = { t with R := eraseX t.W t.H t.row t.col t.row t.W ((t.row : Int) + 1 - t.row).toNat t.row t.R } := by
 rw [show ((t.row : Int) + 1 - t.row).toNat = 1 by omega]
 simp [TS.erased, eraseX]
theorem erased0a (t : TS) (hr : t.row < t.H) : t.erased 0 false = { t with R := eraseX t.W t.H t.row t.col ((t.H : Int) - 1) t.W ((t.H : Int) - 1 + 1 - t.row).toNat t.row t.R } := by
 rw [show ((t.H : Int) - 1 + 1 - t.row).toNat = (t.H - (t.row + 1)) + 1 by omega, eraseX, show (t.row : Int) + 1 = ((t.row + 1 : Nat) : Int) by omega, eraseX_rows _ _ _ (fun j a b => ⟨fun e => by omega, fun _ => rfl⟩), if_pos rfl, ite_self]
 simp [TS.erased]
theorem erased1l (t : TS) : t.erased 1 true = { t with R := eraseX t.W t.H t.row 0 t.row ((t.col : Int) + 1) ((t.row : Int) + 1 - t.row).toNat t.row t.R } := by
 rw [show ((t.row : Int) + 1 - t.row).toNat = 1 by omega]
 simp [TS.erased, eraseX]
theorem erased1a (t : TS) : t.erased 1 false = { t with R := eraseX t.W t.H 0 0 t.row ((t.col : Int) + 1) ((t.row : Int) + 1 - 0).toNat 0 t.R } := by
 rw [show ((t.row : Int) + 1 - 0).toNat = t.row + 1 by omega, eraseX_snoc, eraseX_rows0 _ _ (fun j a b => ⟨fun e => rfl, fun _ => by omega⟩), ite_self, Int.zero_add, if_pos rfl]
 simp [TS.erased]
theorem erased2l (t : TS) : t.erased 2 true = { t with R := eraseX t.W t.H t.row 0 t.row t.W ((t.row : Int) + 1 - t.row).toNat t.row t.R } := by
 rw [show ((t.row : Int) + 1 - t.row).toNat = 1 by omega]
 simp [TS.erased, eraseX]
theorem erased2a (t : TS) : t.erased 2 false = { t with R := eraseX t.W t.H 0 0 ((t.H : Int) - 1) t.W ((t.H : Int) - 1 + 1 - 0).toNat 0 t.R } := by
 rw [show ((t.H : Int) - 1 + 1 - 0).toNat = t.H by omega, eraseX_rows0 _ _ (fun j a b => ⟨fun e => rfl, fun _ => rfl⟩)]
 simp [TS.erased]
theorem erased_far (t : TS) (n : Nat) (line : Bool) (h : 2 < n) : t.erased n line = t := by
 unfold TS.erased
 rw [if_neg (by omega), if_neg (by omega), if_neg (by omega)]
set_option maxRecDepth 100000 in
set_option maxHeartbeats 8000000 in
theorem rerased_any {F : Nat → Prop} {W : World} (hF : ∀ b, W.heap.size ≤ b → F b) {a : Option Addr} {cap : Nat} {t : TS} {bv : Value} (h1 : OneV bv) (ok : TO0 t) (hcol : t.col ≤ 1000) (g : RG F W a cap t.W t.H t.R) (n : Nat) (line : Bool) :
    Calls Tryz.prog 156 #[.agg (tCells a cap t bv), .int .i64 n, .bool line] W (TPost F (t.erased n line) bv W) := by
 have CS := Lib.hid (fun (X : World) (hX : W.heap.size + 1 < X.heap.size) (bX : Below W.heap.size W X) (r0 x0 r1 x1 : Int) (hr0 : 0 ≤ r0 ∧ r0 ≤ 1000) (hr1 : -1000 ≤ r1 ∧ r1 ≤ 1000) => rerasex (F := fun b => F b ∧ b ≠ W.heap.size ∧ b ≠ W.heap.size + 1) (W := X) (fun b hb => ⟨hF b (by omega), by omega, by omega⟩) h1 ok ((g.mono (F' := fun b => F b ∧ b ≠ W.heap.size ∧ b ≠ W.heap.size + 1) (fun b h1 h2 => ⟨h1, by omega, by omega⟩)).below bX) r0 x0 r1 x1 hr0 hr1)
 obtain ⟨ow1, ow2, oh1, oh2, ook, oro, orow, ocol⟩ := ok
 have HG := Lib.hid g
 obtain ⟨m, hm⟩ : ∃ m : Int, m = (n : Int) := ⟨_, rfl⟩
 rw [← hm]
 have hbool : Hid (∀ X, W.heap.size + 1 < X.heap.size → Below W.heap.size W X → (m = 0 → Calls Tryz.prog 182 #[.agg (tCells a cap t bv), .int .i64 t.row, .int .i64 t.col, .int .i64 (if line then (t.row : Int) else (t.H : Int) - 1), .int .i64 t.W] X (TPost (fun b => F b ∧ b ≠ W.heap.size ∧ b ≠ W.heap.size + 1) (t.erased n line) bv X))
     ∧ (m = 1 → Calls Tryz.prog 182 #[.agg (tCells a cap t bv), .int .i64 (if line then (t.row : Int) else 0), .int .i64 0, .int .i64 t.row, .int .i64 ((t.col : Int) + 1)] X (TPost (fun b => F b ∧ b ≠ W.heap.size ∧ b ≠ W.heap.size + 1) (t.erased n line) bv X))
     ∧ (m = 2 → Calls Tryz.prog 182 #[.agg (tCells a cap t bv), .int .i64 (if line then (t.row : Int) else 0), .int .i64 0, .int .i64 (if line then (t.row : Int) else (t.H : Int) - 1), .int .i64 t.W] X (TPost (fun b => F b ∧ b ≠ W.heap.size ∧ b ≠ W.heap.size + 1) (t.erased n line) bv X))) := Lib.hid (fun X hX bX => by
  refine ⟨fun e => ?_, fun e => ?_, fun e => ?_⟩
  ·obtain rfl : n = 0 := by omega
   cases line
   ·rw [erased0a t orow]; exact CS.out X hX bX _ _ _ _ (by omega) (by omega)
   ·rw [erased0l t]; exact CS.out X hX bX _ _ _ _ (by omega) (by omega)
  ·obtain rfl : n = 1 := by omega
   cases line
   ·rw [erased1a t]; exact CS.out X hX bX _ _ _ _ (by omega) (by omega)
   ·rw [erased1l t]; exact CS.out X hX bX _ _ _ _ (by omega) (by omega)
  ·obtain rfl : n = 2 := by omega
   cases line
   ·rw [erased2a t]; exact CS.out X hX bX _ _ _ _ (by omega) (by omega)
   ·rw [erased2l t]; exact CS.out X hX bX _ _ _ _ (by omega) (by omega))
 have HFAR : Hid (m ≠ 0 → m ≠ 1 → m ≠ 2 → t.erased n line = t) := Lib.hid (fun a b c => erased_far t n line (by omega))
 clear CS ook oro ocol orow g hm
 go_enter Tryz.func156, Tryz.ntmps156
 go_upto_region 0 with (fail)
 go_cut [3, 6] (fun u v wx => u = .pointer (some ⟨W.heap.size, 0, none⟩) ∧ v = .pointer (some ⟨W.heap.size + 1, 0, none⟩) ∧ TIn W (tCells a cap t bv) wx)
 case first =>
  go_wp2
  go_meet
  exact ⟨rfl, rfl, tin W _⟩
 case rest =>
  obtain ⟨rfl, rfl, p1, p2, bX, sX⟩ := hcut
  obtain ⟨c0, c1, c2, c3, c4, c5, c6, c7, c8, c9, c10, c11, c12, c13, c14, c15, c16, c17, c18, fz⟩ := p1.tc
  clear c2 c5 c6 c7 c8 c9 c10 c11 c12 c13 c14 c15 c16 c17 c18
  have dB : Below wc.heap.size wc wc.drew := (Below.refl _ _).drew
  go_wp2_with fail
  refine wp_region_still_lit (by kernel_rfl) (by kernel_rfl) ?_
  repeat still_step
  refine wpStill_nil ?_
  change Exit.then _ _ Exit.normal _ wc.drew
  have u1 := p1.below dB
  have u2 := p2.below dB
  have hb2 := bto bX dB bX.size
  clear p1 p2 bX c0 c1 c3 c4 fz dB sX
  generalize wc.drew = wd at *
  obtain ⟨c0, c1, c2, c3, c4, c5, c6, c7, c8, c9, c10, c11, c12, c13, c14, c15, c16, c17, c18, fz⟩ := u1.tc
  clear c2 c5 c6 c7 c8 c9 c10 c11 c12 c13 c14 c15 c16 c17 c18
  cases line
  ·have hXs := u2.lt
   have hC := hbool.out wd hXs hb2
   simp only [Bool.false_eq_true, if_false, if_true] at hC
   obtain ⟨C0, C1, C2⟩ := hC
   replace C0 := Lib.hid C0
   replace C1 := Lib.hid C1
   replace C2 := Lib.hid C2
   clear hbool
   go_wp2_with (first
    | (refine wpList_tload rfl _ rfl W.heap.size rfl (tCells a cap t bv) ?_ rfl ?_; exact u1)
    | (refine wpList_tstore rfl _ _ rfl (W.heap.size + 1) rfl _ rfl zCells ?_ rfl rfl (tCells_one _ _ _ h1) ?_; exact u2; intro w7 p7 o7))
   ·refine (C0.out (eq_of_beq ‹_›)).mono ?_
    rintro e w2 ⟨a2, cap2, rfl, g2, hb3⟩
    have v2 := u2.below hb3
    have b2 := bto hb2 hb3 hb2.size
    go_wp2_with (refine wpList_tstore rfl _ _ rfl (W.heap.size + 1) rfl _ rfl zCells ?_ rfl rfl (tCells_one _ _ _ h1) ?_; exact v2; intro w7 p7 o7)
    have b7 : Below W.heap.size W w7 := b2.trans (o7.below (by simp) b2.size)
    refine tret rfl rfl p7 rfl ?_
    exact ⟨a2, cap2, rfl, (g2.keep o7.size (fun b hb hlt => o7.block b hlt (by simpa using hb.2.2))).mono (fun b hb _ => hb.1), b7⟩
   ·refine (C1.out (eq_of_beq ‹_›)).mono ?_
    rintro e w2 ⟨a2, cap2, rfl, g2, hb3⟩
    have v2 := u2.below hb3
    have b2 := bto hb2 hb3 hb2.size
    go_wp2_with (refine wpList_tstore rfl _ _ rfl (W.heap.size + 1) rfl _ rfl zCells ?_ rfl rfl (tCells_one _ _ _ h1) ?_; exact v2; intro w7 p7 o7)
    have b7 : Below W.heap.size W w7 := b2.trans (o7.below (by simp) b2.size)
    refine tret rfl rfl p7 rfl ?_
    exact ⟨a2, cap2, rfl, (g2.keep o7.size (fun b hb hlt => o7.block b hlt (by simpa using hb.2.2))).mono (fun b hb _ => hb.1), b7⟩
   ·refine (C2.out (eq_of_beq ‹_›)).mono ?_
    rintro e w2 ⟨a2, cap2, rfl, g2, hb3⟩
    have v2 := u2.below hb3
    have b2 := bto hb2 hb3 hb2.size
    go_wp2_with (refine wpList_tstore rfl _ _ rfl (W.heap.size + 1) rfl _ rfl zCells ?_ rfl rfl (tCells_one _ _ _ h1) ?_; exact v2; intro w7 p7 o7)
    have b7 : Below W.heap.size W w7 := b2.trans (o7.below (by simp) b2.size)
    refine tret rfl rfl p7 rfl ?_
    exact ⟨a2, cap2, rfl, (g2.keep o7.size (fun b hb hlt => o7.block b hlt (by simpa using hb.2.2))).mono (fun b hb _ => hb.1), b7⟩
   have b7 : Below W.heap.size W w7 := hb2.trans (o7.below (by simp) hb2.size)
   refine tret rfl rfl p7 rfl ?_
   rw [HFAR.out (by simp only [beq_iff_eq, beq_eq_false_iff_ne, ne_eq] at *; assumption) (by simp only [beq_iff_eq, beq_eq_false_iff_ne, ne_eq] at *; assumption) (by simp only [beq_iff_eq, beq_eq_false_iff_ne, ne_eq] at *; assumption)]
   exact ⟨a, cap, rfl, HG.out.below b7, b7⟩
  ·go_wp2_with fail
   refine wp_region_still_lit (by kernel_rfl) (by kernel_rfl) ?_
   repeat still_step
   refine wpStill_nil ?_
   change Exit.then _ _ Exit.normal _ wd.drew
   have dB : Below wd.heap.size wd wd.drew := (Below.refl _ _).drew
   replace u1 := u1.below dB
   replace u2 := u2.below dB
   replace hb2 := bto hb2 dB hb2.size
   clear c0 c1 c3 c4 fz dB
   generalize wd.drew = wd at *
   obtain ⟨c0, c1, c2, c3, c4, c5, c6, c7, c8, c9, c10, c11, c12, c13, c14, c15, c16, c17, c18, fz⟩ := u1.tc
   clear c2 c5 c6 c7 c8 c9 c10 c11 c12 c13 c14 c15 c16 c17 c18
   have hXs := u2.lt
   have hC := hbool.out wd hXs hb2
   simp only [Bool.false_eq_true, if_false, if_true] at hC
   obtain ⟨C0, C1, C2⟩ := hC
   replace C0 := Lib.hid C0
   replace C1 := Lib.hid C1
   replace C2 := Lib.hid C2
   clear hbool
   go_wp2_with (first
    | (refine wpList_tload rfl _ rfl W.heap.size rfl (tCells a cap t bv) ?_ rfl ?_; exact u1)
    | (refine wpList_tstore rfl _ _ rfl (W.heap.size + 1) rfl _ rfl zCells ?_ rfl rfl (tCells_one _ _ _ h1) ?_; exact u2; intro w7 p7 o7))
   ·refine (C0.out (eq_of_beq ‹_›)).mono ?_
    rintro e w2 ⟨a2, cap2, rfl, g2, hb3⟩
    have v2 := u2.below hb3
    have b2 := bto hb2 hb3 hb2.size
    go_wp2_with (refine wpList_tstore rfl _ _ rfl (W.heap.size + 1) rfl _ rfl zCells ?_ rfl rfl (tCells_one _ _ _ h1) ?_; exact v2; intro w7 p7 o7)
    have b7 : Below W.heap.size W w7 := b2.trans (o7.below (by simp) b2.size)
    refine tret rfl rfl p7 rfl ?_
    exact ⟨a2, cap2, rfl, (g2.keep o7.size (fun b hb hlt => o7.block b hlt (by simpa using hb.2.2))).mono (fun b hb _ => hb.1), b7⟩
   ·refine (C1.out (eq_of_beq ‹_›)).mono ?_
    rintro e w2 ⟨a2, cap2, rfl, g2, hb3⟩
    have v2 := u2.below hb3
    have b2 := bto hb2 hb3 hb2.size
    go_wp2_with (refine wpList_tstore rfl _ _ rfl (W.heap.size + 1) rfl _ rfl zCells ?_ rfl rfl (tCells_one _ _ _ h1) ?_; exact v2; intro w7 p7 o7)
    have b7 : Below W.heap.size W w7 := b2.trans (o7.below (by simp) b2.size)
    refine tret rfl rfl p7 rfl ?_
    exact ⟨a2, cap2, rfl, (g2.keep o7.size (fun b hb hlt => o7.block b hlt (by simpa using hb.2.2))).mono (fun b hb _ => hb.1), b7⟩
   ·refine (C2.out (eq_of_beq ‹_›)).mono ?_
    rintro e w2 ⟨a2, cap2, rfl, g2, hb3⟩
    have v2 := u2.below hb3
    have b2 := bto hb2 hb3 hb2.size
    go_wp2_with (refine wpList_tstore rfl _ _ rfl (W.heap.size + 1) rfl _ rfl zCells ?_ rfl rfl (tCells_one _ _ _ h1) ?_; exact v2; intro w7 p7 o7)
    have b7 : Below W.heap.size W w7 := b2.trans (o7.below (by simp) b2.size)
    refine tret rfl rfl p7 rfl ?_
    exact ⟨a2, cap2, rfl, (g2.keep o7.size (fun b hb hlt => o7.block b hlt (by simpa using hb.2.2))).mono (fun b hb _ => hb.1), b7⟩
   have b7 : Below W.heap.size W w7 := hb2.trans (o7.below (by simp) hb2.size)
   refine tret rfl rfl p7 rfl ?_
   rw [HFAR.out (by simp only [beq_iff_eq, beq_eq_false_iff_ne, ne_eq] at *; assumption) (by simp only [beq_iff_eq, beq_eq_false_iff_ne, ne_eq] at *; assumption) (by simp only [beq_iff_eq, beq_eq_false_iff_ne, ne_eq] at *; assumption)]
   exact ⟨a, cap, rfl, HG.out.below b7, b7⟩
def Ints (W : World) (g : Nat) (L : List Nat) : Prop := g < W.heap.size ∧ ∀ k, k < L.length → W.cell? ⟨g, k, none⟩ = some (.int .i64 (nth 0 L k : Nat))
theorem Ints.below {W W' : World} {g : Nat} {L : List Nat} (h : Ints W g L) {B : Nat} (hb : Below B W W') (hg : g < B) : Ints W' g L := ⟨by have := hb.size; have := h.1; omega, fun k hk => by
 have := h.2 k hk
 rw [← this]
 unfold World.cell?
 rw [hb.block g hg]⟩
theorem run_tload {op : Oper} {a : Act} {w : World} (x : Operand) (ho : op.op = .load 34 x)
    (b : Nat) (hx : a.eval x = .pointer (some ⟨b, 0, none⟩)) (cs : Array Value) (hb : TBx w b cs) (hs : cs.size = 19) : (execOp a.eval op).run Tryz.prog w = .ok (Next.value (.agg cs)) w := by
 have hl := hb.load hs
 unfold execOp
 simp only [ho, hx, Sem.run_bind, Sem.run_pure, Result.andThen_ok, Instr.loadAt, Instr.sureAddr, asAddr, hl]
set_option maxRecDepth 100000 in
set_option maxHeartbeats 8000000 in
theorem rplain65 {F : Nat → Prop} {W : World} {a : Option Addr} {cap : Nat} {t : TS} {bv : Value} (h1 : OneV bv) (ok : TO0 t) (hcol : t.col ≤ 1000) (g : RG F W a cap t.W t.H t.R) {gl cl : Nat} {L : List Nat} (hI : Ints W gl L) (hL : 1 ≤ L.length) (hLm : L.length ≤ 1000001) (hx : ∀ x ∈ L, x ≤ 9999) :
    Calls Tryz.prog 116 #[.agg (tCells a cap t bv), .slice (some ⟨gl, 0, none⟩) L.length cl, .int .u8 65] W (TPost F (t.plain L 65) bv W) := by
 obtain ⟨N, hN⟩ : ∃ N : Nat, max (1 : Int) ((nth 0 L 0 : Nat) : Int) = (N : Int) := ⟨max 1 (nth 0 L 0), by omega⟩
 have hx0 : nth 0 L 0 ≤ 9999 := by
  match L, hL with
  | x :: _, _ => exact hx x (by simp)
 have hN1 : 1 ≤ N ∧ N ≤ 9999 := by omega
 have eP : t.plain L 65 = t.moved ((t.row : Int) - N) (t.col) := by simp [TS.plain, hN]
 rw [eP]
 have CS := Lib.hid (fun (X : World) (bX : Below W.heap.size W X) => rmoved_any (F := fun b => F b ∧ b ≠ W.heap.size ∧ b ≠ W.heap.size + 1) (W := X) h1 ok ((g.mono (F' := fun b => F b ∧ b ≠ W.heap.size ∧ b ≠ W.heap.size + 1) (fun b h1 h2 => ⟨h1, by omega, by omega⟩)).below bX) ((t.row : Int) - N) (t.col) (by have := ok.row; have := ok.h2; omega) (by omega))
 obtain ⟨ow1, ow2, oh1, oh2, ook, oro, orow, ocol⟩ := ok
 have HI := Lib.hid hI
 have hgl := hI.1
 have hL0 : (0 : Int) < (L.length : Int) := by omega
 clear ook oro ocol g eP hx hI
 go_enter Tryz.func116, Tryz.ntmps116
 go_upto_region 0 with (fail)
 go_cut [3, 6] (fun u v wx => u = .pointer (some ⟨W.heap.size, 0, none⟩) ∧ v = .pointer (some ⟨W.heap.size + 1, 0, none⟩) ∧ TIn W (tCells a cap t bv) wx)
 case first =>
  go_wp2
  go_meet
  exact ⟨rfl, rfl, tin W _⟩
 case rest =>
  obtain ⟨rfl, rfl, p1, p2, bX, sX⟩ := hcut
  obtain ⟨c0, c1, c2, c3, c4, c5, c6, c7, c8, c9, c10, c11, c12, c13, c14, c15, c16, c17, c18, fz⟩ := p1.tc
  have l0 := (HI.out.below bX hgl).2 0 hL
  clear c0 c1 c2 c5 c6 c7 c8 c9 c10 c11 c12 c13 c14 c15 c16 c17 c18
  go_wp2_with (first
   | (refine wpList_tload rfl _ rfl W.heap.size rfl (tCells a cap t bv) ?_ rfl ?_; exact p1))
  refine (CS.out wc bX).mono ?_
  rintro e w2 ⟨a2, cap2, rfl, g2, hb3⟩
  have v2 := p2.below hb3
  have b2 := bto bX hb3 bX.size
  go_wp2_with (refine wpList_tstore rfl _ _ rfl (W.heap.size + 1) rfl _ rfl zCells ?_ rfl rfl (tCells_one _ _ _ h1) ?_; exact v2; intro w7 p7 o7)
  have b7 : Below W.heap.size W w7 := b2.trans (o7.below (by simp) b2.size)
  refine tret rfl rfl p7 rfl ?_
  exact ⟨a2, cap2, rfl, (g2.keep o7.size (fun b hb hlt => o7.block b hlt (by simpa using hb.2.2))).mono (fun b hb _ => hb.1), b7⟩
set_option maxRecDepth 100000 in
set_option maxHeartbeats 8000000 in
theorem rplain66 {F : Nat → Prop} {W : World} {a : Option Addr} {cap : Nat} {t : TS} {bv : Value} (h1 : OneV bv) (ok : TO0 t) (hcol : t.col ≤ 1000) (g : RG F W a cap t.W t.H t.R) {gl cl : Nat} {L : List Nat} (hI : Ints W gl L) (hL : 1 ≤ L.length) (hLm : L.length ≤ 1000001) (hx : ∀ x ∈ L, x ≤ 9999) :
    Calls Tryz.prog 116 #[.agg (tCells a cap t bv), .slice (some ⟨gl, 0, none⟩) L.length cl, .int .u8 66] W (TPost F (t.plain L 66) bv W) := by
 obtain ⟨N, hN⟩ : ∃ N : Nat, max (1 : Int) ((nth 0 L 0 : Nat) : Int) = (N : Int) := ⟨max 1 (nth 0 L 0), by omega⟩
 have hx0 : nth 0 L 0 ≤ 9999 := by
  match L, hL with
  | x :: _, _ => exact hx x (by simp)
 have hN1 : 1 ≤ N ∧ N ≤ 9999 := by omega
 have eP : t.plain L 66 = t.moved ((t.row : Int) + N) (t.col) := by simp [TS.plain, hN]
 rw [eP]
 have CS := Lib.hid (fun (X : World) (bX : Below W.heap.size W X) => rmoved_any (F := fun b => F b ∧ b ≠ W.heap.size ∧ b ≠ W.heap.size + 1) (W := X) h1 ok ((g.mono (F' := fun b => F b ∧ b ≠ W.heap.size ∧ b ≠ W.heap.size + 1) (fun b h1 h2 => ⟨h1, by omega, by omega⟩)).below bX) ((t.row : Int) + N) (t.col) (by have := ok.row; have := ok.h2; omega) (by omega))
 obtain ⟨ow1, ow2, oh1, oh2, ook, oro, orow, ocol⟩ := ok
 have HI := Lib.hid hI
 have hgl := hI.1
 have hL0 : (0 : Int) < (L.length : Int) := by omega
 clear ook oro ocol g eP hx hI
 go_enter Tryz.func116, Tryz.ntmps116
 go_upto_region 0 with (fail)
 go_cut [3, 6] (fun u v wx => u = .pointer (some ⟨W.heap.size, 0, none⟩) ∧ v = .pointer (some ⟨W.heap.size + 1, 0, none⟩) ∧ TIn W (tCells a cap t bv) wx)
 case first =>
  go_wp2
  go_meet
  exact ⟨rfl, rfl, tin W _⟩
 case rest =>
  obtain ⟨rfl, rfl, p1, p2, bX, sX⟩ := hcut
  obtain ⟨c0, c1, c2, c3, c4, c5, c6, c7, c8, c9, c10, c11, c12, c13, c14, c15, c16, c17, c18, fz⟩ := p1.tc
  have l0 := (HI.out.below bX hgl).2 0 hL
  clear c0 c1 c2 c5 c6 c7 c8 c9 c10 c11 c12 c13 c14 c15 c16 c17 c18
  go_wp2_with (first
   | (refine wpList_tload rfl _ rfl W.heap.size rfl (tCells a cap t bv) ?_ rfl ?_; exact p1))
  refine (CS.out wc bX).mono ?_
  rintro e w2 ⟨a2, cap2, rfl, g2, hb3⟩
  have v2 := p2.below hb3
  have b2 := bto bX hb3 bX.size
  go_wp2_with (refine wpList_tstore rfl _ _ rfl (W.heap.size + 1) rfl _ rfl zCells ?_ rfl rfl (tCells_one _ _ _ h1) ?_; exact v2; intro w7 p7 o7)
  have b7 : Below W.heap.size W w7 := b2.trans (o7.below (by simp) b2.size)
  refine tret rfl rfl p7 rfl ?_
  exact ⟨a2, cap2, rfl, (g2.keep o7.size (fun b hb hlt => o7.block b hlt (by simpa using hb.2.2))).mono (fun b hb _ => hb.1), b7⟩
set_option maxRecDepth 100000 in
set_option maxHeartbeats 8000000 in
theorem rplain67 {F : Nat → Prop} {W : World} {a : Option Addr} {cap : Nat} {t : TS} {bv : Value} (h1 : OneV bv) (ok : TO0 t) (hcol : t.col ≤ 1000) (g : RG F W a cap t.W t.H t.R) {gl cl : Nat} {L : List Nat} (hI : Ints W gl L) (hL : 1 ≤ L.length) (hLm : L.length ≤ 1000001) (hx : ∀ x ∈ L, x ≤ 9999) :
    Calls Tryz.prog 116 #[.agg (tCells a cap t bv), .slice (some ⟨gl, 0, none⟩) L.length cl, .int .u8 67] W (TPost F (t.plain L 67) bv W) := by
 obtain ⟨N, hN⟩ : ∃ N : Nat, max (1 : Int) ((nth 0 L 0 : Nat) : Int) = (N : Int) := ⟨max 1 (nth 0 L 0), by omega⟩
 have hx0 : nth 0 L 0 ≤ 9999 := by
  match L, hL with
  | x :: _, _ => exact hx x (by simp)
 have hN1 : 1 ≤ N ∧ N ≤ 9999 := by omega
 have eP : t.plain L 67 = t.moved (t.row) ((t.col : Int) + N) := by simp [TS.plain, hN]
 rw [eP]
 have CS := Lib.hid (fun (X : World) (bX : Below W.heap.size W X) => rmoved_any (F := fun b => F b ∧ b ≠ W.heap.size ∧ b ≠ W.heap.size + 1) (W := X) h1 ok ((g.mono (F' := fun b => F b ∧ b ≠ W.heap.size ∧ b ≠ W.heap.size + 1) (fun b h1 h2 => ⟨h1, by omega, by omega⟩)).below bX) (t.row) ((t.col : Int) + N) (by have := ok.row; have := ok.h2; omega) (by omega))
 obtain ⟨ow1, ow2, oh1, oh2, ook, oro, orow, ocol⟩ := ok
 have HI := Lib.hid hI
 have hgl := hI.1
 have hL0 : (0 : Int) < (L.length : Int) := by omega
 clear ook oro ocol g eP hx hI
 go_enter Tryz.func116, Tryz.ntmps116
 go_upto_region 0 with (fail)
 go_cut [3, 6] (fun u v wx => u = .pointer (some ⟨W.heap.size, 0, none⟩) ∧ v = .pointer (some ⟨W.heap.size + 1, 0, none⟩) ∧ TIn W (tCells a cap t bv) wx)
 case first =>
  go_wp2
  go_meet
  exact ⟨rfl, rfl, tin W _⟩
 case rest =>
  obtain ⟨rfl, rfl, p1, p2, bX, sX⟩ := hcut
  obtain ⟨c0, c1, c2, c3, c4, c5, c6, c7, c8, c9, c10, c11, c12, c13, c14, c15, c16, c17, c18, fz⟩ := p1.tc
  have l0 := (HI.out.below bX hgl).2 0 hL
  clear c0 c1 c2 c5 c6 c7 c8 c9 c10 c11 c12 c13 c14 c15 c16 c17 c18
  go_wp2_with (first
   | (refine wpList_tload rfl _ rfl W.heap.size rfl (tCells a cap t bv) ?_ rfl ?_; exact p1))
  refine (CS.out wc bX).mono ?_
  rintro e w2 ⟨a2, cap2, rfl, g2, hb3⟩
  have v2 := p2.below hb3
  have b2 := bto bX hb3 bX.size
  go_wp2_with (refine wpList_tstore rfl _ _ rfl (W.heap.size + 1) rfl _ rfl zCells ?_ rfl rfl (tCells_one _ _ _ h1) ?_; exact v2; intro w7 p7 o7)
  have b7 : Below W.heap.size W w7 := b2.trans (o7.below (by simp) b2.size)
  refine tret rfl rfl p7 rfl ?_
  exact ⟨a2, cap2, rfl, (g2.keep o7.size (fun b hb hlt => o7.block b hlt (by simpa using hb.2.2))).mono (fun b hb _ => hb.1), b7⟩
set_option maxRecDepth 100000 in
set_option maxHeartbeats 8000000 in
theorem rplain68 {F : Nat → Prop} {W : World} {a : Option Addr} {cap : Nat} {t : TS} {bv : Value} (h1 : OneV bv) (ok : TO0 t) (hcol : t.col ≤ 1000) (g : RG F W a cap t.W t.H t.R) {gl cl : Nat} {L : List Nat} (hI : Ints W gl L) (hL : 1 ≤ L.length) (hLm : L.length ≤ 1000001) (hx : ∀ x ∈ L, x ≤ 9999) :
    Calls Tryz.prog 116 #[.agg (tCells a cap t bv), .slice (some ⟨gl, 0, none⟩) L.length cl, .int .u8 68] W (TPost F (t.plain L 68) bv W) := by
 obtain ⟨N, hN⟩ : ∃ N : Nat, max (1 : Int) ((nth 0 L 0 : Nat) : Int) = (N : Int) := ⟨max 1 (nth 0 L 0), by omega⟩
 have hx0 : nth 0 L 0 ≤ 9999 := by
  match L, hL with
  | x :: _, _ => exact hx x (by simp)
 have hN1 : 1 ≤ N ∧ N ≤ 9999 := by omega
 have eP : t.plain L 68 = t.moved (t.row) ((t.col : Int) - N) := by simp [TS.plain, hN]
 rw [eP]
 have CS := Lib.hid (fun (X : World) (bX : Below W.heap.size W X) => rmoved_any (F := fun b => F b ∧ b ≠ W.heap.size ∧ b ≠ W.heap.size + 1) (W := X) h1 ok ((g.mono (F' := fun b => F b ∧ b ≠ W.heap.size ∧ b ≠ W.heap.size + 1) (fun b h1 h2 => ⟨h1, by omega, by omega⟩)).below bX) (t.row) ((t.col : Int) - N) (by have := ok.row; have := ok.h2; omega) (by omega))
 obtain ⟨ow1, ow2, oh1, oh2, ook, oro, orow, ocol⟩ := ok
 have HI := Lib.hid hI
 have hgl := hI.1
 have hL0 : (0 : Int) < (L.length : Int) := by omega
 clear ook oro ocol g eP hx hI
 go_enter Tryz.func116, Tryz.ntmps116
 go_upto_region 0 with (fail)
 go_cut [3, 6] (fun u v wx => u = .pointer (some ⟨W.heap.size, 0, none⟩) ∧ v = .pointer (some ⟨W.heap.size + 1, 0, none⟩) ∧ TIn W (tCells a cap t bv) wx)
 case first =>
  go_wp2
  go_meet
  exact ⟨rfl, rfl, tin W _⟩
 case rest =>
  obtain ⟨rfl, rfl, p1, p2, bX, sX⟩ := hcut
  obtain ⟨c0, c1, c2, c3, c4, c5, c6, c7, c8, c9, c10, c11, c12, c13, c14, c15, c16, c17, c18, fz⟩ := p1.tc
  have l0 := (HI.out.below bX hgl).2 0 hL
  clear c0 c1 c2 c5 c6 c7 c8 c9 c10 c11 c12 c13 c14 c15 c16 c17 c18
  go_wp2_with (first
   | (refine wpList_tload rfl _ rfl W.heap.size rfl (tCells a cap t bv) ?_ rfl ?_; exact p1))
  refine (CS.out wc bX).mono ?_
  rintro e w2 ⟨a2, cap2, rfl, g2, hb3⟩
  have v2 := p2.below hb3
  have b2 := bto bX hb3 bX.size
  go_wp2_with (refine wpList_tstore rfl _ _ rfl (W.heap.size + 1) rfl _ rfl zCells ?_ rfl rfl (tCells_one _ _ _ h1) ?_; exact v2; intro w7 p7 o7)
  have b7 : Below W.heap.size W w7 := b2.trans (o7.below (by simp) b2.size)
  refine tret rfl rfl p7 rfl ?_
  exact ⟨a2, cap2, rfl, (g2.keep o7.size (fun b hb hlt => o7.block b hlt (by simpa using hb.2.2))).mono (fun b hb _ => hb.1), b7⟩
set_option maxRecDepth 100000 in
set_option maxHeartbeats 8000000 in
theorem rplain71 {F : Nat → Prop} {W : World} {a : Option Addr} {cap : Nat} {t : TS} {bv : Value} (h1 : OneV bv) (ok : TO0 t) (hcol : t.col ≤ 1000) (g : RG F W a cap t.W t.H t.R) {gl cl : Nat} {L : List Nat} (hI : Ints W gl L) (hL : 1 ≤ L.length) (hLm : L.length ≤ 1000001) (hx : ∀ x ∈ L, x ≤ 9999) :
    Calls Tryz.prog 116 #[.agg (tCells a cap t bv), .slice (some ⟨gl, 0, none⟩) L.length cl, .int .u8 71] W (TPost F (t.plain L 71) bv W) := by
 obtain ⟨N, hN⟩ : ∃ N : Nat, max (1 : Int) ((nth 0 L 0 : Nat) : Int) = (N : Int) := ⟨max 1 (nth 0 L 0), by omega⟩
 have hx0 : nth 0 L 0 ≤ 9999 := by
  match L, hL with
  | x :: _, _ => exact hx x (by simp)
 have hN1 : 1 ≤ N ∧ N ≤ 9999 := by omega
 have eP : t.plain L 71 = t.moved (t.row) ((N : Int) - 1) := by simp [TS.plain, hN]
 rw [eP]
 have CS := Lib.hid (fun (X : World) (bX : Below W.heap.size W X) => rmoved_any (F := fun b => F b ∧ b ≠ W.heap.size ∧ b ≠ W.heap.size + 1) (W := X) h1 ok ((g.mono (F' := fun b => F b ∧ b ≠ W.heap.size ∧ b ≠ W.heap.size + 1) (fun b h1 h2 => ⟨h1, by omega, by omega⟩)).below bX) (t.row) ((N : Int) - 1) (by have := ok.row; have := ok.h2; omega) (by omega))
 obtain ⟨ow1, ow2, oh1, oh2, ook, oro, orow, ocol⟩ := ok
 have HI := Lib.hid hI
 have hgl := hI.1
 have hL0 : (0 : Int) < (L.length : Int) := by omega
 clear ook oro ocol g eP hx hI
 go_enter Tryz.func116, Tryz.ntmps116
 go_upto_region 0 with (fail)
 go_cut [3, 6] (fun u v wx => u = .pointer (some ⟨W.heap.size, 0, none⟩) ∧ v = .pointer (some ⟨W.heap.size + 1, 0, none⟩) ∧ TIn W (tCells a cap t bv) wx)
 case first =>
  go_wp2
  go_meet
  exact ⟨rfl, rfl, tin W _⟩
 case rest =>
  obtain ⟨rfl, rfl, p1, p2, bX, sX⟩ := hcut
  obtain ⟨c0, c1, c2, c3, c4, c5, c6, c7, c8, c9, c10, c11, c12, c13, c14, c15, c16, c17, c18, fz⟩ := p1.tc
  have l0 := (HI.out.below bX hgl).2 0 hL
  clear c0 c1 c2 c5 c6 c7 c8 c9 c10 c11 c12 c13 c14 c15 c16 c17 c18
  go_wp2_with (first
   | (refine wpList_tload rfl _ rfl W.heap.size rfl (tCells a cap t bv) ?_ rfl ?_; exact p1))
  refine (CS.out wc bX).mono ?_
  rintro e w2 ⟨a2, cap2, rfl, g2, hb3⟩
  have v2 := p2.below hb3
  have b2 := bto bX hb3 bX.size
  go_wp2_with (refine wpList_tstore rfl _ _ rfl (W.heap.size + 1) rfl _ rfl zCells ?_ rfl rfl (tCells_one _ _ _ h1) ?_; exact v2; intro w7 p7 o7)
  have b7 : Below W.heap.size W w7 := b2.trans (o7.below (by simp) b2.size)
  refine tret rfl rfl p7 rfl ?_
  exact ⟨a2, cap2, rfl, (g2.keep o7.size (fun b hb hlt => o7.block b hlt (by simpa using hb.2.2))).mono (fun b hb _ => hb.1), b7⟩
set_option maxRecDepth 100000 in
set_option maxHeartbeats 8000000 in
theorem rplain74 {F : Nat → Prop} {W : World} (hF : ∀ b, W.heap.size ≤ b → F b) {a : Option Addr} {cap : Nat} {t : TS} {bv : Value} (h1 : OneV bv) (ok : TO0 t) (hcol : t.col ≤ 1000) (g : RG F W a cap t.W t.H t.R) {gl cl : Nat} {L : List Nat} (hI : Ints W gl L) (hL : 1 ≤ L.length) (hLm : L.length ≤ 1000001) (hx : ∀ x ∈ L, x ≤ 9999) :
    Calls Tryz.prog 116 #[.agg (tCells a cap t bv), .slice (some ⟨gl, 0, none⟩) L.length cl, .int .u8 74] W (TPost F (t.plain L 74) bv W) := by
 obtain ⟨N, hN⟩ : ∃ N : Nat, max (1 : Int) ((nth 0 L 0 : Nat) : Int) = (N : Int) := ⟨max 1 (nth 0 L 0), by omega⟩
 have hx0 : nth 0 L 0 ≤ 9999 := by
  match L, hL with
  | x :: _, _ => exact hx x (by simp)
 have hN1 : 1 ≤ N ∧ N ≤ 9999 := by omega
 have eP : t.plain L 74 = t.erased (nth 0 L 0) false := by simp [TS.plain]
 rw [eP]
 have CS := Lib.hid (fun (X : World) (hX : W.heap.size + 1 < X.heap.size) (bX : Below W.heap.size W X) => rerased_any (F := fun b => F b ∧ b ≠ W.heap.size ∧ b ≠ W.heap.size + 1) (W := X) (fun b hb => ⟨hF b (by omega), by omega, by omega⟩) h1 ok hcol ((g.mono (F' := fun b => F b ∧ b ≠ W.heap.size ∧ b ≠ W.heap.size + 1) (fun b h1 h2 => ⟨h1, by omega, by omega⟩)).below bX) (nth 0 L 0) false)
 obtain ⟨ow1, ow2, oh1, oh2, ook, oro, orow, ocol⟩ := ok
 have HI := Lib.hid hI
 have hgl := hI.1
 have hL0 : (0 : Int) < (L.length : Int) := by omega
 clear ook oro ocol g eP hx hI
 go_enter Tryz.func116, Tryz.ntmps116
 go_upto_region 0 with (fail)
 go_cut [3, 6] (fun u v wx => u = .pointer (some ⟨W.heap.size, 0, none⟩) ∧ v = .pointer (some ⟨W.heap.size + 1, 0, none⟩) ∧ TIn W (tCells a cap t bv) wx)
 case first =>
  go_wp2
  go_meet
  exact ⟨rfl, rfl, tin W _⟩
 case rest =>
  obtain ⟨rfl, rfl, p1, p2, bX, sX⟩ := hcut
  have l0 := (HI.out.below bX hgl).2 0 hL
  have hlc := p1.lt
  have hLp : 0 < L.length := hL
  go_wp2_with (fail)
  have dB : Below wc.heap.size wc wc.drew := (Below.refl _ _).drew
  have u1 := p1.below dB
  have u2 := p2.below dB
  have hb2 := bto bX dB bX.size
  have hXs := u2.lt
  have C0 := Lib.hid (CS.out wc.drew hXs hb2)
  have hl0 : wc.drew.cell? ⟨gl, 0, none⟩ = some (.int .i64 (nth 0 L 0 : Nat)) := l0
  refine wp_region_mixT 10 [(true, 0), (true, 1), (true, 2), (true, 3), (false, 4), (false, 5)] (fun X => TBx X W.heap.size (tCells a cap t bv) ∧ X.cell? ⟨gl, 0, none⟩ = some (.int .i64 (nth 0 L 0 : Nat))) (by kernel_rfl) (by kernel_rfl) (by rfl) (by kernel_rfl) (by kernel_rfl) (fun _ _ d _ _ h => by cases d <;> exact h) ⟨u1, hl0⟩ ?_
  simp only [mixL, List.getElem?_cons_succ, List.getElem?_cons_zero]
  refine' wpMix_read (v := .agg (tCells a cap t bv)) rfl ?_ ?_; (intro w' hw'; obtain ⟨hw1, hw2⟩ := hw'; exact run_tload _ rfl W.heap.size rfl _ hw1 rfl)
  try simp only [Act.put, List.setIfInBounds_toArray, List.set_cons_zero, List.set_cons_succ]
  repeat (refine' wpMix_read (v := _) rfl ?_ ?_; rotate_left 1; (intro w' hw'; obtain ⟨hw1, hw2⟩ := hw'; go_simp; try with_reducible rfl); try simp only [Act.put, List.setIfInBounds_toArray, List.set_cons_zero, List.set_cons_succ])
  refine wpMix_act (fun K hK => ?_)
  go_wp2_with fail
  refine (C0.out).mono ?_
  rintro e w2 ⟨a2, cap2, rfl, g2, hb3⟩
  have v1 := u1.below hb3
  have v2 := u2.below hb3
  have b2 := bto hb2 hb3 hb2.size
  have l2 := ((HI.out.below hb2 hgl).below hb3 (by have := hb2.size; omega)).2 0 hL
  go_wp2_with fail
  refine hK _ _ (fun _ => ⟨v1, l2⟩) ?_
  clear hK K
  refine wpMix_act (fun K hK => ?_)
  go_wp2_with (refine wpList_tstore rfl _ _ rfl (W.heap.size + 1) rfl _ rfl zCells ?_ rfl rfl (tCells_one _ _ _ h1) ?_; exact v2; intro w7 p7 o7)
  refine hK _ _ (fun h => absurd rfl h) ?_
  clear hK K
  refine wpMix_nil ?_
  go_wp2_with fail
  have b7 : Below W.heap.size W w7 := b2.trans (o7.below (by simp) b2.size)
  refine tret rfl rfl p7 rfl ?_
  exact ⟨a2, cap2, rfl, (g2.keep o7.size (fun b hb hlt => o7.block b hlt (by simpa using hb.2.2))).mono (fun b hb _ => hb.1), b7⟩
set_option maxRecDepth 100000 in
set_option maxHeartbeats 8000000 in
theorem rplain75 {F : Nat → Prop} {W : World} (hF : ∀ b, W.heap.size ≤ b → F b) {a : Option Addr} {cap : Nat} {t : TS} {bv : Value} (h1 : OneV bv) (ok : TO0 t) (hcol : t.col ≤ 1000) (g : RG F W a cap t.W t.H t.R) {gl cl : Nat} {L : List Nat} (hI : Ints W gl L) (hL : 1 ≤ L.length) (hLm : L.length ≤ 1000001) (hx : ∀ x ∈ L, x ≤ 9999) :
    Calls Tryz.prog 116 #[.agg (tCells a cap t bv), .slice (some ⟨gl, 0, none⟩) L.length cl, .int .u8 75] W (TPost F (t.plain L 75) bv W) := by
 obtain ⟨N, hN⟩ : ∃ N : Nat, max (1 : Int) ((nth 0 L 0 : Nat) : Int) = (N : Int) := ⟨max 1 (nth 0 L 0), by omega⟩
 have hx0 : nth 0 L 0 ≤ 9999 := by
  match L, hL with
  | x :: _, _ => exact hx x (by simp)
 have hN1 : 1 ≤ N ∧ N ≤ 9999 := by omega
 have eP : t.plain L 75 = t.erased (nth 0 L 0) true := by simp [TS.plain]
 rw [eP]
 have CS := Lib.hid (fun (X : World) (hX : W.heap.size + 1 < X.heap.size) (bX : Below W.heap.size W X) => rerased_any (F := fun b => F b ∧ b ≠ W.heap.size ∧ b ≠ W.heap.size + 1) (W := X) (fun b hb => ⟨hF b (by omega), by omega, by omega⟩) h1 ok hcol ((g.mono (F' := fun b => F b ∧ b ≠ W.heap.size ∧ b ≠ W.heap.size + 1) (fun b h1 h2 => ⟨h1, by omega, by omega⟩)).below bX) (nth 0 L 0) true)
 obtain ⟨ow1, ow2, oh1, oh2, ook, oro, orow, ocol⟩ := ok
 have HI := Lib.hid hI
 have hgl := hI.1
 have hL0 : (0 : Int) < (L.length : Int) := by omega
 clear ook oro ocol g eP hx hI
 go_enter Tryz.func116, Tryz.ntmps116
 go_upto_region 0 with (fail)
 go_cut [3, 6] (fun u v wx => u = .pointer (some ⟨W.heap.size, 0, none⟩) ∧ v = .pointer (some ⟨W.heap.size + 1, 0, none⟩) ∧ TIn W (tCells a cap t bv) wx)
 case first =>
  go_wp2
  go_meet
  exact ⟨rfl, rfl, tin W _⟩
 case rest =>
  obtain ⟨rfl, rfl, p1, p2, bX, sX⟩ := hcut
  have l0 := (HI.out.below bX hgl).2 0 hL
  have hlc := p1.lt
  have hLp : 0 < L.length := hL
  go_wp2_with (fail)
  have dB : Below wc.heap.size wc wc.drew := (Below.refl _ _).drew
  have u1 := p1.below dB
  have u2 := p2.below dB
  have hb2 := bto bX dB bX.size
  have hXs := u2.lt
  have C0 := Lib.hid (CS.out wc.drew hXs hb2)
  have hl0 : wc.drew.cell? ⟨gl, 0, none⟩ = some (.int .i64 (nth 0 L 0 : Nat)) := l0
  refine wp_region_mixT 10 [(true, 0), (true, 1), (true, 2), (true, 3), (false, 4), (false, 5)] (fun X => TBx X W.heap.size (tCells a cap t bv) ∧ X.cell? ⟨gl, 0, none⟩ = some (.int .i64 (nth 0 L 0 : Nat))) (by kernel_rfl) (by kernel_rfl) (by rfl) (by kernel_rfl) (by kernel_rfl) (fun _ _ d _ _ h => by cases d <;> exact h) ⟨u1, hl0⟩ ?_
  simp only [mixL, List.getElem?_cons_succ, List.getElem?_cons_zero]
  refine' wpMix_read (v := .agg (tCells a cap t bv)) rfl ?_ ?_; (intro w' hw'; obtain ⟨hw1, hw2⟩ := hw'; exact run_tload _ rfl W.heap.size rfl _ hw1 rfl)
  try simp only [Act.put, List.setIfInBounds_toArray, List.set_cons_zero, List.set_cons_succ]
  repeat (refine' wpMix_read (v := _) rfl ?_ ?_; rotate_left 1; (intro w' hw'; obtain ⟨hw1, hw2⟩ := hw'; go_simp; try with_reducible rfl); try simp only [Act.put, List.setIfInBounds_toArray, List.set_cons_zero, List.set_cons_succ])
  refine wpMix_act (fun K hK => ?_)
  go_wp2_with fail
  refine (C0.out).mono ?_
  rintro e w2 ⟨a2, cap2, rfl, g2, hb3⟩
  have v1 := u1.below hb3
  have v2 := u2.below hb3
  have b2 := bto hb2 hb3 hb2.size
  have l2 := ((HI.out.below hb2 hgl).below hb3 (by have := hb2.size; omega)).2 0 hL
  go_wp2_with fail
  refine hK _ _ (fun _ => ⟨v1, l2⟩) ?_
  clear hK K
  refine wpMix_act (fun K hK => ?_)
  go_wp2_with (refine wpList_tstore rfl _ _ rfl (W.heap.size + 1) rfl _ rfl zCells ?_ rfl rfl (tCells_one _ _ _ h1) ?_; exact v2; intro w7 p7 o7)
  refine hK _ _ (fun h => absurd rfl h) ?_
  clear hK K
  refine wpMix_nil ?_
  go_wp2_with fail
  have b7 : Below W.heap.size W w7 := b2.trans (o7.below (by simp) b2.size)
  refine tret rfl rfl p7 rfl ?_
  exact ⟨a2, cap2, rfl, (g2.keep o7.size (fun b hb hlt => o7.block b hlt (by simpa using hb.2.2))).mono (fun b hb _ => hb.1), b7⟩
set_option maxRecDepth 100000 in
set_option maxHeartbeats 8000000 in
theorem rplain72a {F : Nat → Prop} {W : World} {a : Option Addr} {cap : Nat} {t : TS} {bv : Value} (h1 : OneV bv) (ok : TO0 t) (hcol : t.col ≤ 1000) (g : RG F W a cap t.W t.H t.R) {gl cl : Nat} {L : List Nat} (hI : Ints W gl L) (hL : 1 ≤ L.length) (hb : 1 < L.length) (hLm : L.length ≤ 1000001) (hx : ∀ x ∈ L, x ≤ 9999) :
    Calls Tryz.prog 116 #[.agg (tCells a cap t bv), .slice (some ⟨gl, 0, none⟩) L.length cl, .int .u8 72] W (TPost F (t.plain L 72) bv W) := by
 obtain ⟨N, hN⟩ : ∃ N : Nat, max (1 : Int) ((nth 0 L 0 : Nat) : Int) = (N : Int) := ⟨max 1 (nth 0 L 0), by omega⟩
 have hx0 : nth 0 L 0 ≤ 9999 := by
  match L, hL with
  | x :: _, _ => exact hx x (by simp)
 have hN1 : 1 ≤ N ∧ N ≤ 9999 := by omega
 obtain ⟨M, hM⟩ : ∃ M : Nat, max (1 : Int) ((nth 0 L 1 : Nat) : Int) = (M : Int) := ⟨max 1 (nth 0 L 1), by omega⟩
 have hx1 : nth 0 L 1 ≤ 9999 := by
  match L, hb with
  | _ :: x :: _, _ => exact hx x (by simp)
 have hM1 : 1 ≤ M ∧ M ≤ 9999 := by omega
 have eP : t.plain L 72 = t.moved ((N : Int) - 1) ((M : Int) - 1) := by simp [TS.plain, hN, hM]
 rw [eP]
 have CS := Lib.hid (fun (X : World) (bX : Below W.heap.size W X) => rmoved_any (F := fun b => F b ∧ b ≠ W.heap.size ∧ b ≠ W.heap.size + 1) (W := X) h1 ok ((g.mono (F' := fun b => F b ∧ b ≠ W.heap.size ∧ b ≠ W.heap.size + 1) (fun b h1 h2 => ⟨h1, by omega, by omega⟩)).below bX) ((N : Int) - 1) ((M : Int) - 1) (by have := ok.row; have := ok.h2; omega) (by omega))
 obtain ⟨ow1, ow2, oh1, oh2, ook, oro, orow, ocol⟩ := ok
 have HI := Lib.hid hI
 have hgl := hI.1
 have hL0 : (0 : Int) < (L.length : Int) := by omega
 clear ook oro ocol g eP hx hI
 go_enter Tryz.func116, Tryz.ntmps116
 go_upto_region 0 with (fail)
 go_cut [3, 6] (fun u v wx => u = .pointer (some ⟨W.heap.size, 0, none⟩) ∧ v = .pointer (some ⟨W.heap.size + 1, 0, none⟩) ∧ TIn W (tCells a cap t bv) wx)
 case first =>
  go_wp2
  go_meet
  exact ⟨rfl, rfl, tin W _⟩
 case rest =>
  obtain ⟨rfl, rfl, p1, p2, bX, sX⟩ := hcut
  obtain ⟨c0, c1, c2, c3, c4, c5, c6, c7, c8, c9, c10, c11, c12, c13, c14, c15, c16, c17, c18, fz⟩ := p1.tc
  have l0 := (HI.out.below bX hgl).2 0 hL
  have l1 := (HI.out.below bX hgl).2 1 hb
  have hb2 : (1 : Int) < (L.length : Int) := by omega
  clear c0 c1 c2 c5 c6 c7 c8 c9 c10 c11 c12 c13 c14 c15 c16 c17 c18
  go_wp2_with (first
   | (refine wpList_tload rfl _ rfl W.heap.size rfl (tCells a cap t bv) ?_ rfl ?_; exact p1))
  refine (CS.out wc bX).mono ?_
  rintro e w2 ⟨a2, cap2, rfl, g2, hb3⟩
  have v2 := p2.below hb3
  have b2 := bto bX hb3 bX.size
  go_wp2_with (refine wpList_tstore rfl _ _ rfl (W.heap.size + 1) rfl _ rfl zCells ?_ rfl rfl (tCells_one _ _ _ h1) ?_; exact v2; intro w7 p7 o7)
  have b7 : Below W.heap.size W w7 := b2.trans (o7.below (by simp) b2.size)
  refine tret rfl rfl p7 rfl ?_
  exact ⟨a2, cap2, rfl, (g2.keep o7.size (fun b hb hlt => o7.block b hlt (by simpa using hb.2.2))).mono (fun b hb _ => hb.1), b7⟩
set_option maxRecDepth 100000 in
set_option maxHeartbeats 8000000 in
theorem rplain72b {F : Nat → Prop} {W : World} {a : Option Addr} {cap : Nat} {t : TS} {bv : Value} (h1 : OneV bv) (ok : TO0 t) (hcol : t.col ≤ 1000) (g : RG F W a cap t.W t.H t.R) {gl cl : Nat} {L : List Nat} (hI : Ints W gl L) (hL : 1 ≤ L.length) (hb : ¬ 1 < L.length) (hLm : L.length ≤ 1000001) (hx : ∀ x ∈ L, x ≤ 9999) :
    Calls Tryz.prog 116 #[.agg (tCells a cap t bv), .slice (some ⟨gl, 0, none⟩) L.length cl, .int .u8 72] W (TPost F (t.plain L 72) bv W) := by
 obtain ⟨N, hN⟩ : ∃ N : Nat, max (1 : Int) ((nth 0 L 0 : Nat) : Int) = (N : Int) := ⟨max 1 (nth 0 L 0), by omega⟩
 have hx0 : nth 0 L 0 ≤ 9999 := by
  match L, hL with
  | x :: _, _ => exact hx x (by simp)
 have hN1 : 1 ≤ N ∧ N ≤ 9999 := by omega
 obtain ⟨M, hM⟩ : ∃ M : Nat, max (1 : Int) ((nth 0 L 1 : Nat) : Int) = (M : Int) := ⟨max 1 (nth 0 L 1), by omega⟩
 have hx1 : nth 0 L 1 = 0 := by
  match L, hL, hb with
  | [_], _, _ => rfl
  | _ :: _ :: _, _, h => exact absurd (by simp) h
 have hM1 : M = 1 := by omega
 have eP : t.plain L 72 = t.moved ((N : Int) - 1) (0) := by simp [TS.plain, hN, hM, hM1]
 rw [eP]
 have CS := Lib.hid (fun (X : World) (bX : Below W.heap.size W X) => rmoved_any (F := fun b => F b ∧ b ≠ W.heap.size ∧ b ≠ W.heap.size + 1) (W := X) h1 ok ((g.mono (F' := fun b => F b ∧ b ≠ W.heap.size ∧ b ≠ W.heap.size + 1) (fun b h1 h2 => ⟨h1, by omega, by omega⟩)).below bX) ((N : Int) - 1) (0) (by have := ok.row; have := ok.h2; omega) (by omega))
 obtain ⟨ow1, ow2, oh1, oh2, ook, oro, orow, ocol⟩ := ok
 have HI := Lib.hid hI
 have hgl := hI.1
 have hL0 : (0 : Int) < (L.length : Int) := by omega
 clear ook oro ocol g eP hx hI
 go_enter Tryz.func116, Tryz.ntmps116
 go_upto_region 0 with (fail)
 go_cut [3, 6] (fun u v wx => u = .pointer (some ⟨W.heap.size, 0, none⟩) ∧ v = .pointer (some ⟨W.heap.size + 1, 0, none⟩) ∧ TIn W (tCells a cap t bv) wx)
 case first =>
  go_wp2
  go_meet
  exact ⟨rfl, rfl, tin W _⟩
 case rest =>
  obtain ⟨rfl, rfl, p1, p2, bX, sX⟩ := hcut
  obtain ⟨c0, c1, c2, c3, c4, c5, c6, c7, c8, c9, c10, c11, c12, c13, c14, c15, c16, c17, c18, fz⟩ := p1.tc
  have l0 := (HI.out.below bX hgl).2 0 hL
  have hb2 : ¬ (1 : Int) < (L.length : Int) := by omega
  clear c0 c1 c2 c5 c6 c7 c8 c9 c10 c11 c12 c13 c14 c15 c16 c17 c18
  go_wp2_with (first
   | (refine wpList_tload rfl _ rfl W.heap.size rfl (tCells a cap t bv) ?_ rfl ?_; exact p1))
  refine (CS.out wc bX).mono ?_
  rintro e w2 ⟨a2, cap2, rfl, g2, hb3⟩
  have v2 := p2.below hb3
  have b2 := bto bX hb3 bX.size
  go_wp2_with (refine wpList_tstore rfl _ _ rfl (W.heap.size + 1) rfl _ rfl zCells ?_ rfl rfl (tCells_one _ _ _ h1) ?_; exact v2; intro w7 p7 o7)
  have b7 : Below W.heap.size W w7 := b2.trans (o7.below (by simp) b2.size)
  refine tret rfl rfl p7 rfl ?_
  exact ⟨a2, cap2, rfl, (g2.keep o7.size (fun b hb hlt => o7.block b hlt (by simpa using hb.2.2))).mono (fun b hb _ => hb.1), b7⟩
set_option maxRecDepth 100000 in
set_option maxHeartbeats 8000000 in
theorem rplain0 {F : Nat → Prop} {W : World} {a : Option Addr} {cap : Nat} {t : TS} {bv : Value} (h1 : OneV bv) (ok : TO0 t) (hcol : t.col ≤ 1000) (g : RG F W a cap t.W t.H t.R) {gl cl : Nat} {L : List Nat} (hI : Ints W gl L) (hL : 1 ≤ L.length) (e : Nat) (k65 : ((e : Int) == 65) = false) (k66 : ((e : Int) == 66) = false) (k67 : ((e : Int) == 67) = false) (k68 : ((e : Int) == 68) = false) (k71 : ((e : Int) == 71) = false) (k72 : ((e : Int) == 72) = false) (k74 : ((e : Int) == 74) = false) (k75 : ((e : Int) == 75) = false) (k109 : ((e : Int) == 109) = false) (hLm : L.length ≤ 1000001) (hx : ∀ x ∈ L, x ≤ 9999) :
    Calls Tryz.prog 116 #[.agg (tCells a cap t bv), .slice (some ⟨gl, 0, none⟩) L.length cl, .int .u8 e] W (TPost F (t.plain L e) bv W) := by
 obtain ⟨N, hN⟩ : ∃ N : Nat, max (1 : Int) ((nth 0 L 0 : Nat) : Int) = (N : Int) := ⟨max 1 (nth 0 L 0), by omega⟩
 have hx0 : nth 0 L 0 ≤ 9999 := by
  match L, hL with
  | x :: _, _ => exact hx x (by simp)
 have hN1 : 1 ≤ N ∧ N ≤ 9999 := by omega
 have eP : t.plain L e = t := by
  simp only [beq_eq_false_iff_ne, ne_eq] at *
  simp only [TS.plain]
  iterate 9 rw [if_neg (by omega)]
 rw [eP]
 have HG := Lib.hid g
 obtain ⟨ow1, ow2, oh1, oh2, ook, oro, orow, ocol⟩ := ok
 have HI := Lib.hid hI
 have hgl := hI.1
 have hL0 : (0 : Int) < (L.length : Int) := by omega
 clear ook oro ocol g eP hx hI
 go_enter Tryz.func116, Tryz.ntmps116
 go_upto_region 0 with (fail)
 go_cut [3, 6] (fun u v wx => u = .pointer (some ⟨W.heap.size, 0, none⟩) ∧ v = .pointer (some ⟨W.heap.size + 1, 0, none⟩) ∧ TIn W (tCells a cap t bv) wx)
 case first =>
  go_wp2
  go_meet
  exact ⟨rfl, rfl, tin W _⟩
 case rest =>
  obtain ⟨rfl, rfl, p1, p2, bX, sX⟩ := hcut
  obtain ⟨c0, c1, c2, c3, c4, c5, c6, c7, c8, c9, c10, c11, c12, c13, c14, c15, c16, c17, c18, fz⟩ := p1.tc
  have l0 := (HI.out.below bX hgl).2 0 hL
  clear c0 c1 c2 c5 c6 c7 c8 c9 c10 c11 c12 c13 c14 c15 c16 c17 c18
  go_wp2_with (first
   | (refine wpList_tload rfl _ rfl W.heap.size rfl (tCells a cap t bv) ?_ rfl ?_; exact p1)
   | (refine wpList_tstore rfl _ _ rfl (W.heap.size + 1) rfl _ rfl zCells ?_ rfl rfl (tCells_one _ _ _ h1) ?_; exact p2; intro w7 p7 o7))
  have b7 : Below W.heap.size W w7 := bX.trans (o7.below (by simp) bX.size)
  refine tret rfl rfl p7 rfl ?_
  exact ⟨a, cap, rfl, HG.out.below b7, b7⟩
set_option maxRecDepth 100000 in
set_option maxHeartbeats 8000000 in
theorem rplain109 {F : Nat → Prop} {W : World} {a : Option Addr} {cap : Nat} {t : TS} {bv : Value} (h1 : OneV bv) (ok : TO0 t) (hcol : t.col ≤ 1000) (g : RG F W a cap t.W t.H t.R) {gl cl : Nat} {L : List Nat} (hI : Ints W gl L) (hL : 1 ≤ L.length) (hLm : L.length ≤ 1000001) (hx : ∀ x ∈ L, x ≤ 9999) :
    Calls Tryz.prog 116 #[.agg (tCells a cap t bv), .slice (some ⟨gl, 0, none⟩) L.length cl, .int .u8 109] W (TPost F (t.plain L 109) bv W) := by
 obtain ⟨N, hN⟩ : ∃ N : Nat, max (1 : Int) ((nth 0 L 0 : Nat) : Int) = (N : Int) := ⟨max 1 (nth 0 L 0), by omega⟩
 have hx0 : nth 0 L 0 ≤ 9999 := by
  match L, hL with
  | x :: _, _ => exact hx x (by simp)
 have hN1 : 1 ≤ N ∧ N ≤ 9999 := by omega
 obtain ⟨Y, hY⟩ : ∃ Y, Y = L.foldl styT t.y := ⟨_, rfl⟩
 have eP : t.plain L 109 = { t with y := Y } := by rw [hY]; simp [TS.plain]
 rw [eP]
 obtain ⟨ow1, ow2, oh1, oh2, ook, oro, orow, ocol⟩ := ok
 have HI := Lib.hid hI
 have HG := Lib.hid g
 have hgl := hI.1
 have hL0 : (0 : Int) < (L.length : Int) := by omega
 have HY : Hid (Y = (L.drop 0).foldl styT t.y) := Lib.hid hY
 have hone : ∀ y : Sy, ∀ v ∈ (tCells a cap { t with y := y } bv).toList, v.oneCell' = true := fun y => tCells_one _ _ _ h1
 clear ook oro ocol g eP hx hI hY
 go_enter Tryz.func116, Tryz.ntmps116
 go_upto_region 0 with (fail)
 go_cut [3, 6] (fun u v wx => u = .pointer (some ⟨W.heap.size, 0, none⟩) ∧ v = .pointer (some ⟨W.heap.size + 1, 0, none⟩) ∧ TIn W (tCells a cap t bv) wx)
 case first =>
  go_wp2
  go_meet
  exact ⟨rfl, rfl, tin W _⟩
 case rest =>
  obtain ⟨rfl, rfl, p1, p2, bX, sX⟩ := hcut
  have l0 := (HI.out.below bX hgl).2 0 hL
  go_wp2
  go_loopw [9] (fun i wr => ∃ (k : Nat) (y : Sy), i = .int .i64 k ∧ k ≤ L.length ∧ TBx wr W.heap.size (tCells a cap { t with y := y } bv) ∧ TBx wr (W.heap.size + 1) zCells ∧ Below W.heap.size W wr ∧ Hid (Y = (L.drop k).foldl styT y))
   (fun i _ => L.length - (intOf i).toNat)
  case atStart => exact ⟨0, t.y, rfl, Nat.zero_le _, p1, p2, bX, HY⟩
  case round =>
   obtain ⟨k, y, rfl, hk, q1, q2, hb, HE⟩ := hrel
   clear p1 p2 bX sX l0
   by_cases hlt : k < L.length
   ·have lk := (HI.out.below hb hgl).2 k hlt
    have HE2 : Hid (Y = (L.drop (k + 1)).foldl styT (styT y (nth 0 L k))) := Lib.hid (by
     rw [HE.out, List.drop_eq_getElem_cons hlt, List.foldl_cons]
     congr 2
     unfold nth
     rw [List.getD_eq_getElem?_getD, List.getElem?_eq_getElem hlt]; rfl)
    obtain ⟨x, hxk⟩ : ∃ x, x = nth 0 L k := ⟨_, rfl⟩
    rw [← hxk] at lk HE2
    have HXK := Lib.hid hxk
    clear hxk HE
    have dB : Below wr.heap.size wr wr.drew := (Below.refl _ _).drew
    have u1 := q1.below dB
    have u2 := q2.below dB
    have hb2 := bto hb dB hb.size
    have hkc : (k : Int) < (L.length : Int) := by omega
    have hlk : wr.drew.cell? ⟨gl, k, none⟩ = some (.int .i64 (x : Nat)) := lk
    have CS := Lib.hid (rstyle_any y x wr.drew)
    go_wp2_with fail
    refine wp_region_mixT 10 [(true, 0), (true, 1), (true, 2), (true, 3), (true, 4), (true, 5), (false, 6), (true, 7), (false, 8)] (fun X => TBx X W.heap.size (tCells a cap { t with y := y } bv) ∧ X.cell? ⟨gl, k, none⟩ = some (.int .i64 (x : Nat))) (by kernel_rfl) (by kernel_rfl) (by rfl) (by kernel_rfl) (by kernel_rfl) (fun _ _ d _ _ h => by cases d <;> exact h) ⟨u1, hlk⟩ ?_
    simp only [mixL, List.getElem?_cons_succ, List.getElem?_cons_zero]
    repeat (refine' wpMix_read (v := _) rfl ?_ ?_; rotate_left 1; (intro w' hw'; obtain ⟨hw1, hw2⟩ := hw'; obtain ⟨c0, c1, c2, c3, c4, c5, c6, c7, c8, c9, c10, c11, c12, c13, c14, c15, c16, c17, c18, fz⟩ := hw1.tc; clear c0 c1 c2 c3 c4 c10 c11 c12 c13 c14 c15 c16 c17 c18; go_simp; try with_reducible rfl); try simp only [Act.put, List.setIfInBounds_toArray, List.set_cons_zero, List.set_cons_succ])
    refine wpMix_act (fun K hK => ?_)
    go_wp2_with fail
    refine (CS.out).mono ?_
    rintro e w2 ⟨rfl, hb3⟩
    have v1 := u1.below hb3
    have v2 := u2.below hb3
    have b2 := bto hb2 hb3 hb2.size
    have l2 := ((HI.out.below hb2 hgl).below hb3 (by have := hb2.size; omega))
    have hl2 : w2.cell? ⟨gl, k, none⟩ = some (.int .i64 (x : Nat)) := by rw [HXK.out]; exact l2.2 k hlt
    clear l2
    go_wp2_with fail
    refine hK _ _ (fun _ => ⟨v1, hl2⟩) ?_
    clear hK K
    repeat (refine' wpMix_read (v := _) rfl ?_ ?_; rotate_left 1; (intro w' hw'; obtain ⟨hw1, hw2⟩ := hw'; go_simp; try with_reducible rfl); try simp only [Act.put, List.setIfInBounds_toArray, List.set_cons_zero, List.set_cons_succ])
    refine wpMix_act (fun K hK => ?_)
    obtain ⟨s5, o5⟩ := v1.set 5 (.bool (styT y x).b) _ rfl
    obtain ⟨s6, o6⟩ := s5.set 6 (.bool (styT y x).u) _ rfl
    obtain ⟨s7, o7⟩ := s6.set 7 (.bool (styT y x).i) _ rfl
    obtain ⟨s8, o8⟩ := s7.set 8 (.int .i64 (styT y x).f) _ rfl
    obtain ⟨s9, o9⟩ := s8.set 9 (.int .i64 (styT y x).g) (tCells a cap { t with y := styT y x } bv) rfl
    have oo := (((o5.trans o6).trans o7).trans o8).trans o9
    have v3 := v2.only oo (by simp)
    have b3 := b2.trans (oo.below (by simp) b2.size)
    clear s5 s6 s7 s8 o5 o6 o7 o8 o9
    obtain ⟨c0, c1, c2, c3, c4, c5, c6, c7, c8, c9, c10, c11, c12, c13, c14, c15, c16, c17, c18, fz⟩ := v1.tc
    clear c0 c1 c2 c3 c4 c10 c11 c12 c13 c14 c15 c16 c17 c18
    go_wp2_with fail
    refine hK _ _ (fun h => absurd rfl h) ?_
    clear hK K
    refine wpMix_nil ?_
    go_wp2
    refine ⟨⟨k + 1, styT y x, by go_num, by omega, s9, v3, b3, HE2⟩, ?_⟩
    simp only [intOf]
    omega
   ·have hz : L.drop k = [] := List.drop_eq_nil_of_le (by omega)
    have HE2 : Hid (Y = y) := Lib.hid (by rw [HE.out, hz]; rfl)
    go_wp2_with (first
        | (refine wpList_tload rfl _ rfl W.heap.size rfl (tCells a cap { t with y := y } bv) ?_ rfl ?_; exact q1)
        | (refine wpList_tstore rfl _ _ rfl (W.heap.size + 1) rfl _ rfl zCells ?_ rfl rfl (tCells_one _ _ _ h1) ?_; exact q2; intro w7 p7 o7))
    have b7 : Below W.heap.size W w7 := hb.trans (o7.below (by simp) hb.size)
    refine tret rfl rfl p7 rfl ?_
    rw [HE2.out]
    exact ⟨a, cap, rfl, HG.out.below b7, b7⟩
theorem rplain_any {F : Nat → Prop} {W : World} (hF : ∀ b, W.heap.size ≤ b → F b) {a : Option Addr} {cap : Nat} {t : TS} {bv : Value} (h1 : OneV bv) (ok : TO0 t) (g : RG F W a cap t.W t.H t.R) {gl cl : Nat} {L : List Nat} (hI : Ints W gl L) (hL : 1 ≤ L.length) (hLm : L.length ≤ 1000001) (hx : ∀ x ∈ L, x ≤ 9999) (e : Nat) :
    Calls Tryz.prog 116 #[.agg (tCells a cap t bv), .slice (some ⟨gl, 0, none⟩) L.length cl, .int .u8 e] W (TPost F (t.plain L e) bv W) := by
 have hcol : t.col ≤ 1000 := by have := ok.col; have := ok.w2; omega
 by_cases k65 : e = 65
 ·subst k65; exact rplain65 h1 ok hcol g hI hL hLm hx
 by_cases k66 : e = 66
 ·subst k66; exact rplain66 h1 ok hcol g hI hL hLm hx
 by_cases k67 : e = 67
 ·subst k67; exact rplain67 h1 ok hcol g hI hL hLm hx
 by_cases k68 : e = 68
 ·subst k68; exact rplain68 h1 ok hcol g hI hL hLm hx
 by_cases k71 : e = 71
 ·subst k71; exact rplain71 h1 ok hcol g hI hL hLm hx
 by_cases k72 : e = 72
 ·subst k72
  by_cases hb : 1 < L.length
  ·exact rplain72a h1 ok hcol g hI hL hb hLm hx
  ·exact rplain72b h1 ok hcol g hI hL hb hLm hx
 by_cases k74 : e = 74
 ·subst k74; exact rplain74 hF h1 ok hcol g hI hL hLm hx
 by_cases k75 : e = 75
 ·subst k75; exact rplain75 hF h1 ok hcol g hI hL hLm hx
 by_cases k109 : e = 109
 ·subst k109; exact rplain109 h1 ok hcol g hI hL hLm hx
 have K : ∀ z : Int, ¬ (e : Int) = z → ((e : Int) == z) = false := fun z h => by simpa using h
 exact rplain0 h1 ok hcol g hI hL e (K _ (by omega)) (K _ (by omega)) (K _ (by omega)) (K _ (by omega)) (K _ (by omega)) (K _ (by omega)) (K _ (by omega)) (K _ (by omega)) (K _ (by omega)) hLm hx
end Go.Proofs.YtjkajojjehgmdaaGreat
