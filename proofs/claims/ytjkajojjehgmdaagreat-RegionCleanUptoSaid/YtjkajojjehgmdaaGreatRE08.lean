/- The reference's rows of cells: blanks, set. No condition. The reference's rows of cells: set, blank. No condition. The reference's grid: blank, with, There, Size, New. No condition. The reference's grid: a row laid anew (with). No condition. The reference's grid: Cell, Cells, New. No condition. The reference's grid: Put. No condition. The reference's grid: Put where it puts. No condition. The reference's grid: New. No condition. The reference's grid: Erase, Join. No condition. The reference's grid: Join. No condition. The reference's grid: Scroll. No condition. -/
import Derived.Test.YtjkajojjehgmdaaGreatRE04
import Derived.Test.YtjkajojjehgmdaaGreatRE07
set_option linter.unusedVariables false
set_option linter.unusedSimpArgs false
namespace Go.Proofs.YtjkajojjehgmdaaGreat
open Go.RowKit Go.Shelf Go.Maps
theorem own_store {W : World} {base g n cap : Nat} {M : List GC} (hown : W.ownsRow base 88 7 (.slice (some ⟨g, 0, none⟩) n cap) n (flatV M)) {i : Nat} (hi : i < M.length) (c : GC) (o : Nat) (ho : o = i * 7) :
    ∃ W', (Instr.storeAt 88 (.pointer (some ⟨g, o, none⟩)) c.v).run Tryz.prog W = .ok () W' ∧ W'.ownsRow base 88 7 (.slice (some ⟨g, 0, none⟩) n cap) n (flatV (M.set i c)) ∧ Only [g] W W' := by
 subst ho
 have hl := hown.1
 rw [flatV_length] at hl
 rcases hown.2 with ⟨e, _⟩ | ⟨g', cap', cur, e, h1, h2, h3, h4, h5, h6⟩
 ·cases e
 ·simp only [Value.slice.injEq, Option.some.injEq, Addr.mk.injEq, true_and, and_true] at e
  obtain ⟨rfl, rfl⟩ := e
  have hcur : cur.toList = flatV M ++ cur.toList.drop (n * 7) := by rw [← h6, List.take_append_drop]
  have hin : i * 7 + 7 ≤ (flatV M).length := by rw [flatV_length]; omega
  have hst := run_storeCells_at Tryz.prog g (i * 7) 88 c.vals 0 cur W h2 (by rw [GC.vals_length, h5]; omega) c.one
  have hsp := flatV_set M i c hi
  unfold splice at hsp
  rw [GC.vals_length, Nat.mul_comm 7 i] at hsp
  have hnew : cur.toList.take (i * 7) ++ c.vals ++ cur.toList.drop (i * 7 + 7) = flatV (M.set i c) ++ cur.toList.drop (n * 7) := by
   have e1 : cur.toList.take (i * 7) = (flatV M).take (i * 7) := by conv => lhs; rw [hcur, List.take_append_of_le_length (by omega)]
   have e2 : cur.toList.drop (i * 7 + 7) = (flatV M).drop (i * 7 + 7) ++ cur.toList.drop (n * 7) := by conv => lhs; rw [hcur, List.drop_append_of_le_length (by omega)]
   rw [e1, e2, ← hsp]
   simp only [List.append_assoc]
  have hs : (Tryz.prog.info? 88).map (·.size) = some 7 := by kernel_rfl
  refine ⟨W.setRow g (flatV (M.set i c) ++ cur.toList.drop (n * 7)).toArray, ?_, ?_, (Only.refl [g] W).setRow (.inl (by simp)) _⟩
  ·cases hq : Tryz.prog.info? 88 with
   | none => rw [hq] at hs; cases hs
   | some t =>
    have ht : t.size = 7 := by rw [hq] at hs; simpa using hs
    simp only [Nat.add_zero, GC.vals_length] at hst
    rw [hnew] at hst
    simp only [GC.v]
    simp only [GC.vals] at hst
    simp [Instr.storeAt, Instr.sureAddr, storeVar, sizeOf, typeInfo, hq, Value.cells, ht, hst]
  ·have hlen : (flatV (M.set i c)).length = n * 7 := by rw [flatV_length, List.length_set]; omega
   refine ⟨hlen, .inr ⟨g, cap, _, rfl, h1, setRow_heap W g _ _ _ _ h2, h3, h4, ?_, ?_⟩⟩
   ·rw [List.size_toArray, List.length_append, hlen, List.length_drop, Array.length_toList, h5]; omega
   ·rw [List.take_left' hlen]
theorem wpList_ostore {ops : Array Oper} {rest : List Oper} {op : Oper} {a : Act} {w : World} {Q : Exit → Act → World → Prop} (hgd : op.guard = none) (x y : Operand) (ho : op.op = .store 88 x y)
    (g off : Nat) (hx : a.eval x = .pointer (some ⟨g, off, none⟩)) (c : GC) (hy : a.eval y = c.v) (base n cap : Nat) (M : List GC) (hown : w.ownsRow base 88 7 (.slice (some ⟨g, 0, none⟩) n cap) n (flatV M)) (i : Nat) (hoff : off = i * 7) (hi : i < M.length)
    (h : ∀ w', w'.ownsRow base 88 7 (.slice (some ⟨g, 0, none⟩) n cap) n (flatV (M.set i c)) → Only [g] w w' → wpList Tryz.prog ops Q rest (a.put op.dst undef) w') : wpList Tryz.prog ops Q (op :: rest) a w :=
 wpList_plain hgd fun K hK => by
  obtain ⟨W', hs, h1, h2⟩ := own_store hown hi c off hoff
  unfold Oper.wp execOp
  simp only [ho, hx, hy, Sem.run_bind, Sem.run_pure, Result.andThen_ok, hs]
  exact hK _ _ (h _ h1 h2)
set_option maxRecDepth 100000 in
set_option maxHeartbeats 4000000 in
theorem rblanks_any (n : Nat) (hn : n ≤ 500) (W : World) : Calls Tryz.prog 75 #[.int .i64 n] W fun e w' => ∃ a c, e = .returned (.agg #[.slice a n c]) ∧ CellsAt w' a n (List.replicate n GC.blank) ∧ ((n ≤ c ∧ c ≤ maxLen) ∧ ∀ b o, a = some ⟨b, o, none⟩ → W.heap.size ≤ b ∧ b < w'.heap.size) ∧ Below W.heap.size W w' := by
 obtain ⟨i0, hi, hz0, hz1, hz2⟩ := info_parts infoCell
 go_enter Tryz.func75, Tryz.ntmps75
 go_wp2
 go_loopw [4, 3] (fun i v wr => ∃ k : Nat, k ≤ n ∧ i = .int .i64 k ∧ wr.ownsRow (W.heap.size + 1) 88 7 v k (flatV (List.replicate k GC.blank)) ∧ wr.heap[W.heap.size]? = some (.cells #[.slice none 0 0] 90 (0, 0)) ∧ Below W.heap.size W wr) (fun i _ _ => n - (intOf i).toNat)
 case atStart => exact ⟨0, Nat.zero_le _, rfl, World.ownsRow_nil _ _ _ _, World.alloc_heap_new W _, (Below.refl _ _).alloc (Nat.le_refl _) _⟩
 case round =>
  obtain ⟨k, hk, rfl, hown, hbx, hb⟩ := hrel
  obtain ⟨a, c, rfl⟩ := own_sliceF hown
  have hs := (Array.getElem?_eq_some_iff.1 hbx).1
  by_cases hlt : k < n
  ·have g1 := GBlk.made wr [GC.blank]
   have hsn : flatV (List.replicate (k + 1) GC.blank) = flatV (List.replicate k GC.blank) ++ flatV [GC.blank] := by rw [List.replicate_succ', flatV_append]
   have HSN := Lib.hid hsn
   clear hsn
   go_wp2_with (at_builtin; refine wpList_append_own_at _ rfl _ _ 46 rfl (W.heap.size + 1) 88 i0 GC.zero.v 7 48 Tryz.underlying46 hi hz0 hz1 hz2 rfl (by decide) _ _ _ rfl (hown.alloc _) ⟨wr.heap.size, 0, none⟩ 1 1 (flatV [GC.blank]) rfl rfl g1.news (flatV_one _) (by unfold maxLen; omega) (by omega) (by simp; omega) ?_; intro v' w1 hown' hgrow _ _)
   have hB1 : Below (W.heap.size + 1) wr w1 := ((Below.refl (W.heap.size + 1) wr).alloc (by omega) _).grown hgrow (by simp; omega) (fun k e => (own_cells hown k e).1)
   go_roundw
   case rel => exact ⟨k + 1, hlt, by go_num, by rw [HSN.out]; exact hown', (hB1.block _ (by omega)).trans hbx, hb.trans (hB1.mono (by omega))⟩
   case measure => simp [intOf]; omega
  ·obtain rfl : k = n := by omega
   have hz := set_at hbx 0 (.slice a k c)
   have ho2 := ownsRow_setCell_below hown (a := ⟨W.heap.size, 0, none⟩) (by show W.heap.size < W.heap.size + 1; omega) (.slice a k c)
   obtain ⟨h1, h2, h3⟩ := CellsAt.of_own (by simp) ho2
   have HZ := Lib.hid hz
   have hb2 := hb.setCell (p := ⟨W.heap.size, 0, none⟩) (Nat.le_refl _) (.slice a k c)
   have hc0 : wr.cell? ⟨W.heap.size, 0, none⟩ = some (.slice none 0 0) ∧ wr.frozen? ⟨W.heap.size, 0, none⟩ = false := ⟨by rw [cell_of_row wr _ 0 _ _ _ hbx]; rfl, by simp [World.frozen?, hbx]⟩
   obtain ⟨hc0, hf0⟩ := hc0
   clear hz hbx
   go_wp2
   refine bodyPost_ret (results_cell_row rfl _ _ W.heap.size 90 _ (0, 0) _ rfl HZ.out Tryz.underlying90 rfl (by kernel_rfl)) rfl ?_
   exact ⟨a, c, rfl, h1, ⟨⟨h2, h3⟩, fun b o e => by subst e; have h4 := own_cells ho2 b rfl; obtain ⟨h5, cur, h6⟩ := h4; exact ⟨by omega, (Array.getElem?_eq_some_iff.1 h6).1⟩⟩, hb2⟩
theorem CellsAt.news {W : World} {b o n : Nat} {M : List GC} (h : CellsAt W (some ⟨b, o, none⟩) n M) : ∀ j u, (flatV M)[j]? = some u → W.cell? ((⟨b, o, none⟩ : Addr).add j) = some u := fun j u hj => by
 have hl := (List.getElem?_eq_some_iff.1 hj).1
 rw [flatV_length] at hl
 have hi : j / 7 < M.length := by omega
 have hc : M[j / 7]? = some M[j / 7] := List.getElem?_eq_getElem hi
 obtain ⟨b', o', e, _, hr⟩ := h.at_ (j / 7) _ hc
 simp only [Option.some.injEq, Addr.mk.injEq] at e
 obtain ⟨rfl, rfl, _⟩ := e
 have e2 := flatV_get hc (j := j % 7) (by omega)
 rw [show 7 * (j / 7) + j % 7 = j by omega, hj] at e2
 have := hr (j % 7) u e2.symm
 rw [Go.WideShapes.add_plain, show o + j = o + j / 7 * 7 + j % 7 by omega]
 exact this
theorem CellsAt.addr {W : World} {a : Option Addr} {n : Nat} {M : List GC} (h : CellsAt W a n M) (hn : 1 ≤ n) : ∃ b o, a = some ⟨b, o, none⟩ ∧ b < W.heap.size := by
 have hl := h.len
 obtain ⟨b, o, e, hb, _⟩ := h.at_ 0 _ (List.getElem?_eq_getElem (by omega))
 exact ⟨b, o, e, hb⟩
theorem own_neS {W : World} {n₀ : Nat} {e : TypeId} {s : Nat} {v : Value} {n : Nat} {xs : List Value} (h : W.ownsRow n₀ e s v n xs) (hn : n ≠ 0) : ∃ g c, v = .slice (some ⟨g, 0, none⟩) n c ∧ n₀ ≤ g ∧ n ≤ c ∧ c ≤ maxLen := by
 rcases h.2 with ⟨_, h2⟩ | ⟨g, cap, cur, h1, h2, _, h3, h4, _⟩
 ·exact absurd h2 hn
 ·exact ⟨g, cap, h1, h2, h3, h4⟩
def RowPost (n : Nat) (M : List GC) (W : World) (e : Ending) (w' : World) : Prop := ∃ a c, e = .returned (.slice a n c) ∧ CellsAt w' a n M ∧ ((n ≤ c ∧ c ≤ maxLen) ∧ ∀ b o, a = some ⟨b, o, none⟩ → W.heap.size ≤ b ∧ b < w'.heap.size) ∧ Below W.heap.size W w'
set_option maxRecDepth 100000 in
set_option maxHeartbeats 4000000 in
theorem rset_any {W : World} {a : Option Addr} {n cap : Nat} {M : List GC} (hM : CellsAt W a n M) (hn : 1 ≤ n ∧ n ≤ 1000) (i : Int) (h0 : 0 ≤ i) (h1 : i < n) (C : GC) :
    Calls Tryz.prog 128 #[.slice a n cap, .int .i64 i, .agg #[.string C.s, .int .i64 C.w, .bool C.y.b, .bool C.y.u, .bool C.y.i, .int .i64 C.y.f, .int .i64 C.y.g]] W (RowPost n (M.set i.toNat C) W) := by
 obtain ⟨i0, hi, hz0, hz1, hz2⟩ := info_parts infoCell
 obtain ⟨k, rfl⟩ := Int.eq_ofNat_of_zero_le h0
 simp only [Int.toNat_natCast]
 have hl := hM.len
 have hk : k < n := by omega
 obtain ⟨b, o, rfl, hbl⟩ := hM.addr hn.1
 obtain ⟨X1, hX1⟩ : ∃ X1, W.alloc (.cells #[.string C.s, .int .i64 C.w, .bool C.y.b, .bool C.y.u, .bool C.y.i, .int .i64 C.y.f, .int .i64 C.y.g] 88) = X1 := ⟨_, rfl⟩
 obtain ⟨X2, hX2⟩ : ∃ X2, X1.alloc (.cells #[] 88) = X2 := ⟨_, rfl⟩
 have g1 : GBlk X1 W.heap.size [C] := by rw [← hX1]; exact GBlk.made W [C]
 have b1 : Below W.heap.size W X1 := by rw [← hX1]; exact (Below.refl _ _).alloc (Nat.le_refl _) _
 have s1 : X1.heap.size = W.heap.size + 1 := by rw [← hX1]; simp
 have b2 : Below W.heap.size W X2 := by rw [← hX2]; exact b1.alloc (by omega) _
 have g2 : GBlk X2 W.heap.size [C] := by rw [← hX2]; exact g1.alloc _
 have s2 : X2.heap.size = W.heap.size + 1 + 1 := by rw [← hX2]; simp [s1]
 have ho := World.ownsRow_made (base := W.heap.size + 1) (e := 88) (size := 7) X1 #[] 0 (by omega) (by unfold maxLen; omega) rfl
 rw [hX2, s1] at ho
 have hnews := (hM.below b2).news
 have HX1 := Lib.hid hX1
 have HX2 := Lib.hid hX2
 have S1 := Lib.hid s1
 have S2 := Lib.hid s2
 have HL := Lib.hid hl
 clear hX1 hX2 s1 s2 b1 g1 hM hl h0 h1
 go_enter Tryz.func128, Tryz.ntmps128
 go_wp2_with (first
  | (at_builtin; rw [HX1.out, HX2.out]; refine wpList_append_own_at _ rfl _ _ 46 rfl (W.heap.size + 1) 88 i0 GC.zero.v 7 48 Tryz.underlying46 hi hz0 hz1 hz2 rfl (by decide) _ _ _ rfl ho ⟨b, o, none⟩ n cap (flatV M) rfl (by rw [flatV_length, HL.out, Nat.mul_comm]) hnews (flatV_one _) (by unfold maxLen; omega) (by omega) (by have := S2.out; omega) ?_; intro v' w1 hown' hgrow _ _; rw [Nat.zero_add, List.nil_append] at hown'; obtain ⟨g, c', rfl, hg, hc1, hc2⟩ := own_neS hown' (by omega); have hB1 : Below (W.heap.size + 1) X2 w1 := (Below.refl (W.heap.size + 1) X2).grown hgrow (by have := S2.out; omega) (fun k e => Nat.le_of_eq (Option.some.inj e)); have r3 := (show GBlk w1 W.heap.size [C] from (hB1.block _ (by omega)).trans g2).range1 (i := 0) rfl)
  | (refine wpList_gload rfl _ rfl W.heap.size _ rfl C r3 ?_)
  | (refine wpList_ostore rfl _ _ rfl g _ rfl C rfl (W.heap.size + 1) n c' M (by assumption) k (by omega) (by rw [HL.out]; omega) ?_; intro w2 ho2 o2))
 go_ret
 obtain ⟨h1, h2, h3⟩ := CellsAt.of_own (by rw [List.length_set]; exact HL.out) ho2
 exact ⟨_, _, rfl, h1, ⟨⟨h2, h3⟩, fun b o e => by cases e; obtain ⟨h5, cur, h6⟩ := own_cells ho2 g rfl; exact ⟨by omega, (Array.getElem?_eq_some_iff.1 h6).1⟩⟩, (b2.trans (hB1.mono (by omega))).trans (o2.below (by simp; omega) (by have := hB1.size; have := S2.out; omega))⟩
theorem wipe_row (M : List GC) (c : Nat) : wipeL M 0 M.length c = (if (nth GC.zero M c).w = 2 ∧ c + 1 < M.length then (M.set c GC.blank).set (c + 1) GC.blank else if (nth GC.zero M c).w = 0 ∧ 0 < c then (M.set c GC.blank).set (c - 1) GC.blank else M.set c GC.blank) := by
 unfold wipeL; simp only [Nat.zero_add]
set_option maxRecDepth 100000 in
set_option maxHeartbeats 4000000 in
theorem rblank_any {W : World} {a : Option Addr} {n cap : Nat} {M : List GC} (hM : CellsAt W a n M) (hn : 1 ≤ n ∧ n ≤ 1000) (i : Int) (h0 : 0 ≤ i) (h1 : i < n) :
    Calls Tryz.prog 161 #[.slice a n cap, .int .i64 i] W (RowPost n (wipeL M 0 n i.toNat) W) := by
 obtain ⟨c, rfl⟩ := Int.eq_ofNat_of_zero_le h0
 simp only [Int.toNat_natCast]
 have hl := hM.len
 have hc : c < n := by omega
 have HW := wipe_row M c
 rw [hl] at HW
 obtain ⟨C, hC⟩ : ∃ C, M[c]? = some C := ⟨_, List.getElem?_eq_getElem (by omega)⟩
 obtain ⟨b, o, rfl, hbl, hr⟩ := hM.at_ c C hC
 have hx := hr 1 _ rfl
 have hnth : (nth GC.zero M c).w = C.w := by rw [nth_eq _ _ _ (by omega)]; rw [(List.getElem?_eq_some_iff.1 hC).2]
 rw [hnth] at HW
 obtain ⟨x, hxx⟩ : ∃ x, x = C.w := ⟨_, rfl⟩
 rw [← hxx] at hx HW
 have CS := Lib.hid (fun (X : World) a cap N (h : CellsAt X a n N) (i : Int) h0 h1 => rset_any (cap := cap) h hn i h0 h1 GC.blank)
 have HM := Lib.hid hM
 obtain ⟨R, hR⟩ : ∃ R, R = wipeL M 0 n c := ⟨_, rfl⟩
 rw [← hR] at HW ⊢
 clear hR hxx hnth hC hr hM hl
 by_cases hA : x = 2 ∧ c + 1 < n
 ·obtain ⟨rfl, hA2⟩ := hA
  rw [if_pos ⟨rfl, hA2⟩] at HW
  have HW := Lib.hid HW
  have hA3 : (c : Int) + 1 < n := by omega
  go_enter Tryz.func161, Tryz.ntmps161
  go_wp2_with fail
  refine (CS.out _ _ _ _ HM.out _ (by omega) (by omega)).mono ?_
  rintro e w1 ⟨a1, c1, rfl, hM1, _, hb1⟩
  go_wp2_with fail
  refine (CS.out _ _ _ _ hM1 _ (by omega) (by omega)).mono ?_
  rintro e w2 ⟨a2, c2, rfl, hM2, hc2, hb2⟩
  go_wp2
  go_ret
  refine ⟨_, _, rfl, ?_, ⟨hc2.1, fun b o e => ⟨Nat.le_trans hb1.size (hc2.2 b o e).1, (hc2.2 b o e).2⟩⟩, bnext hb1 hb2⟩
  rw [HW.out]; exact hM2
 ·rw [if_neg hA] at HW
  by_cases hB : x = 0 ∧ 0 < c
  ·obtain ⟨rfl, hB2⟩ := hB
   rw [if_pos ⟨rfl, hB2⟩] at HW
   have HW := Lib.hid HW
   have hB3 : (0 : Int) < (c : Int) := by omega
   have htn : ((c : Int) - 1).toNat = c - 1 := by omega
   have HTN := Lib.hid htn
   clear htn
   go_enter Tryz.func161, Tryz.ntmps161
   go_wp2_with fail
   refine (CS.out _ _ _ _ HM.out _ (by omega) (by omega)).mono ?_
   rintro e w1 ⟨a1, c1, rfl, hM1, _, hb1⟩
   go_wp2_with fail
   refine (CS.out _ _ _ _ hM1 _ (by omega) (by omega)).mono ?_
   rintro e w2 ⟨a2, c2, rfl, hM2, hc2, hb2⟩
   go_wp2
   go_ret
   refine ⟨_, _, rfl, ?_, ⟨hc2.1, fun b o e => ⟨Nat.le_trans hb1.size (hc2.2 b o e).1, (hc2.2 b o e).2⟩⟩, bnext hb1 hb2⟩
   rw [HW.out]
   rw [HTN.out] at hM2
   exact hM2
  ·rw [if_neg hB] at HW
   have HW := Lib.hid HW
   have hB2 : c = 0 ∨ ¬ x = 0 := by omega
   have hA2 : ¬ x = 2 ∨ ¬ c + 1 < n := by omega
   go_enter Tryz.func161, Tryz.ntmps161
   go_wp2_with fail
   refine (CS.out _ _ _ _ HM.out _ (by omega) (by omega)).mono ?_
   rintro e w1 ⟨a1, c1, rfl, hM1, hc1, hb1⟩
   go_wp2_with fail
   all_goals first | (exfalso; omega) | skip
   all_goals go_ret
   all_goals
    refine ⟨_, _, rfl, ?_, hc1, hb1⟩
    rw [HW.out]; exact hM1
structure RowsF (F : Nat → Prop) (W : World) (a : Option Addr) (n : Nat) (R : List (List GC)) : Prop where
 len : R.length = n
 at_ : ∀ (i : Nat) (M : List GC), R[i]? = some M → ∃ b off a2 c2, a = some ⟨b, off, none⟩ ∧ (b < W.heap.size ∧ F b) ∧ W.cell? ⟨b, off + i, none⟩ = some (.slice a2 M.length c2) ∧ (M.length ≤ c2 ∧ c2 ≤ maxLen) ∧ CellsAt W a2 M.length M ∧ ∀ b2 o2, a2 = some ⟨b2, o2, none⟩ → b2 < W.heap.size ∧ F b2
theorem heap_cell {W Y : World} {b : Nat} (h : Y.heap[b]? = W.heap[b]?) (o : Nat) : Y.cell? ⟨b, o, none⟩ = W.cell? ⟨b, o, none⟩ := by unfold World.cell?; dsimp only; rw [h]
theorem CellsAt.keep {W Y : World} {a : Option Addr} {n : Nat} {M : List GC} (h : CellsAt W a n M) (hs : W.heap.size ≤ Y.heap.size) (hk : ∀ b o, a = some ⟨b, o, none⟩ → b < W.heap.size → Y.heap[b]? = W.heap[b]?) : CellsAt Y a n M :=
 ⟨h.len, fun i c hi => by
  obtain ⟨b, off, h1, h2, h3⟩ := h.at_ i c hi
  exact ⟨b, off, h1, Nat.lt_of_lt_of_le h2 hs, fun j v hv => (heap_cell (hk b off h1 h2) _).trans (h3 j v hv)⟩⟩
theorem RowsF.keep {F : Nat → Prop} {W Y : World} {a : Option Addr} {n : Nat} {R : List (List GC)} (h : RowsF F W a n R) (hs : W.heap.size ≤ Y.heap.size) (hk : ∀ b, F b → b < W.heap.size → Y.heap[b]? = W.heap[b]?) : RowsF F Y a n R :=
 ⟨h.len, fun i M hi => by
  obtain ⟨b, off, a2, c2, h1, h2, h3, h4, h5, h6⟩ := h.at_ i M hi
  exact ⟨b, off, a2, c2, h1, ⟨Nat.lt_of_lt_of_le h2.1 hs, h2.2⟩, (heap_cell (hk b h2.2 h2.1) _).trans h3, h4, h5.keep hs (fun b o e hb => hk b (h6 b o e).2 hb), fun b o e => ⟨Nat.lt_of_lt_of_le (h6 b o e).1 hs, (h6 b o e).2⟩⟩⟩
theorem RowsF.below {F : Nat → Prop} {W W' : World} {a : Option Addr} {n : Nat} {R : List (List GC)} (h : RowsF F W a n R) (hb : Below W.heap.size W W') : RowsF F W' a n R := h.keep hb.size (fun b _ hlt => hb.block b hlt)
theorem RowsF.mono {F F' : Nat → Prop} {W : World} {a : Option Addr} {n : Nat} {R : List (List GC)} (h : RowsF F W a n R) (hF : ∀ b, F b → b < W.heap.size → F' b) : RowsF F' W a n R :=
 ⟨h.len, fun i M hi => by
  obtain ⟨b, off, a2, c2, h1, h2, h3, h4, h5, h6⟩ := h.at_ i M hi
  exact ⟨b, off, a2, c2, h1, ⟨h2.1, hF b h2.2 h2.1⟩, h3, h4, h5, fun b2 o2 e => ⟨(h6 b2 o2 e).1, hF b2 (h6 b2 o2 e).2 (h6 b2 o2 e).1⟩⟩⟩
structure RG (F : Nat → Prop) (W : World) (a : Option Addr) (cap w h : Nat) (R : List (List GC)) : Prop where
 rows : RowsF F W a h R
 ok : RowsOk w h R
 le : h ≤ cap
 mx : cap ≤ maxLen
theorem RG.below {F : Nat → Prop} {W W' : World} {a : Option Addr} {cap w h : Nat} {R : List (List GC)} (g : RG F W a cap w h R) (hb : Below W.heap.size W W') : RG F W' a cap w h R := ⟨g.rows.below hb, g.ok, g.le, g.mx⟩
theorem RG.keep {F : Nat → Prop} {W Y : World} {a : Option Addr} {cap w h : Nat} {R : List (List GC)} (g : RG F W a cap w h R) (hs : W.heap.size ≤ Y.heap.size) (hk : ∀ b, F b → b < W.heap.size → Y.heap[b]? = W.heap[b]?) : RG F Y a cap w h R := ⟨g.rows.keep hs hk, g.ok, g.le, g.mx⟩
theorem RG.mono {F F' : Nat → Prop} {W : World} {a : Option Addr} {cap w h : Nat} {R : List (List GC)} (g : RG F W a cap w h R) (hF : ∀ b, F b → b < W.heap.size → F' b) : RG F' W a cap w h R := ⟨g.rows.mono hF, g.ok, g.le, g.mx⟩
def GBox (W : World) (b : Nat) (w h : Nat) (a : Option Addr) (n cap : Nat) : Prop := W.heap[b]? = some (.cells #[.int .i64 w, .int .i64 h, .slice a n cap] 30 (0, 0))
theorem GBox.cells {W : World} {b w h n cap : Nat} {a : Option Addr} (g : GBox W b w h a n cap) :
    W.cell? ⟨b, 0, none⟩ = some (.int .i64 w) ∧ W.cell? ⟨b, 1, none⟩ = some (.int .i64 h) ∧ W.cell? ⟨b, 2, none⟩ = some (.slice a n cap) ∧ ∀ j, W.frozen? ⟨b, j, none⟩ = false := by
 unfold GBox at g
 unfold World.cell? World.frozen?
 dsimp only
 rw [g]
 simp
theorem GBox.lt {W : World} {b w h n cap : Nat} {a : Option Addr} (g : GBox W b w h a n cap) : b < W.heap.size := (Array.getElem?_eq_some_iff.1 g).1
theorem GBox.new (W : World) (w h n cap : Nat) (a : Option Addr) : GBox (W.alloc (.cells #[.int .i64 w, .int .i64 h, .slice a n cap] 30)) W.heap.size w h a n cap := World.alloc_heap_new W _
theorem GBox.below {W W' : World} {b w h n cap : Nat} {a : Option Addr} (g : GBox W b w h a n cap) (hb : Below W.heap.size W W') : GBox W' b w h a n cap := (hb.block b g.lt).trans g
theorem GBox.only {W W' : World} {b w h n cap : Nat} {a : Option Addr} {S : List Nat} (g : GBox W b w h a n cap) (ho : Only S W W') (hS : b ∉ S) : GBox W' b w h a n cap := ho.heap g hS
theorem GBox.fill {W : World} {b w h n cap : Nat} {a : Option Addr} (g : GBox W b w h a n cap) (w' h' n' cap' : Nat) (a' : Option Addr) (X : World)
    (hX : ((W.setCell ⟨b, 0, none⟩ (.int .i64 w')).setCell ⟨b, 1, none⟩ (.int .i64 h')).setCell ⟨b, 2, none⟩ (.slice a' n' cap') = X) : GBox X b w' h' a' n' cap' ∧ Only [b] W X := by
 subst hX
 refine ⟨?_, (((Only.refl [b] W).setCell (.inl (by simp)) _).setCell (.inl (by simp)) _).setCell (.inl (by simp)) _⟩
 unfold GBox at g ⊢
 rw [set_at (set_at (set_at g _ _) _ _) _ _]
 rfl
theorem GBox.set2 {W : World} {b w h n cap : Nat} {a : Option Addr} (g : GBox W b w h a n cap) (n' cap' : Nat) (a' : Option Addr) : GBox (W.setCell ⟨b, 2, none⟩ (.slice a' n' cap')) b w h a' n' cap' ∧ Only [b] W (W.setCell ⟨b, 2, none⟩ (.slice a' n' cap')) := by
 refine ⟨?_, (Only.refl [b] W).setCell (.inl (by simp)) _⟩
 unfold GBox at g ⊢
 rw [set_at g _ _]
 rfl
set_option maxRecDepth 100000 in
theorem rthere_any (w h : Nat) (a : Option Addr) (n cap : Nat) (r c : Int) (W : World) : Calls Tryz.prog 126 #[.agg #[.int .i64 w, .int .i64 h, .slice a n cap], .int .i64 r, .int .i64 c] W fun e w' => e = .returned (.bool (inG w h r c)) ∧ Below W.heap.size W w' := by
 obtain ⟨z, hz⟩ : ∃ z, z = inG w h r c := ⟨_, rfl⟩
 rw [← hz]
 have HZ := Lib.hid hz
 clear hz
 go_enter Tryz.func126, Tryz.ntmps126
 go_wp2
 all_goals go_ret
 all_goals exact ⟨ret_bool (by rw [HZ.out]; unfold inG; first | (symm; simp; omega) | (simp; omega) | simp [*]), (Below.refl _ _).alloc (Nat.le_refl _) _⟩
set_option maxRecDepth 100000 in
theorem rsize_any (a b : Int) (w : World) : Calls Tryz.prog 73 #[.int .i64 a, .int .i64 b] w fun e w' => e = .returned (.bool (decide (1 ≤ a ∧ a ≤ 500 ∧ 1 ≤ b ∧ b ≤ 500))) ∧ w = w' := by
 obtain ⟨z, hz⟩ : ∃ z, z = decide (1 ≤ a ∧ a ≤ 500 ∧ 1 ≤ b ∧ b ≤ 500) := ⟨_, rfl⟩
 rw [← hz]
 have HZ := Lib.hid hz
 clear hz
 go_enter Tryz.func73, Tryz.ntmps73
 go_wp2
 all_goals go_ret
 all_goals exact ⟨ret_bool (by rw [HZ.out]; first | (symm; simp; omega) | (simp; omega) | simp [*]), rfl⟩
theorem infoRow : (Tryz.prog.info? 90).map (fun i => (i.zero, i.size, i.bytes)) = some (some (.agg #[.slice none 0 0]), 1, 24) := by kernel_rfl
structure VRows (F : Nat → Prop) (W : World) (vs : List Value) (R : List (List GC)) : Prop where
 len : vs.length = R.length
 at_ : ∀ (i : Nat) (M : List GC), R[i]? = some M → ∃ a2 c2, vs[i]? = some (.slice a2 M.length c2) ∧ (M.length ≤ c2 ∧ c2 ≤ maxLen) ∧ CellsAt W a2 M.length M ∧ ∀ b2 o2, a2 = some ⟨b2, o2, none⟩ → b2 < W.heap.size ∧ F b2
theorem VRows.below {F : Nat → Prop} {W W' : World} {vs : List Value} {R : List (List GC)} (h : VRows F W vs R) (hb : Below W.heap.size W W') : VRows F W' vs R :=
 ⟨h.len, fun i M hi => by obtain ⟨a2, c2, h1, h2, h3, h4⟩ := h.at_ i M hi; exact ⟨a2, c2, h1, h2, h3.below hb, fun b o e => ⟨Nat.lt_of_lt_of_le (h4 b o e).1 hb.size, (h4 b o e).2⟩⟩⟩
theorem VRows.set {F : Nat → Prop} {W : World} {vs : List Value} {R : List (List GC)} (h : VRows F W vs R) (r : Nat) {a : Option Addr} {n c : Nat} {M : List GC} (hn : M.length = n) (hc : n ≤ c ∧ c ≤ maxLen) (hM : CellsAt W a n M) (hF : ∀ b o, a = some ⟨b, o, none⟩ → b < W.heap.size ∧ F b) : VRows F W (vs.set r (.slice a n c)) (R.set r M) := by
 refine ⟨by rw [List.length_set, List.length_set, h.len], fun i N hi => ?_⟩
 rw [List.getElem?_set] at hi
 split at hi
 ·rename_i hr
  subst hr
  split at hi
  ·rename_i hlt
   simp only [Option.some.injEq] at hi
   subst hi
   exact ⟨a, c, by rw [List.getElem?_set_self (by rw [h.len]; exact hlt), hn], by rw [hn]; exact hc, by rw [hn]; exact hM, hF⟩
  ·cases hi
 ·rename_i hr
  rw [List.getElem?_set_ne hr]
  exact h.at_ i N hi
theorem VRows.snoc {F : Nat → Prop} {W : World} {vs : List Value} {R : List (List GC)} (h : VRows F W vs R) {a : Option Addr} {n c : Nat} {M : List GC} (hn : M.length = n) (hc : n ≤ c ∧ c ≤ maxLen) (hM : CellsAt W a n M) (hF : ∀ b o, a = some ⟨b, o, none⟩ → b < W.heap.size ∧ F b) : VRows F W (vs ++ [.slice a n c]) (R ++ [M]) := by
 refine ⟨by simp [h.len], fun i N hi => ?_⟩
 by_cases he : i < R.length
 ·rw [List.getElem?_append_left he] at hi
  obtain ⟨a2, c2, h1, h2⟩ := h.at_ i N hi
  exact ⟨a2, c2, by rw [List.getElem?_append_left (by rw [h.len]; exact he)]; exact h1, h2⟩
 ·have hi2 := (List.getElem?_eq_some_iff.1 hi).1
  rw [List.length_append] at hi2
  simp only [List.length_cons, List.length_nil] at hi2
  obtain rfl : i = R.length := by omega
  rw [List.getElem?_append_right (Nat.le_refl _), Nat.sub_self] at hi
  simp only [List.getElem?_cons_zero, Option.some.injEq] at hi
  subst hi
  exact ⟨a, c, by rw [List.getElem?_append_right (by rw [h.len]; exact Nat.le_refl _), h.len, Nat.sub_self, hn]; rfl, by rw [hn]; exact hc, by rw [hn]; exact hM, hF⟩
theorem VRows.drop {F : Nat → Prop} {W : World} {vs : List Value} {R : List (List GC)} (h : VRows F W vs R) (k : Nat) : VRows F W (vs.drop k) (R.drop k) :=
 ⟨by rw [List.length_drop, List.length_drop, h.len], fun i M hi => by rw [List.getElem?_drop] at hi ⊢; exact h.at_ _ M hi⟩
theorem VRows.take {F : Nat → Prop} {W : World} {vs : List Value} {R : List (List GC)} (h : VRows F W vs R) (k : Nat) : VRows F W (vs.take k) (R.take k) :=
 ⟨by rw [List.length_take, List.length_take, h.len], fun i M hi => by
  have hlt : i < k := by have := (List.getElem?_eq_some_iff.1 hi).1; rw [List.length_take] at this; omega
  rw [List.getElem?_take_of_lt hlt] at hi ⊢; exact h.at_ _ M hi⟩
theorem VRows.nil (F : Nat → Prop) (W : World) : VRows F W [] [] := ⟨rfl, fun i M hi => by simp at hi⟩
theorem VRows.one {F : Nat → Prop} {W : World} {vs : List Value} {R : List (List GC)} (h : VRows F W vs R) : ∀ u ∈ vs, u.oneCell' = true := fun u hu => by
 obtain ⟨i, hi, rfl⟩ := List.mem_iff_getElem.1 hu
 obtain ⟨a2, c2, h1, _⟩ := h.at_ i _ (List.getElem?_eq_getElem (by rw [← h.len]; exact hi))
 rw [List.getElem?_eq_getElem hi, Option.some.injEq] at h1
 rw [h1]; rfl
theorem RowsF.vals {F : Nat → Prop} {W : World} {a : Option Addr} {n : Nat} {R : List (List GC)} (h : RowsF F W a n R) : ∃ vs, VRows F W vs R ∧ RowAt W.heap.size W a vs := by
 have key : ∀ (k : Nat), k ≤ R.length → ∃ vs : List Value, VRows F W vs (R.take k) ∧ RowAt W.heap.size W a vs := by
  intro k
  induction k with
  | zero => intro _; exact ⟨[], VRows.nil F W, RowAt.nil _ _ _⟩
  | succ k ih =>
   intro hk
   obtain ⟨vs, h1, h2⟩ := ih (by omega)
   obtain ⟨b, off, a2, c2, e, ⟨hb, _⟩, hc, hl, hM, hF⟩ := h.at_ k R[k] (List.getElem?_eq_getElem (by omega))
   have hvl : vs.length = k := by rw [h1.len, List.length_take]; omega
   refine ⟨vs ++ [.slice a2 R[k].length c2], by rw [List.take_succ_eq_append_getElem (by omega)]; exact h1.snoc rfl hl hM hF, fun j hj => ?_⟩
   rw [List.length_append, List.length_cons, List.length_nil] at hj
   by_cases hjk : j < vs.length
   ·obtain ⟨b', off', e', hb', hc'⟩ := h2 j hjk
    refine ⟨b', off', e', hb', ?_⟩
    rw [hc', nth_eq _ _ _ hjk, nth_eq _ _ _ (by simp; omega), List.getElem_append_left hjk]
   ·obtain rfl : j = k := by omega
    refine ⟨b, off, e, hb, ?_⟩
    rw [hc, nth_eq _ _ _ (by simp; omega), List.getElem_append_right (by omega)]
    simp
 obtain ⟨vs, h1, h2⟩ := key R.length (Nat.le_refl _)
 rw [List.take_length] at h1
 exact ⟨vs, h1, h2⟩
theorem RowsF.of_vals {F : Nat → Prop} {W : World} {a : Option Addr} {n : Nat} {R : List (List GC)} {vs : List Value} (hn : R.length = n) (h : VRows F W vs R) (hr : RowAt W.heap.size W a vs) (ha : ∀ b o, a = some ⟨b, o, none⟩ → F b) : RowsF F W a n R :=
 ⟨hn, fun i M hi => by
  obtain ⟨a2, c2, h1, h2, h3, h4⟩ := h.at_ i M hi
  have hiv := (List.getElem?_eq_some_iff.1 h1).1
  obtain ⟨b, off, e, hb, hc⟩ := hr i hiv
  refine ⟨b, off, a2, c2, e, ⟨hb, ha b off e⟩, ?_, h2, h3, h4⟩
  rw [hc, nth_eq _ _ _ hiv, (List.getElem?_eq_some_iff.1 h1).2]⟩
theorem RowAt.news {B : Nat} {W : World} {b o : Nat} {vs : List Value} (h : RowAt B W (some ⟨b, o, none⟩) vs) : ∀ j u, vs[j]? = some u → W.cell? ((⟨b, o, none⟩ : Addr).add j) = some u := fun j u hj => by
 have hl := (List.getElem?_eq_some_iff.1 hj).1
 obtain ⟨b', o', e, _, hc⟩ := h j hl
 simp only [Option.some.injEq, Addr.mk.injEq] at e
 obtain ⟨rfl, rfl, _⟩ := e
 rw [Go.WideShapes.add_plain, hc, nth_eq _ _ _ hl, (List.getElem?_eq_some_iff.1 hj).2]
theorem RowsF.addr {F : Nat → Prop} {W : World} {a : Option Addr} {n : Nat} {R : List (List GC)} (h : RowsF F W a n R) (hn : 1 ≤ n) : ∃ b o, a = some ⟨b, o, none⟩ ∧ b < W.heap.size := by
 have hl := h.len
 obtain ⟨b, o, _, _, e, ⟨hb, _⟩, _⟩ := h.at_ 0 _ (List.getElem?_eq_getElem (by omega))
 exact ⟨b, o, e, hb⟩
theorem own_cellS {W : World} {base g n cap : Nat} {e : TypeId} {vs : List Value} (h : W.ownsRow base e 1 (.slice (some ⟨g, 0, none⟩) n cap) n vs) (j : Nat) (hj : j < n) :
    (∃ v, W.cell? ⟨g, j, none⟩ = some v) ∧ W.frozen? ⟨g, j, none⟩ = false ∧ base ≤ g ∧ g < W.heap.size := by
 rcases h.2 with ⟨h1, _⟩ | ⟨g', cap', cur, h1, h2, h3, h4, h5, h6, h7⟩
 ·cases h1
 ·simp only [Value.slice.injEq, Option.some.injEq, Addr.mk.injEq, true_and, and_true] at h1
  obtain ⟨rfl, rfl⟩ := h1
  refine ⟨⟨cur[j]'(by omega), ?_⟩, ?_, h2, (Array.getElem?_eq_some_iff.1 h3).1⟩
  ·rw [cell_of_row W g j _ _ _ h3]; exact Array.getElem?_eq_getElem _
  ·simp [World.frozen?, h3]
def GPost (F : Nat → Prop) (w h : Nat) (R : List (List GC)) (W : World) (e : Ending) (w' : World) : Prop := ∃ a c, e = .returned (.agg #[.int .i64 w, .int .i64 h, .slice a h c]) ∧ RG F w' a c w h R ∧ Below W.heap.size W w'
set_option maxRecDepth 100000 in
set_option maxHeartbeats 4000000 in
theorem rwith_any {F : Nat → Prop} {W : World} (hF : ∀ b, W.heap.size ≤ b → F b) {a : Option Addr} {cap w h : Nat} {R : List (List GC)} (g : RG F W a cap w h R) (hh : 1 ≤ h ∧ h ≤ 1000) (r : Int) (h0 : 0 ≤ r) (h1 : r < h) {a2 : Option Addr} {c2 : Nat} {M : List GC} (hM : CellsAt W a2 w M) (hc2 : w ≤ c2 ∧ c2 ≤ maxLen) (ha2 : ∀ b o, a2 = some ⟨b, o, none⟩ → b < W.heap.size ∧ F b) :
    Calls Tryz.prog 127 #[.agg #[.int .i64 w, .int .i64 h, .slice a h cap], .int .i64 r, .slice a2 w c2] W (GPost F w h (R.set r.toNat M) W) := by
 obtain ⟨i0, hi, hz0, hz1, hz2⟩ := info_parts infoRow
 obtain ⟨k, rfl⟩ := Int.eq_ofNat_of_zero_le h0
 simp only [Int.toNat_natCast]
 have hk : k < h := by omega
 have hRl := g.rows.len
 obtain ⟨b, o, rfl, hbl⟩ := g.rows.addr hh.1
 obtain ⟨vs, hv, hrow⟩ := g.rows.vals
 have hvl := hv.len
 rw [hRl] at hvl
 have hm := g.mx
 obtain ⟨X1, hX1⟩ : ∃ X1, W.alloc (.cells #[.int .i64 w, .int .i64 h, .slice (some ⟨b, o, none⟩) h cap] 30) = X1 := ⟨_, rfl⟩
 obtain ⟨X2, hX2⟩ : ∃ X2, X1.alloc (.cells #[.int .i64 0, .int .i64 0, .slice none 0 0] 30) = X2 := ⟨_, rfl⟩
 obtain ⟨X3, hX3⟩ : ∃ X3, X2.alloc (.cells #[] 90) = X3 := ⟨_, rfl⟩
 have b1 : Below W.heap.size W X1 := by rw [← hX1]; exact (Below.refl _ _).alloc (Nat.le_refl _) _
 have s1 : X1.heap.size = W.heap.size + 1 := by rw [← hX1]; simp
 have b2 : Below W.heap.size W X2 := by rw [← hX2]; exact b1.alloc (by omega) _
 have s2 : X2.heap.size = W.heap.size + 1 + 1 := by rw [← hX2]; simp [s1]
 have b3 : Below W.heap.size W X3 := by rw [← hX3]; exact b2.alloc (by omega) _
 have s3 : X3.heap.size = W.heap.size + 1 + 1 + 1 := by rw [← hX3]; simp [s2]
 have p1 : GBox X3 W.heap.size w h (some ⟨b, o, none⟩) h cap := by
  have : GBox X1 W.heap.size w h (some ⟨b, o, none⟩) h cap := by rw [← hX1]; exact GBox.new W _ _ _ _ _
  rw [← hX3, ← hX2]
  exact (this.below ((Below.refl _ _).alloc (Nat.le_refl _) _)).below ((Below.refl _ _).alloc (Nat.le_refl _) _)
 have p2 : GBox X3 (W.heap.size + 1) 0 0 none 0 0 := by
  have : GBox X2 (W.heap.size + 1) 0 0 none 0 0 := by rw [← hX2, ← s1]; exact GBox.new X1 _ _ _ _ _
  rw [← hX3]
  exact this.below ((Below.refl _ _).alloc (Nat.le_refl _) _)
 have ho := World.ownsRow_made (base := W.heap.size + 1 + 1) (e := 90) (size := 1) X2 #[] 0 (by omega) (by unfold maxLen; omega) rfl
 rw [hX3, s2] at ho
 have hnews := (hrow.below b3).news
 have HVR := Lib.hid hv
 have HMM := Lib.hid hM
 have hone := hv.one
 have HX1 := Lib.hid hX1
 have HX2 := Lib.hid hX2
 have HX3 := Lib.hid hX3
 have S1 := Lib.hid s1
 have S2 := Lib.hid s2
 have S3 := Lib.hid s3
 have HV := Lib.hid hvl
 have HMl := Lib.hid hM.len
 have HRl := Lib.hid hRl
 have OK := Lib.hid g.ok
 obtain ⟨q0, q1, q2, q3⟩ := p1.cells
 clear hX1 hX2 hX3 s1 s2 s3 b1 b2 hrow hv hM g hvl hRl h0 h1
 go_enter Tryz.func127, Tryz.ntmps127
 go_wp2_with (at_builtin; rw [HX1.out, HX2.out, HX3.out]; go_loud (refine wpList_append_own_at _ rfl _ _ 28 rfl (W.heap.size + 1 + 1) 90 i0 (.agg #[.slice none 0 0]) 1 24 Tryz.underlying28 hi hz0 hz1 hz2 rfl (by decide) _ _ _ rfl ho ⟨b, o, none⟩ h cap vs rfl (by rw [HV.out, Nat.mul_one]) hnews hone (by unfold maxLen; omega) (by omega) (by have := S3.out; omega) ?_; skip))
 intro v' w1 hown' hgrow _ _
 obtain ⟨g, c', rfl, hg, hc1, hc3⟩ := own_neS hown' (by omega)
 have hB1 : Below (W.heap.size + 1 + 1) X3 w1 := (Below.refl (W.heap.size + 1 + 1) X3).grown hgrow (by have := S3.out; omega) (fun k e => Nat.le_of_eq (Option.some.inj e))
 have p1' : GBox w1 W.heap.size w h (some ⟨b, o, none⟩) h cap := (hB1.block _ (by omega)).trans p1
 have p2' : GBox w1 (W.heap.size + 1) 0 0 none 0 0 := (hB1.block _ (by omega)).trans p2
 obtain ⟨u0, u1, u2, u3⟩ := p1'.cells
 obtain ⟨t0, t1, t2, t3⟩ := p2'.cells
 obtain ⟨⟨x, hx⟩, hf, _, hgl⟩ := own_cellS hown' k hk
 have hne1 : ¬ g = W.heap.size := by omega
 have hne2 : ¬ g = W.heap.size + 1 := by omega
 clear q0 q1 q2 q3
 have hkc : k < c' := by omega
 go_wp2
 have st := (hown'.stored k (.slice a2 w c2)).1
 have st2 := ownsRow_setCell_below st (a := ⟨W.heap.size, 2, none⟩) (by show W.heap.size < W.heap.size + 1 + 1; omega) (.slice (some ⟨g, 0, none⟩) h c')
 obtain ⟨Z, hZ⟩ : ∃ Z, (w1.setCell ⟨g, k, none⟩ (.slice a2 w c2)).setCell ⟨W.heap.size, 2, none⟩ (.slice (some ⟨g, 0, none⟩) h c') = Z := ⟨_, rfl⟩
 rw [hZ] at st2 ⊢
 have oZ : Only [g, W.heap.size] w1 Z := by rw [← hZ]; exact ((Only.refl _ _).setCell (.inl (by simp)) _).setCell (.inl (by simp)) _
 have pZ : GBox Z (W.heap.size + 1) 0 0 none 0 0 := oZ.heap p2' (by simp; omega)
 obtain ⟨Y, hY⟩ : ∃ Y, ((Z.setCell ⟨W.heap.size + 1, 0, none⟩ (.int .i64 w)).setCell ⟨W.heap.size + 1, 1, none⟩ (.int .i64 h)).setCell ⟨W.heap.size + 1, 2, none⟩ (.slice (some ⟨g, 0, none⟩) h c') = Y := ⟨_, rfl⟩
 obtain ⟨pY, oY⟩ := pZ.fill w h h c' (some ⟨g, 0, none⟩) Y hY
 have st3 : Y.ownsRow (W.heap.size + 1 + 1) 90 1 (.slice (some ⟨g, 0, none⟩) h c') h (vs.set k (.slice a2 w c2)) := by
  rw [← hY]
  exact ownsRow_setCell_below (ownsRow_setCell_below (ownsRow_setCell_below st2 (by show W.heap.size + 1 < W.heap.size + 1 + 1; omega) _) (by show W.heap.size + 1 < W.heap.size + 1 + 1; omega) _) (by show W.heap.size + 1 < W.heap.size + 1 + 1; omega) _
 rw [hY]
 have hs3 := S3.out
 have hs1 := hB1.size
 have bY : Below W.heap.size W Y := (b3.trans (hB1.mono (by omega))).trans ((oZ.below (by simp; omega) (by omega)).trans (oY.below (by simp) (by have := oZ.size; omega)))
 refine bodyPost_ret (results_cell_row rfl _ _ (W.heap.size + 1) 30 _ (0, 0) _ rfl pY Tryz.underlying30 rfl (by kernel_rfl)) rfl ?_
 have hvY := (HVR.out.below bY).set k HMl.out hc2 (HMM.out.below bY) (fun b o e => ⟨Nat.lt_of_lt_of_le (ha2 b o e).1 bY.size, (ha2 b o e).2⟩)
 exact ⟨_, c', rfl, ⟨RowsF.of_vals (by rw [List.length_set, HRl.out]) hvY (own_row_at st3).1 (fun b o e => by cases e; exact hF g (by omega)), OK.out.set _ _ HMl.out, hc1, hc3⟩, bY⟩
set_option maxRecDepth 100000 in
set_option maxHeartbeats 4000000 in
theorem rcells_ok {F : Nat → Prop} {W : World} {a : Option Addr} {cap w h : Nat} {R : List (List GC)} (g : RG F W a cap w h R) (r : Int) (h0 : 0 ≤ r) (h1 : r < h) :
    Calls Tryz.prog 14 #[.agg #[.int .i64 w, .int .i64 h, .slice a h cap], .int .i64 r] W fun e w' => ∃ a2 c2, e = .returned (.slice a2 w c2) ∧ CellsAt w' a2 w (nth [] R r.toNat) ∧ ((w ≤ c2 ∧ c2 ≤ maxLen) ∧ ∀ b o, a2 = some ⟨b, o, none⟩ → b < W.heap.size ∧ F b) ∧ Below W.heap.size W w' := by
 obtain ⟨k, rfl⟩ := Int.eq_ofNat_of_zero_le h0
 simp only [Int.toNat_natCast]
 have hk : k < h := by omega
 have hRl := g.rows.len
 have hM : R[k]? = some (nth [] R k) := by rw [nth_eq _ _ _ (by omega)]; exact List.getElem?_eq_getElem _
 have hMl := g.ok.at hk
 have b1 : Below W.heap.size W (W.alloc (.cells #[.int .i64 w, .int .i64 h, .slice a h cap] 30)) := (Below.refl _ _).alloc (Nat.le_refl _) _
 obtain ⟨b, o, a2, c2, rfl, ⟨hb, _⟩, hc, hc2, hcl, hfa⟩ := g.rows.at_ k _ hM
 rw [hMl] at hc hc2 hcl
 have hM1 := hcl.below b1
 have HMl := Lib.hid hMl
 have hm := g.mx
 have hle := g.le
 clear g hM hMl hcl hRl h0 h1
 go_enter Tryz.func14, Tryz.ntmps14
 go_wp2
 go_ret
 exact ⟨a2, c2, rfl, hM1, ⟨hc2, hfa⟩, b1⟩
set_option maxRecDepth 100000 in
set_option maxHeartbeats 4000000 in
theorem rcells_out {W : World} {a : Option Addr} {n cap w h : Nat} (r : Int) (hr : ¬ (0 ≤ r ∧ r < h)) :
    Calls Tryz.prog 14 #[.agg #[.int .i64 w, .int .i64 h, .slice a n cap], .int .i64 r] W fun e w' => e = .returned (.slice none 0 0) ∧ Below W.heap.size W w' := by
 go_enter Tryz.func14, Tryz.ntmps14
 go_wp2
 all_goals first | (exfalso; omega) | skip
 all_goals go_ret
 all_goals exact ⟨rfl, (Below.refl _ _).alloc (Nat.le_refl _) _⟩
theorem results_row2 {fn : Func} {p u : Tmp} {T : TypeId} (h : fn.results = #[.cell p T, .tmp u]) (tmps : Array Value) (w : World) (g : Nat) (cs : Array Value)
    (hp : tmps.getD p undef = .pointer (some ⟨g, 0, none⟩)) (hl : (loadVar T ⟨g, 0, none⟩).run Tryz.prog w = .ok (.agg cs) w) :
    (results fn tmps).run Tryz.prog w = .ok (.tuple #[.agg cs, tmps.getD u undef]) w := by
 rw [results_cell_tmp h, hp]
 simp [asAddr, hl, Result.andThen]
theorem results_row3 {fn : Func} {p u v : Tmp} {T : TypeId} (h : fn.results = #[.cell p T, .tmp u, .tmp v]) (tmps : Array Value) (w : World) (g : Nat) (cs : Array Value)
    (hp : tmps.getD p undef = .pointer (some ⟨g, 0, none⟩)) (hl : (loadVar T ⟨g, 0, none⟩).run Tryz.prog w = .ok (.agg cs) w) :
    (results fn tmps).run Tryz.prog w = .ok (.tuple #[.agg cs, tmps.getD u undef, tmps.getD v undef]) w := by
 have hp' : tmps[p]?.getD undef = .pointer (some ⟨g, 0, none⟩) := by simpa using hp
 simp only [results, h]
 simp [Sem.run_bind, Result.andThen, hp', asAddr, hl]
theorem GBox.load {W : World} {b w h n cap : Nat} {a : Option Addr} (g : GBox W b w h a n cap) : (loadVar 30 ⟨b, 0, none⟩).run Tryz.prog W = .ok (.agg #[.int .i64 w, .int .i64 h, .slice a n cap]) W :=
 run_loadVar_row (P := Tryz.prog) W b _ 30 _ (0, 0) _ g Tryz.underlying30 rfl (by kernel_rfl)
def GPost2 (F : Nat → Prop) (w h : Nat) (R : List (List GC)) (err : Int) (W : World) (e : Ending) (w' : World) : Prop := ∃ a c, e = .returned (.tuple #[.agg #[.int .i64 w, .int .i64 h, .slice a h c], .int .i64 err]) ∧ RG F w' a c w h R ∧ Below W.heap.size W w'
theorem rput_world (W : World) (w h n cap : Nat) (a : Option Addr) (y : Sy) (X : World) (hX : ((W.alloc (.cells #[.int .i64 w, .int .i64 h, .slice a n cap] 30)).alloc (.cells #[.bool y.b, .bool y.u, .bool y.i, .int .i64 y.f, .int .i64 y.g] 32)).alloc (.cells #[.int .i64 0, .int .i64 0, .slice none 0 0] 30) = X) :
    GBox X W.heap.size w h a n cap ∧ SyBox X (W.heap.size + 1) y ∧ GBox X (W.heap.size + 1 + 1) 0 0 none 0 0 ∧ Below W.heap.size W X ∧ X.heap.size = W.heap.size + 1 + 1 + 1 := by
 obtain ⟨X1, h1⟩ : ∃ X1, W.alloc (.cells #[.int .i64 w, .int .i64 h, .slice a n cap] 30) = X1 := ⟨_, rfl⟩
 obtain ⟨X2, h2⟩ : ∃ X2, X1.alloc (.cells #[.bool y.b, .bool y.u, .bool y.i, .int .i64 y.f, .int .i64 y.g] 32) = X2 := ⟨_, rfl⟩
 rw [h1, h2] at hX
 have s1 : X1.heap.size = W.heap.size + 1 := by rw [← h1]; simp
 have s2 : X2.heap.size = W.heap.size + 1 + 1 := by rw [← h2]; simp [s1]
 have b1 := GBox.new W w h n cap a
 have b2 : SyBox X2 X1.heap.size y := by rw [← h2]; exact styBox_new X1 _ _ _ _ _
 have b3 := GBox.new X2 0 0 0 0 none
 have e1 : Below X1.heap.size X1 X2 := by rw [← h2]; exact (Below.refl _ _).alloc (Nat.le_refl _) _
 have e2 : Below X2.heap.size X2 X := by rw [← hX]; exact (Below.refl _ _).alloc (Nat.le_refl _) _
 have e0 : Below W.heap.size W X1 := by rw [← h1]; exact (Below.refl _ _).alloc (Nat.le_refl _) _
 rw [h1] at b1
 rw [show X2.alloc (.cells #[.int .i64 (0 : Nat), .int .i64 (0 : Nat), .slice none 0 0] 30) = X from hX, s2] at b3
 rw [s1] at b2
 exact ⟨(b1.below e1).below e2, b2.only (Only.of_below (S := []) e2) (by simp), b3, bnext (bnext e0 e1) e2, by rw [← hX]; simp [s2]⟩
set_option maxRecDepth 100000 in
set_option maxHeartbeats 8000000 in
theorem rput_arg {F : Nat → Prop} {W : World} {a : Option Addr} {cap w h : Nat} {R : List (List GC)} (g : RG F W a cap w h R) (r c : Int) (s : ByteArray) (wd : Int) (y : Sy) (hs : s = ⟨#[]⟩ ∨ 64 < s.size ∨ (wd ≠ 1 ∧ wd ≠ 2)) :
    Calls Tryz.prog 123 #[.agg #[.int .i64 w, .int .i64 h, .slice a h cap], .int .i64 r, .int .i64 c, .string s, .int .i64 wd, .agg #[.bool y.b, .bool y.u, .bool y.i, .int .i64 y.f, .int .i64 y.g]] W (GPost2 F w h R 1 W) := by
 obtain ⟨X, hX⟩ : ∃ X, ((W.alloc (.cells #[.int .i64 w, .int .i64 h, .slice a h cap] 30)).alloc (.cells #[.bool y.b, .bool y.u, .bool y.i, .int .i64 y.f, .int .i64 y.g] 32)).alloc (.cells #[.int .i64 0, .int .i64 0, .slice none 0 0] 30) = X := ⟨_, rfl⟩
 obtain ⟨p1, _, p3, bX, sX⟩ := rput_world W w h h cap a y X hX
 have fin : ∀ Y, ((X.setCell ⟨W.heap.size + 1 + 1, 0, none⟩ (.int .i64 w)).setCell ⟨W.heap.size + 1 + 1, 1, none⟩ (.int .i64 h)).setCell ⟨W.heap.size + 1 + 1, 2, none⟩ (.slice a h cap) = Y → GBox Y (W.heap.size + 1 + 1) w h a h cap ∧ RG F Y a cap w h R ∧ Below W.heap.size W Y := fun Y hY => by
  obtain ⟨p4, o4⟩ := p3.fill w h h cap a Y hY
  have b4 := bX.trans (o4.below (by simp; omega) bX.size)
  exact ⟨p4, g.below b4, b4⟩
 have hX' : ∀ Y, (((((W.alloc (.cells #[.int .i64 w, .int .i64 h, .slice a h cap] 30)).alloc (.cells #[.bool y.b, .bool y.u, .bool y.i, .int .i64 y.f, .int .i64 y.g] 32)).alloc (.cells #[.int .i64 w, .int .i64 h, .slice a h cap] 30))) = Y) → GBox Y (W.heap.size + 1 + 1) w h a h cap ∧ RG F Y a cap w h R ∧ Below W.heap.size W Y := fun Y hY => by
  have e3 : Below W.heap.size W Y := by rw [← hY]; exact (((Below.refl _ _).alloc (Nat.le_refl _) _).alloc (by simp) _).alloc (by simp; omega) _
  refine ⟨?_, g.below e3, e3⟩
  have := GBox.new ((W.alloc (.cells #[.int .i64 w, .int .i64 h, .slice a h cap] 30)).alloc (.cells #[.bool y.b, .bool y.u, .bool y.i, .int .i64 y.f, .int .i64 y.g] 32)) w h h cap a
  rw [hY] at this
  simpa using this
 have FIN := Lib.hid hX'
 clear hX' fin g p1 p3 bX sX hX
 by_cases h0 : s = ⟨#[]⟩
 ·subst h0
  have h1 := is_empty
  clear hs
  go_enter Tryz.func123, Tryz.ntmps123
  go_wp2
  obtain ⟨f1, f2, f3⟩ := FIN.out _ rfl
  refine bodyPost_ret (results_row2 rfl _ _ (W.heap.size + 1 + 1) _ rfl f1.load) rfl ?_
  exact ⟨a, cap, rfl, f2, f3⟩
 ·have h1 := not_empty h0
  by_cases h2 : 64 < s.size
  ·have h3 : (64 : Int) < s.size := by omega
   clear hs h0
   go_enter Tryz.func123, Tryz.ntmps123
   go_wp2
   obtain ⟨f1, f2, f3⟩ := FIN.out _ rfl
   refine bodyPost_ret (results_row2 rfl _ _ (W.heap.size + 1 + 1) _ rfl f1.load) rfl ?_
   exact ⟨a, cap, rfl, f2, f3⟩
  ·have h3 : ¬ (64 : Int) < s.size := by omega
   have h4 : wd ≠ 1 ∧ wd ≠ 2 := by rcases hs with h | h | h; exact absurd h h0; exact absurd h h2; exact h
   obtain ⟨h5, h6⟩ := h4
   have h7 : (wd != 1) = true := by simp [h5]
   have h8 : (wd != 2) = true := by simp [h6]
   clear hs h0 h2
   go_enter Tryz.func123, Tryz.ntmps123
   go_wp2
   obtain ⟨f1, f2, f3⟩ := FIN.out _ rfl
   refine bodyPost_ret (results_row2 rfl _ _ (W.heap.size + 1 + 1) _ rfl f1.load) rfl ?_
   exact ⟨a, cap, rfl, f2, f3⟩
set_option maxRecDepth 100000 in
set_option maxHeartbeats 8000000 in
theorem rput_range {F : Nat → Prop} {W : World} {a : Option Addr} {cap w h : Nat} {R : List (List GC)} (g : RG F W a cap w h R) (hw5 : w ≤ 1000) (r c : Int) (s : ByteArray) (wd : Int) (y : Sy) (hs0 : s ≠ ⟨#[]⟩) (hs1 : s.size ≤ 64) (hwd : wd = 1 ∨ wd = 2)
    (hrc : ¬ (0 ≤ r ∧ r < h ∧ 0 ≤ c ∧ c < w) ∨ (wd = 2 ∧ ¬ c + 1 < w)) :
    Calls Tryz.prog 123 #[.agg #[.int .i64 w, .int .i64 h, .slice a h cap], .int .i64 r, .int .i64 c, .string s, .int .i64 wd, .agg #[.bool y.b, .bool y.u, .bool y.i, .int .i64 y.f, .int .i64 y.g]] W (GPost2 F w h R 5 W) := by
 obtain ⟨X, hX⟩ : ∃ X, ((W.alloc (.cells #[.int .i64 w, .int .i64 h, .slice a h cap] 30)).alloc (.cells #[.bool y.b, .bool y.u, .bool y.i, .int .i64 y.f, .int .i64 y.g] 32)).alloc (.cells #[.int .i64 0, .int .i64 0, .slice none 0 0] 30) = X := ⟨_, rfl⟩
 obtain ⟨p1, _, p3, bX, sX⟩ := rput_world W w h h cap a y X hX
 have fin : ∀ Z, Below X.heap.size X Z → ∀ Y, ((Z.setCell ⟨W.heap.size + 1 + 1, 0, none⟩ (.int .i64 w)).setCell ⟨W.heap.size + 1 + 1, 1, none⟩ (.int .i64 h)).setCell ⟨W.heap.size + 1 + 1, 2, none⟩ (.slice a h cap) = Y → GBox Y (W.heap.size + 1 + 1) w h a h cap ∧ RG F Y a cap w h R ∧ Below W.heap.size W Y := fun Z hZ Y hY => by
  obtain ⟨p4, o4⟩ := (p3.below hZ).fill w h h cap a Y hY
  have b4 := (bto bX hZ bX.size).trans (o4.below (by simp; omega) (bto bX hZ bX.size).size)
  exact ⟨p4, g.below b4, b4⟩
 have FIN := Lib.hid fin
 have HX := Lib.hid hX
 have P1 := Lib.hid p1
 have P3 := Lib.hid p3
 have CT := Lib.hid (fun c X => rthere_any w h a h cap r c X)
 obtain ⟨q0, q1, q2, q3⟩ := p1.cells
 obtain ⟨t0, t1, t2, t3⟩ := p3.cells
 have h1 := not_empty hs0
 have h3 : ¬ (64 : Int) < s.size := by omega
 clear fin g p1 p3 bX sX hX
 by_cases hin : 0 ≤ r ∧ r < h ∧ 0 ≤ c ∧ c < w
 ·have h5 : wd = 2 ∧ ¬ c + 1 < w := by rcases hrc with h | h; exact absurd hin h; exact h
  obtain ⟨rfl, h6⟩ := h5
  have e1 : inG w h r c = true := by simpa [inG] using hin
  have e2 : inG w h r (c + 1) = false := by simp [inG]; omega
  have C1 := Lib.hid (fun X => (CT.out c X))
  have C2 := Lib.hid (fun X => (CT.out (c + 1) X))
  rw [e1] at C1
  rw [e2] at C2
  obtain ⟨h7, h8, h9, h10⟩ := hin
  clear hrc hwd e1 e2 CT
  go_enter Tryz.func123, Tryz.ntmps123
  go_wp2_with fail
  rw [HX.out]
  refine (C1.out _).mono ?_
  rintro e w1 ⟨rfl, hb1⟩
  obtain ⟨u0, u1, u2, u3⟩ := (P1.out.below hb1).cells
  clear q0 q1 q2 q3 t0 t1 t2 t3
  go_wp2_with fail
  refine (C2.out _).mono ?_
  rintro e w2 ⟨rfl, hb2⟩
  obtain ⟨q0, q1, q2, q3⟩ := ((P1.out.below hb1).below hb2).cells
  obtain ⟨t0, t1, t2, t3⟩ := ((P3.out.below hb1).below hb2).cells
  clear u0 u1 u2 u3
  go_wp2_with fail
  obtain ⟨f1, f2, f3⟩ := FIN.out _ (bnext hb1 hb2) _ rfl
  refine bodyPost_ret (results_row2 rfl _ _ (W.heap.size + 1 + 1) _ rfl f1.load) rfl ?_
  exact ⟨a, cap, rfl, f2, f3⟩
 ·have e1 : inG w h r c = false := by simpa [inG] using hin
  have C1 := Lib.hid (fun X => (CT.out c X))
  rw [e1] at C1
  clear hrc hin e1 CT
  rcases hwd with rfl | rfl
  all_goals
   go_enter Tryz.func123, Tryz.ntmps123
   go_wp2_with fail
   rw [HX.out]
   refine (C1.out _).mono ?_
   rintro e w1 ⟨rfl, hb1⟩
   obtain ⟨u0, u1, u2, u3⟩ := (P1.out.below hb1).cells
   obtain ⟨v0, v1, v2, v3⟩ := (P3.out.below hb1).cells
   clear q0 q1 q2 q3 t0 t1 t2 t3
   go_wp2_with fail
   obtain ⟨f1, f2, f3⟩ := FIN.out _ hb1 _ rfl
   refine bodyPost_ret (results_row2 rfl _ _ (W.heap.size + 1 + 1) _ rfl f1.load) rfl ?_
   exact ⟨a, cap, rfl, f2, f3⟩
theorem putL_1 (M : List GC) (w c : Nat) (s : ByteArray) (y : Sy) : putL M w 0 c s 1 y = (wipeL M 0 w c).set c ⟨s, 1, y⟩ := by
 unfold putL; rw [if_neg (by decide), Nat.zero_add]
theorem putL_2 (M : List GC) (w c : Nat) (s : ByteArray) (y : Sy) : putL M w 0 c s 2 y = ((wipeL (wipeL M 0 w c) 0 w (c + 1)).set (c + 1) ⟨⟨#[]⟩, 0, y⟩).set c ⟨s, 2, y⟩ := by
 unfold putL; rw [if_pos rfl, Nat.zero_add, Nat.zero_add]
set_option maxRecDepth 100000 in
set_option maxHeartbeats 8000000 in
theorem rput_ok1 {F : Nat → Prop} {W : World} (hF : ∀ b, W.heap.size ≤ b → F b) {a : Option Addr} {cap w h : Nat} {R : List (List GC)} (g : RG F W a cap w h R) (hw5 : w ≤ 1000) (hh5 : h ≤ 1000) (r c : Int) (s : ByteArray) (y : Sy) (hs0 : s ≠ ⟨#[]⟩) (hs1 : s.size ≤ 64)
    (hr0 : 0 ≤ r) (hr1 : r < h) (hc0 : 0 ≤ c) (hc1 : c < w) :
    Calls Tryz.prog 123 #[.agg #[.int .i64 w, .int .i64 h, .slice a h cap], .int .i64 r, .int .i64 c, .string s, .int .i64 1, .agg #[.bool y.b, .bool y.u, .bool y.i, .int .i64 y.f, .int .i64 y.g]] W (GPost2 F w h (R.set r.toNat (putL (nth [] R r.toNat) w 0 c.toNat s 1 y)) 0 W) := by
 obtain ⟨k, rfl⟩ := Int.eq_ofNat_of_zero_le hr0
 simp only [Int.toNat_natCast]
 have hk : k < h := by omega
 have hRl := g.rows.len
 have hM : R[k]? = some (nth [] R k) := by rw [nth_eq _ _ _ (by omega)]; exact List.getElem?_eq_getElem _
 have hMl := g.ok.at hk
 rw [putL_1]
 obtain ⟨M, hMe⟩ : ∃ M, M = nth [] R k := ⟨_, rfl⟩
 rw [← hMe] at hM hMl ⊢
 obtain ⟨N, hN⟩ : ∃ N, N = wipeL M 0 w c.toNat := ⟨_, rfl⟩
 rw [← hN]
 have HN := Lib.hid hN
 clear hN
 obtain ⟨X, hX⟩ : ∃ X, ((W.alloc (.cells #[.int .i64 w, .int .i64 h, .slice a h cap] 30)).alloc (.cells #[.bool y.b, .bool y.u, .bool y.i, .int .i64 y.f, .int .i64 y.g] 32)).alloc (.cells #[.int .i64 0, .int .i64 0, .slice none 0 0] 30) = X := ⟨_, rfl⟩
 obtain ⟨p1, p2, p3, bX, sX⟩ := rput_world W w h h cap a y X hX
 obtain ⟨b, o, a2, c2, rfl, ⟨hb, _⟩, hcell, hc2, hcl, _⟩ := g.rows.at_ k _ hM
 rw [hMl] at hcell hc2 hcl
 have hm := g.mx
 have hle := g.le
 have C1 := Lib.hid (fun X => rthere_any w h (some ⟨b, o, none⟩) h cap (k : Int) c X)
 have e1 : inG w h (k : Int) c = true := by simp [inG]; omega
 rw [e1] at C1
 have HX := Lib.hid hX
 have P1 := Lib.hid p1
 have P2 := Lib.hid p2
 have P3 := Lib.hid p3
 have G := Lib.hid (g.mono (F' := fun b => F b ∧ b ≠ W.heap.size + 1 + 1) (fun b h1 h2 => ⟨h1, by omega⟩))
 have HCL := Lib.hid hcl
 have HCE := Lib.hid hcell
 have CB := Lib.hid (fun (X : World) a cap N (h : CellsAt X a w N) => rblank_any (cap := cap) h (by omega) c hc0 hc1)
 have CS := Lib.hid (fun (X : World) a cap N (h : CellsAt X a w N) => rset_any (cap := cap) h (by omega) c hc0 hc1 ⟨s, 1, y⟩)
 have hs2 : ¬ (64 : Int) < s.size := by omega
 have hs3 := not_empty hs0
 clear hX p1 p2 p3 g hcl hcell hM hMe hMl e1 hRl
 go_enter Tryz.func123, Tryz.ntmps123
 go_wp2_with fail
 rw [HX.out]
 obtain ⟨q0, q1, q2, q3⟩ := P1.out.cells
 go_wp2_with fail
 refine (C1.out _).mono ?_
 rintro e w1 ⟨rfl, hb1⟩
 clear q0 q1 q2 q3
 obtain ⟨q0, q1, q2, q3⟩ := (P1.out.below hb1).cells
 have bw1 : Below W.heap.size W w1 := bto bX hb1 bX.size
 have hce1 := (bw1.cell (p := ⟨b, o + k, none⟩) hb).trans HCE.out
 go_wp2_with fail
 refine (CB.out _ _ _ _ (HCL.out.below bw1)).mono ?_
 rintro e w2 ⟨a3, c3, rfl, hM3, _, hb2⟩
 have bw2 : Below W.heap.size W w2 := bto bw1 hb2 bw1.size
 have p1w := (P1.out.below hb1).below hb2
 have p2w := ((P2.out.only (Only.of_below (S := []) hb1) (by simp)).only (Only.of_below (S := []) hb2) (by simp))
 have p3w := (P3.out.below hb1).below hb2
 clear q0 q1 q2 q3 hce1
 rw [← HN.out] at hM3
 have hz2 := bw2.size
 go_wp2
 refine wp_region_mix [(true, 0), (true, 1), (true, 2), (true, 3), (true, 4), (true, 5), (true, 6), (true, 7), (false, 8), (false, 9), (false, 10), (false, 11)] (fun w' => GBox w' W.heap.size w h (some ⟨b, o, none⟩) h cap ∧ SyBox w' (W.heap.size + 1) y) (by kernel_rfl) (by kernel_rfl) (by rfl) (by kernel_rfl) (by kernel_rfl) (fun _ _ d _ _ h => by cases d <;> exact h) ⟨p1w, p2w⟩ ?_
 simp only [mixL, List.getElem?_cons_succ, List.getElem?_cons_zero]
 repeat (refine' wpMix_read (v := _) rfl ?_ ?_; rotate_left 1; (intro w' hw'; obtain ⟨x0, x1, x2, x3⟩ := hw'.1.cells; obtain ⟨y0, y1, y2, y3, y4, y5⟩ := StyBox.cells hw'.2; go_simp; try with_reducible rfl); try simp only [Act.put, List.setIfInBounds_toArray, List.set_cons_zero, List.set_cons_succ])
 refine wpMix_act (fun K hK => ?_)
 go_wp2_with fail
 refine (CS.out _ _ _ _ (hM3.below (Below.refl _ _).drew)).mono ?_
 rintro e w4 ⟨a4, c4, rfl, hM4, hc4, hb4⟩
 have hb4' : Below w2.heap.size w2 w4 := (Below.refl _ _).drew.trans hb4
 have bw4 : Below W.heap.size W w4 := bto bw2 hb4' bw2.size
 go_wp2
 refine hK _ _ (fun _ => ⟨p1w.below hb4', p2w.only (Only.of_below (S := []) hb4') (by simp)⟩) ?_
 clear hK K
 refine wpMix_act (fun K hK => ?_)
 have hs2' := hb4'.size
 have hs1' := hb1.size
 have hs0' := hb2.size
 have hF4 : ∀ b, w2.heap.size ≤ b → F b ∧ b ≠ W.heap.size + 1 + 1 := fun b hb => ⟨hF b (by omega), by omega⟩
 have CW := Lib.hid (rwith_any (F := fun b => F b ∧ b ≠ W.heap.size + 1 + 1) (fun b hb => hF4 b (by omega)) (G.out.below bw4) (by omega) (k : Int) (by omega) (by omega) hM4 hc4.1 (fun b o e => ⟨(hc4.2 b o e).2, hF4 b (hc4.2 b o e).1⟩))
 go_wp2_with fail
 refine (CW.out).mono ?_
 rintro e w5 ⟨a5, c5, rfl, g5, hb5⟩
 have b25 : Below w2.heap.size w2 w5 := bto hb4' hb5 hb4'.size
 have bw5 : Below W.heap.size W w5 := bto bw2 b25 bw2.size
 have p1x := p1w.below b25
 have p2x := p2w.only (Only.of_below (S := []) b25) (by simp)
 have p3x := p3w.below b25
 go_wp2
 refine hK _ _ (fun _ => ⟨p1x, p2x⟩) ?_
 clear hK K
 refine wpMix_act (fun K hK => ?_)
 obtain ⟨t0, t1, t2, t3⟩ := p3x.cells
 go_wp2
 obtain ⟨Y, hY⟩ : ∃ Y, ((w5.setCell ⟨W.heap.size + 1 + 1, 0, none⟩ (.int .i64 w)).setCell ⟨W.heap.size + 1 + 1, 1, none⟩ (.int .i64 h)).setCell ⟨W.heap.size + 1 + 1, 2, none⟩ (.slice a5 h c5) = Y := ⟨_, rfl⟩
 obtain ⟨pY, oY⟩ := p3x.fill w h h c5 a5 Y hY
 rw [hY]
 have b5Y : Below W.heap.size w5 Y := oY.below (by simp; omega) bw5.size
 refine hK _ _ (fun _ => ⟨p1x.only oY (by simp; omega), p2x.only oY (by simp)⟩) ?_
 clear hK K t0 t1 t2 t3
 refine wpMix_act (fun K hK => ?_)
 go_wp2
 refine hK _ _ (fun h => absurd rfl h) ?_
 clear hK K
 refine wpMix_nil ?_
 go_wp2
 refine bodyPost_ret (results_row2 rfl _ _ (W.heap.size + 1 + 1) _ rfl pY.load) rfl ?_
 have g6 := (g5.keep oY.size (fun b hb hlt => oY.block b hlt (by simpa using hb.2))).mono (F' := F) (fun b hb _ => hb.1)
 simp only [Int.toNat_natCast] at g6
 exact ⟨a5, c5, rfl, g6, bw5.trans b5Y⟩
set_option maxRecDepth 100000 in
set_option maxHeartbeats 8000000 in
theorem rput_ok2 {F : Nat → Prop} {W : World} (hF : ∀ b, W.heap.size ≤ b → F b) {a : Option Addr} {cap w h : Nat} {R : List (List GC)} (g : RG F W a cap w h R) (hw5 : w ≤ 1000) (hh5 : h ≤ 1000) (r c : Int) (s : ByteArray) (y : Sy) (hs0 : s ≠ ⟨#[]⟩) (hs1 : s.size ≤ 64)
    (hr0 : 0 ≤ r) (hr1 : r < h) (hc0 : 0 ≤ c) (hc1 : c + 1 < w) :
    Calls Tryz.prog 123 #[.agg #[.int .i64 w, .int .i64 h, .slice a h cap], .int .i64 r, .int .i64 c, .string s, .int .i64 2, .agg #[.bool y.b, .bool y.u, .bool y.i, .int .i64 y.f, .int .i64 y.g]] W (GPost2 F w h (R.set r.toNat (putL (nth [] R r.toNat) w 0 c.toNat s 2 y)) 0 W) := by
 obtain ⟨k, rfl⟩ := Int.eq_ofNat_of_zero_le hr0
 simp only [Int.toNat_natCast]
 have hk : k < h := by omega
 have hRl := g.rows.len
 have hM : R[k]? = some (nth [] R k) := by rw [nth_eq _ _ _ (by omega)]; exact List.getElem?_eq_getElem _
 have hMl := g.ok.at hk
 rw [putL_2]
 obtain ⟨M, hMe⟩ : ∃ M, M = nth [] R k := ⟨_, rfl⟩
 rw [← hMe] at hM hMl ⊢
 obtain ⟨N, hN⟩ : ∃ N, N = (wipeL (wipeL M 0 w c.toNat) 0 w (c.toNat + 1)).set (c.toNat + 1) ⟨⟨#[]⟩, 0, y⟩ := ⟨_, rfl⟩
 rw [← hN]
 have HN := Lib.hid hN
 clear hN
 obtain ⟨X, hX⟩ : ∃ X, ((W.alloc (.cells #[.int .i64 w, .int .i64 h, .slice a h cap] 30)).alloc (.cells #[.bool y.b, .bool y.u, .bool y.i, .int .i64 y.f, .int .i64 y.g] 32)).alloc (.cells #[.int .i64 0, .int .i64 0, .slice none 0 0] 30) = X := ⟨_, rfl⟩
 obtain ⟨p1, p2, p3, bX, sX⟩ := rput_world W w h h cap a y X hX
 obtain ⟨b, o, a2, c2, rfl, ⟨hb, _⟩, hcell, hc2, hcl, _⟩ := g.rows.at_ k _ hM
 rw [hMl] at hcell hc2 hcl
 have hm := g.mx
 have hle := g.le
 have C1 := Lib.hid (fun X => rthere_any w h (some ⟨b, o, none⟩) h cap (k : Int) c X)
 have e1 : inG w h (k : Int) c = true := by simp [inG]; omega
 have hc2' : c < w := by omega
 rw [e1] at C1
 have C2 := Lib.hid (fun X => rthere_any w h (some ⟨b, o, none⟩) h cap (k : Int) (c + 1) X)
 have e2 : inG w h (k : Int) (c + 1) = true := by simp [inG]; omega
 rw [e2] at C2
 have htn : (c + 1).toNat = c.toNat + 1 := by omega
 have HTN := Lib.hid htn
 have HX := Lib.hid hX
 have P1 := Lib.hid p1
 have P2 := Lib.hid p2
 have P3 := Lib.hid p3
 have G := Lib.hid (g.mono (F' := fun b => F b ∧ b ≠ W.heap.size + 1 + 1) (fun b h1 h2 => ⟨h1, by omega⟩))
 have HCL := Lib.hid hcl
 have HCE := Lib.hid hcell
 have CB := Lib.hid (fun (X : World) a cap N (h : CellsAt X a w N) => rblank_any (cap := cap) h (by omega) c hc0 hc2')
 have CB2 := Lib.hid (fun (X : World) a cap N (h : CellsAt X a w N) => rblank_any (cap := cap) h (by omega) (c + 1) (by omega) hc1)
 have CT2 := Lib.hid (fun (X : World) a cap N (h : CellsAt X a w N) => rset_any (cap := cap) h (by omega) (c + 1) (by omega) hc1 ⟨⟨#[]⟩, 0, y⟩)
 have CS := Lib.hid (fun (X : World) a cap N (h : CellsAt X a w N) => rset_any (cap := cap) h (by omega) c hc0 hc2' ⟨s, 2, y⟩)
 have hs2 : ¬ (64 : Int) < s.size := by omega
 have hs3 := not_empty hs0
 clear hX p1 p2 p3 g hcl hcell hM hMe hMl e1 e2 hRl htn
 go_enter Tryz.func123, Tryz.ntmps123
 go_wp2_with fail
 rw [HX.out]
 obtain ⟨q0, q1, q2, q3⟩ := P1.out.cells
 go_wp2_with fail
 refine (C1.out _).mono ?_
 rintro e w1 ⟨rfl, hb1⟩
 clear q0 q1 q2 q3
 obtain ⟨q0, q1, q2, q3⟩ := (P1.out.below hb1).cells
 go_wp2_with fail
 refine (C2.out _).mono ?_
 rintro e w1' ⟨rfl, hb1'⟩
 replace hb1 := bnext hb1 hb1'
 clear q0 q1 q2 q3 hb1'
 obtain ⟨q0, q1, q2, q3⟩ := (P1.out.below hb1).cells
 have bw1 : Below W.heap.size W w1' := bto bX hb1 bX.size
 have hce1 := (bw1.cell (p := ⟨b, o + k, none⟩) hb).trans HCE.out
 go_wp2_with fail
 refine (CB.out _ _ _ _ (HCL.out.below bw1)).mono ?_
 rintro e v2 ⟨b3, d3, rfl, hN3, _, hc2b⟩
 clear q0 q1 q2 q3 hce1
 have bv2 : Below W.heap.size W v2 := bto bw1 hc2b bw1.size
 have p2v := ((P2.out.only (Only.of_below (S := []) hb1) (by simp)).only (Only.of_below (S := []) hc2b) (by simp))
 go_wp2_with fail
 refine (CB2.out _ _ _ _ hN3).mono ?_
 rintro e v3 ⟨b4, d4, rfl, hN4, _, hc3b⟩
 have p2v3 := p2v.only (Only.of_below (S := []) hc3b) (by simp)
 obtain ⟨y0, y1, y2, y3, y4, y5⟩ := StyBox.cells p2v3
 go_wp2_with fail
 refine (CT2.out _ _ _ _ hN4).mono ?_
 rintro e w2 ⟨a3, c3, rfl, hM3, _, hd2b⟩
 have hb2 : Below w1'.heap.size w1' w2 := bnext (bnext hc2b hc3b) hd2b
 rw [HTN.out] at hM3
 clear y0 y1 y2 y3 y4 y5
 have bw2 : Below W.heap.size W w2 := bto bw1 hb2 bw1.size
 have p1w := (P1.out.below hb1).below hb2
 have p2w := ((P2.out.only (Only.of_below (S := []) hb1) (by simp)).only (Only.of_below (S := []) hb2) (by simp))
 have p3w := (P3.out.below hb1).below hb2
 rw [← HN.out] at hM3
 have hz2 := bw2.size
 go_wp2
 refine wp_region_mix [(true, 0), (true, 1), (true, 2), (true, 3), (true, 4), (true, 5), (true, 6), (true, 7), (false, 8), (false, 9), (false, 10), (false, 11)] (fun w' => GBox w' W.heap.size w h (some ⟨b, o, none⟩) h cap ∧ SyBox w' (W.heap.size + 1) y) (by kernel_rfl) (by kernel_rfl) (by rfl) (by kernel_rfl) (by kernel_rfl) (fun _ _ d _ _ h => by cases d <;> exact h) ⟨p1w, p2w⟩ ?_
 simp only [mixL, List.getElem?_cons_succ, List.getElem?_cons_zero]
 repeat (refine' wpMix_read (v := _) rfl ?_ ?_; rotate_left 1; (intro w' hw'; obtain ⟨x0, x1, x2, x3⟩ := hw'.1.cells; obtain ⟨y0, y1, y2, y3, y4, y5⟩ := StyBox.cells hw'.2; go_simp; try with_reducible rfl); try simp only [Act.put, List.setIfInBounds_toArray, List.set_cons_zero, List.set_cons_succ])
 refine wpMix_act (fun K hK => ?_)
 go_wp2_with fail
 refine (CS.out _ _ _ _ (hM3.below (Below.refl _ _).drew)).mono ?_
 rintro e w4 ⟨a4, c4, rfl, hM4, hc4, hb4⟩
 have hb4' : Below w2.heap.size w2 w4 := (Below.refl _ _).drew.trans hb4
 have bw4 : Below W.heap.size W w4 := bto bw2 hb4' bw2.size
 go_wp2
 refine hK _ _ (fun _ => ⟨p1w.below hb4', p2w.only (Only.of_below (S := []) hb4') (by simp)⟩) ?_
 clear hK K
 refine wpMix_act (fun K hK => ?_)
 have hs2' := hb4'.size
 have hs1' := hb1.size
 have hs0' := hb2.size
 have hF4 : ∀ b, w2.heap.size ≤ b → F b ∧ b ≠ W.heap.size + 1 + 1 := fun b hb => ⟨hF b (by omega), by omega⟩
 have CW := Lib.hid (rwith_any (F := fun b => F b ∧ b ≠ W.heap.size + 1 + 1) (fun b hb => hF4 b (by omega)) (G.out.below bw4) (by omega) (k : Int) (by omega) (by omega) hM4 hc4.1 (fun b o e => ⟨(hc4.2 b o e).2, hF4 b (hc4.2 b o e).1⟩))
 go_wp2_with fail
 refine (CW.out).mono ?_
 rintro e w5 ⟨a5, c5, rfl, g5, hb5⟩
 have b25 : Below w2.heap.size w2 w5 := bto hb4' hb5 hb4'.size
 have bw5 : Below W.heap.size W w5 := bto bw2 b25 bw2.size
 have p1x := p1w.below b25
 have p2x := p2w.only (Only.of_below (S := []) b25) (by simp)
 have p3x := p3w.below b25
 go_wp2
 refine hK _ _ (fun _ => ⟨p1x, p2x⟩) ?_
 clear hK K
 refine wpMix_act (fun K hK => ?_)
 obtain ⟨t0, t1, t2, t3⟩ := p3x.cells
 go_wp2
 obtain ⟨Y, hY⟩ : ∃ Y, ((w5.setCell ⟨W.heap.size + 1 + 1, 0, none⟩ (.int .i64 w)).setCell ⟨W.heap.size + 1 + 1, 1, none⟩ (.int .i64 h)).setCell ⟨W.heap.size + 1 + 1, 2, none⟩ (.slice a5 h c5) = Y := ⟨_, rfl⟩
 obtain ⟨pY, oY⟩ := p3x.fill w h h c5 a5 Y hY
 rw [hY]
 have b5Y : Below W.heap.size w5 Y := oY.below (by simp; omega) bw5.size
 refine hK _ _ (fun _ => ⟨p1x.only oY (by simp; omega), p2x.only oY (by simp)⟩) ?_
 clear hK K t0 t1 t2 t3
 refine wpMix_act (fun K hK => ?_)
 go_wp2
 refine hK _ _ (fun h => absurd rfl h) ?_
 clear hK K
 refine wpMix_nil ?_
 go_wp2
 refine bodyPost_ret (results_row2 rfl _ _ (W.heap.size + 1 + 1) _ rfl pY.load) rfl ?_
 have g6 := (g5.keep oY.size (fun b hb hlt => oY.block b hlt (by simpa using hb.2))).mono (F' := F) (fun b hb _ => hb.1)
 simp only [Int.toNat_natCast] at g6
 exact ⟨a5, c5, rfl, g6, bw5.trans b5Y⟩
theorem rput_any {F : Nat → Prop} {W : World} (hF : ∀ b, W.heap.size ≤ b → F b) {a : Option Addr} {cap w h : Nat} {R : List (List GC)} (g : RG F W a cap w h R) (hw5 : w ≤ 1000) (hh5 : h ≤ 1000) (r c : Int) (s : ByteArray) (wd : Int) (y : Sy) :
    Calls Tryz.prog 123 #[.agg #[.int .i64 w, .int .i64 h, .slice a h cap], .int .i64 r, .int .i64 c, .string s, .int .i64 wd, .agg #[.bool y.b, .bool y.u, .bool y.i, .int .i64 y.f, .int .i64 y.g]] W (GPost2 F w h (putR w h R r c s wd y) (putErr w h r c s wd) W) := by
 unfold putR
 by_cases h1 : s = ⟨#[]⟩ ∨ 64 < s.size ∨ (wd ≠ 1 ∧ wd ≠ 2)
 ·have e1 : putErr w h r c s wd = 1 := by unfold putErr; rw [if_pos h1]
  rw [e1, if_neg (by decide)]
  exact rput_arg g r c s wd y h1
 ·have h2 : s ≠ ⟨#[]⟩ ∧ s.size ≤ 64 ∧ (wd = 1 ∨ wd = 2) := by
   refine ⟨fun h => h1 (.inl h), ?_, ?_⟩
   ·exact Nat.le_of_not_lt (fun h => h1 (.inr (.inl h)))
   ·by_cases a : wd = 1; exact .inl a; by_cases b : wd = 2; exact .inr b; exact absurd (.inr (.inr ⟨a, b⟩)) h1
  obtain ⟨hs0, hs1, hwd⟩ := h2
  by_cases h3 : ¬ (0 ≤ r ∧ r < h ∧ 0 ≤ c ∧ c < w) ∨ (wd = 2 ∧ ¬ c + 1 < w)
  ·have e1 : putErr w h r c s wd = 5 := by unfold putErr; rw [if_neg h1, if_pos h3]
   rw [e1, if_neg (by decide)]
   exact rput_range g hw5 r c s wd y hs0 hs1 hwd h3
  ·have e1 : putErr w h r c s wd = 0 := by unfold putErr; rw [if_neg h1, if_neg h3]
   rw [e1, if_pos rfl]
   have h4 : 0 ≤ r ∧ r < h ∧ 0 ≤ c ∧ c < w := Classical.byContradiction fun h => h3 (.inl h)
   rcases hwd with rfl | rfl
   ·exact rput_ok1 hF g hw5 hh5 r c s y hs0 hs1 h4.1 h4.2.1 h4.2.2.1 h4.2.2.2
   ·exact rput_ok2 hF g hw5 hh5 r c s y hs0 hs1 h4.1 h4.2.1 h4.2.2.1 (Classical.byContradiction fun h => h3 (.inr ⟨rfl, h⟩))
def ROwn (F : Nat → Prop) (n₀ : Nat) (W : World) (v : Value) (k : Nat) (R : List (List GC)) : Prop :=
 ∃ vs G, W.ownsRow n₀ 90 1 v k vs ∧ VRows G W vs R ∧ (∀ b, G b → F b) ∧ ∀ g, v.ownBlock = some g → ¬ G g
theorem VRows.keep {F : Nat → Prop} {W Y : World} {vs : List Value} {R : List (List GC)} (h : VRows F W vs R) (hs : W.heap.size ≤ Y.heap.size) (hk : ∀ b, F b → b < W.heap.size → Y.heap[b]? = W.heap[b]?) : VRows F Y vs R :=
 ⟨h.len, fun i M hi => by
  obtain ⟨a2, c2, h1, h2, h3, h4⟩ := h.at_ i M hi
  exact ⟨a2, c2, h1, h2, h3.keep hs (fun b o e hb => hk b (h4 b o e).2 hb), fun b o e => ⟨Nat.lt_of_lt_of_le (h4 b o e).1 hs, (h4 b o e).2⟩⟩⟩
theorem VRows.mono {F F' : Nat → Prop} {W : World} {vs : List Value} {R : List (List GC)} (h : VRows F W vs R) (hF : ∀ b, F b → b < W.heap.size → F' b) : VRows F' W vs R :=
 ⟨h.len, fun i M hi => by
  obtain ⟨a2, c2, h1, h2, h3, h4⟩ := h.at_ i M hi
  exact ⟨a2, c2, h1, h2, h3, fun b o e => ⟨(h4 b o e).1, hF b (h4 b o e).2 (h4 b o e).1⟩⟩⟩
theorem ROwn.nil (F : Nat → Prop) (n₀ : Nat) (W : World) : ROwn F n₀ W (.slice none 0 0) 0 [] :=
 ⟨[], fun _ => False, World.ownsRow_nil _ _ _ _, VRows.nil _ _, fun _ h => h.elim, fun _ _ h => h⟩
theorem ROwn.slice {F : Nat → Prop} {n₀ : Nat} {W : World} {v : Value} {k : Nat} {R : List (List GC)} (h : ROwn F n₀ W v k R) : ∃ a c, v = .slice a k c := by
 obtain ⟨vs, _, ho, _⟩ := h
 exact own_sliceF ho
theorem ROwn.below {F : Nat → Prop} {n₀ : Nat} {W Y : World} {v : Value} {k : Nat} {R : List (List GC)} (h : ROwn F n₀ W v k R) (hb : Below W.heap.size W Y) : ROwn F n₀ Y v k R := by
 obtain ⟨vs, G, ho, hv, hG, hn⟩ := h
 exact ⟨vs, G, own_belowF ho hb, hv.below hb, hG, hn⟩
theorem ROwn.setCell {F : Nat → Prop} {n₀ : Nat} {W : World} {v : Value} {k : Nat} {R : List (List GC)} (h : ROwn F n₀ W v k R) {b : Nat} (hb : b < n₀) (hF : ¬ F b) (o : Nat) (u : Value) : ROwn F n₀ (W.setCell ⟨b, o, none⟩ u) v k R := by
 obtain ⟨vs, G, ho, hv, hG, hn⟩ := h
 exact ⟨vs, G, ownsRow_setCell_below ho hb u, hv.keep (by simp [World.setCell]) (fun b' hb' _ => Below.heap_setCell _ _ _ _ (fun e => hF (by subst e; exact hG _ hb'))), hG, hn⟩
theorem ROwn.app {F : Nat → Prop} {n₀ : Nat} {W W' : World} {v v' : Value} {k : Nat} {R : List (List GC)} {vs : List Value} {G : Nat → Prop} {a : Option Addr} {n c : Nat} {M : List GC}
    (hv : VRows G W vs R) (hG : ∀ b, G b → F b) (hn : ∀ g, v.ownBlock = some g → ¬ G g) (hlt : ∀ g, v.ownBlock = some g → g < W.heap.size)
    (hM : CellsAt W a n M) (hnM : M.length = n) (hc : n ≤ c ∧ c ≤ maxLen) (ha : ∀ b o, a = some ⟨b, o, none⟩ → b < W.heap.size ∧ F b ∧ v.ownBlock ≠ some b)
    (hgr : W.grownBy W' v.ownBlock) (ho : W'.ownsRow n₀ 90 1 v' (k + 1) (vs ++ [.slice a n c])) (hob : v'.ownBlock = v.ownBlock ∨ v'.ownBlock = some W.heap.size) : ROwn F n₀ W' v' (k + 1) (R ++ [M]) := by
 have hkeep : ∀ b, b < W.heap.size → v.ownBlock ≠ some b → W'.heap[b]? = W.heap[b]? := fun b hb hne => hgr.block b hb (fun e => hne e.symm)
 have hv1 := hv.mono (F' := fun b => G b ∧ b < W.heap.size) (fun b h1 h2 => ⟨h1, h2⟩)
 have hv2 := (hv1.keep hgr.size (fun b hb hlt' => hkeep b hlt' (fun e => hn b e hb.1)))
 have hv3 := hv2.mono (F' := fun b => G b ∧ b < W.heap.size ∨ ∃ o, a = some ⟨b, o, none⟩) (fun b h1 _ => .inl h1)
 have hM2 := hM.keep hgr.size (fun b o e hb => hkeep b hb (ha b o e).2.2)
 refine ⟨vs ++ [.slice a n c], _, ho, hv3.snoc hnM hc hM2 (fun b o e => ⟨Nat.lt_of_lt_of_le (ha b o e).1 hgr.size, .inr ⟨o, e⟩⟩), ?_, ?_⟩
 ·rintro b (h1 | ⟨o, e⟩)
  ·exact hG b h1.1
  ·exact (ha b o e).2.1
 ·rintro g hg (h1 | ⟨o, e⟩)
  ·rcases hob with h2 | h2
   ·exact hn g (h2 ▸ hg) h1.1
   ·rw [h2] at hg; cases hg; exact absurd h1.2 (Nat.lt_irrefl _)
  ·rcases hob with h2 | h2
   ·exact (ha g o e).2.2 (h2 ▸ hg)
   ·rw [h2] at hg; cases hg; exact absurd (ha _ o e).1 (Nat.lt_irrefl _)
theorem ROwn.rows {F : Nat → Prop} {n₀ : Nat} {W : World} {a : Option Addr} {k c : Nat} {R : List (List GC)} (h : ROwn F n₀ W (.slice a k c) k R) (hR : R.length = k) (hF : ∀ b, n₀ ≤ b → F b) : RowsF F W a k R ∧ k ≤ c ∧ c ≤ maxLen := by
 obtain ⟨vs, G, ho, hv, hG, hn⟩ := h
 obtain ⟨h1, h2, h3⟩ := own_row_at ho
 exact ⟨RowsF.of_vals hR (hv.mono (fun b hb _ => hG b hb)) h1 (fun b o e => by subst e; exact hF b (own_cells ho b rfl).1), h2, h3⟩
theorem row_one (W : World) (v : Value) (t : TypeId) : ∀ (j : Nat) (u : Value), [v][j]? = some u → (W.alloc (.cells #[v] t)).cell? ((⟨W.heap.size, 0, none⟩ : Addr).add j) = some u := fun j u h => by
 have h0 := (cell_new_l W v t).1
 cases j with
 | zero =>
  simp only [List.getElem?_cons_zero, Option.some.injEq] at h
  subst h
  rw [Go.WideShapes.add_plain]; exact h0
 | succ j => simp at h
theorem wpList_append_row {ops : Array Oper} {rest : List Oper} {o : Oper} {a : Act} {w : World} {Q : Exit → Act → World → Prop} (hgd : o.guard = none) (s x : Operand)
    (ho : o.op = .call { callee := .builtin .append, args := #[s, x], argTypes := #[28, 28] }) (F : Nat → Prop) (n₀ : Nat) (v : Value) (k : Nat) (R : List (List GC)) (hs : a.eval s = v) (hR : ROwn F n₀ w v k R)
    (b : Nat) (hx : a.eval x = .slice (some ⟨b, 0, none⟩) 1 1) (a3 : Option Addr) (n c : Nat) (M : List GC) (hcell : ∀ j u, [Value.slice a3 n c][j]? = some u → w.cell? ((⟨b, 0, none⟩ : Addr).add j) = some u) (hM : CellsAt w a3 n M) (hnM : M.length = n) (hc : n ≤ c ∧ c ≤ maxLen)
    (ha : ∀ b o, a3 = some ⟨b, o, none⟩ → b < w.heap.size ∧ F b ∧ v.ownBlock ≠ some b) (hk : k + 1 ≤ 1000000) (hbase : n₀ ≤ w.heap.size)
    (h : ∀ g c' w', ROwn F n₀ w' (.slice (some ⟨g, 0, none⟩) (k + 1) c') (k + 1) (R ++ [M]) → w.grownBy w' v.ownBlock → Below n₀ w w' → wpList Tryz.prog ops Q rest (a.put o.dst (.slice (some ⟨g, 0, none⟩) (k + 1) c')) w') :
    wpList Tryz.prog ops Q (o :: rest) a w := by
 obtain ⟨i0, hi, hz0, hz1, hz2⟩ := info_parts infoRow
 obtain ⟨vs, G, hown, hv, hG, hn⟩ := hR
 refine wpList_append_own_at _ hgd s x 28 ho n₀ 90 i0 (.agg #[.slice none 0 0]) 1 24 Tryz.underlying28 hi hz0 hz1 hz2 rfl (by decide) v k vs hs hown ⟨b, 0, none⟩ 1 1 [.slice a3 n c] hx rfl hcell (by intro u hu; rw [List.mem_singleton.1 hu]; rfl) (by unfold maxLen; omega) (by omega) hbase ?_
 intro v' w1 ho' hg' _ hob
 obtain ⟨g, c', rfl⟩ := ownsRow_succ ho'
 exact h _ _ _ (ROwn.app hv hG hn (fun g e => by obtain ⟨_, cur, h2⟩ := own_cells hown g e; exact (Array.getElem?_eq_some_iff.1 h2).1) hM hnM hc ha hg' ho' hob) hg' ((Below.refl n₀ w).grown hg' hbase (fun k e => (own_cells hown k e).1))
theorem ROwn.own {F : Nat → Prop} {n₀ : Nat} {W : World} {v : Value} {k : Nat} {R : List (List GC)} (h : ROwn F n₀ W v k R) : ∀ g, v.ownBlock = some g → n₀ ≤ g ∧ g < W.heap.size := fun g e => by
 obtain ⟨vs, G, hown, _⟩ := h
 obtain ⟨h1, cur, h2⟩ := own_cells hown g e
 exact ⟨h1, (Array.getElem?_eq_some_iff.1 h2).1⟩
set_option maxRecDepth 100000 in
set_option maxHeartbeats 8000000 in
theorem rnew_ok {F : Nat → Prop} {W : World} (hF : ∀ b, W.heap.size ≤ b → F b) (w h : Nat) (hd : 1 ≤ w ∧ w ≤ 500 ∧ 1 ≤ h ∧ h ≤ 500) :
    Calls Tryz.prog 54 #[.int .i64 w, .int .i64 h] W (GPost2 F w h (List.replicate h (List.replicate w GC.blank)) 0 W) := by
 obtain ⟨i0, hi, hz0, hz1, hz2⟩ := info_parts infoRow
 have cs := rsize_any (w : Int) (h : Int)
 rw [show decide (1 ≤ (w : Int) ∧ (w : Int) ≤ 500 ∧ 1 ≤ (h : Int) ∧ (h : Int) ≤ 500) = true by simp; omega] at cs
 have CS := Lib.hid cs
 have CB := Lib.hid (fun X => rblanks_any w (by omega) X)
 clear cs
 obtain ⟨X1, hX1⟩ : ∃ X1, W.alloc (.cells #[.int .i64 0, .int .i64 0, .slice none 0 0] 30) = X1 := ⟨_, rfl⟩
 obtain ⟨X2, hX2⟩ : ∃ X2, X1.alloc (.cells #[.int .i64 w, .int .i64 h, .slice none 0 0] 30) = X2 := ⟨_, rfl⟩
 have s1 : X1.heap.size = W.heap.size + 1 := by rw [← hX1]; simp
 have s2 : X2.heap.size = W.heap.size + 1 + 1 := by rw [← hX2]; simp [s1]
 have b1 : Below W.heap.size W X1 := by rw [← hX1]; exact (Below.refl _ _).alloc (Nat.le_refl _) _
 have b2 : Below W.heap.size W X2 := by rw [← hX2]; exact b1.alloc (by omega) _
 have p1 : GBox X2 W.heap.size 0 0 none 0 0 := by
  have : GBox X1 W.heap.size 0 0 none 0 0 := by rw [← hX1]; exact GBox.new W _ _ _ _ _
  rw [← hX2]; exact this.below ((Below.refl _ _).alloc (Nat.le_refl _) _)
 have p2 : GBox X2 (W.heap.size + 1) w h none 0 0 := by rw [← hX2, ← s1]; exact GBox.new X1 _ _ _ _ _
 have HX1 := Lib.hid hX1
 have HX2 := Lib.hid hX2
 have S2 := Lib.hid s2
 clear hX1 hX2 s1 s2 b1
 obtain ⟨hd1, hd2, hd3, hd4⟩ := hd
 go_enter Tryz.func54, Tryz.ntmps54
 go_wp2_with (go_at_call 73; refine (CS.out _).mono ?_; rintro e w1 ⟨rfl, rfl⟩)
 rw [HX1.out, HX2.out]
 go_loopw [7] (fun i wr => ∃ (k : Nat) (av : Option Addr) (cv : Nat), k ≤ h ∧ i = .int .i64 k ∧ GBox wr (W.heap.size + 1) w h av k cv ∧ GBox wr W.heap.size 0 0 none 0 0 ∧ ROwn (fun b => F b ∧ W.heap.size + 1 < b) (W.heap.size + 1 + 1) wr (.slice av k cv) k (List.replicate k (List.replicate w GC.blank)) ∧ Below W.heap.size W wr) (fun i _ => h - (intOf i).toNat)
 case atStart => exact ⟨0, none, 0, Nat.zero_le _, rfl, p2, p1, ROwn.nil _ _ _, b2⟩
 case round =>
  obtain ⟨k, av, cv, hk, rfl, pg, pr, hR, hb⟩ := hrel
  have hlt2 := pg.lt
  obtain ⟨q0, q1, q2, q3⟩ := pg.cells
  by_cases hlt : k < h
  ·have HSN : Hid (List.replicate (k + 1) (List.replicate w GC.blank) = List.replicate k (List.replicate w GC.blank) ++ [List.replicate w GC.blank]) := Lib.hid List.replicate_succ'
   obtain ⟨M, hM⟩ : ∃ M, M = List.replicate w GC.blank := ⟨_, rfl⟩
   have hMl : M.length = w := by rw [hM]; simp
   rw [← hM] at CB hR HSN
   obtain ⟨R, hRR⟩ : ∃ R, R = List.replicate k M := ⟨_, rfl⟩
   rw [← hRR] at hR HSN
   have HML := Lib.hid hMl
   have HMM := Lib.hid hM
   clear hRR hM hMl
   go_wp2
   refine wp_region_mix [(true, 0), (true, 1), (true, 2), (false, 3), (false, 4), (false, 5), (true, 6), (false, 7)] (fun w' => w'.cell? ⟨W.heap.size + 1, 2, none⟩ = some (.slice av k cv)) (by kernel_rfl) (by kernel_rfl) (by rfl) (by kernel_rfl) (by kernel_rfl) (fun _ _ d _ _ h => by cases d <;> exact h) q2 ?_
   simp only [mixL, List.getElem?_cons_succ, List.getElem?_cons_zero]
   repeat (refine' wpMix_read (v := _) rfl ?_ ?_; rotate_left 1; (intro w' hw'; go_simp; try with_reducible rfl); try simp only [Act.put, List.setIfInBounds_toArray, List.set_cons_zero, List.set_cons_succ])
   refine wpMix_act (fun K hK => ?_)
   go_wp2_with fail
   refine (CB.out _).mono ?_
   rintro e w3 ⟨a3, c3, rfl, hM3, hc3, hb3⟩
   have hbw3 : Below wr.heap.size wr w3 := (Below.refl _ _).drew.trans hb3
   have pg3 := pg.below hbw3
   go_wp2
   refine hK _ _ (fun _ => pg3.cells.2.2.1) ?_
   clear hK K
   refine wpMix_act (fun K hK => ?_)
   go_wp2
   refine hK _ _ (fun _ => (pg3.below ((Below.refl _ _).alloc (Nat.le_refl _) _)).cells.2.2.1) ?_
   clear hK K
   refine wpMix_act (fun K hK => ?_)
   have ha3 : ∀ b o, a3 = some ⟨b, o, none⟩ → b < w3.heap.size ∧ (F b ∧ W.heap.size + 1 < b) ∧ (Value.slice av k cv).ownBlock ≠ some b := fun b o e => by
    obtain ⟨h1, h2⟩ := hc3.2 b o e
    have h3 : wr.heap.size ≤ b := h1
    exact ⟨h2, ⟨hF b (by have := hb.size; omega), by omega⟩, fun e2 => by have := (hR.own b e2).2; omega⟩
   have hs3 := hbw3.size
   refine wpList_append_row rfl _ _ rfl (fun b => F b ∧ W.heap.size + 1 < b) (W.heap.size + 1 + 1) (.slice av k cv) k R rfl ((hR.below hbw3).below ((Below.refl _ _).alloc (Nat.le_refl _) _)) w3.heap.size rfl a3 w c3 M (row_one w3 _ _) (hM3.below ((Below.refl _ _).alloc (Nat.le_refl _) _)) HML.out hc3.1 (fun b o e => by obtain ⟨h1, h2⟩ := ha3 b o e; exact ⟨by simp; omega, h2⟩) (by omega) (by simp; omega) ?_
   intro g c' w5 hR5 hg5 hb5
   have hb35 : Below (W.heap.size + 1 + 1) w3 w5 := ((Below.refl _ _).alloc (by omega) _).trans hb5
   have pg5 : GBox w5 (W.heap.size + 1) w h av k cv := (hb35.block _ (by omega)).trans pg3
   have pr5 : GBox w5 W.heap.size 0 0 none 0 0 := (hb35.block _ (by omega)).trans (pr.below hbw3)
   refine hK _ _ (fun _ => pg5.cells.2.2.1) ?_
   clear hK K hg5
   repeat (refine' wpMix_read (v := _) rfl ?_ ?_; rotate_left 1; (intro w' hw'; go_simp; try with_reducible rfl); try simp only [Act.put, List.setIfInBounds_toArray, List.set_cons_zero, List.set_cons_succ])
   refine wpMix_act (fun K hK => ?_)
   obtain ⟨t0, t1, t2, t3⟩ := pg5.cells
   go_wp2
   refine hK _ _ (fun h => absurd rfl h) ?_
   clear hK K
   refine wpMix_nil ?_
   obtain ⟨pY, oY⟩ := pg5.set2 (k + 1) c' (some ⟨g, 0, none⟩)
   have hRY := hR5.setCell (b := W.heap.size + 1) (by omega) (fun h => by omega) 2 (.slice (some ⟨g, 0, none⟩) (k + 1) c')
   have prY := pr5.only oY (by simp)
   have hbw5 : Below W.heap.size W w5 := (bto hb hbw3 hb.size).trans (hb35.mono (by omega))
   go_wp2
   go_roundw
   case rel => exact ⟨k + 1, some ⟨g, 0, none⟩, c', hlt, by go_num, pY, prY, by rw [← HMM.out, HSN.out]; exact hRY, hbw5.trans (oY.below (by simp) hbw5.size)⟩
   case measure => simp [intOf]; omega
  ·obtain rfl : k = h := by omega
   obtain ⟨Y, hY⟩ : ∃ Y, ((wr.setCell ⟨W.heap.size, 0, none⟩ (.int .i64 w)).setCell ⟨W.heap.size, 1, none⟩ (.int .i64 k)).setCell ⟨W.heap.size, 2, none⟩ (.slice av k cv) = Y := ⟨_, rfl⟩
   obtain ⟨pY, oY⟩ := pr.fill w k k cv av Y hY
   obtain ⟨t0, t1, t2, t3⟩ := pr.cells
   have hRY : ROwn (fun b => F b ∧ W.heap.size + 1 < b) (W.heap.size + 1 + 1) Y (.slice av k cv) k (List.replicate k (List.replicate w GC.blank)) := by
    rw [← hY]
    exact ((hR.setCell (b := W.heap.size) (by omega) (fun h => by omega) 0 _).setCell (b := W.heap.size) (by omega) (fun h => by omega) 1 _).setCell (b := W.heap.size) (by omega) (fun h => by omega) 2 _
   obtain ⟨h1, h2, h3⟩ := hRY.rows (by simp) (fun b hb => ⟨hF b (by omega), by omega⟩)
   have HY := Lib.hid hY
   have hbY := hb.trans (oY.below (by simp) hb.size)
   clear hY hR hRY
   go_wp2
   rw [HY.out]
   refine bodyPost_ret (results_row2 rfl _ _ W.heap.size _ rfl pY.load) rfl ?_
   exact ⟨av, cv, rfl, ⟨h1.mono (fun b hb _ => hb.1), RowsOk.blank w k, h2, h3⟩, hbY⟩
theorem two_grids (W : World) (w h n cap : Nat) (a : Option Addr) (X : World) (hX : (W.alloc (.cells #[.int .i64 w, .int .i64 h, .slice a n cap] 30)).alloc (.cells #[.int .i64 0, .int .i64 0, .slice none 0 0] 30) = X) :
    GBox X W.heap.size w h a n cap ∧ GBox X (W.heap.size + 1) 0 0 none 0 0 ∧ Below W.heap.size W X ∧ X.heap.size = W.heap.size + 1 + 1 := by
 obtain ⟨X1, h1⟩ : ∃ X1, W.alloc (.cells #[.int .i64 w, .int .i64 h, .slice a n cap] 30) = X1 := ⟨_, rfl⟩
 rw [h1] at hX
 have s1 : X1.heap.size = W.heap.size + 1 := by rw [← h1]; simp
 have b1 : GBox X1 W.heap.size w h a n cap := by rw [← h1]; exact GBox.new W w h n cap a
 have b3 : GBox X (W.heap.size + 1) 0 0 none 0 0 := by rw [← hX, ← s1]; exact GBox.new X1 0 0 0 0 none
 have e2 : Below X1.heap.size X1 X := by rw [← hX]; exact (Below.refl _ _).alloc (Nat.le_refl _) _
 have e0 : Below W.heap.size W X1 := by rw [← h1]; exact (Below.refl _ _).alloc (Nat.le_refl _) _
 exact ⟨b1.below e2, b3, bnext e0 e2, by rw [← hX]; simp [s1]⟩
set_option maxRecDepth 100000 in
set_option maxHeartbeats 4000000 in
theorem rerase_out {F : Nat → Prop} {W : World} {a : Option Addr} {cap w h : Nat} {R : List (List GC)} (g : RG F W a cap w h R) (r x y : Int) (hr : ¬ (0 ≤ r ∧ r < h)) :
    Calls Tryz.prog 192 #[.agg #[.int .i64 w, .int .i64 h, .slice a h cap], .int .i64 r, .int .i64 x, .int .i64 y] W (GPost2 F w h R 5 W) := by
 obtain ⟨X, hX⟩ : ∃ X, (W.alloc (.cells #[.int .i64 w, .int .i64 h, .slice a h cap] 30)).alloc (.cells #[.int .i64 w, .int .i64 h, .slice a h cap] 30) = X := ⟨_, rfl⟩
 have p2 : GBox X (W.heap.size + 1) w h a h cap := by
  have := GBox.new (W.alloc (.cells #[.int .i64 w, .int .i64 h, .slice a h cap] 30)) w h h cap a
  rw [hX] at this
  simpa using this
 have bX : Below W.heap.size W X := by rw [← hX]; exact ((Below.refl _ _).alloc (Nat.le_refl _) _).alloc (by simp) _
 have gX := g.below bX
 have HX := Lib.hid hX
 clear hX g
 go_enter Tryz.func192, Tryz.ntmps192
 go_wp2
 all_goals first | (exfalso; omega) | skip
 all_goals rw [HX.out]
 all_goals refine bodyPost_ret (results_row2 rfl _ _ (W.heap.size + 1) _ rfl p2.load) rfl ?_
 all_goals exact ⟨a, cap, rfl, gX, bX⟩
set_option maxRecDepth 100000 in
set_option maxHeartbeats 8000000 in
theorem rerase_ok {F : Nat → Prop} {W : World} (hF : ∀ b, W.heap.size ≤ b → F b) {a : Option Addr} {cap w h : Nat} {R : List (List GC)} (g : RG F W a cap w h R) (hw5 : 1 ≤ w ∧ w ≤ 1000) (hh5 : h ≤ 1000) (r x y : Int) (hr0 : 0 ≤ r) (hr1 : r < h) :
    Calls Tryz.prog 192 #[.agg #[.int .i64 w, .int .i64 h, .slice a h cap], .int .i64 r, .int .i64 x, .int .i64 y] W (GPost2 F w h (R.set r.toNat (eraseL (nth [] R r.toNat) 0 w x y)) 0 W) := by
 obtain ⟨k, rfl⟩ := Int.eq_ofNat_of_zero_le hr0
 simp only [Int.toNat_natCast]
 have hk : k < h := by omega
 have hRl := g.rows.len
 have hM : R[k]? = some (nth [] R k) := by rw [nth_eq _ _ _ (by omega)]; exact List.getElem?_eq_getElem _
 have hMl := g.ok.at hk
 obtain ⟨M0, hM0⟩ : ∃ M, M = nth [] R k := ⟨_, rfl⟩
 rw [← hM0] at hM hMl ⊢
 obtain ⟨FIN, hFI⟩ : ∃ F, F = eraseL M0 0 w x y := ⟨_, rfl⟩
 obtain ⟨lo, hlo⟩ : ∃ n : Nat, n = (max 0 x).toNat := ⟨_, rfl⟩
 obtain ⟨hi, hhi⟩ : ∃ n : Nat, n = (min y w).toNat := ⟨_, rfl⟩
 have hF0 : FIN = wipes 0 w lo (hi - lo) M0 := by rw [hFI, hlo, hhi]; rfl
 rw [← hFI]
 have hhw : hi ≤ w := by omega
 have HF := Lib.hid hF0
 have HH := Lib.hid hhi
 have HL := Lib.hid hlo
 have HML := Lib.hid hMl
 obtain ⟨X, hX⟩ : ∃ X, (W.alloc (.cells #[.int .i64 w, .int .i64 h, .slice a h cap] 30)).alloc (.cells #[.int .i64 0, .int .i64 0, .slice none 0 0] 30) = X := ⟨_, rfl⟩
 obtain ⟨p1, p2, bX, sX⟩ := two_grids W w h h cap a X hX
 obtain ⟨b, o, a2, c2, rfl, ⟨hb, _⟩, hcell, hc2, hcl, hfa⟩ := g.rows.at_ k _ hM
 rw [hMl] at hcell hc2 hcl
 have hm := g.mx
 have hle := g.le
 have G := Lib.hid (g.mono (F' := fun b => F b ∧ b ≠ W.heap.size + 1) (fun b h1 h2 => ⟨h1, by omega⟩))
 have CB := Lib.hid (fun (X : World) a cap N (h : CellsAt X a w N) i h0 h1 => rblank_any (cap := cap) h (by omega) i h0 h1)
 have HX := Lib.hid hX
 have HCL := Lib.hid hcl
 have HA2 := Lib.hid hfa
 have P1 := Lib.hid p1
 have P2 := Lib.hid p2
 have SX := Lib.hid sX
 obtain ⟨q0, q1, q2, q3⟩ := p1.cells
 have hcases : (0 < x ∧ x = (lo : Int)) ∨ (x ≤ 0 ∧ (0 : Int) = (lo : Int)) := by omega
 obtain ⟨hw1, hw2⟩ := hw5
 clear hFI hF0 hlo hhi hM hMl hM0 hRl hX p1 p2 hcl g hfa sX
 have main : ∀ (i : Int), i = (lo : Int) → (0 < x ∧ i = x ∨ x ≤ 0 ∧ i = 0) → Calls Tryz.prog 192 #[.agg #[.int .i64 w, .int .i64 h, .slice (some ⟨b, o, none⟩) h cap], .int .i64 k, .int .i64 x, .int .i64 y] W (GPost2 F w h (R.set k FIN) 0 W) := by
  intro i hi' hx
  have AA := Lib.hid hi'
  clear hi' hcases
  rcases hx with ⟨hx0, rfl⟩ | ⟨hx0, rfl⟩
  all_goals
   go_enter Tryz.func192, Tryz.ntmps192
   go_wp2
   rw [HX.out]
   go_loopw [11, 10] (fun i lv wr => ∃ (n : Nat) (M : List GC) (av : Option Addr) (cv : Nat), i = .int .i64 n ∧ lv = .slice av w cv ∧ FIN = wipes 0 w n (hi - n) M ∧ CellsAt wr av w M ∧ ((w ≤ cv ∧ cv ≤ maxLen) ∧ ∀ b o, av = some ⟨b, o, none⟩ → b < wr.heap.size ∧ F b ∧ b ≠ W.heap.size + 1) ∧ Below X.heap.size X wr) (fun i _ _ => hi - (intOf i).toNat)
   case atStart => exact ⟨lo, M0, a2, c2, by rw [AA.out], rfl, HF.out, HCL.out.below bX, ⟨hc2, fun b o e => ⟨Nat.lt_of_lt_of_le (HA2.out b o e).1 bX.size, (HA2.out b o e).2, by have := (HA2.out b o e).1; omega⟩⟩, Below.refl _ _⟩
   case round =>
    obtain ⟨n, M, av, cv, rfl, rfl, hf, hMr, ⟨hcv, hav⟩, hbr⟩ := hrel
    have HF2 := Lib.hid hf
    have HAV := Lib.hid hav
    clear hf hav q0 q1 q2 q3
    obtain ⟨q0, q1, q2, q3⟩ := (P1.out.below hbr).cells
    by_cases hn : n < hi
    ·have hnw : (n : Int) < (w : Int) := by omega
     have hnb : (n : Int) < y := by have := HH.out; omega
     go_wp2_with (go_at_call 161; refine (CB.out _ _ _ _ hMr _ (by omega) (by omega)).mono ?_; rintro e w3 ⟨a3, c3, rfl, hM3, hc3, hb3⟩)
     all_goals simp only [Int.toNat_natCast] at hM3
     all_goals
      go_roundw
      case rel => exact ⟨n + 1, by omega, _, a3, c3, ⟨rfl, rfl⟩, by rw [HF2.out, show hi - n = (hi - (n + 1)) + 1 by omega]; rfl, hM3, ⟨hc3.1, fun b o e => by obtain ⟨h1, h2⟩ := hc3.2 b o e; have h3 := hbr.size; have h4 := bX.size; have h5 := SX.out; exact ⟨h2, hF b (by omega), by omega⟩⟩, bto hbr hb3 hbr.size⟩
      case measure => simp [intOf]; omega
    ·have hnm : y ≤ (n : Int) ∨ (w : Int) ≤ (n : Int) := by have := HH.out; omega
     have hfin : FIN = M := by rw [HF2.out, show hi - n = 0 by omega]; rfl
     have HFIN := Lib.hid hfin
     clear hfin
     have bwr : Below W.heap.size W wr := bto bX hbr bX.size
     have hwr := hbr.size
     have hsx := SX.out
     have CW := Lib.hid (rwith_any (F := fun b => F b ∧ b ≠ W.heap.size + 1) (fun b hb => ⟨hF b (by omega), by omega⟩) (G.out.below bwr) (by omega) (k : Int) (by omega) (by omega) hMr hcv (fun b o e => HAV.out b o e))
     simp only [Int.toNat_natCast] at CW
     have p2r := P2.out.below hbr
     have fin : ∀ w5 a5 c5, RG (fun b => F b ∧ b ≠ W.heap.size + 1) w5 a5 c5 w h (R.set k M) → Below wr.heap.size wr w5 → ∀ Y, ((w5.setCell ⟨W.heap.size + 1, 0, none⟩ (.int .i64 w)).setCell ⟨W.heap.size + 1, 1, none⟩ (.int .i64 h)).setCell ⟨W.heap.size + 1, 2, none⟩ (.slice a5 h c5) = Y → GBox Y (W.heap.size + 1) w h a5 h c5 ∧ RG F Y a5 c5 w h (R.set k FIN) ∧ Below W.heap.size W Y := fun w5 a5 c5 g5 hb5 Y hY => by
      obtain ⟨pY, oY⟩ := (p2r.below hb5).fill w h h c5 a5 Y hY
      have bw5 := bto bwr hb5 bwr.size
      rw [HFIN.out]
      exact ⟨pY, (g5.keep oY.size (fun b hb hlt => oY.block b hlt (by simpa using hb.2))).mono (fun b hb _ => hb.1), bw5.trans (oY.below (by simp) bw5.size)⟩
     have FI := Lib.hid fin
     clear fin
     by_cases hbw : y < (w : Int)
     ·have hbn : y ≤ (n : Int) := by omega
      go_wp2_with (go_at_call 127; refine (CW.out).mono ?_; rintro e w5 ⟨a5, c5, rfl, g5, hb5⟩; obtain ⟨t0, t1, t2, t3⟩ := (p2r.below hb5).cells)
      all_goals
       obtain ⟨f1, f2, f3⟩ := FI.out _ _ _ g5 hb5 _ rfl
       refine bodyPost_ret (results_row2 rfl _ _ (W.heap.size + 1) _ rfl f1.load) rfl ?_
       exact ⟨a5, c5, rfl, f2, f3⟩
     ·have hwb : (w : Int) ≤ y := by omega
      have hbn : (w : Int) ≤ (n : Int) := by omega
      go_wp2_with (go_at_call 127; refine (CW.out).mono ?_; rintro e w5 ⟨a5, c5, rfl, g5, hb5⟩; obtain ⟨t0, t1, t2, t3⟩ := (p2r.below hb5).cells)
      all_goals
       obtain ⟨f1, f2, f3⟩ := FI.out _ _ _ g5 hb5 _ rfl
       refine bodyPost_ret (results_row2 rfl _ _ (W.heap.size + 1) _ rfl f1.load) rfl ?_
       exact ⟨a5, c5, rfl, f2, f3⟩
 rcases hcases with ⟨h1, h2⟩ | ⟨h1, h2⟩
 ·exact main x h2 (.inl ⟨h1, rfl⟩)
 ·exact main 0 h2 (.inr ⟨h1, rfl⟩)
theorem rerase_any {F : Nat → Prop} {W : World} (hF : ∀ b, W.heap.size ≤ b → F b) {a : Option Addr} {cap w h : Nat} {R : List (List GC)} (g : RG F W a cap w h R) (hw5 : 1 ≤ w ∧ w ≤ 1000) (hh5 : h ≤ 1000) (r x y : Int) :
    Calls Tryz.prog 192 #[.agg #[.int .i64 w, .int .i64 h, .slice a h cap], .int .i64 r, .int .i64 x, .int .i64 y] W (GPost2 F w h (eraseR w h R r x y) (eraseErr h r) W) := by
 unfold eraseR eraseErr
 by_cases hr : 0 ≤ r ∧ r < h
 ·rw [if_pos hr, if_pos hr]; exact rerase_ok hF g hw5 hh5 r x y hr.1 hr.2
 ·rw [if_neg hr, if_neg hr]; exact rerase_out g r x y hr
def GPost3 (F : Nat → Prop) (w h : Nat) (R : List (List GC)) (ok : Bool) (err : Int) (W : World) (e : Ending) (w' : World) : Prop := ∃ a c, e = .returned (.tuple #[.agg #[.int .i64 w, .int .i64 h, .slice a h c], .bool ok, .int .i64 err]) ∧ RG F w' a c w h R ∧ Below W.heap.size W w'
def catC (C : GC) (s : ByteArray) : GC := { C with s := C.s ++ s }
theorem catC_set {W : World} {q : Nat} {C : GC} (hb : GBlk W q [C]) (s : ByteArray) : GBlk (W.setCell ⟨q, 0, none⟩ (.string (C.s ++ s))) q [catC C s] ∧ Only [q] W (W.setCell ⟨q, 0, none⟩ (.string (C.s ++ s))) :=
 hb.setS (i := 0) rfl (C.s ++ s) 0 rfl
theorem vals_of {W : World} {q : Nat} {C : GC} (hb : GBlk W q [C]) : (W.cell? ⟨q, 0, none⟩ = some (.string C.s) ∧ W.cell? ⟨q, 1, none⟩ = some (.int .i64 C.w) ∧ W.cell? ⟨q, 2, none⟩ = some (.bool C.y.b) ∧ W.cell? ⟨q, 3, none⟩ = some (.bool C.y.u) ∧ W.cell? ⟨q, 4, none⟩ = some (.bool C.y.i) ∧ W.cell? ⟨q, 5, none⟩ = some (.int .i64 C.y.f) ∧ W.cell? ⟨q, 6, none⟩ = some (.int .i64 C.y.g)) ∧ ∀ j, W.frozen? ⟨q, j, none⟩ = false := by
 have h := hb.range1 (i := 0) (c := C) rfl
 rw [Nat.mul_zero] at h
 exact ⟨vals_at h, hb.frozen⟩
set_option maxRecDepth 100000 in
set_option maxHeartbeats 8000000 in
theorem rjoin_out {F : Nat → Prop} {W : World} {a : Option Addr} {cap w h : Nat} {R : List (List GC)} (g : RG F W a cap w h R) (r c : Int) (s : ByteArray) (hrc : inG w h r c = false) :
    Calls Tryz.prog 91 #[.agg #[.int .i64 w, .int .i64 h, .slice a h cap], .int .i64 r, .int .i64 c, .string s] W (GPost3 F w h R false 5 W) := by
 obtain ⟨X, hX⟩ : ∃ X, (W.alloc (.cells #[.int .i64 w, .int .i64 h, .slice a h cap] 30)).alloc (.cells #[.int .i64 0, .int .i64 0, .slice none 0 0] 30) = X := ⟨_, rfl⟩
 obtain ⟨p1, p2, bX, sX⟩ := two_grids W w h h cap a X hX
 have CT := Lib.hid (fun X => rthere_any w h a h cap r c X)
 rw [hrc] at CT
 have HX := Lib.hid hX
 have G := Lib.hid g
 clear hX g sX
 obtain ⟨q0, q1, q2, q3⟩ := p1.cells
 go_enter Tryz.func91, Tryz.ntmps91
 go_wp2_with fail
 rw [HX.out]
 go_wp2_with fail
 refine (CT.out _).mono ?_
 rintro e w1 ⟨rfl, hb1⟩
 clear q0 q1 q2 q3
 obtain ⟨q0, q1, q2, q3⟩ := (p1.below hb1).cells
 obtain ⟨t0, t1, t2, t3⟩ := (p2.below hb1).cells
 go_wp2
 obtain ⟨Y, hY⟩ : ∃ Y, ((w1.setCell ⟨W.heap.size + 1, 0, none⟩ (.int .i64 w)).setCell ⟨W.heap.size + 1, 1, none⟩ (.int .i64 h)).setCell ⟨W.heap.size + 1, 2, none⟩ (.slice a h cap) = Y := ⟨_, rfl⟩
 obtain ⟨pY, oY⟩ := (p2.below hb1).fill w h h cap a Y hY
 rw [hY]
 have b1 := bto bX hb1 bX.size
 have bY := b1.trans (oY.below (by simp) b1.size)
 refine bodyPost_ret (results_row3 rfl _ _ (W.heap.size + 1) _ rfl pY.load) rfl ?_
 exact ⟨a, cap, rfl, G.out.below bY, bY⟩
set_option maxRecDepth 100000 in
set_option maxHeartbeats 16000000 in
theorem rjoin_in {F : Nat → Prop} {W : World} (hF : ∀ b, W.heap.size ≤ b → F b) {a : Option Addr} {cap w h : Nat} {R : List (List GC)} (g : RG F W a cap w h R) (ro : ROk R) (hw5 : 1 ≤ w ∧ w ≤ 1000) (hh5 : h ≤ 1000) (r c : Int) (s : ByteArray)
    (hr0 : 0 ≤ r) (hr1 : r < h) (hc0 : 0 ≤ c) (hc1 : c < w) :
    Calls Tryz.prog 91 #[.agg #[.int .i64 w, .int .i64 h, .slice a h cap], .int .i64 r, .int .i64 c, .string s] W (GPost3 F w h (joinR w h R r c s) (joinOkR w h R r c s) 0 W) := by
 have e1 : inG w h r c = true := by simp [inG]; omega
 obtain ⟨k, rfl⟩ := Int.eq_ofNat_of_zero_le hr0
 obtain ⟨m0, rfl⟩ := Int.eq_ofNat_of_zero_le hc0
 have hk : k < h := by omega
 have hRl := g.rows.len
 have hM : R[k]? = some (nth [] R k) := by rw [nth_eq _ _ _ (by omega)]; exact List.getElem?_eq_getElem _
 have hMl := g.ok.at hk
 have hS := ro.at k
 obtain ⟨z, hz0⟩ : ∃ z, z = joinOkR w h R (k : Int) (m0 : Int) s := ⟨_, rfl⟩
 unfold joinR
 rw [← hz0]
 simp only [Int.toNat_natCast]
 have hz : z = decide ((s.size : Int) ≤ 64 - ((nth GC.zero (nth [] R k) (joinAt (nth [] R k) 0 m0)).s.size : Int)) := by rw [hz0]; unfold joinOkR; rw [e1, Bool.true_and]; rfl
 clear hz0
 obtain ⟨M, hMM⟩ : ∃ M, M = nth [] R k := ⟨_, rfl⟩
 rw [← hMM] at hM hMl hS hz ⊢
 obtain ⟨m, hm⟩ : ∃ m, m = joinAt M 0 m0 := ⟨_, rfl⟩
 have hml : m ≤ m0 := by rw [hm]; exact joinAt_le _ _ _
 have hmw : m < w := by omega
 obtain ⟨D, hD⟩ : ∃ D, D = nth GC.zero M m0 := ⟨_, rfl⟩
 obtain ⟨C, hC⟩ : ∃ C, C = nth GC.zero M m := ⟨_, rfl⟩
 have hDi : M[m0]? = some D := by rw [hD, nth_eq _ _ _ (by omega)]; exact List.getElem?_eq_getElem _
 have hCi : M[m]? = some C := by rw [hC, nth_eq _ _ _ (by omega)]; exact List.getElem?_eq_getElem _
 have hCs : C.s.size ≤ 64 := hS C (List.mem_of_getElem? hCi)
 have hcond : (D.w = 0 ∧ 0 < m0 ∧ m + 1 = m0) ∨ ((m0 = 0 ∨ ¬ D.w = 0) ∧ m = m0) := by
  unfold joinAt at hm
  rw [Nat.zero_add, ← hD] at hm
  by_cases h1 : D.w = 0 ∧ 0 < m0
  ·rw [if_pos h1] at hm; exact .inl ⟨h1.1, h1.2, by omega⟩
  ·rw [if_neg h1] at hm; exact .inr ⟨by omega, hm⟩
 have hjl : joinL M 0 m0 s = M.set m (catC C s) := by unfold joinL catC; rw [← hm, Nat.zero_add, ← hC]
 rw [hjl]
 rw [← hm, ← hC] at hz
 obtain ⟨X, hX⟩ : ∃ X, (W.alloc (.cells #[.int .i64 w, .int .i64 h, .slice a h cap] 30)).alloc (.cells #[.int .i64 0, .int .i64 0, .slice none 0 0] 30) = X := ⟨_, rfl⟩
 obtain ⟨p1, p2, bX, sX⟩ := two_grids W w h h cap a X hX
 have CT := Lib.hid (fun X => rthere_any w h a h cap (k : Int) (m0 : Int) X)
 rw [e1] at CT
 obtain ⟨b, o, a2, c2, rfl, ⟨hb, _⟩, hcell, hc2, hcl, hfa⟩ := g.rows.at_ k _ hM
 rw [hMl] at hcell hc2 hcl
 obtain ⟨b2, o2, rfl, hb2, hDr⟩ := hcl.at_ m0 D hDi
 obtain ⟨b2', o2', e2, _, hCr⟩ := hcl.at_ m C hCi
 cases e2
 have hx := hDr 1 _ rfl
 have hle := g.le
 have hmx := g.mx
 have G := Lib.hid g
 have G2 := Lib.hid (g.mono (F' := fun b => F b ∧ b ≠ W.heap.size + 1) (fun b h1 h2 => ⟨h1, by omega⟩))
 have HX := Lib.hid hX
 have SX := Lib.hid sX
 have HCL := Lib.hid hcl
 have HCE := Lib.hid hcell
 have HXX := Lib.hid hx
 have HCR := Lib.hid hCr
 have P1 := Lib.hid p1
 have P2 := Lib.hid p2
 obtain ⟨xw, hxw⟩ : ∃ x, x = D.w := ⟨_, rfl⟩
 rw [← hxw] at HXX hcond
 have HZ := Lib.hid hz
 obtain ⟨hw1, hw2⟩ := hw5
 have hk0 : ¬ (k : Int) < 0 := by omega
 have HA2 := Lib.hid hfa
 clear hX sX hcl hcell hx hCr hDr g p1 p2 hDi hCi hMM hM hMl hRl hD hC hxw hz hjl hm hS e1 ro hr0 hr1 hfa
 have hcond2 : (xw = 0 ∧ 0 < m0 ∧ (m0 : Int) - 1 = (m : Int)) ∨ (xw = 0 ∧ m0 = 0 ∧ m = 0) ∨ ((xw == 0) = false ∧ m = m0) := by
  rcases hcond with ⟨h1, h2, h3⟩ | ⟨h1, h2⟩
  ·exact .inl ⟨h1, h2, by omega⟩
  ·by_cases h3 : xw = 0
   ·exact .inr (.inl ⟨h3, by omega, by omega⟩)
   ·exact .inr (.inr ⟨by simpa using h3, h2⟩)
 have pre : ∀ w1, Below X.heap.size X w1 → Below W.heap.size W w1 ∧ w1.cell? ⟨b, o + k, none⟩ = some (.slice (some ⟨b2, o2, none⟩) w c2) ∧ w1.cell? ⟨b2, o2 + m0 * 7 + 1, none⟩ = some (.int .i64 xw) ∧ Hid (w1.rangeAt b2 (o2 + m * 7) C.vals) := fun w1 hb1 => by
  have bw1 : Below W.heap.size W w1 := bto bX hb1 bX.size
  exact ⟨bw1, (bw1.cell (p := ⟨b, o + k, none⟩) hb).trans HCE.out, (bw1.cell (p := ⟨b2, o2 + m0 * 7 + 1, none⟩) hb2).trans HXX.out, Lib.hid (fun j v hv => (bw1.cell (p := ⟨b2, _, none⟩) hb2).trans (HCR.out j v hv))⟩
 have PRE := Lib.hid pre
 have cs : ∀ (X : World) a cap N (h : CellsAt X a w N), Calls Tryz.prog 128 #[.slice a w cap, .int .i64 m, .agg #[.string (C.s ++ s), .int .i64 C.w, .bool C.y.b, .bool C.y.u, .bool C.y.i, .int .i64 C.y.f, .int .i64 C.y.g]] X (RowPost w (N.set m (catC C s)) X) := fun X a cap N h => by
  have := rset_any (cap := cap) h (by omega) (m : Int) (by omega) (by omega) (catC C s)
  simpa [catC] using this
 have CS := Lib.hid cs
 clear hcond pre cs
 cases z with
 | false =>
  rw [if_neg (by decide)]
  have hz2 : (64 : Int) - (C.s.size : Int) < (s.size : Int) := by have := HZ.out; simpa using this.symm
  have hz3 : 64 < s.size ∨ 64 < C.s.size + s.size := by omega
  clear hz2
  rcases hcond2 with ⟨rfl, hc3, hc4⟩ | ⟨rfl, rfl, rfl⟩ | ⟨hc3, rfl⟩
  all_goals
   obtain ⟨q0, q1, q2, q3⟩ := P1.out.cells
   go_enter Tryz.func91, Tryz.ntmps91
   go_wp2_with fail
   rw [HX.out]
   go_wp2_with fail
   refine (CT.out _).mono ?_
   rintro e w1 ⟨rfl, hb1⟩
   clear q0 q1 q2 q3
   obtain ⟨q0, q1, q2, q3⟩ := (P1.out.below hb1).cells
   obtain ⟨bw1, hce1, hx1, HR1⟩ := PRE.out w1 hb1
   have gz := GBlk.made w1 [GC.zero]
   go_wp2_with (first
    | (refine wpList_gload rfl _ rfl b2 _ rfl C HR1.out ?_)
    | (refine wpList_gstore rfl _ _ rfl w1.heap.size _ rfl C rfl _ gz 0 (by omega) (by simp) ?_; intro w2 gz2 oz2; obtain ⟨⟨y0, y1, y2, y3, y4, y5, y6⟩, yf⟩ := vals_of gz2; have hb2w : Below w1.heap.size w1 w2 := ((Below.refl _ _).alloc (Nat.le_refl _) _).trans (oz2.below (by simp) (by simp)); clear q0 q1 q2 q3; obtain ⟨q0, q1, q2, q3⟩ := ((P1.out.below hb1).below hb2w).cells; obtain ⟨t0, t1, t2, t3⟩ := ((P2.out.below hb1).below hb2w).cells))
   all_goals first | (exfalso; omega) | skip
   all_goals
    obtain ⟨Y, hY⟩ : ∃ Y, ((w2.setCell ⟨W.heap.size + 1, 0, none⟩ (.int .i64 w)).setCell ⟨W.heap.size + 1, 1, none⟩ (.int .i64 h)).setCell ⟨W.heap.size + 1, 2, none⟩ (.slice (some ⟨b, o, none⟩) h cap) = Y := ⟨_, rfl⟩
    obtain ⟨pY, oY⟩ := ((P2.out.below hb1).below hb2w).fill w h h cap (some ⟨b, o, none⟩) Y hY
    rw [hY]
    have b1 := bto bw1 hb2w bw1.size
    have bY := b1.trans (oY.below (by simp) b1.size)
    refine bodyPost_ret (results_row3 rfl _ _ (W.heap.size + 1) _ rfl pY.load) rfl ?_
    exact ⟨_, cap, rfl, G.out.below bY, bY⟩
 | true =>
  rw [if_pos rfl]
  have hz2 : (s.size : Int) ≤ (64 : Int) - (C.s.size : Int) := by have := HZ.out; simpa using this.symm
  have hz3 : s.size ≤ 64 ∧ C.s.size + s.size ≤ 64 := by omega
  obtain ⟨hz4, hz5⟩ := hz3
  clear hz2
  rcases hcond2 with ⟨rfl, hc3, hc4⟩ | ⟨rfl, rfl, rfl⟩ | ⟨hc3, rfl⟩
  all_goals
   obtain ⟨q0, q1, q2, q3⟩ := P1.out.cells
   go_enter Tryz.func91, Tryz.ntmps91
   go_wp2_with fail
   rw [HX.out]
   go_wp2_with fail
   refine (CT.out _).mono ?_
   rintro e w1 ⟨rfl, hb1⟩
   clear q0 q1 q2 q3
   obtain ⟨q0, q1, q2, q3⟩ := (P1.out.below hb1).cells
   obtain ⟨bw1, hce1, hx1, HR1⟩ := PRE.out w1 hb1
   have gz := GBlk.made w1 [GC.zero]
   go_wp2_with (first
    | (refine wpList_gload rfl _ rfl b2 _ rfl C HR1.out ?_)
    | (refine wpList_gstore rfl _ _ rfl w1.heap.size _ rfl C rfl _ gz 0 (by omega) (by simp) ?_; intro w2 gz2 oz2; obtain ⟨⟨y0, y1, y2, y3, y4, y5, y6⟩, yf⟩ := vals_of gz2; have hb2w : Below w1.heap.size w1 w2 := ((Below.refl _ _).alloc (Nat.le_refl _) _).trans (oz2.below (by simp) (by simp)); clear q0 q1 q2 q3; obtain ⟨q0, q1, q2, q3⟩ := ((P1.out.below hb1).below hb2w).cells; obtain ⟨t0, t1, t2, t3⟩ := ((P2.out.below hb1).below hb2w).cells))
   all_goals first | (exfalso; omega) | skip
   all_goals
    obtain ⟨gz3, oz3⟩ := catC_set gz2 s
    obtain ⟨w3, hw3⟩ : ∃ w3, w2.setCell ⟨w1.heap.size, 0, none⟩ (.string (C.s ++ s)) = w3 := ⟨_, rfl⟩
    rw [hw3] at gz3 oz3 ⊢
    have hsx := SX.out
    have hs1 := hb1.size
    have hb3w : Below w1.heap.size w1 w3 := hb2w.trans (oz3.below (by simp) hb2w.size)
    have bw3 : Below W.heap.size W w3 := bto bw1 hb3w bw1.size
    have p1w := (P1.out.below hb1).below hb3w
    have p2w := (P2.out.below hb1).below hb3w
    clear q0 q1 q2 q3 t0 t1 t2 t3 y0 y1 y2 y3 y4 y5 y6 yf hw3
    have hm3 := HCL.out.below bw3
    refine wp_region_mix [(true, 0), (true, 1), (true, 2), (true, 3), (true, 4), (false, 5), (false, 6), (false, 7), (false, 8), (false, 9)] (fun w' => GBox w' W.heap.size w h (some ⟨b, o, none⟩) h cap ∧ GBlk w' w1.heap.size [catC C s]) (by kernel_rfl) (by kernel_rfl) (by rfl) (by kernel_rfl) (by kernel_rfl) (fun _ _ d _ _ h => by cases d <;> exact h) ⟨p1w, gz3⟩ ?_
    simp only [mixL, List.getElem?_cons_succ, List.getElem?_cons_zero]
    repeat (refine' wpMix_read (v := _) rfl ?_ ?_; rotate_left 1; (intro w' hw'; obtain ⟨x0, x1, x2, x3⟩ := hw'.1.cells; obtain ⟨⟨y0, y1, y2, y3, y4, y5, y6⟩, yf⟩ := vals_of hw'.2; go_simp; try with_reducible rfl); try simp only [Act.put, List.setIfInBounds_toArray, List.set_cons_zero, List.set_cons_succ])
    refine wpMix_act (fun K hK => ?_)
    go_wp2_with fail
    refine (CS.out _ _ _ _ (hm3.below (Below.refl _ _).drew)).mono ?_
    rintro e w4 ⟨a4, c4, rfl, hM4, hc4, hb4⟩
    have hb4' : Below w3.heap.size w3 w4 := (Below.refl _ _).drew.trans hb4
    have bw4 : Below W.heap.size W w4 := bto bw3 hb4' bw3.size
    have hs4 := hb4'.size
    have hs3 := hb3w.size
    have g4 : GBlk w4 w1.heap.size [catC C s] := gz3.only (Only.of_below (S := []) hb4') (by simp)
    go_wp2
    refine hK _ _ (fun _ => ⟨p1w.below hb4', g4⟩) ?_
    clear hK K
    refine wpMix_act (fun K hK => ?_)
    have hF4 : ∀ b, w3.heap.size ≤ b → F b ∧ b ≠ W.heap.size + 1 := fun b hb => ⟨hF b (by omega), by omega⟩
    have CW := Lib.hid (rwith_any (F := fun b => F b ∧ b ≠ W.heap.size + 1) (fun b hb => hF4 b (by omega)) (G2.out.below bw4) (by omega) (k : Int) (by omega) (by omega) hM4 hc4.1 (fun b o e => ⟨(hc4.2 b o e).2, hF4 b (hc4.2 b o e).1⟩))
    go_wp2_with fail
    refine (CW.out).mono ?_
    rintro e w5 ⟨a5, c5, rfl, g5, hb5⟩
    have b35 : Below w3.heap.size w3 w5 := bto hb4' hb5 hb4'.size
    have bw5 : Below W.heap.size W w5 := bto bw3 b35 bw3.size
    have p1x := p1w.below b35
    have p2x := p2w.below b35
    have g5b := g4.only (Only.of_below (S := []) hb5) (by simp)
    go_wp2
    refine hK _ _ (fun _ => ⟨p1x, g5b⟩) ?_
    clear hK K
    refine wpMix_act (fun K hK => ?_)
    obtain ⟨t0, t1, t2, t3⟩ := p2x.cells
    go_wp2
    obtain ⟨Y, hY⟩ : ∃ Y, ((w5.setCell ⟨W.heap.size + 1, 0, none⟩ (.int .i64 w)).setCell ⟨W.heap.size + 1, 1, none⟩ (.int .i64 h)).setCell ⟨W.heap.size + 1, 2, none⟩ (.slice a5 h c5) = Y := ⟨_, rfl⟩
    obtain ⟨pY, oY⟩ := p2x.fill w h h c5 a5 Y hY
    rw [hY]
    have b5Y : Below W.heap.size w5 Y := oY.below (by simp) bw5.size
    have p1y := p1x.only oY (by simp)
    have g5y := g5b.only oY (by simp; omega)
    refine hK _ _ (fun _ => ⟨p1y, g5y⟩) ?_
    clear hK K t0 t1 t2 t3
    refine wpMix_act (fun K hK => ?_)
    go_wp2
    refine hK _ _ (fun _ => ⟨p1y, g5y⟩) ?_
    clear hK K
    refine wpMix_act (fun K hK => ?_)
    go_wp2
    refine hK _ _ (fun h => absurd rfl h) ?_
    clear hK K
    refine wpMix_nil ?_
    go_wp2
    refine bodyPost_ret (results_row3 rfl _ _ (W.heap.size + 1) _ rfl pY.load) rfl ?_
    have g6 := (g5.keep oY.size (fun b hb hlt => oY.block b hlt (by simpa using hb.2))).mono (F' := F) (fun b hb _ => hb.1)
    simp only [Int.toNat_natCast] at g6
    exact ⟨a5, c5, rfl, g6, bw5.trans b5Y⟩
theorem rjoin_any {F : Nat → Prop} {W : World} (hF : ∀ b, W.heap.size ≤ b → F b) {a : Option Addr} {cap w h : Nat} {R : List (List GC)} (g : RG F W a cap w h R) (ro : ROk R) (hw5 : 1 ≤ w ∧ w ≤ 1000) (hh5 : h ≤ 1000) (r c : Int) (s : ByteArray) :
    Calls Tryz.prog 91 #[.agg #[.int .i64 w, .int .i64 h, .slice a h cap], .int .i64 r, .int .i64 c, .string s] W (GPost3 F w h (joinR w h R r c s) (joinOkR w h R r c s) (joinErr w h r c) W) := by
 unfold joinErr
 cases hi : inG w h r c with
 | true =>
  obtain ⟨h1, h2, h3, h4⟩ := inG_iff.1 hi
  exact rjoin_in hF g ro hw5 hh5 r c s h1 h2 h3 h4
 | false =>
  have h2 : joinOkR w h R r c s = false := by unfold joinOkR; rw [hi]; rfl
  unfold joinR
  rw [h2]
  exact rjoin_out g r c s hi
def ScrP (F : Nat → Prop) (W : World) (w h : Nat) (a : Option Addr) (cap e : Nat) (R : List (List GC)) (v : Value) (X : World) : Prop :=
 ∃ av cv, v = .slice av e cv ∧ ROwn (fun b => F b ∧ b ≠ W.heap.size ∧ b ≠ W.heap.size + 1) (W.heap.size + 1 + 1) X (.slice av e cv) e R ∧ GBox X W.heap.size w h a h cap ∧ GBox X (W.heap.size + 1) 0 0 none 0 0 ∧ Below W.heap.size W X
theorem ScrP.of {F : Nat → Prop} {W X3 w1 : World} {w h cap e : Nat} {a : Option Addr} {vs : List Value} {R : List (List GC)} {v' : Value} {g0 : Nat} (hv : VRows (fun b => F b ∧ b < W.heap.size) X3 vs R) (p1 : GBox X3 W.heap.size w h a h cap) (p2 : GBox X3 (W.heap.size + 1) 0 0 none 0 0) (bw : Below W.heap.size W X3)
    (hs : W.heap.size + 1 + 1 ≤ X3.heap.size) (hg0 : W.heap.size + 1 + 1 ≤ g0) (hown : w1.ownsRow (W.heap.size + 1 + 1) 90 1 v' e vs) (hgr : X3.grownBy w1 (some g0)) : ScrP F W w h a cap e R v' w1 := by
 obtain ⟨av, cv, rfl⟩ := own_sliceF hown
 have hB : Below (W.heap.size + 1 + 1) X3 w1 := (Below.refl _ X3).grown hgr hs (fun k e => by cases e; exact hg0)
 refine ⟨av, cv, rfl, ⟨vs, _, hown, hv.keep hB.size (fun b hb _ => hB.block b (by omega)), fun b hb => ⟨hb.1, by omega, by omega⟩, fun g hg hb => by have := (own_cells hown g hg).1; omega⟩, (hB.block _ (by omega)).trans p1, (hB.block _ (by omega)).trans p2, bw.trans (hB.mono (by omega))⟩
set_option maxRecDepth 100000 in
set_option maxHeartbeats 16000000 in
theorem rscroll_any {F : Nat → Prop} {W : World} (hF : ∀ b, W.heap.size ≤ b → F b) {a : Option Addr} {cap w h : Nat} {R : List (List GC)} (g : RG F W a cap w h R) (hw5 : 1 ≤ w ∧ w ≤ 500) (hh5 : 1 ≤ h ∧ h ≤ 500) (n : Int) (m : Nat) (hm : (m : Int) = max 0 (min n h)) :
    Calls Tryz.prog 117 #[.agg #[.int .i64 w, .int .i64 h, .slice a h cap], .int .i64 n] W (GPost2 F w h (scrollR w R m) m W) := by
 obtain ⟨i0, hi, hz0, hz1, hz2⟩ := info_parts infoRow
 have hmh : m ≤ h := by omega
 have hRl := g.rows.len
 obtain ⟨b, o, rfl, hbl⟩ := g.rows.addr hh5.1
 have hrows := g.rows.mono (F' := fun b => F b ∧ b < W.heap.size) (fun b h1 h2 => ⟨h1, h2⟩)
 obtain ⟨vs, hv, hrow⟩ := hrows.vals
 have hvl := hv.len
 rw [hRl] at hvl
 have hle := g.le
 have hmx := g.mx
 obtain ⟨X, hX⟩ : ∃ X, (W.alloc (.cells #[.int .i64 w, .int .i64 h, .slice (some ⟨b, o, none⟩) h cap] 30)).alloc (.cells #[.int .i64 0, .int .i64 0, .slice none 0 0] 30) = X := ⟨_, rfl⟩
 obtain ⟨p1, p2, bX, sX⟩ := two_grids W w h h cap _ X hX
 obtain ⟨X3, hX3⟩ : ∃ X3, X.alloc (.cells #[] 90) = X3 := ⟨_, rfl⟩
 have s3 : X3.heap.size = W.heap.size + 1 + 1 + 1 := by rw [← hX3]; simp [sX]
 have b3 : Below X.heap.size X X3 := by rw [← hX3]; exact (Below.refl _ _).alloc (Nat.le_refl _) _
 have ho := World.ownsRow_made (base := W.heap.size + 1 + 1) (e := 90) (size := 1) X #[] 0 (by omega) (by unfold maxLen; omega) rfl
 rw [hX3, sX] at ho
 have bw3 := bto bX b3 bX.size
 have p1x := p1.below b3
 have p2x := p2.below b3
 have hnews := (hrow.below bw3).news
 have hv3 := (hv.below bw3).drop m
 have CB := Lib.hid (fun X => rblanks_any w (by omega) X)
 have HX := Lib.hid hX
 have HX3 := Lib.hid hX3
 have S3 := Lib.hid s3
 have OK := Lib.hid g.ok
 have HV := Lib.hid hvl
 have HV3 := Lib.hid hv3
 have P1 := Lib.hid p1
 have P2 := Lib.hid p2
 have SX := Lib.hid sX
 obtain ⟨hw1, hw2⟩ := hw5
 obtain ⟨hh1, hh2⟩ := hh5
 -- the rows that stay
 have hdrop : ∀ ad, (ad = (⟨b, o, none⟩ : Addr) ∧ m = cap ∨ ad = ⟨b, o + m, none⟩ ∧ m < cap) → ∀ j u, (vs.drop m)[j]? = some u → X3.cell? (ad.add j) = some u := fun ad h j u hj => by
  have hjl := (List.getElem?_eq_some_iff.1 hj).1
  rw [List.length_drop] at hjl
  rcases h with ⟨_, h2⟩ | ⟨rfl, _⟩
  ·omega
  ·rw [List.getElem?_drop] at hj
   have := hnews (m + j) u hj
   rw [Go.WideShapes.add_plain] at this ⊢
   rw [Nat.add_assoc]; exact this
 have HD := Lib.hid hdrop
 have hone : ∀ u ∈ vs.drop m, u.oneCell' = true := fun u hu => hv.one u (List.mem_of_mem_drop hu)
 clear hX hX3 hv hrow hrows hvl hRl p1 p2 b3 hnews hv3 hdrop sX bX s3 g
 have hcap : m = cap ∨ m < cap := by omega
 have hcases : (n ≤ 0 ∧ m = 0) ∨ (0 < n ∧ n ≤ (h : Int) ∧ n = (m : Int)) ∨ (0 < n ∧ (h : Int) < n ∧ m = h) := by omega
 obtain ⟨e, he⟩ : ∃ e, e = h - m := ⟨_, rfl⟩
 have hem : e + m = h := by omega
 have HEM := Lib.hid hem
 have HE := Lib.hid he
 clear hm hem he
 go_enter Tryz.func117, Tryz.ntmps117
 go_upto_region 2 with (fail)
 go_cut [6, 7] (fun u v wx => u = .int .i64 m ∧ ScrP F W w h (some ⟨b, o, none⟩) cap e (R.drop m) v wx)
 case first =>
  have hown0 : X3.ownsRow (W.heap.size + 1 + 1) 90 1 (.slice (some ⟨W.heap.size + 1 + 1, 0, none⟩) 0 0) 0 [] := ho
  rcases hcases with ⟨h1, rfl⟩ | ⟨h1, h2, rfl⟩ | ⟨h1, h2, rfl⟩
  ·have hnew := HD.out ⟨b, o, none⟩ (.inr ⟨rfl, by omega⟩)
   rw [List.drop_zero] at hnew hone
   go_wp2_with (at_builtin; rw [HX.out, HX3.out]; go_loud (refine wpList_append_own_at _ rfl _ _ 28 rfl (W.heap.size + 1 + 1) 90 i0 (.agg #[.slice none 0 0]) 1 24 Tryz.underlying28 hi hz0 hz1 hz2 rfl (by decide) _ 0 [] rfl hown0 ⟨b, o, none⟩ h cap vs rfl (by rw [HV.out, Nat.mul_one]) hnew hone (by unfold maxLen; omega) (by omega) (by have := S3.out; omega) ?_; skip))
   intro v' w1 hown' hgrow _ hob
   try rw [Nat.zero_add, List.nil_append] at hown'
   go_wp2
   go_meet
   exact ⟨rfl, ScrP.of HV3.out p1x p2x bw3 (by have := S3.out; omega) (Nat.le_refl _) (by rw [HE.out]; exact hown') hgrow⟩
  ·rcases hcap with h3 | h3
   ·subst h3
    obtain rfl : h = m := by omega
    have he0 : e = 0 := by have := HE.out; omega
    subst he0
    have hd0 : R.drop h = [] := List.drop_eq_nil_of_le (by rw [OK.out.n]; exact Nat.le_refl _)
    have HS0 : Hid (ScrP F W w h (some ⟨b, o, none⟩) h 0 (R.drop h) (.slice (some ⟨W.heap.size + 1 + 1, 0, none⟩) 0 0) X3) := Lib.hid (by
        rw [hd0]
        exact ⟨_, _, rfl, ⟨[], fun _ => False, ho, VRows.nil _ _, fun _ h => h.elim, fun _ _ h => h⟩, p1x, p2x, bw3⟩)
    clear HE HEM hd0
    go_wp2
    all_goals
     go_meet
     exact ⟨rfl, by rw [HX.out, HX3.out]; exact HS0.out⟩
   ·have hnew := HD.out ⟨b, o + m, none⟩ (.inr ⟨rfl, h3⟩)
    have hne : ¬ cap = m := by omega
    go_wp2_with (at_builtin; rw [HX.out, HX3.out]; go_loud (refine wpList_append_own_at _ rfl _ _ 28 rfl (W.heap.size + 1 + 1) 90 i0 (.agg #[.slice none 0 0]) 1 24 Tryz.underlying28 hi hz0 hz1 hz2 rfl (by decide) _ 0 [] rfl hown0 ⟨b, o + m, none⟩ (h - m) (cap - m) (vs.drop m) rfl (by rw [List.length_drop, HV.out, Nat.mul_one]) hnew hone (by unfold maxLen; omega) (by omega) (by have := S3.out; omega) ?_; skip))
    intro v' w1 hown' hgrow _ hob
    try rw [Nat.zero_add, List.nil_append] at hown'
    go_wp2
    go_meet
    exact ⟨rfl, ScrP.of HV3.out p1x p2x bw3 (by have := S3.out; omega) (Nat.le_refl _) (by rw [HE.out]; exact hown') hgrow⟩
  ·have he0 : e = 0 := by have := HE.out; omega
   subst he0
   have hd0 : R.drop m = [] := List.drop_eq_nil_of_le (by rw [OK.out.n]; exact Nat.le_refl _)
   have HS0 : Hid (ScrP F W w m (some ⟨b, o, none⟩) cap 0 (R.drop m) (.slice (some ⟨W.heap.size + 1 + 1, 0, none⟩) 0 0) X3) := Lib.hid (by
    rw [hd0]
    exact ⟨_, _, rfl, ⟨[], fun _ => False, ho, VRows.nil _ _, fun _ h => h.elim, fun _ _ h => h⟩, p1x, p2x, bw3⟩)
   clear HE HEM hd0
   rcases hcap with h3 | h3
   ·subst h3
    go_wp2
    all_goals
     go_meet
     exact ⟨congrArg (Value.int _) (by omega), by rw [HX.out, HX3.out]; exact HS0.out⟩
   ·have hne : ¬ cap = m := by omega
    go_wp2
    all_goals
     go_meet
     exact ⟨congrArg (Value.int _) (by omega), by rw [HX.out, HX3.out]; exact HS0.out⟩
 case rest =>
  obtain ⟨rfl, av, cv, rfl, hR, g1, g2, hb⟩ := hcut
  clear hcases hcap HD HV3 p1x p2x bw3 hone P1 P2 SX ho HX HX3 S3
  go_wp2
  go_loopw [8, 7] (fun i v wr => ∃ (j : Nat) (av : Option Addr) (cv : Nat), j ≤ m ∧ i = .int .i64 j ∧ v = .slice av (e + j) cv ∧ ROwn (fun b => F b ∧ b ≠ W.heap.size ∧ b ≠ W.heap.size + 1) (W.heap.size + 1 + 1) wr (.slice av (e + j) cv) (e + j) (R.drop m ++ List.replicate j (List.replicate w GC.blank)) ∧ GBox wr W.heap.size w h (some ⟨b, o, none⟩) h cap ∧ GBox wr (W.heap.size + 1) 0 0 none 0 0 ∧ Below W.heap.size W wr) (fun i _ _ => m - (intOf i).toNat)
  case atStart => exact ⟨0, av, cv, Nat.zero_le _, rfl, rfl, by simpa using hR, g1, g2, hb⟩
  case round =>
   obtain ⟨j, av, cv, hj, rfl, rfl, hR, g1, g2, hb⟩ := hrel
   obtain ⟨q0, q1, q2, q3⟩ := g1.cells
   have hlt1 := g2.lt
   by_cases hlt : j < m
   ·have HSN : Hid (R.drop m ++ List.replicate (j + 1) (List.replicate w GC.blank) = R.drop m ++ List.replicate j (List.replicate w GC.blank) ++ [List.replicate w GC.blank]) := Lib.hid (by rw [List.replicate_succ', List.append_assoc])
    have hMl : (List.replicate w GC.blank).length = w := by simp
    obtain ⟨M, hM⟩ : ∃ M, M = List.replicate w GC.blank := ⟨_, rfl⟩
    rw [← hM] at CB hR HSN hMl
    obtain ⟨Q, hQ⟩ : ∃ Q, Q = R.drop m ++ List.replicate j M := ⟨_, rfl⟩
    rw [← hQ] at hR HSN
    have HML := Lib.hid hMl
    have HMM := Lib.hid hM
    clear hQ hM hMl
    go_wp2_with fail
    refine (CB.out _).mono ?_
    rintro e' w3 ⟨a3, c3, rfl, hM3, hc3, hb3⟩
    have ha3 : ∀ b o, a3 = some ⟨b, o, none⟩ → b < w3.heap.size ∧ (F b ∧ b ≠ W.heap.size ∧ b ≠ W.heap.size + 1) ∧ (Value.slice av (e + j) cv).ownBlock ≠ some b := fun b o e' => by
     obtain ⟨h1, h2⟩ := hc3.2 b o e'
     exact ⟨h2, ⟨hF b (by have := hb.size; omega), by omega, by omega⟩, fun e2 => by have := (hR.own b e2).2; omega⟩
    have hs3 := hb3.size
    have hem := HEM.out
    go_wp2_with (at_builtin; refine wpList_append_row rfl _ _ rfl (fun b => F b ∧ b ≠ W.heap.size ∧ b ≠ W.heap.size + 1) (W.heap.size + 1 + 1) (.slice av (e + j) cv) (e + j) Q rfl ((hR.below hb3).below ((Below.refl _ _).alloc (Nat.le_refl _) _)) w3.heap.size rfl a3 w c3 M (row_one w3 _ _) (hM3.below ((Below.refl _ _).alloc (Nat.le_refl _) _)) HML.out hc3.1 (fun b o e => by obtain ⟨h1, h2⟩ := ha3 b o e; exact ⟨by simp; omega, h2⟩) (by omega) (by simp; omega) ?_; intro g c' w5 hR5 hg5 hb5)
    have hb35 : Below (W.heap.size + 1 + 1) w3 w5 := ((Below.refl _ _).alloc (by omega) _).trans hb5
    have g15 : GBox w5 W.heap.size w h (some ⟨b, o, none⟩) h cap := (hb35.block _ (by omega)).trans (g1.below hb3)
    have g25 : GBox w5 (W.heap.size + 1) 0 0 none 0 0 := (hb35.block _ (by omega)).trans (g2.below hb3)
    have hbw5 : Below W.heap.size W w5 := (bto hb hb3 hb.size).trans (hb35.mono (by omega))
    clear hg5 hem
    go_roundw
    case rel => exact ⟨j + 1, some ⟨g, 0, none⟩, c', hlt, by go_num, rfl, by rw [← HMM.out, HSN.out]; exact hR5, g15, g25, hbw5⟩
    case measure => simp [intOf]; omega
   ·obtain rfl : j = m := by omega
    rw [HEM.out] at hR ⊢
    obtain ⟨t0, t1, t2, t3⟩ := g2.cells
    obtain ⟨pZ, oZ⟩ := g1.set2 h cv av
    obtain ⟨Z, hZ⟩ : ∃ Z, wr.setCell ⟨W.heap.size, 2, none⟩ (.slice av h cv) = Z := ⟨_, rfl⟩
    rw [hZ] at pZ oZ
    obtain ⟨Y, hY⟩ : ∃ Y, ((Z.setCell ⟨W.heap.size + 1, 0, none⟩ (.int .i64 w)).setCell ⟨W.heap.size + 1, 1, none⟩ (.int .i64 h)).setCell ⟨W.heap.size + 1, 2, none⟩ (.slice av h cv) = Y := ⟨_, rfl⟩
    obtain ⟨pY, oY⟩ := (g2.only oZ (by simp)).fill w h h cv av Y hY
    have hRY : ROwn (fun b => F b ∧ b ≠ W.heap.size ∧ b ≠ W.heap.size + 1) (W.heap.size + 1 + 1) Y (.slice av h cv) h (R.drop j ++ List.replicate j (List.replicate w GC.blank)) := by
     rw [← hY, ← hZ]
     exact (((hR.setCell (b := W.heap.size) (by omega) (fun h => h.2.1 rfl) 2 _).setCell (b := W.heap.size + 1) (by omega) (fun h => h.2.2 rfl) 0 _).setCell (b := W.heap.size + 1) (by omega) (fun h => h.2.2 rfl) 1 _).setCell (b := W.heap.size + 1) (by omega) (fun h => h.2.2 rfl) 2 _
    have okR := OK.out.scroll (m := j) hmh
    obtain ⟨h1, h2, h3⟩ := hRY.rows okR.n (fun b hb => ⟨hF b (by omega), by omega, by omega⟩)
    have hbY : Below W.heap.size W Y := (hb.trans (oZ.below (by simp) hb.size)).trans (oY.below (by simp) (by have := oZ.size; omega))
    have HZ := Lib.hid hZ
    have HY := Lib.hid hY
    clear hZ hY hR hRY
    go_wp2
    rw [HZ.out, HY.out]
    refine bodyPost_ret (results_row2 rfl _ _ (W.heap.size + 1) _ rfl pY.load) rfl ?_
    exact ⟨av, cv, rfl, ⟨h1.mono (fun b hb _ => hb.1), okR, h2, h3⟩, hbY⟩
end Go.Proofs.YtjkajojjehgmdaaGreat
