/- The reference's rows of cells: blanks, set. No condition. The reference's rows of cells: set, blank. No condition. The reference's grid: blank, with, There, Size, New. No condition. The reference's grid: a row laid anew (with). No condition. The reference's grid: Cell, Cells, New. No condition. -/
import Derived.Test.YtekodpcedjpnjaaGreatFRows
import Derived.Test.YtekodpcedjpnjaaGreatRowN
namespace Go.Proofs.YtekodpcedjpnjaaGreat
set_option linter.unusedVariables false
set_option linter.unusedSimpArgs false
open Go.RowKit Go.Shelf Go.Maps
theorem own_store {W : World} {base g n cap : Nat} {M : List GC} (hown : W.ownsRow base 171 7 (.slice (some ⟨g, 0, none⟩) n cap) n (flatV M)) {i : Nat} (hi : i < M.length) (c : GC) (o : Nat) (ho : o = i * 7) :
    ∃ W', (Instr.storeAt 171 (.pointer (some ⟨g, o, none⟩)) c.v).run Tryz.prog W = .ok () W' ∧ W'.ownsRow base 171 7 (.slice (some ⟨g, 0, none⟩) n cap) n (flatV (M.set i c)) ∧ Only [g] W W' := by
  subst ho
  have hl := hown.1
  rw [flatV_length] at hl
  rcases hown.2 with ⟨e, _⟩ | ⟨g', cap', cur, e, h1, h2, h3, h4, h5, h6⟩
  · cases e
  · simp only [Value.slice.injEq, Option.some.injEq, Addr.mk.injEq, true_and, and_true] at e
    obtain ⟨rfl, rfl⟩ := e
    have hcur : cur.toList = flatV M ++ cur.toList.drop (n * 7) := by rw [← h6, List.take_append_drop]
    have hin : i * 7 + 7 ≤ (flatV M).length := by rw [flatV_length]; omega
    have hst := run_storeCells_at Tryz.prog g (i * 7) 171 c.vals 0 cur W h2 (by rw [GC.vals_length, h5]; omega) c.one
    have hsp := flatV_set M i c hi
    unfold splice at hsp
    rw [GC.vals_length, Nat.mul_comm 7 i] at hsp
    have hnew : cur.toList.take (i * 7) ++ c.vals ++ cur.toList.drop (i * 7 + 7) = flatV (M.set i c) ++ cur.toList.drop (n * 7) := by
      have e1 : cur.toList.take (i * 7) = (flatV M).take (i * 7) := by conv => lhs; rw [hcur, List.take_append_of_le_length (by omega)]
      have e2 : cur.toList.drop (i * 7 + 7) = (flatV M).drop (i * 7 + 7) ++ cur.toList.drop (n * 7) := by conv => lhs; rw [hcur, List.drop_append_of_le_length (by omega)]
      rw [e1, e2, ← hsp]
      simp only [List.append_assoc]
    have hs : (Tryz.prog.info? 171).map (·.size) = some 7 := by kernel_rfl
    refine ⟨W.setRow g (flatV (M.set i c) ++ cur.toList.drop (n * 7)).toArray, ?_, ?_, (Only.refl [g] W).setRow (.inl (by simp)) _⟩
    · cases hq : Tryz.prog.info? 171 with
      | none => rw [hq] at hs; cases hs
      | some t =>
        have ht : t.size = 7 := by rw [hq] at hs; simpa using hs
        simp only [Nat.add_zero, GC.vals_length] at hst
        rw [hnew] at hst
        simp only [GC.v]
        simp only [GC.vals] at hst
        simp [Instr.storeAt, Instr.sureAddr, storeVar, sizeOf, typeInfo, hq, Value.cells, ht, hst]
    · have hlen : (flatV (M.set i c)).length = n * 7 := by rw [flatV_length, List.length_set]; omega
      refine ⟨hlen, .inr ⟨g, cap, _, rfl, h1, setRow_heap W g _ _ _ _ h2, h3, h4, ?_, ?_⟩⟩
      · rw [List.size_toArray, List.length_append, hlen, List.length_drop, Array.length_toList, h5]; omega
      · rw [List.take_left' hlen]
theorem own_ge7 {W : World} {base : Nat} {e : TypeId} {size : Nat} {v : Value} {n : Nat} {xs : List Value} (h : W.ownsRow base e size v n xs) : ∀ k, v.ownBlock = some k → base ≤ k := fun k e => (own_cells h k e).1
/-- A store of a cell into a row that the call owns, as the walk meets it. -/
theorem wpList_ostore {ops : Array Oper} {rest : List Oper} {op : Oper} {a : Act} {w : World} {Q : Exit → Act → World → Prop} (hgd : op.guard = none) (x y : Operand) (ho : op.op = .store 171 x y)
    (g off : Nat) (hx : a.eval x = .pointer (some ⟨g, off, none⟩)) (c : GC) (hy : a.eval y = c.v) (base n cap : Nat) (M : List GC) (hown : w.ownsRow base 171 7 (.slice (some ⟨g, 0, none⟩) n cap) n (flatV M)) (i : Nat) (hoff : off = i * 7) (hi : i < M.length)
    (h : ∀ w', w'.ownsRow base 171 7 (.slice (some ⟨g, 0, none⟩) n cap) n (flatV (M.set i c)) → Only [g] w w' → wpList Tryz.prog ops Q rest (a.put op.dst undef) w') : wpList Tryz.prog ops Q (op :: rest) a w :=
  wpList_plain hgd fun K hK => by
    obtain ⟨W', hs, h1, h2⟩ := own_store hown hi c off hoff
    unfold Oper.wp execOp
    simp only [ho, hx, hy, Sem.run_bind, Sem.run_pure, Result.andThen_ok, hs]
    exact hK _ _ (h _ h1 h2)
set_option maxRecDepth 100000 in
set_option maxHeartbeats 4000000 in
theorem rblanks_any (n : Nat) (hn : n ≤ 500) (W : World) : Calls Tryz.prog 149 #[.int .i64 n] W fun e w' => ∃ a c, e = .returned (.agg #[.slice a n c]) ∧ CellsAt w' a n (List.replicate n GC.blank) ∧ ((n ≤ c ∧ c ≤ maxLen) ∧ ∀ b o, a = some ⟨b, o, none⟩ → W.heap.size ≤ b ∧ b < w'.heap.size) ∧ Below W.heap.size W w' := by
  obtain ⟨i0, hi, hz0, hz1, hz2⟩ := info_parts infoCell
  go_enter Tryz.func149, Tryz.ntmps149
  go_wp2
  go_loopw [4, 3] (fun i v wr => ∃ k : Nat, k ≤ n ∧ i = .int .i64 k ∧ wr.ownsRow (W.heap.size + 1) 171 7 v k (flatV (List.replicate k GC.blank)) ∧ wr.heap[W.heap.size]? = some (.cells #[.slice none 0 0] 169 (0, 0)) ∧ Below W.heap.size W wr) (fun i _ _ => n - (intOf i).toNat)
  case atStart => exact ⟨0, Nat.zero_le _, rfl, World.ownsRow_nil _ _ _ _, World.alloc_heap_new W _, (Below.refl _ _).alloc (Nat.le_refl _) _⟩
  case round =>
    obtain ⟨k, hk, rfl, hown, hbx, hb⟩ := hrel
    obtain ⟨a, c, rfl⟩ := own_sliceF hown
    have hs := (Array.getElem?_eq_some_iff.1 hbx).1
    by_cases hlt : k < n
    · have g1 := GBlk.made wr [GC.blank]
      have hsn : flatV (List.replicate (k + 1) GC.blank) = flatV (List.replicate k GC.blank) ++ flatV [GC.blank] := by rw [List.replicate_succ', flatV_append]
      have HSN := Lib.hid hsn
      clear hsn
      go_wp2_with (at_builtin; refine wpList_append_own_at _ rfl _ _ 60 rfl (W.heap.size + 1) 171 i0 GC.zero.v 7 48 Tryz.underlying60 hi hz0 hz1 hz2 rfl (by decide) _ _ _ rfl (hown.alloc _) ⟨wr.heap.size, 0, none⟩ 1 1 (flatV [GC.blank]) rfl rfl g1.news (flatV_one _) (by unfold maxLen; omega) (by omega) (by simp; omega) ?_; intro v' w1 hown' hgrow _ _)
      have hB1 : Below (W.heap.size + 1) wr w1 := ((Below.refl (W.heap.size + 1) wr).alloc (by omega) _).grown hgrow (by simp; omega) (fun k e => (own_cells hown k e).1)
      go_roundw
      case rel => exact ⟨k + 1, hlt, by go_num, by rw [HSN.out]; exact hown', (hB1.block _ (by omega)).trans hbx, hb.trans (hB1.mono (by omega))⟩
      case measure => simp [intOf]; omega
    · obtain rfl : k = n := by omega
      have hz := set_at hbx 0 (.slice a k c)
      have ho2 := ownsRow_setCell_below hown (a := ⟨W.heap.size, 0, none⟩) (by show W.heap.size < W.heap.size + 1; omega) (.slice a k c)
      obtain ⟨h1, h2, h3⟩ := CellsAt.of_own (by simp) ho2
      have HZ := Lib.hid hz
      have hb2 := hb.setCell (p := ⟨W.heap.size, 0, none⟩) (Nat.le_refl _) (.slice a k c)
      have hc0 : wr.cell? ⟨W.heap.size, 0, none⟩ = some (.slice none 0 0) ∧ wr.frozen? ⟨W.heap.size, 0, none⟩ = false := ⟨by rw [cell_of_row wr _ 0 _ _ _ hbx]; rfl, by simp [World.frozen?, hbx]⟩
      obtain ⟨hc0, hf0⟩ := hc0
      clear hz hbx
      go_wp2
      refine bodyPost_ret (results_cell_row rfl _ _ W.heap.size 169 _ (0, 0) _ rfl HZ.out Tryz.underlying169 rfl (by kernel_rfl)) rfl ?_
      exact ⟨a, c, rfl, h1, ⟨⟨h2, h3⟩, fun b o e => by subst e; have h4 := own_cells ho2 b rfl; obtain ⟨h5, cur, h6⟩ := h4; exact ⟨by omega, (Array.getElem?_eq_some_iff.1 h6).1⟩⟩, hb2⟩
end Go.Proofs.YtekodpcedjpnjaaGreat
namespace Go.Proofs.YtekodpcedjpnjaaGreat
set_option linter.unusedVariables false
set_option linter.unusedSimpArgs false
open Go.RowKit Go.Shelf Go.Maps
theorem CellsAt.news {W : World} {b o n : Nat} {M : List GC} (h : CellsAt W (some ⟨b, o, none⟩) n M) : ∀ j u, (flatV M)[j]? = some u → W.cell? ((⟨b, o, none⟩ : Addr).add j) = some u := fun j u hj => by
  have hl := (List.getElem?_eq_some_iff.1 hj).1
  rw [flatV_length] at hl
  have hi : j / 7 < M.length := by omega
  have hc : M[j / 7]? = some M[j / 7] := List.getElem?_eq_getElem hi
  obtain ⟨b', o', e, _, hr⟩ := h.at_ (j / 7) _ hc
  simp only [Option.some.injEq, Addr.mk.injEq] at e
  obtain ⟨rfl, rfl, _⟩ := e
  have e2 := flatV_get hc (j := j % 7) (by omega)
  rw [show 7 * (j / 7) + j % 7 = j by omega, hj] at e2
  have := hr (j % 7) u e2.symm
  rw [Go.WideShapes.add_plain, show o + j = o + j / 7 * 7 + j % 7 by omega]
  exact this
theorem CellsAt.addr {W : World} {a : Option Addr} {n : Nat} {M : List GC} (h : CellsAt W a n M) (hn : 1 ≤ n) : ∃ b o, a = some ⟨b, o, none⟩ ∧ b < W.heap.size := by
  have hl := h.len
  obtain ⟨b, o, e, hb, _⟩ := h.at_ 0 _ (List.getElem?_eq_getElem (by omega))
  exact ⟨b, o, e, hb⟩
theorem own_neS {W : World} {n₀ : Nat} {e : TypeId} {s : Nat} {v : Value} {n : Nat} {xs : List Value} (h : W.ownsRow n₀ e s v n xs) (hn : n ≠ 0) : ∃ g c, v = .slice (some ⟨g, 0, none⟩) n c ∧ n₀ ≤ g ∧ n ≤ c ∧ c ≤ maxLen := by
  rcases h.2 with ⟨_, h2⟩ | ⟨g, cap, cur, h1, h2, _, h3, h4, _⟩
  · exact absurd h2 hn
  · exact ⟨g, cap, h1, h2, h3, h4⟩
/-- A row of cells that a call gives. -/
def RowPost (n : Nat) (M : List GC) (W : World) (e : Ending) (w' : World) : Prop := ∃ a c, e = .returned (.slice a n c) ∧ CellsAt w' a n M ∧ ((n ≤ c ∧ c ≤ maxLen) ∧ ∀ b o, a = some ⟨b, o, none⟩ → W.heap.size ≤ b ∧ b < w'.heap.size) ∧ Below W.heap.size W w'
set_option maxRecDepth 100000 in
set_option maxHeartbeats 4000000 in
theorem rset_any {W : World} {a : Option Addr} {n cap : Nat} {M : List GC} (hM : CellsAt W a n M) (hn : 1 ≤ n ∧ n ≤ 1000) (i : Int) (h0 : 0 ≤ i) (h1 : i < n) (C : GC) :
    Calls Tryz.prog 165 #[.slice a n cap, .int .i64 i, .agg #[.string C.s, .int .i64 C.w, .bool C.y.b, .bool C.y.u, .bool C.y.i, .int .i64 C.y.f, .int .i64 C.y.g]] W (RowPost n (M.set i.toNat C) W) := by
  obtain ⟨i0, hi, hz0, hz1, hz2⟩ := info_parts infoCell
  obtain ⟨k, rfl⟩ := Int.eq_ofNat_of_zero_le h0
  simp only [Int.toNat_natCast]
  have hl := hM.len
  have hk : k < n := by omega
  obtain ⟨b, o, rfl, hbl⟩ := hM.addr hn.1
  obtain ⟨X1, hX1⟩ : ∃ X1, W.alloc (.cells #[.string C.s, .int .i64 C.w, .bool C.y.b, .bool C.y.u, .bool C.y.i, .int .i64 C.y.f, .int .i64 C.y.g] 171) = X1 := ⟨_, rfl⟩
  obtain ⟨X2, hX2⟩ : ∃ X2, X1.alloc (.cells #[] 171) = X2 := ⟨_, rfl⟩
  have g1 : GBlk X1 W.heap.size [C] := by rw [← hX1]; exact GBlk.made W [C]
  have b1 : Below W.heap.size W X1 := by rw [← hX1]; exact (Below.refl _ _).alloc (Nat.le_refl _) _
  have s1 : X1.heap.size = W.heap.size + 1 := by rw [← hX1]; simp
  have b2 : Below W.heap.size W X2 := by rw [← hX2]; exact b1.alloc (by omega) _
  have g2 : GBlk X2 W.heap.size [C] := by rw [← hX2]; exact g1.alloc _
  have s2 : X2.heap.size = W.heap.size + 1 + 1 := by rw [← hX2]; simp [s1]
  have ho := World.ownsRow_made (base := W.heap.size + 1) (e := 171) (size := 7) X1 #[] 0 (by omega) (by unfold maxLen; omega) rfl
  rw [hX2, s1] at ho
  have hnews := (hM.below b2).news
  have HX1 := Lib.hid hX1
  have HX2 := Lib.hid hX2
  have S1 := Lib.hid s1
  have S2 := Lib.hid s2
  have HL := Lib.hid hl
  clear hX1 hX2 s1 s2 b1 g1 hM hl h0 h1
  go_enter Tryz.func165, Tryz.ntmps165
  go_wp2_with (first
    | (at_builtin; rw [HX1.out, HX2.out]; refine wpList_append_own_at _ rfl _ _ 60 rfl (W.heap.size + 1) 171 i0 GC.zero.v 7 48 Tryz.underlying60 hi hz0 hz1 hz2 rfl (by decide) _ _ _ rfl ho ⟨b, o, none⟩ n cap (flatV M) rfl (by rw [flatV_length, HL.out, Nat.mul_comm]) hnews (flatV_one _) (by unfold maxLen; omega) (by omega) (by have := S2.out; omega) ?_; intro v' w1 hown' hgrow _ _; rw [Nat.zero_add, List.nil_append] at hown'; obtain ⟨g, c', rfl, hg, hc1, hc2⟩ := own_neS hown' (by omega); have hB1 : Below (W.heap.size + 1) X2 w1 := (Below.refl (W.heap.size + 1) X2).grown hgrow (by have := S2.out; omega) (fun k e => Nat.le_of_eq (Option.some.inj e)); have r3 := (show GBlk w1 W.heap.size [C] from (hB1.block _ (by omega)).trans g2).range1 (i := 0) rfl)
    | (refine wpList_gload rfl _ rfl W.heap.size _ rfl C r3 ?_)
    | (refine wpList_ostore rfl _ _ rfl g _ rfl C rfl (W.heap.size + 1) n c' M (by assumption) k (by omega) (by rw [HL.out]; omega) ?_; intro w2 ho2 o2))
  go_ret
  obtain ⟨h1, h2, h3⟩ := CellsAt.of_own (by rw [List.length_set]; exact HL.out) ho2
  exact ⟨_, _, rfl, h1, ⟨⟨h2, h3⟩, fun b o e => by cases e; obtain ⟨h5, cur, h6⟩ := own_cells ho2 g rfl; exact ⟨by omega, (Array.getElem?_eq_some_iff.1 h6).1⟩⟩, (b2.trans (hB1.mono (by omega))).trans (o2.below (by simp; omega) (by have := hB1.size; have := S2.out; omega))⟩
end Go.Proofs.YtekodpcedjpnjaaGreat
namespace Go.Proofs.YtekodpcedjpnjaaGreat
set_option linter.unusedVariables false
set_option linter.unusedSimpArgs false
open Go.RowKit Go.Shelf Go.Maps
theorem wipe_row (M : List GC) (c : Nat) : wipeL M 0 M.length c = (if (nth GC.zero M c).w = 2 ∧ c + 1 < M.length then (M.set c GC.blank).set (c + 1) GC.blank else if (nth GC.zero M c).w = 0 ∧ 0 < c then (M.set c GC.blank).set (c - 1) GC.blank else M.set c GC.blank) := by
  unfold wipeL; simp only [Nat.zero_add]
set_option maxRecDepth 100000 in
set_option maxHeartbeats 4000000 in
theorem rblank_any {W : World} {a : Option Addr} {n cap : Nat} {M : List GC} (hM : CellsAt W a n M) (hn : 1 ≤ n ∧ n ≤ 1000) (i : Int) (h0 : 0 ≤ i) (h1 : i < n) :
    Calls Tryz.prog 164 #[.slice a n cap, .int .i64 i] W (RowPost n (wipeL M 0 n i.toNat) W) := by
  obtain ⟨c, rfl⟩ := Int.eq_ofNat_of_zero_le h0
  simp only [Int.toNat_natCast]
  have hl := hM.len
  have hc : c < n := by omega
  have HW := wipe_row M c
  rw [hl] at HW
  obtain ⟨C, hC⟩ : ∃ C, M[c]? = some C := ⟨_, List.getElem?_eq_getElem (by omega)⟩
  obtain ⟨b, o, rfl, hbl, hr⟩ := hM.at_ c C hC
  have hx := hr 1 _ rfl
  have hnth : (nth GC.zero M c).w = C.w := by rw [nth_eq _ _ _ (by omega)]; rw [(List.getElem?_eq_some_iff.1 hC).2]
  rw [hnth] at HW
  obtain ⟨x, hxx⟩ : ∃ x, x = C.w := ⟨_, rfl⟩
  rw [← hxx] at hx HW
  have CS := Lib.hid (fun (X : World) a cap N (h : CellsAt X a n N) (i : Int) h0 h1 => rset_any (cap := cap) h hn i h0 h1 GC.blank)
  have HM := Lib.hid hM
  obtain ⟨R, hR⟩ : ∃ R, R = wipeL M 0 n c := ⟨_, rfl⟩
  rw [← hR] at HW ⊢
  clear hR hxx hnth hC hr hM hl
  by_cases hA : x = 2 ∧ c + 1 < n
  · obtain ⟨rfl, hA2⟩ := hA
    rw [if_pos ⟨rfl, hA2⟩] at HW
    have HW := Lib.hid HW
    have hA3 : (c : Int) + 1 < n := by omega
    go_enter Tryz.func164, Tryz.ntmps164
    go_wp2_with fail
    refine (CS.out _ _ _ _ HM.out _ (by omega) (by omega)).mono ?_
    rintro e w1 ⟨a1, c1, rfl, hM1, _, hb1⟩
    go_wp2_with fail
    refine (CS.out _ _ _ _ hM1 _ (by omega) (by omega)).mono ?_
    rintro e w2 ⟨a2, c2, rfl, hM2, hc2, hb2⟩
    go_wp2
    go_ret
    refine ⟨_, _, rfl, ?_, ⟨hc2.1, fun b o e => ⟨Nat.le_trans hb1.size (hc2.2 b o e).1, (hc2.2 b o e).2⟩⟩, bnext hb1 hb2⟩
    rw [HW.out]; exact hM2
  · rw [if_neg hA] at HW
    by_cases hB : x = 0 ∧ 0 < c
    · obtain ⟨rfl, hB2⟩ := hB
      rw [if_pos ⟨rfl, hB2⟩] at HW
      have HW := Lib.hid HW
      have hB3 : (0 : Int) < (c : Int) := by omega
      have htn : ((c : Int) - 1).toNat = c - 1 := by omega
      have HTN := Lib.hid htn
      clear htn
      go_enter Tryz.func164, Tryz.ntmps164
      go_wp2_with fail
      refine (CS.out _ _ _ _ HM.out _ (by omega) (by omega)).mono ?_
      rintro e w1 ⟨a1, c1, rfl, hM1, _, hb1⟩
      go_wp2_with fail
      refine (CS.out _ _ _ _ hM1 _ (by omega) (by omega)).mono ?_
      rintro e w2 ⟨a2, c2, rfl, hM2, hc2, hb2⟩
      go_wp2
      go_ret
      refine ⟨_, _, rfl, ?_, ⟨hc2.1, fun b o e => ⟨Nat.le_trans hb1.size (hc2.2 b o e).1, (hc2.2 b o e).2⟩⟩, bnext hb1 hb2⟩
      rw [HW.out]
      rw [HTN.out] at hM2
      exact hM2
    · rw [if_neg hB] at HW
      have HW := Lib.hid HW
      have hB2 : c = 0 ∨ ¬ x = 0 := by omega
      have hA2 : ¬ x = 2 ∨ ¬ c + 1 < n := by omega
      go_enter Tryz.func164, Tryz.ntmps164
      go_wp2_with fail
      refine (CS.out _ _ _ _ HM.out _ (by omega) (by omega)).mono ?_
      rintro e w1 ⟨a1, c1, rfl, hM1, hc1, hb1⟩
      go_wp2_with fail
      all_goals first | (exfalso; omega) | skip
      all_goals go_ret
      all_goals
        refine ⟨_, _, rfl, ?_, hc1, hb1⟩
        rw [HW.out]; exact hM1
/-- Rows of cells in memory, all of whose blocks are of F. -/
structure RowsF (F : Nat → Prop) (W : World) (a : Option Addr) (n : Nat) (R : List (List GC)) : Prop where
  len : R.length = n
  at_ : ∀ (i : Nat) (M : List GC), R[i]? = some M → ∃ b off a2 c2, a = some ⟨b, off, none⟩ ∧ (b < W.heap.size ∧ F b) ∧ W.cell? ⟨b, off + i, none⟩ = some (.slice a2 M.length c2) ∧ (M.length ≤ c2 ∧ c2 ≤ maxLen) ∧ CellsAt W a2 M.length M ∧ ∀ b2 o2, a2 = some ⟨b2, o2, none⟩ → b2 < W.heap.size ∧ F b2
theorem heap_cell {W Y : World} {b : Nat} (h : Y.heap[b]? = W.heap[b]?) (o : Nat) : Y.cell? ⟨b, o, none⟩ = W.cell? ⟨b, o, none⟩ := by unfold World.cell?; dsimp only; rw [h]
theorem CellsAt.keep {W Y : World} {a : Option Addr} {n : Nat} {M : List GC} (h : CellsAt W a n M) (hs : W.heap.size ≤ Y.heap.size) (hk : ∀ b o, a = some ⟨b, o, none⟩ → b < W.heap.size → Y.heap[b]? = W.heap[b]?) : CellsAt Y a n M :=
  ⟨h.len, fun i c hi => by
    obtain ⟨b, off, h1, h2, h3⟩ := h.at_ i c hi
    exact ⟨b, off, h1, Nat.lt_of_lt_of_le h2 hs, fun j v hv => (heap_cell (hk b off h1 h2) _).trans (h3 j v hv)⟩⟩
theorem RowsF.keep {F : Nat → Prop} {W Y : World} {a : Option Addr} {n : Nat} {R : List (List GC)} (h : RowsF F W a n R) (hs : W.heap.size ≤ Y.heap.size) (hk : ∀ b, F b → b < W.heap.size → Y.heap[b]? = W.heap[b]?) : RowsF F Y a n R :=
  ⟨h.len, fun i M hi => by
    obtain ⟨b, off, a2, c2, h1, h2, h3, h4, h5, h6⟩ := h.at_ i M hi
    exact ⟨b, off, a2, c2, h1, ⟨Nat.lt_of_lt_of_le h2.1 hs, h2.2⟩, (heap_cell (hk b h2.2 h2.1) _).trans h3, h4, h5.keep hs (fun b o e hb => hk b (h6 b o e).2 hb), fun b o e => ⟨Nat.lt_of_lt_of_le (h6 b o e).1 hs, (h6 b o e).2⟩⟩⟩
theorem RowsF.below {F : Nat → Prop} {W W' : World} {a : Option Addr} {n : Nat} {R : List (List GC)} (h : RowsF F W a n R) (hb : Below W.heap.size W W') : RowsF F W' a n R := h.keep hb.size (fun b _ hlt => hb.block b hlt)
theorem RowsF.mono {F F' : Nat → Prop} {W : World} {a : Option Addr} {n : Nat} {R : List (List GC)} (h : RowsF F W a n R) (hF : ∀ b, F b → b < W.heap.size → F' b) : RowsF F' W a n R :=
  ⟨h.len, fun i M hi => by
    obtain ⟨b, off, a2, c2, h1, h2, h3, h4, h5, h6⟩ := h.at_ i M hi
    exact ⟨b, off, a2, c2, h1, ⟨h2.1, hF b h2.2 h2.1⟩, h3, h4, h5, fun b2 o2 e => ⟨(h6 b2 o2 e).1, hF b2 (h6 b2 o2 e).2 (h6 b2 o2 e).1⟩⟩⟩
/-- A grid of the document's: its rows in memory. -/
structure RG (F : Nat → Prop) (W : World) (a : Option Addr) (cap w h : Nat) (R : List (List GC)) : Prop where
  rows : RowsF F W a h R
  ok : RowsOk w h R
  le : h ≤ cap
  mx : cap ≤ maxLen
theorem RG.below {F : Nat → Prop} {W W' : World} {a : Option Addr} {cap w h : Nat} {R : List (List GC)} (g : RG F W a cap w h R) (hb : Below W.heap.size W W') : RG F W' a cap w h R := ⟨g.rows.below hb, g.ok, g.le, g.mx⟩
theorem RG.keep {F : Nat → Prop} {W Y : World} {a : Option Addr} {cap w h : Nat} {R : List (List GC)} (g : RG F W a cap w h R) (hs : W.heap.size ≤ Y.heap.size) (hk : ∀ b, F b → b < W.heap.size → Y.heap[b]? = W.heap[b]?) : RG F Y a cap w h R := ⟨g.rows.keep hs hk, g.ok, g.le, g.mx⟩
theorem RG.mono {F F' : Nat → Prop} {W : World} {a : Option Addr} {cap w h : Nat} {R : List (List GC)} (g : RG F W a cap w h R) (hF : ∀ b, F b → b < W.heap.size → F' b) : RG F' W a cap w h R := ⟨g.rows.mono hF, g.ok, g.le, g.mx⟩
/-- The grid in a box. -/
def GBox (W : World) (b : Nat) (w h : Nat) (a : Option Addr) (n cap : Nat) : Prop := W.heap[b]? = some (.cells #[.int .i64 w, .int .i64 h, .slice a n cap] 29 (0, 0))
theorem GBox.cells {W : World} {b w h n cap : Nat} {a : Option Addr} (g : GBox W b w h a n cap) :
    W.cell? ⟨b, 0, none⟩ = some (.int .i64 w) ∧ W.cell? ⟨b, 1, none⟩ = some (.int .i64 h) ∧ W.cell? ⟨b, 2, none⟩ = some (.slice a n cap) ∧ ∀ j, W.frozen? ⟨b, j, none⟩ = false := by
  unfold GBox at g
  unfold World.cell? World.frozen?
  dsimp only
  rw [g]
  simp
theorem GBox.lt {W : World} {b w h n cap : Nat} {a : Option Addr} (g : GBox W b w h a n cap) : b < W.heap.size := (Array.getElem?_eq_some_iff.1 g).1
theorem GBox.new (W : World) (w h n cap : Nat) (a : Option Addr) : GBox (W.alloc (.cells #[.int .i64 w, .int .i64 h, .slice a n cap] 29)) W.heap.size w h a n cap := World.alloc_heap_new W _
theorem GBox.below {W W' : World} {b w h n cap : Nat} {a : Option Addr} (g : GBox W b w h a n cap) (hb : Below W.heap.size W W') : GBox W' b w h a n cap := (hb.block b g.lt).trans g
theorem GBox.only {W W' : World} {b w h n cap : Nat} {a : Option Addr} {S : List Nat} (g : GBox W b w h a n cap) (ho : Only S W W') (hS : b ∉ S) : GBox W' b w h a n cap := ho.heap g hS
theorem GBox.fill {W : World} {b w h n cap : Nat} {a : Option Addr} (g : GBox W b w h a n cap) (w' h' n' cap' : Nat) (a' : Option Addr) (X : World)
    (hX : ((W.setCell ⟨b, 0, none⟩ (.int .i64 w')).setCell ⟨b, 1, none⟩ (.int .i64 h')).setCell ⟨b, 2, none⟩ (.slice a' n' cap') = X) : GBox X b w' h' a' n' cap' ∧ Only [b] W X := by
  subst hX
  refine ⟨?_, (((Only.refl [b] W).setCell (.inl (by simp)) _).setCell (.inl (by simp)) _).setCell (.inl (by simp)) _⟩
  unfold GBox at g ⊢
  rw [set_at (set_at (set_at g _ _) _ _) _ _]
  rfl
theorem GBox.set2 {W : World} {b w h n cap : Nat} {a : Option Addr} (g : GBox W b w h a n cap) (n' cap' : Nat) (a' : Option Addr) : GBox (W.setCell ⟨b, 2, none⟩ (.slice a' n' cap')) b w h a' n' cap' ∧ Only [b] W (W.setCell ⟨b, 2, none⟩ (.slice a' n' cap')) := by
  refine ⟨?_, (Only.refl [b] W).setCell (.inl (by simp)) _⟩
  unfold GBox at g ⊢
  rw [set_at g _ _]
  rfl
set_option maxRecDepth 100000 in
theorem rthere_any (w h : Nat) (a : Option Addr) (n cap : Nat) (r c : Int) (W : World) : Calls Tryz.prog 163 #[.agg #[.int .i64 w, .int .i64 h, .slice a n cap], .int .i64 r, .int .i64 c] W fun e w' => e = .returned (.bool (inG w h r c)) ∧ Below W.heap.size W w' := by
  obtain ⟨z, hz⟩ : ∃ z, z = inG w h r c := ⟨_, rfl⟩
  rw [← hz]
  have HZ := Lib.hid hz
  clear hz
  go_enter Tryz.func163, Tryz.ntmps163
  go_wp2
  all_goals go_ret
  all_goals exact ⟨ret_bool (by rw [HZ.out]; unfold inG; first | (symm; simp; omega) | (simp; omega) | simp [*]), (Below.refl _ _).alloc (Nat.le_refl _) _⟩
set_option maxRecDepth 100000 in
theorem rsize_any (a b : Int) (w : World) : Calls Tryz.prog 148 #[.int .i64 a, .int .i64 b] w fun e w' => e = .returned (.bool (decide (1 ≤ a ∧ a ≤ 500 ∧ 1 ≤ b ∧ b ≤ 500))) ∧ w = w' := by
  obtain ⟨z, hz⟩ : ∃ z, z = decide (1 ≤ a ∧ a ≤ 500 ∧ 1 ≤ b ∧ b ≤ 500) := ⟨_, rfl⟩
  rw [← hz]
  have HZ := Lib.hid hz
  clear hz
  go_enter Tryz.func148, Tryz.ntmps148
  go_wp2
  all_goals go_ret
  all_goals exact ⟨ret_bool (by rw [HZ.out]; first | (symm; simp; omega) | (simp; omega) | simp [*]), rfl⟩
end Go.Proofs.YtekodpcedjpnjaaGreat
namespace Go.Proofs.YtekodpcedjpnjaaGreat
set_option linter.unusedVariables false
set_option linter.unusedSimpArgs false
open Go.RowKit Go.Shelf Go.Maps
theorem infoRow : (Tryz.prog.info? 169).map (fun i => (i.zero, i.size, i.bytes)) = some (some (.agg #[.slice none 0 0]), 1, 24) := by kernel_rfl
/-- The values of rows. -/
structure VRows (F : Nat → Prop) (W : World) (vs : List Value) (R : List (List GC)) : Prop where
  len : vs.length = R.length
  at_ : ∀ (i : Nat) (M : List GC), R[i]? = some M → ∃ a2 c2, vs[i]? = some (.slice a2 M.length c2) ∧ (M.length ≤ c2 ∧ c2 ≤ maxLen) ∧ CellsAt W a2 M.length M ∧ ∀ b2 o2, a2 = some ⟨b2, o2, none⟩ → b2 < W.heap.size ∧ F b2
theorem VRows.below {F : Nat → Prop} {W W' : World} {vs : List Value} {R : List (List GC)} (h : VRows F W vs R) (hb : Below W.heap.size W W') : VRows F W' vs R :=
  ⟨h.len, fun i M hi => by obtain ⟨a2, c2, h1, h2, h3, h4⟩ := h.at_ i M hi; exact ⟨a2, c2, h1, h2, h3.below hb, fun b o e => ⟨Nat.lt_of_lt_of_le (h4 b o e).1 hb.size, (h4 b o e).2⟩⟩⟩
theorem VRows.set {F : Nat → Prop} {W : World} {vs : List Value} {R : List (List GC)} (h : VRows F W vs R) (r : Nat) {a : Option Addr} {n c : Nat} {M : List GC} (hn : M.length = n) (hc : n ≤ c ∧ c ≤ maxLen) (hM : CellsAt W a n M) (hF : ∀ b o, a = some ⟨b, o, none⟩ → b < W.heap.size ∧ F b) : VRows F W (vs.set r (.slice a n c)) (R.set r M) := by
  refine ⟨by rw [List.length_set, List.length_set, h.len], fun i N hi => ?_⟩
  rw [List.getElem?_set] at hi
  split at hi
  · rename_i hr
    subst hr
    split at hi
    · rename_i hlt
      simp only [Option.some.injEq] at hi
      subst hi
      exact ⟨a, c, by rw [List.getElem?_set_self (by rw [h.len]; exact hlt), hn], by rw [hn]; exact hc, by rw [hn]; exact hM, hF⟩
    · cases hi
  · rename_i hr
    rw [List.getElem?_set_ne hr]
    exact h.at_ i N hi
theorem VRows.snoc {F : Nat → Prop} {W : World} {vs : List Value} {R : List (List GC)} (h : VRows F W vs R) {a : Option Addr} {n c : Nat} {M : List GC} (hn : M.length = n) (hc : n ≤ c ∧ c ≤ maxLen) (hM : CellsAt W a n M) (hF : ∀ b o, a = some ⟨b, o, none⟩ → b < W.heap.size ∧ F b) : VRows F W (vs ++ [.slice a n c]) (R ++ [M]) := by
  refine ⟨by simp [h.len], fun i N hi => ?_⟩
  by_cases he : i < R.length
  · rw [List.getElem?_append_left he] at hi
    obtain ⟨a2, c2, h1, h2⟩ := h.at_ i N hi
    exact ⟨a2, c2, by rw [List.getElem?_append_left (by rw [h.len]; exact he)]; exact h1, h2⟩
  · have hi2 := (List.getElem?_eq_some_iff.1 hi).1
    rw [List.length_append] at hi2
    simp only [List.length_cons, List.length_nil] at hi2
    obtain rfl : i = R.length := by omega
    rw [List.getElem?_append_right (Nat.le_refl _), Nat.sub_self] at hi
    simp only [List.getElem?_cons_zero, Option.some.injEq] at hi
    subst hi
    exact ⟨a, c, by rw [List.getElem?_append_right (by rw [h.len]; exact Nat.le_refl _), h.len, Nat.sub_self, hn]; rfl, by rw [hn]; exact hc, by rw [hn]; exact hM, hF⟩
theorem VRows.drop {F : Nat → Prop} {W : World} {vs : List Value} {R : List (List GC)} (h : VRows F W vs R) (k : Nat) : VRows F W (vs.drop k) (R.drop k) :=
  ⟨by rw [List.length_drop, List.length_drop, h.len], fun i M hi => by rw [List.getElem?_drop] at hi ⊢; exact h.at_ _ M hi⟩
theorem VRows.take {F : Nat → Prop} {W : World} {vs : List Value} {R : List (List GC)} (h : VRows F W vs R) (k : Nat) : VRows F W (vs.take k) (R.take k) :=
  ⟨by rw [List.length_take, List.length_take, h.len], fun i M hi => by
    have hlt : i < k := by have := (List.getElem?_eq_some_iff.1 hi).1; rw [List.length_take] at this; omega
    rw [List.getElem?_take_of_lt hlt] at hi ⊢; exact h.at_ _ M hi⟩
theorem VRows.nil (F : Nat → Prop) (W : World) : VRows F W [] [] := ⟨rfl, fun i M hi => by simp at hi⟩
theorem VRows.one {F : Nat → Prop} {W : World} {vs : List Value} {R : List (List GC)} (h : VRows F W vs R) : ∀ u ∈ vs, u.oneCell' = true := fun u hu => by
  obtain ⟨i, hi, rfl⟩ := List.mem_iff_getElem.1 hu
  obtain ⟨a2, c2, h1, _⟩ := h.at_ i _ (List.getElem?_eq_getElem (by rw [← h.len]; exact hi))
  rw [List.getElem?_eq_getElem hi, Option.some.injEq] at h1
  rw [h1]; rfl
theorem RowsF.vals {F : Nat → Prop} {W : World} {a : Option Addr} {n : Nat} {R : List (List GC)} (h : RowsF F W a n R) : ∃ vs, VRows F W vs R ∧ RowAt W.heap.size W a vs := by
  have key : ∀ (k : Nat), k ≤ R.length → ∃ vs : List Value, VRows F W vs (R.take k) ∧ RowAt W.heap.size W a vs := by
    intro k
    induction k with
    | zero => intro _; exact ⟨[], VRows.nil F W, RowAt.nil _ _ _⟩
    | succ k ih =>
      intro hk
      obtain ⟨vs, h1, h2⟩ := ih (by omega)
      obtain ⟨b, off, a2, c2, e, ⟨hb, _⟩, hc, hl, hM, hF⟩ := h.at_ k R[k] (List.getElem?_eq_getElem (by omega))
      have hvl : vs.length = k := by rw [h1.len, List.length_take]; omega
      refine ⟨vs ++ [.slice a2 R[k].length c2], by rw [List.take_succ_eq_append_getElem (by omega)]; exact h1.snoc rfl hl hM hF, fun j hj => ?_⟩
      rw [List.length_append, List.length_cons, List.length_nil] at hj
      by_cases hjk : j < vs.length
      · obtain ⟨b', off', e', hb', hc'⟩ := h2 j hjk
        refine ⟨b', off', e', hb', ?_⟩
        rw [hc', nth_eq _ _ _ hjk, nth_eq _ _ _ (by simp; omega), List.getElem_append_left hjk]
      · obtain rfl : j = k := by omega
        refine ⟨b, off, e, hb, ?_⟩
        rw [hc, nth_eq _ _ _ (by simp; omega), List.getElem_append_right (by omega)]
        simp
  obtain ⟨vs, h1, h2⟩ := key R.length (Nat.le_refl _)
  rw [List.take_length] at h1
  exact ⟨vs, h1, h2⟩
theorem RowsF.of_vals {F : Nat → Prop} {W : World} {a : Option Addr} {n : Nat} {R : List (List GC)} {vs : List Value} (hn : R.length = n) (h : VRows F W vs R) (hr : RowAt W.heap.size W a vs) (ha : ∀ b o, a = some ⟨b, o, none⟩ → F b) : RowsF F W a n R :=
  ⟨hn, fun i M hi => by
    obtain ⟨a2, c2, h1, h2, h3, h4⟩ := h.at_ i M hi
    have hiv := (List.getElem?_eq_some_iff.1 h1).1
    obtain ⟨b, off, e, hb, hc⟩ := hr i hiv
    refine ⟨b, off, a2, c2, e, ⟨hb, ha b off e⟩, ?_, h2, h3, h4⟩
    rw [hc, nth_eq _ _ _ hiv, (List.getElem?_eq_some_iff.1 h1).2]⟩
theorem RowAt.news {B : Nat} {W : World} {b o : Nat} {vs : List Value} (h : RowAt B W (some ⟨b, o, none⟩) vs) : ∀ j u, vs[j]? = some u → W.cell? ((⟨b, o, none⟩ : Addr).add j) = some u := fun j u hj => by
  have hl := (List.getElem?_eq_some_iff.1 hj).1
  obtain ⟨b', o', e, _, hc⟩ := h j hl
  simp only [Option.some.injEq, Addr.mk.injEq] at e
  obtain ⟨rfl, rfl, _⟩ := e
  rw [Go.WideShapes.add_plain, hc, nth_eq _ _ _ hl, (List.getElem?_eq_some_iff.1 hj).2]
theorem RowsF.addr {F : Nat → Prop} {W : World} {a : Option Addr} {n : Nat} {R : List (List GC)} (h : RowsF F W a n R) (hn : 1 ≤ n) : ∃ b o, a = some ⟨b, o, none⟩ ∧ b < W.heap.size := by
  have hl := h.len
  obtain ⟨b, o, _, _, e, ⟨hb, _⟩, _⟩ := h.at_ 0 _ (List.getElem?_eq_getElem (by omega))
  exact ⟨b, o, e, hb⟩
theorem own_cellS {W : World} {base g n cap : Nat} {e : TypeId} {vs : List Value} (h : W.ownsRow base e 1 (.slice (some ⟨g, 0, none⟩) n cap) n vs) (j : Nat) (hj : j < n) :
    (∃ v, W.cell? ⟨g, j, none⟩ = some v) ∧ W.frozen? ⟨g, j, none⟩ = false ∧ base ≤ g ∧ g < W.heap.size := by
  rcases h.2 with ⟨h1, _⟩ | ⟨g', cap', cur, h1, h2, h3, h4, h5, h6, h7⟩
  · cases h1
  · simp only [Value.slice.injEq, Option.some.injEq, Addr.mk.injEq, true_and, and_true] at h1
    obtain ⟨rfl, rfl⟩ := h1
    refine ⟨⟨cur[j]'(by omega), ?_⟩, ?_, h2, (Array.getElem?_eq_some_iff.1 h3).1⟩
    · rw [cell_of_row W g j _ _ _ h3]; exact Array.getElem?_eq_getElem _
    · simp [World.frozen?, h3]
/-- A grid that a call gives. -/
def GPost (F : Nat → Prop) (w h : Nat) (R : List (List GC)) (W : World) (e : Ending) (w' : World) : Prop := ∃ a c, e = .returned (.agg #[.int .i64 w, .int .i64 h, .slice a h c]) ∧ RG F w' a c w h R ∧ Below W.heap.size W w'
set_option maxRecDepth 100000 in
set_option maxHeartbeats 4000000 in
theorem rwith_any {F : Nat → Prop} {W : World} (hF : ∀ b, W.heap.size ≤ b → F b) {a : Option Addr} {cap w h : Nat} {R : List (List GC)} (g : RG F W a cap w h R) (hh : 1 ≤ h ∧ h ≤ 1000) (r : Int) (h0 : 0 ≤ r) (h1 : r < h) {a2 : Option Addr} {c2 : Nat} {M : List GC} (hM : CellsAt W a2 w M) (hc2 : w ≤ c2 ∧ c2 ≤ maxLen) (ha2 : ∀ b o, a2 = some ⟨b, o, none⟩ → b < W.heap.size ∧ F b) :
    Calls Tryz.prog 166 #[.agg #[.int .i64 w, .int .i64 h, .slice a h cap], .int .i64 r, .slice a2 w c2] W (GPost F w h (R.set r.toNat M) W) := by
  obtain ⟨i0, hi, hz0, hz1, hz2⟩ := info_parts infoRow
  obtain ⟨k, rfl⟩ := Int.eq_ofNat_of_zero_le h0
  simp only [Int.toNat_natCast]
  have hk : k < h := by omega
  have hRl := g.rows.len
  obtain ⟨b, o, rfl, hbl⟩ := g.rows.addr hh.1
  obtain ⟨vs, hv, hrow⟩ := g.rows.vals
  have hvl := hv.len
  rw [hRl] at hvl
  have hm := g.mx
  obtain ⟨X1, hX1⟩ : ∃ X1, W.alloc (.cells #[.int .i64 w, .int .i64 h, .slice (some ⟨b, o, none⟩) h cap] 29) = X1 := ⟨_, rfl⟩
  obtain ⟨X2, hX2⟩ : ∃ X2, X1.alloc (.cells #[.int .i64 0, .int .i64 0, .slice none 0 0] 29) = X2 := ⟨_, rfl⟩
  obtain ⟨X3, hX3⟩ : ∃ X3, X2.alloc (.cells #[] 169) = X3 := ⟨_, rfl⟩
  have b1 : Below W.heap.size W X1 := by rw [← hX1]; exact (Below.refl _ _).alloc (Nat.le_refl _) _
  have s1 : X1.heap.size = W.heap.size + 1 := by rw [← hX1]; simp
  have b2 : Below W.heap.size W X2 := by rw [← hX2]; exact b1.alloc (by omega) _
  have s2 : X2.heap.size = W.heap.size + 1 + 1 := by rw [← hX2]; simp [s1]
  have b3 : Below W.heap.size W X3 := by rw [← hX3]; exact b2.alloc (by omega) _
  have s3 : X3.heap.size = W.heap.size + 1 + 1 + 1 := by rw [← hX3]; simp [s2]
  have p1 : GBox X3 W.heap.size w h (some ⟨b, o, none⟩) h cap := by
    have : GBox X1 W.heap.size w h (some ⟨b, o, none⟩) h cap := by rw [← hX1]; exact GBox.new W _ _ _ _ _
    rw [← hX3, ← hX2]
    exact (this.below ((Below.refl _ _).alloc (Nat.le_refl _) _)).below ((Below.refl _ _).alloc (Nat.le_refl _) _)
  have p2 : GBox X3 (W.heap.size + 1) 0 0 none 0 0 := by
    have : GBox X2 (W.heap.size + 1) 0 0 none 0 0 := by rw [← hX2, ← s1]; exact GBox.new X1 _ _ _ _ _
    rw [← hX3]
    exact this.below ((Below.refl _ _).alloc (Nat.le_refl _) _)
  have ho := World.ownsRow_made (base := W.heap.size + 1 + 1) (e := 169) (size := 1) X2 #[] 0 (by omega) (by unfold maxLen; omega) rfl
  rw [hX3, s2] at ho
  have hnews := (hrow.below b3).news
  have HVR := Lib.hid hv
  have HMM := Lib.hid hM
  have hone := hv.one
  have HX1 := Lib.hid hX1
  have HX2 := Lib.hid hX2
  have HX3 := Lib.hid hX3
  have S1 := Lib.hid s1
  have S2 := Lib.hid s2
  have S3 := Lib.hid s3
  have HV := Lib.hid hvl
  have HMl := Lib.hid hM.len
  have HRl := Lib.hid hRl
  have OK := Lib.hid g.ok
  obtain ⟨q0, q1, q2, q3⟩ := p1.cells
  clear hX1 hX2 hX3 s1 s2 s3 b1 b2 hrow hv hM g hvl hRl h0 h1
  go_enter Tryz.func166, Tryz.ntmps166
  go_wp2_with (at_builtin; rw [HX1.out, HX2.out, HX3.out]; go_loud (refine wpList_append_own_at _ rfl _ _ 27 rfl (W.heap.size + 1 + 1) 169 i0 (.agg #[.slice none 0 0]) 1 24 Tryz.underlying27 hi hz0 hz1 hz2 rfl (by decide) _ _ _ rfl ho ⟨b, o, none⟩ h cap vs rfl (by rw [HV.out, Nat.mul_one]) hnews hone (by unfold maxLen; omega) (by omega) (by have := S3.out; omega) ?_; skip))
  intro v' w1 hown' hgrow _ _
  obtain ⟨g, c', rfl, hg, hc1, hc3⟩ := own_neS hown' (by omega)
  have hB1 : Below (W.heap.size + 1 + 1) X3 w1 := (Below.refl (W.heap.size + 1 + 1) X3).grown hgrow (by have := S3.out; omega) (fun k e => Nat.le_of_eq (Option.some.inj e))
  have p1' : GBox w1 W.heap.size w h (some ⟨b, o, none⟩) h cap := (hB1.block _ (by omega)).trans p1
  have p2' : GBox w1 (W.heap.size + 1) 0 0 none 0 0 := (hB1.block _ (by omega)).trans p2
  obtain ⟨u0, u1, u2, u3⟩ := p1'.cells
  obtain ⟨t0, t1, t2, t3⟩ := p2'.cells
  obtain ⟨⟨x, hx⟩, hf, _, hgl⟩ := own_cellS hown' k hk
  have hne1 : ¬ g = W.heap.size := by omega
  have hne2 : ¬ g = W.heap.size + 1 := by omega
  clear q0 q1 q2 q3
  have hkc : k < c' := by omega
  go_wp2
  have st := (hown'.stored k (.slice a2 w c2)).1
  have st2 := ownsRow_setCell_below st (a := ⟨W.heap.size, 2, none⟩) (by show W.heap.size < W.heap.size + 1 + 1; omega) (.slice (some ⟨g, 0, none⟩) h c')
  obtain ⟨Z, hZ⟩ : ∃ Z, (w1.setCell ⟨g, k, none⟩ (.slice a2 w c2)).setCell ⟨W.heap.size, 2, none⟩ (.slice (some ⟨g, 0, none⟩) h c') = Z := ⟨_, rfl⟩
  rw [hZ] at st2 ⊢
  have oZ : Only [g, W.heap.size] w1 Z := by rw [← hZ]; exact ((Only.refl _ _).setCell (.inl (by simp)) _).setCell (.inl (by simp)) _
  have pZ : GBox Z (W.heap.size + 1) 0 0 none 0 0 := oZ.heap p2' (by simp; omega)
  obtain ⟨Y, hY⟩ : ∃ Y, ((Z.setCell ⟨W.heap.size + 1, 0, none⟩ (.int .i64 w)).setCell ⟨W.heap.size + 1, 1, none⟩ (.int .i64 h)).setCell ⟨W.heap.size + 1, 2, none⟩ (.slice (some ⟨g, 0, none⟩) h c') = Y := ⟨_, rfl⟩
  obtain ⟨pY, oY⟩ := pZ.fill w h h c' (some ⟨g, 0, none⟩) Y hY
  have st3 : Y.ownsRow (W.heap.size + 1 + 1) 169 1 (.slice (some ⟨g, 0, none⟩) h c') h (vs.set k (.slice a2 w c2)) := by
    rw [← hY]
    exact ownsRow_setCell_below (ownsRow_setCell_below (ownsRow_setCell_below st2 (by show W.heap.size + 1 < W.heap.size + 1 + 1; omega) _) (by show W.heap.size + 1 < W.heap.size + 1 + 1; omega) _) (by show W.heap.size + 1 < W.heap.size + 1 + 1; omega) _
  rw [hY]
  have hs3 := S3.out
  have hs1 := hB1.size
  have bY : Below W.heap.size W Y := (b3.trans (hB1.mono (by omega))).trans ((oZ.below (by simp; omega) (by omega)).trans (oY.below (by simp) (by have := oZ.size; omega)))
  refine bodyPost_ret (results_cell_row rfl _ _ (W.heap.size + 1) 29 _ (0, 0) _ rfl pY Tryz.underlying29 rfl (by kernel_rfl)) rfl ?_
  have hvY := (HVR.out.below bY).set k HMl.out hc2 (HMM.out.below bY) (fun b o e => ⟨Nat.lt_of_lt_of_le (ha2 b o e).1 bY.size, (ha2 b o e).2⟩)
  exact ⟨_, c', rfl, ⟨RowsF.of_vals (by rw [List.length_set, HRl.out]) hvY (own_row_at st3).1 (fun b o e => by cases e; exact hF g (by omega)), OK.out.set _ _ HMl.out, hc1, hc3⟩, bY⟩
end Go.Proofs.YtekodpcedjpnjaaGreat
namespace Go.Proofs.YtekodpcedjpnjaaGreat
set_option linter.unusedVariables false
set_option linter.unusedSimpArgs false
open Go.RowKit Go.Shelf Go.Maps
set_option maxRecDepth 100000 in
set_option maxHeartbeats 4000000 in
theorem rcells_ok {F : Nat → Prop} {W : World} {a : Option Addr} {cap w h : Nat} {R : List (List GC)} (g : RG F W a cap w h R) (r : Int) (h0 : 0 ≤ r) (h1 : r < h) :
    Calls Tryz.prog 66 #[.agg #[.int .i64 w, .int .i64 h, .slice a h cap], .int .i64 r] W fun e w' => ∃ a2 c2, e = .returned (.slice a2 w c2) ∧ CellsAt w' a2 w (nth [] R r.toNat) ∧ ((w ≤ c2 ∧ c2 ≤ maxLen) ∧ ∀ b o, a2 = some ⟨b, o, none⟩ → b < W.heap.size ∧ F b) ∧ Below W.heap.size W w' := by
  obtain ⟨k, rfl⟩ := Int.eq_ofNat_of_zero_le h0
  simp only [Int.toNat_natCast]
  have hk : k < h := by omega
  have hRl := g.rows.len
  have hM : R[k]? = some (nth [] R k) := by rw [nth_eq _ _ _ (by omega)]; exact List.getElem?_eq_getElem _
  have hMl := g.ok.at hk
  have b1 : Below W.heap.size W (W.alloc (.cells #[.int .i64 w, .int .i64 h, .slice a h cap] 29)) := (Below.refl _ _).alloc (Nat.le_refl _) _
  obtain ⟨b, o, a2, c2, rfl, ⟨hb, _⟩, hc, hc2, hcl, hfa⟩ := g.rows.at_ k _ hM
  rw [hMl] at hc hc2 hcl
  have hM1 := hcl.below b1
  have HMl := Lib.hid hMl
  have hm := g.mx
  have hle := g.le
  clear g hM hMl hcl hRl h0 h1
  go_enter Tryz.func66, Tryz.ntmps66
  go_wp2
  go_ret
  exact ⟨a2, c2, rfl, hM1, ⟨hc2, hfa⟩, b1⟩
set_option maxRecDepth 100000 in
set_option maxHeartbeats 4000000 in
theorem rcells_out {W : World} {a : Option Addr} {n cap w h : Nat} (r : Int) (hr : ¬ (0 ≤ r ∧ r < h)) :
    Calls Tryz.prog 66 #[.agg #[.int .i64 w, .int .i64 h, .slice a n cap], .int .i64 r] W fun e w' => e = .returned (.slice none 0 0) ∧ Below W.heap.size W w' := by
  go_enter Tryz.func66, Tryz.ntmps66
  go_wp2
  all_goals first | (exfalso; omega) | skip
  all_goals go_ret
  all_goals exact ⟨rfl, (Below.refl _ _).alloc (Nat.le_refl _) _⟩
set_option maxRecDepth 100000 in
set_option maxHeartbeats 4000000 in
theorem rcell_ok {F : Nat → Prop} {W : World} {a : Option Addr} {cap w h : Nat} {R : List (List GC)} (g : RG F W a cap w h R) (r c : Int) (hr0 : 0 ≤ r) (hr1 : r < h) (hc0 : 0 ≤ c) (hc1 : c < w) :
    Calls Tryz.prog 122 #[.agg #[.int .i64 w, .int .i64 h, .slice a h cap], .int .i64 r, .int .i64 c] W fun e w' => e = .returned (.tuple #[(nth GC.zero (nth [] R r.toNat) c.toNat).v, .bool true]) ∧ Below W.heap.size W w' := by
  obtain ⟨k, rfl⟩ := Int.eq_ofNat_of_zero_le hr0
  obtain ⟨m, rfl⟩ := Int.eq_ofNat_of_zero_le hc0
  simp only [Int.toNat_natCast]
  have hk : k < h := by omega
  have hmw : m < w := by omega
  have hRl := g.rows.len
  have hM : R[k]? = some (nth [] R k) := by rw [nth_eq _ _ _ (by omega)]; exact List.getElem?_eq_getElem _
  have hMl := g.ok.at hk
  obtain ⟨X1, hX1⟩ : ∃ X1, W.alloc (.cells #[.int .i64 w, .int .i64 h, .slice a h cap] 29) = X1 := ⟨_, rfl⟩
  obtain ⟨X2, hX2⟩ : ∃ X2, X1.alloc (.cells #[.string ⟨#[]⟩, .int .i64 0, .bool false, .bool false, .bool false, .int .i64 0, .int .i64 0] 171) = X2 := ⟨_, rfl⟩
  have b1 : Below W.heap.size W X1 := by rw [← hX1]; exact (Below.refl _ _).alloc (Nat.le_refl _) _
  have s1 : X1.heap.size = W.heap.size + 1 := by rw [← hX1]; simp
  have b2 : Below W.heap.size W X2 := by rw [← hX2]; exact b1.alloc (by omega) _
  have s2 : X2.heap.size = W.heap.size + 1 + 1 := by rw [← hX2]; simp [s1]
  have p1 : GBox X2 W.heap.size w h a h cap := by
    have : GBox X1 W.heap.size w h a h cap := by rw [← hX1]; exact GBox.new W _ _ _ _ _
    rw [← hX2]; exact this.below ((Below.refl _ _).alloc (Nat.le_refl _) _)
  have p2 : GBlk X2 (W.heap.size + 1) [GC.zero] := by rw [← hX2, ← s1]; exact GBlk.made X1 [GC.zero]
  obtain ⟨b, o, a2, c2, rfl, ⟨hb, _⟩, hc, hc2, hcl, _⟩ := g.rows.at_ k _ hM
  rw [hMl] at hc hc2 hcl
  have hCi : (nth [] R k)[m]? = some (nth GC.zero (nth [] R k) m) := by rw [nth_eq GC.zero _ _ (by omega)]; exact List.getElem?_eq_getElem _
  obtain ⟨b', o', rfl, hb', hr'⟩ := hcl.at_ m _ hCi
  obtain ⟨C, hC⟩ : ∃ C, C = nth GC.zero (nth [] R k) m := ⟨_, rfl⟩
  rw [← hC] at hr' ⊢
  have hm := g.mx
  have hle := g.le
  have HR := Lib.hid hr'
  have HC0 := Lib.hid hc
  have HX1 := Lib.hid hX1
  have HX2 := Lib.hid hX2
  have P1 := Lib.hid p1
  have CT := Lib.hid (fun X => rthere_any w h (some ⟨b, o, none⟩) h cap (k : Int) (m : Int) X)
  have hin : inG w h (k : Int) (m : Int) = true := by simp [inG]; omega
  rw [hin] at CT
  obtain ⟨q0, q1, q2, q3⟩ := p1.cells
  have S2 := Lib.hid s2
  clear g hM hMl hcl hRl hC hr' hc hX1 hX2 p1 hin s1 s2 b1 hCi
  go_enter Tryz.func122, Tryz.ntmps122
  go_wp2_with fail
  rw [HX1.out, HX2.out]
  refine (CT.out _).mono ?_
  rintro e w1 ⟨rfl, hb1⟩
  have b3 : Below W.heap.size W w1 := bto b2 hb1 b2.size
  obtain ⟨u0, u1, u2, u3⟩ := (P1.out.below hb1).cells
  have p3 : GBlk w1 (W.heap.size + 1) [GC.zero] := p2.only (Only.of_below (S := []) hb1) (by simp)
  have hcw := (b3.cell (p := ⟨b, o + k, none⟩) hb).trans HC0.out
  have hrw : w1.rangeAt b' (o' + m * 7) C.vals := fun j v hv => (b3.cell (p := ⟨b', _, none⟩) hb').trans (HR.out j v hv)
  clear q0 q1 q2 q3
  go_wp2_with (first
    | (refine wpList_gload rfl _ rfl b' _ rfl C hrw ?_)
    | (refine wpList_gstore rfl _ _ rfl (W.heap.size + 1) _ rfl C rfl _ p3 0 (by omega) (by simp) ?_; intro w3 b4 o4))
  (try simp only [Exit.inBlock, Exit.then])
  refine bodyPost_ret (results_gcell rfl _ _ (W.heap.size + 1) 171 _ (0, 0) rfl b4 rfl) rfl ?_
  exact ⟨rfl, b3.trans (o4.below (by simp) b3.size)⟩
set_option maxRecDepth 100000 in
set_option maxHeartbeats 4000000 in
theorem rcell_out {W : World} {a : Option Addr} {n cap w h : Nat} (r c : Int) (hrc : inG w h r c = false) :
    Calls Tryz.prog 122 #[.agg #[.int .i64 w, .int .i64 h, .slice a n cap], .int .i64 r, .int .i64 c] W fun e w' => e = .returned (.tuple #[GC.zero.v, .bool false]) ∧ Below W.heap.size W w' := by
  obtain ⟨X1, hX1⟩ : ∃ X1, W.alloc (.cells #[.int .i64 w, .int .i64 h, .slice a n cap] 29) = X1 := ⟨_, rfl⟩
  obtain ⟨X2, hX2⟩ : ∃ X2, X1.alloc (.cells #[.string ⟨#[]⟩, .int .i64 0, .bool false, .bool false, .bool false, .int .i64 0, .int .i64 0] 171) = X2 := ⟨_, rfl⟩
  have b1 : Below W.heap.size W X1 := by rw [← hX1]; exact (Below.refl _ _).alloc (Nat.le_refl _) _
  have s1 : X1.heap.size = W.heap.size + 1 := by rw [← hX1]; simp
  have b2 : Below W.heap.size W X2 := by rw [← hX2]; exact b1.alloc (by omega) _
  have p1 : GBox X2 W.heap.size w h a n cap := by
    have : GBox X1 W.heap.size w h a n cap := by rw [← hX1]; exact GBox.new W _ _ _ _ _
    rw [← hX2]; exact this.below ((Below.refl _ _).alloc (Nat.le_refl _) _)
  have p2 : GBlk X2 (W.heap.size + 1) [GC.zero] := by rw [← hX2, ← s1]; exact GBlk.made X1 [GC.zero]
  have s2 : X2.heap.size = W.heap.size + 1 + 1 := by rw [← hX2]; simp [s1]
  have CT := Lib.hid (fun X => rthere_any w h a n cap r c X)
  rw [hrc] at CT
  have HX1 := Lib.hid hX1
  have HX2 := Lib.hid hX2
  have S2 := Lib.hid s2
  obtain ⟨q0, q1, q2, q3⟩ := p1.cells
  clear hX1 hX2 s1 s2 b1 hrc
  go_enter Tryz.func122, Tryz.ntmps122
  go_wp2_with fail
  rw [HX1.out, HX2.out]
  refine (CT.out _).mono ?_
  rintro e w1 ⟨rfl, hb1⟩
  have b3 : Below W.heap.size W w1 := bto b2 hb1 b2.size
  have p3 : GBlk w1 (W.heap.size + 1) [GC.zero] := p2.only (Only.of_below (S := []) hb1) (by simp)
  clear q0 q1 q2 q3
  go_wp2_with (refine wpList_gstore rfl _ _ rfl (W.heap.size + 1) _ rfl GC.zero rfl _ p3 0 (by omega) (by simp) ?_; intro w3 b4 o4)
  (try simp only [Exit.inBlock, Exit.then])
  refine bodyPost_ret (results_gcell rfl _ _ (W.heap.size + 1) 171 _ (0, 0) rfl b4 rfl) rfl ?_
  exact ⟨rfl, b3.trans (o4.below (by simp) b3.size)⟩
end Go.Proofs.YtekodpcedjpnjaaGreat
