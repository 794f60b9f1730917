/- The reference mask: parse. No condition. -/
import Derived.Test.YtmdpmjabjijjiaaMask22
import Derived.Test.YtmdpmjabjijjiaaRegP
import Derived.Deep.MidRow
import Derived.Laws.ResultCell
namespace Go.Proofs.Ytmdpmjabjijjiaa
set_option linter.unusedVariables false
set_option linter.unusedSimpArgs false
open Go.RowKit Go.Shelf Go.Maps
theorem range_one34 {w : World} {g : Nat} {a : Value} (c0 : w.cell? ⟨g, 0, none⟩ = some a) : w.rangeAt g 0 [a] := by
  intro j v hv
  match j, hv with
  | 0, hv => simp at hv; subst hv; exact c0
/-- A struct of one cell in a result variable, and one more result. -/
theorem results_one {fn : Func} {p u : Tmp} {ty : TypeId} {ds : TypeDesc} (h : fn.results = #[.cell p ty, .tmp u]) (hu : Try.prog.underlying ty = some ds) (hd : ds.isRow = true) (hi : (Try.prog.info? ty).map (·.size) = some 1) (tmps : Array Value) (w : World) (g : Nat) (a : Value)
    (hp : tmps.getD p undef = .pointer (some ⟨g, 0, none⟩)) (c0 : w.cell? ⟨g, 0, none⟩ = some a) :
    (results fn tmps).run Try.prog w = .ok (.tuple #[.agg #[a], tmps.getD u undef]) w := by
  have hl := run_loadVar_mid (P := Try.prog) w g 0 ty [a] ds (range_one34 c0) hu hd hi
  rw [results_cell_tmp h, hp]
  simp [asAddr, hl, Result.andThen]
/-- What the reference's Parse hands back. -/
def RParse (f : List UInt8) (w : World) (e : Ending) (w' : World) : Prop :=
  ∃ a n c, e = .returned (.tuple #[.agg #[.slice a n c], .int .i64 (parseC f)]) ∧ (parseC f = 0 → RefAt w' a n c (parseL f)) ∧ Below w.heap.size w w'
theorem RV_snoc (L : PL) (p : Nat × List UInt8) : RV (L ++ [p]) = RV L ++ refP p := by simp [RV]
theorem infoRPiece : (Try.prog.info? 109).map (fun i => (i.zero, i.size, i.bytes)) = some (some (.agg #[.bool false, .string ⟨#[]⟩]), 2, 24) := by kernel_rfl
/-- The mask that is being filled: its box, and the row of its pieces. -/
structure PB (B : Nat) (w : World) (v : Value) (X : PL) (wr : World) : Prop where
  box : wr.heap[B]? = some (.cells #[v] 45 (0, 0))
  own : wr.ownsRow (B + 1) 109 2 v X.length (RV X)
  bel : Below B w wr
  lt : B < wr.heap.size
theorem blk1_cells {W : World} {B : Nat} {v : Value} {t : TypeId} (hb : W.heap[B]? = some (.cells #[v] t (0, 0))) : W.cell? ⟨B, 0, none⟩ = some v ∧ W.frozen? ⟨B, 0, none⟩ = false := by
  unfold World.cell? World.frozen?
  dsimp only
  rw [hb]
  exact ⟨rfl, by simp⟩
theorem PB.new {w : World} : PB w.heap.size w (.slice none 0 0) [] (w.alloc (.cells #[.slice none 0 0] 45)) :=
  ⟨World.alloc_heap_new w _, World.ownsRow_nil _ _ _ _, (Below.refl _ _).alloc (Nat.le_refl _) _, by simp⟩
theorem PB.drew {B : Nat} {w : World} {v : Value} {X : PL} {wr : World} (h : PB B w v X wr) : PB B w v X wr.drew := ⟨h.box, h.own.drew, h.bel.drew, h.lt⟩
theorem PB.step {B : Nat} {w : World} {v v' : Value} {X : PL} {wr w5 : World} (h : PB B w v X wr) (o : Obj) (hg : (wr.alloc o).grownBy w5 v.ownBlock) (p : Nat × List UInt8) (ho : w5.ownsRow (B + 1) 109 2 v' (X.length + 1) (RV X ++ refP p)) :
    (w5.cell? ⟨B, 0, none⟩ = some v ∧ w5.frozen? ⟨B, 0, none⟩ = false) ∧ Below B w w5 ∧ PB B w v' (X ++ [p]) (w5.setCell ⟨B, 0, none⟩ v') := by
  have hlt := h.lt
  have hlta : B < (wr.alloc o).heap.size := by simp; omega
  have hb5 : w5.heap[B]? = some (.cells #[v] 45 (0, 0)) := by
    rw [hg.block B hlta (fun e => by have := (own_row h.own B e.symm).1; omega)]
    have : (wr.alloc o).heap[B]? = wr.heap[B]? := (World.grownBy_alloc wr o none).block B hlt (by simp)
    rw [this, h.box]
  have hbel : Below B w w5 := (h.bel.alloc (Nat.le_of_lt hlt) o).grown hg (Nat.le_of_lt hlta) (fun k e => Nat.le_of_succ_le (own_row h.own k e).1)
  refine ⟨blk1_cells hb5, hbel, (heap_setCell_same _ _ _ _ _ _ hb5).trans rfl, ?_, ?_, ?_⟩
  · rw [RV_snoc, List.length_append]
    exact own_set ho (Nat.lt_succ_self _) _
  · exact hbel.setCell (p := ⟨B, 0, none⟩) (Nat.le_refl _) _
  · have := hg.size
    simp [World.setCell]; omega
/-- The fold of the pattern's clusters from a place on. -/
theorem fold_at (D : List (List UInt8)) (k : Nat) (h : k < D.length) (st : PL × Bool) : (D.drop k).foldl stepP st = (D.drop (k + 1)).foldl stepP (stepP st (nth [] D k)) := by
  rw [List.drop_eq_getElem_cons h, List.foldl_cons, nth_eq _ _ _ h]
set_option maxRecDepth 100000 in
set_option maxHeartbeats 8000000 in
theorem refParse_any (f : List UInt8) (hf : f.length ≤ 1100000) (w : World) : Calls Try.prog 38 #[.string (S f)] w (RParse f w) := by
  obtain ⟨i0, hi, hz0, hz1, hz2⟩ := info_parts infoRPiece
  have hzc : (Value.agg #[.bool false, .string ⟨#[]⟩]).cells.size = 2 := by first | kernel_rfl | rfl | simp [Value.cells]
  have hsf := S_size f
  have CF := Lib.hid (fun W => refFlat_any f hf W)
  have CC := Lib.hid (fun W => refCut_any f hf W)
  obtain ⟨W1, hW1, hcx, hfx, hb1, hs1⟩ : ∃ W, w.alloc (.cells #[.slice none 0 0] 45) = W ∧ W.cell? ⟨w.heap.size, 0, none⟩ = some (.slice none 0 0) ∧ W.frozen? ⟨w.heap.size, 0, none⟩ = false ∧ Below w.heap.size w W ∧ W.heap.size = w.heap.size + 1 :=
    ⟨_, rfl, (cell_new_l w _ _).1, (cell_new_l w _ _).2, (Below.refl _ _).alloc (Nat.le_refl _) _, by simp⟩
  by_cases h1 : 256 < f.length
  · have hc : parseC f = 2 := by unfold parseC; rw [if_pos h1]
    have HC := Lib.hid hc
    have h1' : (256 : Int) < (f.length : Int) := by omega
    clear hc
    go_enter Try.func38, Try.ntmps38
    go_wp2
    refine bodyPost_ret (results_one rfl Try.underlying45 rfl (by kernel_rfl) _ _ w.heap.size (.slice none 0 0) rfl (World.cell?_setCell_same' _ _ _ (by rw [hcx]; rfl))) rfl ?_
    refine ⟨none, 0, 0, ?_, ?_, hb1.setCell (p := ⟨w.heap.size, 0, none⟩) (Nat.le_refl _) _⟩
    · rw [HC.out]; rfl
    · intro h; rw [HC.out] at h; cases h
  have h1' : (f.length : Int) ≤ 256 := by omega
  have hse := S_eq (flatL f) f
  by_cases h2 : flatL f = f
  · rw [decide_eq_true h2] at hse
    have hse2 : ((S (flatL f)).toList != (S f).toList) = false := by simp [bne, hse]
    have hpc : parseC f = if (piecesL f).2 = true then 340 else if 64 < (piecesL f).1.length then 3 else if slotsL (piecesL f).1 = [] then 6 else 0 := by
      unfold parseC; rw [if_neg h1, if_neg (by simp [h2])]
    have hpl : parseL f = (piecesL f).1 := rfl
    have hzl := cutL_len f
    have hfold : piecesL f = (cutL f).foldl stepP ([], false) := rfl
    obtain ⟨D, hD⟩ : ∃ D, D = cutL f := ⟨_, rfl⟩
    rw [← hD] at hfold CC hzl
    obtain ⟨st, hst0⟩ : ∃ st, st = piecesL f := ⟨_, rfl⟩
    rw [← hst0] at hfold hpc hpl
    have HF := Lib.hid hfold
    have HPC := Lib.hid hpc
    have HPL := Lib.hid hpl
    have hDl : D.length ≤ 256 := by omega
    have h1c : ∀ (z : Bool) (x : List UInt8), ∀ u ∈ [Value.bool z, Value.string (S x)], u.oneCell' = true := by
      intro z x u hu
      simp only [List.mem_cons, List.not_mem_nil, or_false] at hu
      rcases hu with rfl | rfl <;> rfl
    clear hpc hpl hfold hD hst0 h2
    go_enter Try.func38, Try.ntmps38
    go_wp2_with (first
      | (go_at_call 20; refine (CF.out _).mono ?_; rintro e w2 ⟨rfl, hb2⟩; have hd2 := (hb2.cell (p := ⟨w.heap.size, 0, none⟩) (World.block_lt_of_cell? _ _ hcx)).trans hcx; have hf2 := (hb2.frozen (p := ⟨w.heap.size, 0, none⟩) (World.block_lt_of_cell? _ _ hcx)).trans hfx)
      | (go_at_call 22; refine (CC.out _).mono ?_; rintro e w3 ⟨a3, n3, c3, hn3, hnc3, hcm3, rfl, hrow3, hb3, _⟩; obtain rfl : n3 = D.length := hn3; have hd3 := (hb3.cell (p := ⟨w.heap.size, 0, none⟩) (World.block_lt_of_cell? _ _ hd2)).trans hd2; have hf3 := (hb3.frozen (p := ⟨w.heap.size, 0, none⟩) (World.block_lt_of_cell? _ _ hd2)).trans hf2))
    have hlt3 := World.block_lt_of_cell? _ _ hd3
    have hB3 := bnext (bnext hb1 hb2) hb3
    clear hd2 hf2 hb2 hb3
    go_loopw [7, 6] (fun i sl wr => ∃ (k : Nat) (X : PL) (v : Value), k ≤ D.length ∧ i = .int .i64 (k : Int) ∧ sl = .int .i64 ((slotsL X).length : Nat) ∧ X.length ≤ k ∧ Hid ((D.drop k).foldl stepP (X, false) = st) ∧ PB w3.heap.size w3 v X wr)
      (fun i _ _ => D.length - (intOf i).toNat)
    case atStart => exact ⟨0, [], _, Nat.zero_le _, rfl, rfl, Nat.le_refl _, Lib.hid HF.out.symm, PB.new⟩
    case round =>
      obtain ⟨k, X, v, hk, rfl, rfl, hXk, hst, hpb⟩ := hrel
      obtain ⟨a2, c2, rfl⟩ := own_slice2 hpb.own
      obtain ⟨hv, hvf⟩ := blk1_cells hpb.box
      have hsl := slotsL_len X
      have hdr := (hpb.bel.cell (p := ⟨w.heap.size, 0, none⟩) hlt3).trans hd3
      have hfr := (hpb.bel.frozen (p := ⟨w.heap.size, 0, none⟩) hlt3).trans hf3
      have hBr : Below w.heap.size w wr := bnext hB3 hpb.bel
      by_cases hlt : k < D.length
      · obtain ⟨b, off, rfl, hb, hcs⟩ := strs_at hrow3 k hlt
        have hds := (hpb.bel.cell (p := ⟨b, off + k, none⟩) hb).trans hcs
        have hst2 := hst.out
        rw [fold_at D k hlt] at hst2
        have HX1 := Lib.hid (fun (hlt1 : k + 1 < D.length) => (by obtain ⟨b', off', e, _, h⟩ := strs_at hrow3 (k + 1) hlt1; simp only [Option.some.injEq, Addr.mk.injEq] at e; obtain ⟨rfl, rfl, _⟩ := e; exact h : w3.cell? ⟨b, off + (k + 1), none⟩ = some (.string (S (nth [] D (k + 1))))))
        obtain ⟨s, hs⟩ : ∃ s, s = nth [] D k := ⟨_, rfl⟩
        rw [← hs] at hcs hds hst2
        have CS := (fun W => letter_any s W)
        have he := S_const s [92]
        clear hs
        by_cases h92 : s = [92]
        · rw [decide_eq_true h92] at he
          rw [show stepP (X, false) s = (X, true) by unfold stepP; simp [h92]] at hst2
          clear CS h92
          by_cases hlt1 : k + 1 < D.length
          · have hcx1 := HX1.out hlt1
            rw [fold_at D (k + 1) hlt1] at hst2
            obtain ⟨x, hx⟩ : ∃ x, x = nth [] D (k + 1) := ⟨_, rfl⟩
            rw [← hx] at hcx1 hst2
            rw [show stepP (X, true) x = (X ++ [(0, x)], false) by unfold stepP; simp] at hst2
            have hdx := (hpb.bel.cell (p := ⟨b, off + (k + 1), none⟩) hb).trans hcx1
            have hcx := hcx1
            have HST := Lib.hid hst2
            have hlt1' : (k : Int) + 1 < (D.length : Int) := by omega
            have hk0 : (0 : Int) ≤ (k : Int) + 1 := by omega
            clear hst2 hx HX1
            go_wp2
            refine wp_region_mix [(true, 0), (true, 1), (true, 2), (true, 3), (true, 4), (true, 5), (true, 6), (false, 7), (false, 8), (false, 9), (false, 10)] (fun w' => w'.cell? ⟨w3.heap.size, 0, none⟩ = some (.slice a2 X.length c2) ∧ w'.cell? ⟨b, off + (k + 1), none⟩ = some (.string (S x))) (by kernel_rfl) (by kernel_rfl) (by rfl) (by kernel_rfl) (by kernel_rfl) (fun _ _ d _ _ h => by cases d <;> exact h) ⟨hv, hdx⟩ ?_
            simp only [mixL, List.getElem?_cons_succ, List.getElem?_cons_zero]
            repeat (refine' wpMix_read (v := _) rfl ?_ ?_; rotate_left 1; (intro w' hw'; obtain ⟨s0, s1⟩ := hw'; go_simp; try with_reducible rfl); try simp only [Act.put, List.setIfInBounds_toArray, List.set_cons_zero, List.set_cons_succ])
            refine wpMix_act (fun K hK => ?_)
            go_wp2
            refine hK _ _ (fun _ => ⟨(cell_alloc_l _ hv : (wr.alloc _).cell? _ = _), (cell_alloc_l _ hdx : (wr.alloc _).cell? _ = _)⟩) ?_
            clear hK K
            refine wpMix_act (fun K hK => ?_)
            refine wpList_append_own _ rfl _ _ 43 rfl (w3.heap.size + 1) 109 i0 (.agg #[.bool false, .string ⟨#[]⟩]) 2 24 Try.underlying43 hi hz0 hz1 hz2 hzc (by decide) (.slice a2 X.length c2) X.length (RV X) rfl (hpb.own.drew.alloc _) ⟨wr.heap.size, 0, none⟩ 1 1 [.bool false, .string (S x)] rfl rfl (two_new34 wr.drew _ _ _) (h1c _ _) (by unfold maxLen; omega) (by omega) (by have := hpb.lt; simp; omega) ?_
            intro v5 w5 ho5 hg5 _
            obtain ⟨⟨hv5, hvf5⟩, hbel5, hpb5⟩ := hpb.drew.step _ hg5 (0, x) (ho5)
            have hs5 := (hbel5.cell (p := ⟨b, off + (k + 1), none⟩) hb).trans hcx
            obtain ⟨g5, c5, rfl⟩ := ownsRow_succ ho5
            refine hK _ _ (fun _ => ⟨hv5, hs5⟩) ?_
            clear hK K hg5
            refine wpMix_act (fun K hK => ?_)
            go_wp2
            refine hK _ _ (fun _ => ⟨hv5, hs5⟩) ?_
            clear hK K
            refine wpMix_act (fun K hK => ?_)
            go_wp2
            refine hK _ _ (fun h => absurd rfl h) ?_
            clear hK K
            refine wpMix_nil ?_
            go_wp2
            go_roundw
            case rel => exact ⟨k + 1 + 1, X ++ [(0, x)], _, by omega, by go_num, by rw [slotsL_snoc]; simp, by rw [List.length_append]; simp; omega, HST, hpb5⟩
            case measure => simp [intOf]; omega
          · have hk1 : (D.length : Int) ≤ (k : Int) + 1 := by omega
            have hd0 : D.drop (k + 1) = [] := List.drop_of_length_le (by omega)
            rw [hd0] at hst2
            have hc : parseC f = 340 := by rw [HPC.out, ← hst2]; rfl
            have HC := Lib.hid hc
            clear hst2 hd0 HX1 hc
            go_wp2
            refine bodyPost_ret (results_one rfl Try.underlying45 rfl (by kernel_rfl) _ _ w.heap.size (.slice none 0 0) rfl (World.cell?_setCell_same' _ _ _ (by rw [hdr]; rfl))) rfl ?_
            refine ⟨none, 0, 0, ?_, ?_, hBr.setCell (p := ⟨w.heap.size, 0, none⟩) (Nat.le_refl _) _⟩
            · rw [HC.out]; rfl
            · intro h; rw [HC.out] at h; cases h
        · rw [decide_eq_false h92] at he
          rw [show stepP (X, false) s = (X ++ [(sortB s, s)], false) by unfold stepP; simp [h92]] at hst2
          have HST := Lib.hid hst2
          clear hst2 HX1 h92
          by_cases h0 : sortB s = 0
          · rw [decide_eq_true h0, Bool.not_true] at CS
            have CS := Lib.hid CS
            have HQ := Lib.hid h0
            clear h0
            go_wp2
            refine wp_region_mix [(true, 0), (true, 1), (true, 2), (true, 3), (true, 4), (true, 5), (true, 7), (true, 8), (true, 9), (true, 10), (false, 6), (false, 11), (false, 12), (false, 13), (false, 14), (false, 15)] (fun w' => w'.cell? ⟨w3.heap.size, 0, none⟩ = some (.slice a2 X.length c2) ∧ w'.cell? ⟨b, off + k, none⟩ = some (.string (S s))) (by kernel_rfl) (by kernel_rfl) (by rfl) (by kernel_rfl) (by kernel_rfl) (fun _ _ d _ _ h => by cases d <;> exact h) ⟨hv, hds⟩ ?_
            simp only [mixL, List.getElem?_cons_succ, List.getElem?_cons_zero]
            repeat (refine' wpMix_read (v := _) rfl ?_ ?_; rotate_left 1; (intro w' hw'; obtain ⟨s0, s1⟩ := hw'; go_simp; try with_reducible rfl); try simp only [Act.put, List.setIfInBounds_toArray, List.set_cons_zero, List.set_cons_succ])
            refine wpMix_act (fun K hK => ?_)
            go_wp2_with (go_at_call 95; refine (CS.out _).mono ?_; rintro e w4 ⟨rfl, rfl⟩)
            refine hK _ _ (fun _ => ⟨hv, hds⟩) ?_
            clear hK K
            refine wpMix_act (fun K hK => ?_)
            go_wp2
            refine hK _ _ (fun _ => ⟨hv, hds⟩) ?_
            clear hK K
            refine wpMix_act (fun K hK => ?_)
            go_wp2
            refine hK _ _ (fun _ => ⟨(cell_alloc_l _ hv : (wr.alloc _).cell? _ = _), (cell_alloc_l _ hds : (wr.alloc _).cell? _ = _)⟩) ?_
            clear hK K
            refine wpMix_act (fun K hK => ?_)
            refine wpList_append_own _ rfl _ _ 43 rfl (w3.heap.size + 1) 109 i0 (.agg #[.bool false, .string ⟨#[]⟩]) 2 24 Try.underlying43 hi hz0 hz1 hz2 hzc (by decide) (.slice a2 X.length c2) X.length (RV X) rfl (hpb.own.drew.alloc _) ⟨wr.heap.size, 0, none⟩ 1 1 [.bool false, .string (S s)] rfl rfl (two_new34 wr.drew _ _ _) (h1c _ _) (by unfold maxLen; omega) (by omega) (by have := hpb.lt; simp; omega) ?_
            intro v5 w5 ho5 hg5 _
            obtain ⟨⟨hv5, hvf5⟩, hbel5, hpb5⟩ := hpb.drew.step _ hg5 (sortB s, s) (by have := ho5; unfold refP; dsimp only; rw [decide_eq_true HQ.out]; exact this)
            have hs5 := (hbel5.cell (p := ⟨b, off + k, none⟩) hb).trans hcs
            obtain ⟨g5, c5, rfl⟩ := ownsRow_succ ho5
            refine hK _ _ (fun _ => ⟨hv5, hs5⟩) ?_
            clear hK K hg5
            refine wpMix_act (fun K hK => ?_)
            go_wp2
            refine hK _ _ (fun _ => ⟨hv5, hs5⟩) ?_
            clear hK K
            refine wpMix_act (fun K hK => ?_)
            go_wp2
            refine hK _ _ (fun h => absurd rfl h) ?_
            clear hK K
            refine wpMix_nil ?_
            go_wp2_with (go_at_call 95; refine (CS.out _).mono ?_; rintro e w6 ⟨rfl, rfl⟩)
            go_roundw
            case rel => exact ⟨k + 1, X ++ [(sortB s, s)], _, by omega, by go_num, by rw [slotsL_snoc, if_pos HQ.out]; simp, by rw [List.length_append]; simp; omega, HST, hpb5⟩
            case measure => simp [intOf]; omega
          · rw [decide_eq_false h0, Bool.not_false] at CS
            have CS := Lib.hid CS
            have HQ := Lib.hid h0
            clear h0
            go_wp2
            refine wp_region_mix [(true, 0), (true, 1), (true, 2), (true, 3), (true, 4), (true, 5), (true, 7), (true, 8), (true, 9), (true, 10), (false, 6), (false, 11), (false, 12), (false, 13), (false, 14), (false, 15)] (fun w' => w'.cell? ⟨w3.heap.size, 0, none⟩ = some (.slice a2 X.length c2) ∧ w'.cell? ⟨b, off + k, none⟩ = some (.string (S s))) (by kernel_rfl) (by kernel_rfl) (by rfl) (by kernel_rfl) (by kernel_rfl) (fun _ _ d _ _ h => by cases d <;> exact h) ⟨hv, hds⟩ ?_
            simp only [mixL, List.getElem?_cons_succ, List.getElem?_cons_zero]
            repeat (refine' wpMix_read (v := _) rfl ?_ ?_; rotate_left 1; (intro w' hw'; obtain ⟨s0, s1⟩ := hw'; go_simp; try with_reducible rfl); try simp only [Act.put, List.setIfInBounds_toArray, List.set_cons_zero, List.set_cons_succ])
            refine wpMix_act (fun K hK => ?_)
            go_wp2_with (go_at_call 95; refine (CS.out _).mono ?_; rintro e w4 ⟨rfl, rfl⟩)
            refine hK _ _ (fun _ => ⟨hv, hds⟩) ?_
            clear hK K
            refine wpMix_act (fun K hK => ?_)
            go_wp2
            refine hK _ _ (fun _ => ⟨hv, hds⟩) ?_
            clear hK K
            refine wpMix_act (fun K hK => ?_)
            go_wp2
            refine hK _ _ (fun _ => ⟨(cell_alloc_l _ hv : (wr.alloc _).cell? _ = _), (cell_alloc_l _ hds : (wr.alloc _).cell? _ = _)⟩) ?_
            clear hK K
            refine wpMix_act (fun K hK => ?_)
            refine wpList_append_own _ rfl _ _ 43 rfl (w3.heap.size + 1) 109 i0 (.agg #[.bool false, .string ⟨#[]⟩]) 2 24 Try.underlying43 hi hz0 hz1 hz2 hzc (by decide) (.slice a2 X.length c2) X.length (RV X) rfl (hpb.own.drew.alloc _) ⟨wr.heap.size, 0, none⟩ 1 1 [.bool true, .string (S s)] rfl rfl (two_new34 wr.drew _ _ _) (h1c _ _) (by unfold maxLen; omega) (by omega) (by have := hpb.lt; simp; omega) ?_
            intro v5 w5 ho5 hg5 _
            obtain ⟨⟨hv5, hvf5⟩, hbel5, hpb5⟩ := hpb.drew.step _ hg5 (sortB s, s) (by have := ho5; unfold refP; dsimp only; rw [decide_eq_false HQ.out]; exact this)
            have hs5 := (hbel5.cell (p := ⟨b, off + k, none⟩) hb).trans hcs
            obtain ⟨g5, c5, rfl⟩ := ownsRow_succ ho5
            refine hK _ _ (fun _ => ⟨hv5, hs5⟩) ?_
            clear hK K hg5
            refine wpMix_act (fun K hK => ?_)
            go_wp2
            refine hK _ _ (fun _ => ⟨hv5, hs5⟩) ?_
            clear hK K
            refine wpMix_act (fun K hK => ?_)
            go_wp2
            refine hK _ _ (fun h => absurd rfl h) ?_
            clear hK K
            refine wpMix_nil ?_
            go_wp2_with (go_at_call 95; refine (CS.out _).mono ?_; rintro e w6 ⟨rfl, rfl⟩)
            go_roundw
            case rel => exact ⟨k + 1, X ++ [(sortB s, s)], _, by omega, by go_num, by rw [slotsL_snoc, if_neg HQ.out, List.length_append]; go_num, by rw [List.length_append]; simp; omega, HST, hpb5⟩
            case measure => simp [intOf]; omega
      · obtain rfl : k = D.length := by omega
        have hst2 := hst.out
        rw [List.drop_length] at hst2
        have hpc2 : parseC f = if 64 < X.length then 3 else if slotsL X = [] then 6 else 0 := by rw [HPC.out, ← hst2]; rfl
        have hpl2 : parseL f = X := by rw [HPL.out, ← hst2]; rfl
        clear hst2
        by_cases h3 : 64 < X.length
        · rw [if_pos h3] at hpc2
          have h3' : (64 : Int) < (X.length : Int) := by omega
          have HC := Lib.hid hpc2
          clear hpc2 hpl2
          go_wp2
          refine bodyPost_ret (results_one rfl Try.underlying45 rfl (by kernel_rfl) _ _ w.heap.size (.slice none 0 0) rfl (World.cell?_setCell_same' _ _ _ (by rw [hdr]; rfl))) rfl ?_
          refine ⟨none, 0, 0, ?_, ?_, hBr.setCell (p := ⟨w.heap.size, 0, none⟩) (Nat.le_refl _) _⟩
          · rw [HC.out]; rfl
          · intro h; rw [HC.out] at h; cases h
        · rw [if_neg h3] at hpc2
          have h3' : (X.length : Int) ≤ 64 := by omega
          by_cases h4 : slotsL X = []
          · rw [if_pos h4] at hpc2
            have h4' : (slotsL X).length = 0 := by rw [h4]; rfl
            have HC := Lib.hid hpc2
            clear hpc2 hpl2 h4 h3
            go_wp2
            refine bodyPost_ret (results_one rfl Try.underlying45 rfl (by kernel_rfl) _ _ w.heap.size (.slice none 0 0) rfl (World.cell?_setCell_same' _ _ _ (by rw [hdr]; rfl))) rfl ?_
            refine ⟨none, 0, 0, ?_, ?_, hBr.setCell (p := ⟨w.heap.size, 0, none⟩) (Nat.le_refl _) _⟩
            · rw [HC.out]; rfl
            · intro h; rw [HC.out] at h; cases h
          · rw [if_neg h4] at hpc2
            have h4' : (((slotsL X).length : Int) == 0) = false := by simp [h4]
            have HC := Lib.hid hpc2
            have HL := Lib.hid hpl2
            obtain ⟨hr, hnc, hcm⟩ := own2_row_at hpb.own
            clear hpc2 hpl2 h4 h3
            go_wp2
            refine bodyPost_ret (results_one rfl Try.underlying45 rfl (by kernel_rfl) _ _ w.heap.size (.slice a2 X.length c2) rfl (World.cell?_setCell_same' _ _ _ (by rw [hdr]; rfl))) rfl ?_
            refine ⟨a2, X.length, c2, by rw [HC.out]; rfl, fun _ => ?_, hBr.setCell (p := ⟨w.heap.size, 0, none⟩) (Nat.le_refl _) _⟩
            rw [HL.out]
            refine ⟨rfl, hnc, hcm, ?_⟩
            have hown := own_set (off := 0) hpb.own (show w.heap.size < w3.heap.size + 1 by omega) (.slice a2 X.length c2)
            exact (own2_row_at hown).1
  · have hc : parseC f = 7 := by unfold parseC; rw [if_neg h1, if_pos h2]
    have HC := Lib.hid hc
    rw [decide_eq_false h2] at hse
    have hse2 : ((S (flatL f)).toList != (S f).toList) = true := by simp [bne, hse]
    clear hc h2
    go_enter Try.func38, Try.ntmps38
    go_wp2_with (go_at_call 20; refine (CF.out _).mono ?_; rintro e w2 ⟨rfl, hb2⟩; have hd2 := (hb2.cell (p := ⟨w.heap.size, 0, none⟩) (World.block_lt_of_cell? _ _ hcx)).trans hcx; have hf2 := (hb2.frozen (p := ⟨w.heap.size, 0, none⟩) (World.block_lt_of_cell? _ _ hcx)).trans hfx)
    refine bodyPost_ret (results_one rfl Try.underlying45 rfl (by kernel_rfl) _ _ w.heap.size (.slice none 0 0) rfl (World.cell?_setCell_same' _ _ _ (by rw [hd2]; rfl))) rfl ?_
    refine ⟨none, 0, 0, ?_, ?_, (bnext hb1 hb2).setCell (p := ⟨w.heap.size, 0, none⟩) (Nat.le_refl _) _⟩
    · rw [HC.out]; rfl
    · intro h; rw [HC.out] at h; cases h
def RNew (L : PL) (w : World) (e : Ending) (w' : World) : Prop :=
  ∃ a n c, e = .returned (.tuple #[.agg #[.slice a n c], .int .i64 0]) ∧ RefAt w' a n c L ∧ Below w.heap.size w w'
theorem refParse_new {f : List UInt8} (hf : f.length ≤ 1100000) (h : parseC f = 0) (w : World) : Calls Try.prog 38 #[.string (S f)] w (RNew (parseL f) w) := by
  refine (refParse_any f hf w).mono ?_
  rintro e w' ⟨a, n, c, rfl, h1, hb⟩
  exact ⟨a, n, c, by rw [h], h1 h, hb⟩
theorem refParse_bad {f : List UInt8} (hf : f.length ≤ 1100000) (w : World) : Calls Try.prog 38 #[.string (S f)] w fun e w' => (∃ a n c, e = .returned (.tuple #[.agg #[.slice a n c], .int .i64 (parseC f)])) ∧ Below w.heap.size w w' := by
  refine (refParse_any f hf w).mono ?_
  rintro e w' ⟨a, n, c, rfl, h1, hb⟩
  exact ⟨⟨a, n, c, rfl⟩, hb⟩
end Go.Proofs.Ytmdpmjabjijjiaa
