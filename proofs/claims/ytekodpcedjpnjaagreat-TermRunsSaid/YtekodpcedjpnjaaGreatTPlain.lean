/- The law TermPlain: the clusters of a text that fits into a row stand in its cells. No condition. -/
import Derived.Test.YtekodpcedjpnjaaGreatTAwake
import Derived.Test.YtekodpcedjpnjaaGreatTermC
import Derived.Test.YtekodpcedjpnjaaGreatRClus3
import Derived.Test.YtekodpcedjpnjaaGreatBwAt
namespace Go.Proofs.YtekodpcedjpnjaaGreat
set_option linter.unusedVariables false
set_option linter.unusedSimpArgs false
open Go.RowKit Go.Shelf Go.Maps
set_option maxRecDepth 100000 in
set_option maxHeartbeats 4000000 in
theorem tcell_any {W : World} {b p q : Nat} {hv : Value} {t : TS} (a : TmAt W b p q hv t) (r c : Nat) (hr : r < t.H) (hc : c < t.W) : Calls Tryz.prog 121 #[.pointer (some ⟨b, 0, none⟩), .int .i64 (r : Int), .int .i64 (c : Int)] W fun e w' =>
    e = .returned (.tuple #[(nth GC.zero t.R.flatten (t.W * r + c)).v, .bool true]) ∧ Below W.heap.size W w' := by
  have g1 : GBlk (W.alloc (.cells #[.string ⟨#[]⟩, .int .i64 0, .bool false, .bool false, .bool false, .int .i64 0, .int .i64 0] 171)) W.heap.size [GC.zero] := GBlk.made W [GC.zero]
  have b1 : Below W.heap.size W (W.alloc (.cells #[.string ⟨#[]⟩, .int .i64 0, .bool false, .bool false, .bool false, .int .i64 0, .int .i64 0] 171)) := (Below.refl _ _).alloc (Nat.le_refl _) _
  have a1 := a.below b1
  obtain ⟨W1, hW1⟩ : ∃ W1, W.alloc (.cells #[.string ⟨#[]⟩, .int .i64 0, .bool false, .bool false, .bool false, .int .i64 0, .int .i64 0] 171) = W1 := ⟨_, rfl⟩
  rw [hW1] at g1 b1 a1
  have hs : W.heap.size < W1.heap.size := g1.lt
  have HW1 := Lib.hid hW1
  have CM := Lib.hid (tmade_any a1)
  have CG := Lib.hid (cell_ok a1.g (r : Int) (c : Int) (by omega) (by omega) (by omega) (by omega))
  simp only [Int.toNat_natCast] at CG
  obtain ⟨C, hC⟩ : ∃ C, C = nth GC.zero t.R.flatten (t.W * r + c) := ⟨_, rfl⟩
  rw [← hC] at CG ⊢
  obtain ⟨c0, c1, c2, c3, c4, c5, c6, c7, c8, c9, c10, c11, c12, c13, c14, c15, c16, fz⟩ := a1.cells
  clear a a1 hW1 hC
  go_enter Tryz.func121, Tryz.ntmps121
  go_upto_region 1 with (fail)
  rw [HW1.out]
  go_wp2_with (first
    | (go_at_call 110; refine (CM.out).mono ?_; rintro e X ⟨rfl, rfl⟩)
    | (refine (CG.out).mono ?_; rintro e X2 ⟨rfl, hb2⟩; have g2 := g1.only (Only.of_below hb2 : Only [] _ _) (by simp))
    | (refine wpList_gstore rfl _ _ rfl W.heap.size _ rfl C rfl _ g2 0 (by omega) (by simp) ?_; intro w3 b3 o3))
  (try simp only [Exit.inBlock, Exit.then])
  refine bodyPost_ret (results_gcell rfl _ _ W.heap.size 171 _ (0, 0) rfl b3 rfl) rfl ?_
  exact ⟨rfl, (b1.trans (hb2.mono (by omega))).trans (o3.below (by simp) (by have := hb2.size; omega))⟩
/-- The cell in which a cluster begins. -/
theorem RowTxt.cell {x : Nat} {C : List (List UInt8)} {t : TS} (r : RowTxt x C t) (hC : ∀ c ∈ C, Clu c) {i : Nat} (hi : i < C.length) : nth GC.zero t.R.flatten (t.W * 0 + (sumC (C.take i)).toNat) = ⟨S (nth [] C i), colsL (nth [] C i), Sy.zero⟩ := by
  have hct : ∀ c ∈ C.take i, Clu c := fun c hc => hC c (List.mem_of_mem_take hc)
  have hl := cellsOf_len Sy.zero (C.take i) hct
  have hx : Clu (nth [] C i) := hC _ (by rw [nth_eq _ _ _ hi]; exact List.getElem_mem hi)
  have hcols := hx.cols
  have hsp : cellsOf Sy.zero C = cellsOf Sy.zero (C.take i) ++ (cellOf Sy.zero (nth [] C i) ++ cellsOf Sy.zero (C.drop (i + 1))) := by
    have : C = C.take i ++ nth [] C i :: C.drop (i + 1) := by rw [nth_eq _ _ _ hi, List.getElem_cons_drop, List.take_append_drop]
    conv => lhs; rw [this]
    simp [cellsOf]
  have hh : ∃ T, cellOf Sy.zero (nth [] C i) = ⟨S (nth [] C i), colsL (nth [] C i), Sy.zero⟩ :: T := by
    unfold cellOf
    split
    · rename_i h2; rw [h2]; exact ⟨_, rfl⟩
    · rename_i h2; rw [show colsL (nth [] C i) = 1 by omega]; exact ⟨_, rfl⟩
  obtain ⟨T, hT⟩ := hh
  rw [r.R, hsp, hT]
  simp only [List.flatten_cons, List.flatten_nil, List.append_nil, List.append_assoc, List.cons_append]
  exact nth_midF _ _ _ _ (by omega)
end Go.Proofs.YtekodpcedjpnjaaGreat
