/- The program's terminal: rune. No condition but that the counters are not at their ends. -/
import Derived.Test.YtekodpcedjpnjaaPT3
namespace Go.Proofs.Ytekodpcedjpnjaa
set_option linter.unusedVariables false
set_option linter.unusedSimpArgs false
open Go.RowKit Go.Maps
set_option maxRecDepth 100000 in
set_option maxHeartbeats 8000000 in
theorem prune_any {W : World} {b p q : Nat} {hv : Value} {t : TS} (a : TmAt W b p q hv t) (ok : TOk t) (hg : t.gone < 4611686018427387904) (r : Nat) (hr : r ≤ 1114111) (hi : isR (r : Int) = true) :
    Calls Try.prog 109 #[.pointer (some ⟨b, 0, none⟩), .int .i32 (r : Int)] W (TmPost b p q hv (t.rune r) W) := by
  have hbd := cols_bd (r : Int)
  have CO := Lib.hid (fun W => of_any (r : Int) W)
  have AA := Lib.hid a
  by_cases hpos : 0 < colsB (r : Int)
  · have HT : Hid (t.rune r = t.print r) := Lib.hid (by unfold TS.rune; rw [if_pos hpos])
    have CP : ∀ X, Below W.heap.size W X → Calls Try.prog 127 #[.pointer (some ⟨b, 0, none⟩), .int .i32 (r : Int), .int .i64 (colsB r)] X (TmPost b p q hv (t.print r) X) := fun X hX => by
      unfold TS.print
      by_cases hw : (t.W : Int) < colsB r
      · rw [if_pos hw]; exact pprint_wide (AA.out.below hX) r _ hw
      · rw [if_neg hw]; exact pprint_ok (AA.out.below hX) ok hg r hr hi _ (by omega) hbd.2 (by omega)
    have CP := Lib.hid CP
    obtain ⟨z, hz⟩ : ∃ z, z = colsB (r : Int) := ⟨_, rfl⟩
    rw [← hz] at CO CP hpos
    clear a ok hz hbd
    go_enter Try.func109, Try.ntmps109
    go_wp2_with (first
      | (go_at_call 126; refine (CO.out _).mono ?_; rintro e X ⟨rfl, hb⟩)
      | (go_at_call 127; refine (CP.out _ hb).mono ?_; rintro e Y ⟨rfl, aY, oY⟩))
    (try simp only [Exit.inBlock, Exit.then]); refine bodyPost_ret (results_none rfl _ _ _) rfl ?_
    exact ⟨rfl, by rw [HT.out]; exact aY, (Only.on hb).trans oY⟩
  have hz0 : colsB (r : Int) = 0 := by omega
  have CC := Lib.hid (fun W => control_any (r : Int) W)
  rw [hz0] at CO
  cases hct : ctrlB (r : Int) with
  | true =>
    have HT : Hid (t.rune r = t.off) := Lib.hid (by
      have hj : joinB (r : Int) = false := by unfold joinB; rw [hz0, hct]; simp
      unfold TS.rune; rw [if_neg hpos, hj]; rfl)
    rw [hct] at CC
    clear a ok hbd
    go_enter Try.func109, Try.ntmps109
    go_upto_region 3 with (first
      | (go_at_call 126; refine (CO.out _).mono ?_; rintro e X ⟨rfl, hb⟩))
    have aX := AA.out.below hb
    obtain ⟨c0, c1, c2, c3, c4, c5, c6, c7, c8, c9, c10, c11, c12, c13, c14, c15, c16, fz⟩ := aX.cells
    go_wp2_with (go_at_call 128; refine (CC.out _).mono ?_; rintro e X2 ⟨rfl, rfl⟩)
    (try simp only [Exit.inBlock, Exit.then]); refine bodyPost_ret (results_none rfl _ _ _) rfl ?_
    exact ⟨rfl, by rw [HT.out]; exact aX.put 14 (.bool false) hv t.off rfl rfl rfl rfl, (Only.on hb).trans (set_only _ _ _ _).ob⟩
  | false =>
    have hj : joinB (r : Int) = true := by unfold joinB; rw [hz0, hct, hi]; rfl
    rw [hct] at CC
    have HRO := Lib.hid ok.ro
    have HOK := Lib.hid ok.ok
    have CB := Lib.hid (fun (X : World) => rbytes_at r hr hi X)
    cases hl : t.last with
    | false =>
      have HT : Hid (t.rune r = t) := Lib.hid (by unfold TS.rune; rw [if_neg hpos, hj, hl]; rfl)
      clear a ok hbd
      go_enter Try.func109, Try.ntmps109
      go_upto_region 3 with (first
        | (go_at_call 126; refine (CO.out _).mono ?_; rintro e X ⟨rfl, hb⟩))
      have aX := AA.out.below hb
      obtain ⟨c0, c1, c2, c3, c4, c5, c6, c7, c8, c9, c10, c11, c12, c13, c14, c15, c16, fz⟩ := aX.cells
      rw [hl] at c14
      go_wp2_with (go_at_call 128; refine (CC.out _).mono ?_; rintro e X2 ⟨rfl, rfl⟩)
      go_end0
      exact ⟨rfl, by rw [HT.out]; exact aX, Only.on hb⟩
    | true =>
      have HT : Hid (t.rune r = { t with R := joinR t.W t.H t.R t.lrow t.lcol (S (bytesN r)) }) := Lib.hid (by unfold TS.rune; rw [if_neg hpos, hj, hl]; rfl)
      clear a ok hbd
      go_enter Try.func109, Try.ntmps109
      go_upto_region 3 with (first
        | (go_at_call 126; refine (CO.out _).mono ?_; rintro e X ⟨rfl, hb⟩))
      have aX := AA.out.below hb
      obtain ⟨c0, c1, c2, c3, c4, c5, c6, c7, c8, c9, c10, c11, c12, c13, c14, c15, c16, fz⟩ := aX.cells
      rw [hl] at c14
      have hbl : PBk X b (pCells hv p t) := aX.blk
      have dB : Below X.heap.size X X.drew := (Below.refl _ _).drew
      have CV := Lib.hid (fun W => conv_newB W (bytesN r))
      go_wp2_with (go_at_call 128; refine (CC.out _).mono ?_; rintro e X2 ⟨rfl, rfl⟩)
      refine wp_region_mix2 [(true, 0), (true, 1), (true, 2), (true, 3), (true, 4), (true, 5), (true, 6), (true, 7), (true, 8), (true, 9), (true, 10), (true, 11), (true, 12), (true, 13), (true, 14), (false, 15), (false, 16), (false, 17)] (fun w' => PBk w' b (pCells hv p t)) (by kernel_rfl) (by kernel_rfl) (by rfl) (by kernel_rfl) (by kernel_rfl) (fun _ _ d _ _ h => by cases d <;> exact h) (hbl.below dB) ?_
      simp only [mixL, List.getElem?_cons_succ, List.getElem?_cons_zero]
      repeat (refine' wpMix2_read (v := _) rfl ?_ ?_; rotate_left 1; (intro w' hw'; obtain ⟨c0, c1, c2, c3, c4, c5, c6, c7, c8, c9, c10, c11, c12, c13, c14, c15, c16, fz⟩ := hw'.cells; go_simp; try with_reducible rfl); try simp only [Act.put, List.setIfInBounds_toArray, List.set_cons_zero, List.set_cons_succ])
      refine wpMix2_act (fun K hK => ?_)
      go_wp2_with fail
      refine (CB.out _).mono ?_
      rintro e w5 ⟨k, hk, rfl, hw5⟩
      have hcv : (convert 67 9 (.slice (some ⟨X.heap.size, 0, none⟩) k k)).run Try.prog w5 = .ok (.string (S (bytesN r))) w5 := by subst hk; rw [← hw5]; exact CV.out X.drew
      have hb5 : Below X.heap.size X w5 := by rw [← hw5]; exact ((Below.refl X.heap.size X).drew).alloc (Nat.le_refl _) _
      have HCV := Lib.hid hcv
      clear hk hw5 hcv
      go_wp2
      refine hK _ _ (hbl.below hb5) ?_
      clear hK K
      refine wpMix2_act (fun K hK => ?_)
      have hcv := HCV.out
      go_wp2
      refine hK _ _ (hbl.below hb5) ?_
      clear hK K hcv
      refine wpMix2_act (fun K hK => ?_)
      have a5 := aX.below hb5
      have CJ := Lib.hid (join_any a5.g HRO.out.flat (t.lrow : Int) (t.lcol : Int) (S (bytesN r)))
      go_wp2_with fail
      refine (CJ.out).mono ?_
      rintro e w6 ⟨rfl, g6, o6⟩
      rw [← HOK.out.join_flat] at g6
      have a6 := a5.grid o6 _ g6
      have hbl6 : PBk w6 b (pCells hv p t) := a6.blk
      go_wp2
      refine hK _ _ hbl6 ?_
      clear hK K
      refine wpMix2_nil ?_
      go_wp2
      go_end0
      exact ⟨rfl, by rw [HT.out]; exact a6, (Only.on hb).trans ((Only.on hb5).trans o6.oq)⟩
end Go.Proofs.Ytekodpcedjpnjaa
