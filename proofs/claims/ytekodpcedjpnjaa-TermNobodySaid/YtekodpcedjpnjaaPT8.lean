/- The program's terminal: move. No condition. -/
import Derived.Test.YtekodpcedjpnjaaPT7
namespace Go.Proofs.Ytekodpcedjpnjaa
set_option linter.unusedVariables false
set_option linter.unusedSimpArgs false
open Go.RowKit Go.Maps
/-- A move of the cursor. -/
def TS.mv (t : TS) (n m : Nat) (e : Nat) : TS :=
  if e = 65 then t.moved (t.row - max 1 (n : Int)) t.col
  else if e = 66 then t.moved (t.row + max 1 (n : Int)) t.col
  else if e = 67 then t.moved t.row (t.col + max 1 (n : Int))
  else if e = 68 then t.moved t.row (t.col - max 1 (n : Int))
  else if e = 71 then t.moved t.row (max 1 (n : Int) - 1)
  else if e = 72 then t.moved (max 1 (n : Int) - 1) (max 1 (m : Int) - 1)
  else t
set_option maxRecDepth 100000 in
set_option maxHeartbeats 4000000 in
theorem pmove65 {W : World} {b p q : Nat} {hv : Value} {t : TS} (a : TmAt W b p q hv t) (ok : TO0 t) (n m : Int) (hn : 0 ≤ n ∧ n ≤ 9999) (hm : 0 ≤ m ∧ m ≤ 9999) (N M : Int) (hN : N = max 1 n) (hM : M = max 1 m) :
    Calls Try.prog 159 #[.pointer (some ⟨b, 0, none⟩), .int .i64 n, .int .i64 m, .int .u8 65] W (TmPost b p q hv (t.moved ((t.row : Int) - N) (t.col : Int)) W) := by
  have hN2 : 1 ≤ N ∧ N ≤ 9999 := by omega
  have hM2 : 1 ≤ M ∧ M ≤ 9999 := by omega
  have HN := Lib.hid hN
  have HM := Lib.hid hM
  clear hM
  replace hN := hN.symm
  obtain ⟨c0, c1, c2, c3, c4, c5, c6, c7, c8, c9, c10, c11, c12, c13, c14, c15, c16, fz⟩ := a.cells
  have CS := Lib.hid (gsize_any a.g)
  have AA := Lib.hid a
  have OK := Lib.hid ok
  have hh2 := ok.h2
  have hh1 := ok.h1
  have hw1 := ok.w1
  have hw2 := ok.w2
  have hrow := ok.row
  have hcol := ok.col
  clear a ok
  go_enter Try.func159, Try.ntmps159
  have dB : Below W.heap.size W W.drew := (Below.refl _ _).drew
  have aD := AA.out.below dB
  have hbl : PBk W b (pCells hv p t) := AA.out.blk
  have CM := Lib.hid (pmoveTo_any aD OK.out ((t.row : Int) - N) (t.col : Int) (by omega) (by omega))
  go_wp2_with fail
  refine wp_region_mixT 8 [(true, 0), (true, 1), (true, 2), (true, 3), (true, 4), (true, 5), (true, 6), (true, 7), (true, 8), (true, 9), (true, 10), (false, 11)] (fun w' => PBk w' b (pCells hv p t)) (by kernel_rfl) (by kernel_rfl) (by rfl) (by kernel_rfl) (by kernel_rfl) (fun _ _ d _ _ h => by cases d <;> exact h) (hbl.below dB) ?_
  simp only [mixL, List.getElem?_cons_succ, List.getElem?_cons_zero]
  repeat (refine' wpMix_read (v := _) rfl ?_ ?_; rotate_left 1; (intro w' hw'; obtain ⟨c0, c1, c2, c3, c4, c5, c6, c7, c8, c9, c10, c11, c12, c13, c14, c15, c16, fz⟩ := hw'.cells; go_simp; try with_reducible rfl); try simp only [Act.put, List.setIfInBounds_toArray, List.set_cons_zero, List.set_cons_succ])
  refine wpMix_act (fun K hK => ?_)
  go_wp2_with fail
  refine (CM.out).mono ?_
  rintro e Y ⟨rfl, aY, oY⟩
  go_wp2
  refine hK _ _ (fun h => absurd rfl h) ?_
  clear hK K
  refine wpMix_nil ?_
  go_wp2
  go_end0
  exact ⟨rfl, aY, (Only.on dB).trans oY⟩
set_option maxRecDepth 100000 in
set_option maxHeartbeats 4000000 in
theorem pmove66 {W : World} {b p q : Nat} {hv : Value} {t : TS} (a : TmAt W b p q hv t) (ok : TO0 t) (n m : Int) (hn : 0 ≤ n ∧ n ≤ 9999) (hm : 0 ≤ m ∧ m ≤ 9999) (N M : Int) (hN : N = max 1 n) (hM : M = max 1 m) :
    Calls Try.prog 159 #[.pointer (some ⟨b, 0, none⟩), .int .i64 n, .int .i64 m, .int .u8 66] W (TmPost b p q hv (t.moved ((t.row : Int) + N) (t.col : Int)) W) := by
  have hN2 : 1 ≤ N ∧ N ≤ 9999 := by omega
  have hM2 : 1 ≤ M ∧ M ≤ 9999 := by omega
  have HN := Lib.hid hN
  have HM := Lib.hid hM
  clear hM
  replace hN := hN.symm
  obtain ⟨c0, c1, c2, c3, c4, c5, c6, c7, c8, c9, c10, c11, c12, c13, c14, c15, c16, fz⟩ := a.cells
  have CS := Lib.hid (gsize_any a.g)
  have AA := Lib.hid a
  have OK := Lib.hid ok
  have hh2 := ok.h2
  have hh1 := ok.h1
  have hw1 := ok.w1
  have hw2 := ok.w2
  have hrow := ok.row
  have hcol := ok.col
  clear a ok
  go_enter Try.func159, Try.ntmps159
  have dB : Below W.heap.size W W.drew := (Below.refl _ _).drew
  have aD := AA.out.below dB
  have hbl : PBk W b (pCells hv p t) := AA.out.blk
  have CM := Lib.hid (pmoveTo_any aD OK.out ((t.row : Int) + N) (t.col : Int) (by omega) (by omega))
  go_wp2_with fail
  refine wp_region_mixT 8 [(true, 0), (true, 1), (true, 2), (true, 3), (true, 4), (true, 5), (true, 6), (true, 7), (true, 8), (true, 9), (true, 10), (false, 11)] (fun w' => PBk w' b (pCells hv p t)) (by kernel_rfl) (by kernel_rfl) (by rfl) (by kernel_rfl) (by kernel_rfl) (fun _ _ d _ _ h => by cases d <;> exact h) (hbl.below dB) ?_
  simp only [mixL, List.getElem?_cons_succ, List.getElem?_cons_zero]
  repeat (refine' wpMix_read (v := _) rfl ?_ ?_; rotate_left 1; (intro w' hw'; obtain ⟨c0, c1, c2, c3, c4, c5, c6, c7, c8, c9, c10, c11, c12, c13, c14, c15, c16, fz⟩ := hw'.cells; go_simp; try with_reducible rfl); try simp only [Act.put, List.setIfInBounds_toArray, List.set_cons_zero, List.set_cons_succ])
  refine wpMix_act (fun K hK => ?_)
  go_wp2_with fail
  refine (CM.out).mono ?_
  rintro e Y ⟨rfl, aY, oY⟩
  go_wp2
  refine hK _ _ (fun h => absurd rfl h) ?_
  clear hK K
  refine wpMix_nil ?_
  go_wp2
  go_end0
  exact ⟨rfl, aY, (Only.on dB).trans oY⟩
set_option maxRecDepth 100000 in
set_option maxHeartbeats 4000000 in
theorem pmove67 {W : World} {b p q : Nat} {hv : Value} {t : TS} (a : TmAt W b p q hv t) (ok : TO0 t) (n m : Int) (hn : 0 ≤ n ∧ n ≤ 9999) (hm : 0 ≤ m ∧ m ≤ 9999) (N M : Int) (hN : N = max 1 n) (hM : M = max 1 m) :
    Calls Try.prog 159 #[.pointer (some ⟨b, 0, none⟩), .int .i64 n, .int .i64 m, .int .u8 67] W (TmPost b p q hv (t.moved (t.row : Int) ((t.col : Int) + N)) W) := by
  have hN2 : 1 ≤ N ∧ N ≤ 9999 := by omega
  have hM2 : 1 ≤ M ∧ M ≤ 9999 := by omega
  have HN := Lib.hid hN
  have HM := Lib.hid hM
  clear hM
  replace hN := hN.symm
  obtain ⟨c0, c1, c2, c3, c4, c5, c6, c7, c8, c9, c10, c11, c12, c13, c14, c15, c16, fz⟩ := a.cells
  have CS := Lib.hid (gsize_any a.g)
  have AA := Lib.hid a
  have OK := Lib.hid ok
  have hh2 := ok.h2
  have hh1 := ok.h1
  have hw1 := ok.w1
  have hw2 := ok.w2
  have hrow := ok.row
  have hcol := ok.col
  clear a ok
  go_enter Try.func159, Try.ntmps159
  have dB : Below W.heap.size W W.drew := (Below.refl _ _).drew
  have aD := AA.out.below dB
  have hbl : PBk W b (pCells hv p t) := AA.out.blk
  have CM := Lib.hid (pmoveTo_any aD OK.out (t.row : Int) ((t.col : Int) + N) (by omega) (by omega))
  go_wp2_with fail
  refine wp_region_mixT 8 [(true, 0), (true, 1), (true, 2), (true, 3), (true, 4), (true, 5), (true, 6), (true, 7), (true, 8), (true, 9), (true, 10), (false, 11)] (fun w' => PBk w' b (pCells hv p t)) (by kernel_rfl) (by kernel_rfl) (by rfl) (by kernel_rfl) (by kernel_rfl) (fun _ _ d _ _ h => by cases d <;> exact h) (hbl.below dB) ?_
  simp only [mixL, List.getElem?_cons_succ, List.getElem?_cons_zero]
  repeat (refine' wpMix_read (v := _) rfl ?_ ?_; rotate_left 1; (intro w' hw'; obtain ⟨c0, c1, c2, c3, c4, c5, c6, c7, c8, c9, c10, c11, c12, c13, c14, c15, c16, fz⟩ := hw'.cells; go_simp; try with_reducible rfl); try simp only [Act.put, List.setIfInBounds_toArray, List.set_cons_zero, List.set_cons_succ])
  refine wpMix_act (fun K hK => ?_)
  go_wp2_with fail
  refine (CM.out).mono ?_
  rintro e Y ⟨rfl, aY, oY⟩
  go_wp2
  refine hK _ _ (fun h => absurd rfl h) ?_
  clear hK K
  refine wpMix_nil ?_
  go_wp2
  go_end0
  exact ⟨rfl, aY, (Only.on dB).trans oY⟩
set_option maxRecDepth 100000 in
set_option maxHeartbeats 4000000 in
theorem pmove68 {W : World} {b p q : Nat} {hv : Value} {t : TS} (a : TmAt W b p q hv t) (ok : TO0 t) (n m : Int) (hn : 0 ≤ n ∧ n ≤ 9999) (hm : 0 ≤ m ∧ m ≤ 9999) (N M : Int) (hN : N = max 1 n) (hM : M = max 1 m) :
    Calls Try.prog 159 #[.pointer (some ⟨b, 0, none⟩), .int .i64 n, .int .i64 m, .int .u8 68] W (TmPost b p q hv (t.moved (t.row : Int) ((t.col : Int) - N)) W) := by
  have hN2 : 1 ≤ N ∧ N ≤ 9999 := by omega
  have hM2 : 1 ≤ M ∧ M ≤ 9999 := by omega
  have HN := Lib.hid hN
  have HM := Lib.hid hM
  clear hM
  replace hN := hN.symm
  obtain ⟨c0, c1, c2, c3, c4, c5, c6, c7, c8, c9, c10, c11, c12, c13, c14, c15, c16, fz⟩ := a.cells
  have CS := Lib.hid (gsize_any a.g)
  have AA := Lib.hid a
  have OK := Lib.hid ok
  have hh2 := ok.h2
  have hh1 := ok.h1
  have hw1 := ok.w1
  have hw2 := ok.w2
  have hrow := ok.row
  have hcol := ok.col
  clear a ok
  go_enter Try.func159, Try.ntmps159
  have dB : Below W.heap.size W W.drew := (Below.refl _ _).drew
  have aD := AA.out.below dB
  have hbl : PBk W b (pCells hv p t) := AA.out.blk
  have CM := Lib.hid (pmoveTo_any aD OK.out (t.row : Int) ((t.col : Int) - N) (by omega) (by omega))
  go_wp2_with fail
  refine wp_region_mixT 8 [(true, 0), (true, 1), (true, 2), (true, 3), (true, 4), (true, 5), (true, 6), (true, 7), (true, 8), (true, 9), (true, 10), (false, 11)] (fun w' => PBk w' b (pCells hv p t)) (by kernel_rfl) (by kernel_rfl) (by rfl) (by kernel_rfl) (by kernel_rfl) (fun _ _ d _ _ h => by cases d <;> exact h) (hbl.below dB) ?_
  simp only [mixL, List.getElem?_cons_succ, List.getElem?_cons_zero]
  repeat (refine' wpMix_read (v := _) rfl ?_ ?_; rotate_left 1; (intro w' hw'; obtain ⟨c0, c1, c2, c3, c4, c5, c6, c7, c8, c9, c10, c11, c12, c13, c14, c15, c16, fz⟩ := hw'.cells; go_simp; try with_reducible rfl); try simp only [Act.put, List.setIfInBounds_toArray, List.set_cons_zero, List.set_cons_succ])
  refine wpMix_act (fun K hK => ?_)
  go_wp2_with fail
  refine (CM.out).mono ?_
  rintro e Y ⟨rfl, aY, oY⟩
  go_wp2
  refine hK _ _ (fun h => absurd rfl h) ?_
  clear hK K
  refine wpMix_nil ?_
  go_wp2
  go_end0
  exact ⟨rfl, aY, (Only.on dB).trans oY⟩
set_option maxRecDepth 100000 in
set_option maxHeartbeats 4000000 in
theorem pmove71 {W : World} {b p q : Nat} {hv : Value} {t : TS} (a : TmAt W b p q hv t) (ok : TO0 t) (n m : Int) (hn : 0 ≤ n ∧ n ≤ 9999) (hm : 0 ≤ m ∧ m ≤ 9999) (N M : Int) (hN : N = max 1 n) (hM : M = max 1 m) :
    Calls Try.prog 159 #[.pointer (some ⟨b, 0, none⟩), .int .i64 n, .int .i64 m, .int .u8 71] W (TmPost b p q hv (t.moved (t.row : Int) (N - 1)) W) := by
  have hN2 : 1 ≤ N ∧ N ≤ 9999 := by omega
  have hM2 : 1 ≤ M ∧ M ≤ 9999 := by omega
  have HN := Lib.hid hN
  have HM := Lib.hid hM
  clear hM
  replace hN := hN.symm
  obtain ⟨c0, c1, c2, c3, c4, c5, c6, c7, c8, c9, c10, c11, c12, c13, c14, c15, c16, fz⟩ := a.cells
  have CS := Lib.hid (gsize_any a.g)
  have AA := Lib.hid a
  have OK := Lib.hid ok
  have hh2 := ok.h2
  have hh1 := ok.h1
  have hw1 := ok.w1
  have hw2 := ok.w2
  have hrow := ok.row
  have hcol := ok.col
  clear a ok
  go_enter Try.func159, Try.ntmps159
  have CM := Lib.hid (pmoveTo_any AA.out OK.out (t.row : Int) (N - 1) (by omega) (by omega))
  go_wp2_with (go_at_call 86; refine (CM.out).mono ?_; rintro e Y ⟨rfl, aY, oY⟩)
  go_end0
  exact ⟨rfl, aY, oY⟩
set_option maxRecDepth 100000 in
set_option maxHeartbeats 4000000 in
theorem pmove72 {W : World} {b p q : Nat} {hv : Value} {t : TS} (a : TmAt W b p q hv t) (ok : TO0 t) (n m : Int) (hn : 0 ≤ n ∧ n ≤ 9999) (hm : 0 ≤ m ∧ m ≤ 9999) (N M : Int) (hN : N = max 1 n) (hM : M = max 1 m) :
    Calls Try.prog 159 #[.pointer (some ⟨b, 0, none⟩), .int .i64 n, .int .i64 m, .int .u8 72] W (TmPost b p q hv (t.moved (N - 1) (M - 1)) W) := by
  have hN2 : 1 ≤ N ∧ N ≤ 9999 := by omega
  have hM2 : 1 ≤ M ∧ M ≤ 9999 := by omega
  have HN := Lib.hid hN
  have HM := Lib.hid hM
  clear hM
  replace hN := hN.symm
  have hM := HM.out.symm
  obtain ⟨c0, c1, c2, c3, c4, c5, c6, c7, c8, c9, c10, c11, c12, c13, c14, c15, c16, fz⟩ := a.cells
  have CS := Lib.hid (gsize_any a.g)
  have AA := Lib.hid a
  have OK := Lib.hid ok
  have hh2 := ok.h2
  have hh1 := ok.h1
  have hw1 := ok.w1
  have hw2 := ok.w2
  have hrow := ok.row
  have hcol := ok.col
  clear a ok
  go_enter Try.func159, Try.ntmps159
  have CM := Lib.hid (pmoveTo_any AA.out OK.out (N - 1) (M - 1) (by omega) (by omega))
  go_wp2_with (go_at_call 86; refine (CM.out).mono ?_; rintro e Y ⟨rfl, aY, oY⟩)
  go_end0
  exact ⟨rfl, aY, oY⟩
set_option maxRecDepth 100000 in
set_option maxHeartbeats 4000000 in
theorem pmoveN {W : World} {b p q : Nat} {hv : Value} {t : TS} (a : TmAt W b p q hv t) (ok : TO0 t) (n m : Int) (hn : 0 ≤ n ∧ n ≤ 9999) (hm : 0 ≤ m ∧ m ≤ 9999) (e : Nat) (he : e < 256) (k65 : ((e : Int) == 65) = false) (k66 : ((e : Int) == 66) = false) (k67 : ((e : Int) == 67) = false) (k68 : ((e : Int) == 68) = false) (k71 : ((e : Int) == 71) = false) (k72 : ((e : Int) == 72) = false) :
    Calls Try.prog 159 #[.pointer (some ⟨b, 0, none⟩), .int .i64 n, .int .i64 m, .int .u8 (e : Int)] W (TmPost b p q hv t W) := by
  obtain ⟨c0, c1, c2, c3, c4, c5, c6, c7, c8, c9, c10, c11, c12, c13, c14, c15, c16, fz⟩ := a.cells
  have CS := Lib.hid (gsize_any a.g)
  have AA := Lib.hid a
  have OK := Lib.hid ok
  have hh2 := ok.h2
  have hh1 := ok.h1
  have hw1 := ok.w1
  have hw2 := ok.w2
  have hrow := ok.row
  have hcol := ok.col
  clear a ok
  go_enter Try.func159, Try.ntmps159
  go_wp2
  go_end0
  exact ⟨rfl, AA.out, Only.refl _ _⟩
theorem pmove_any {W : World} {b p q : Nat} {hv : Value} {t : TS} (a : TmAt W b p q hv t) (ok : TO0 t) (n m : Nat) (hn : n ≤ 9999) (hm : m ≤ 9999) (e : Nat) (he : e < 256) :
    Calls Try.prog 159 #[.pointer (some ⟨b, 0, none⟩), .int .i64 (n : Int), .int .i64 (m : Int), .int .u8 (e : Int)] W (TmPost b p q hv (t.mv n m e) W) := by
  unfold TS.mv
  by_cases h65 : e = 65
  · subst h65; rw [if_pos rfl]; exact pmove65 a ok n m (by omega) (by omega) _ _ rfl rfl
  rw [if_neg h65]
  by_cases h66 : e = 66
  · subst h66; rw [if_pos rfl]; exact pmove66 a ok n m (by omega) (by omega) _ _ rfl rfl
  rw [if_neg h66]
  by_cases h67 : e = 67
  · subst h67; rw [if_pos rfl]; exact pmove67 a ok n m (by omega) (by omega) _ _ rfl rfl
  rw [if_neg h67]
  by_cases h68 : e = 68
  · subst h68; rw [if_pos rfl]; exact pmove68 a ok n m (by omega) (by omega) _ _ rfl rfl
  rw [if_neg h68]
  by_cases h71 : e = 71
  · subst h71; rw [if_pos rfl]; exact pmove71 a ok n m (by omega) (by omega) _ _ rfl rfl
  rw [if_neg h71]
  by_cases h72 : e = 72
  · subst h72; rw [if_pos rfl]; exact pmove72 a ok n m (by omega) (by omega) _ _ rfl rfl
  rw [if_neg h72]
  exact pmoveN a ok n m (by omega) (by omega) e he (by simp; omega) (by simp; omega) (by simp; omega) (by simp; omega) (by simp; omega) (by simp; omega)
end Go.Proofs.Ytekodpcedjpnjaa
