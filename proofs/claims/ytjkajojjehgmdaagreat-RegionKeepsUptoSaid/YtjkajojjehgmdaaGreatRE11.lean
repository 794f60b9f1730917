/- The contracts of isMark, isBase, and of the builder of clusters. The contract of the builder's add. The contract of Cut: a text's clusters. -/
import Derived.Deep.RegionHeldLaw
import Derived.Deep.AppendLies
import Derived.Outline
import Derived.Test.YtjkajojjehgmdaaGreatRE04
import Derived.Test.YtjkajojjehgmdaaGreatRE10
set_option linter.unusedVariables false
set_option linter.unusedSimpArgs false
namespace Go.Proofs.YtjkajojjehgmdaaGreat
open Go.RowKit Go.Shelf Go.Maps
set_option maxRecDepth 100000 in
theorem isMark_any (r : Int) (w : World) : Calls Tryz.prog 185 #[.int .i32 r] w fun e w' => e = .returned (.bool (joinB r)) ∧ Below w.heap.size w w' := by
 have C := of_any r w
 have CC := fun W => control_any r W
 have hz := cols_bd r
 obtain ⟨z, hj⟩ : ∃ z, z = joinB r := ⟨_, rfl⟩
 rw [← hj]
 unfold joinB at hj
 obtain ⟨c, hc⟩ : ∃ c, c = colsB r := ⟨_, rfl⟩
 rw [← hc] at C hz hj
 clear hc
 have C := Lib.hid C
 by_cases h0 : c = 0
 ·subst h0
  cases hk : ctrlB r with
  | true =>
   rw [hk] at CC hj
   have CC := Lib.hid CC
   simp only [decide_true, Bool.not_true, Bool.and_false] at hj
   subst hj
   clear hk
   go_enter Tryz.func185, Tryz.ntmps185
   go_wp2_with (first
    | (go_at_call 138; refine (C.out).mono ?_; rintro e w1 ⟨rfl, hb1⟩)
    | (go_at_call 162; refine (CC.out _).mono ?_; rintro e w2 ⟨rfl, rfl⟩))
   go_ret
   exact ⟨rfl, hb1⟩
  | false =>
   rw [hk] at CC hj
   have CC := Lib.hid CC
   simp only [decide_true, Bool.not_false, Bool.and_true, Bool.true_and] at hj
   have HJ := Lib.hid hj
   clear hk hj
   go_enter Tryz.func185, Tryz.ntmps185
   go_wp2_with (first
    | (go_at_call 138; refine (C.out).mono ?_; rintro e w1 ⟨rfl, hb1⟩)
    | (go_at_call 162; refine (CC.out _).mono ?_; rintro e w2 ⟨rfl, rfl⟩))
   all_goals go_ret
   all_goals refine ⟨ret_bool ?_, hb1⟩
   all_goals rw [HJ.out]
   all_goals unfold isR
   all_goals first | exact (decide_eq_true (by omega)).symm | exact (decide_eq_false (by omega)).symm | (rw [Bool.eq_iff_iff]; simp only [decide_eq_true_eq, Bool.or_eq_true, Bool.and_eq_true]; omega)
 ·have hd : decide (c = 0) = false := by simpa using h0
  have hne : (c != 0) = true := by simpa using h0
  rw [hd, Bool.false_and] at hj
  subst hj
  clear hd h0
  go_enter Tryz.func185, Tryz.ntmps185
  go_wp2_with (go_at_call 138; refine (C.out).mono ?_; rintro e w1 ⟨rfl, hb1⟩)
  go_ret
  exact ⟨rfl, hb1⟩
theorem isBase_any (r : Int) (w : World) : Calls Tryz.prog 183 #[.int .i32 r] w fun e w' => e = .returned (.bool (decide (0 < colsB r))) ∧ Below w.heap.size w w' := by
 have C := of_any r w
 obtain ⟨c, hc⟩ : ∃ c, c = colsB r := ⟨_, rfl⟩
 rw [← hc] at C ⊢
 have C := Lib.hid C
 clear hc
 go_enter Tryz.func183, Tryz.ntmps183
 go_wp2_with (go_at_call 138; refine (C.out).mono ?_; rintro e w1 ⟨rfl, hb1⟩)
 go_ret
 exact ⟨rfl, hb1⟩
theorem infoU8c : (Tryz.prog.info? 5).map (fun i => (i.zero, i.size, i.bytes)) = some (some (.int .u8 0), 1, 1) := by kernel_rfl
theorem infoStrc : (Tryz.prog.info? 9).map (fun i => (i.zero, i.size, i.bytes)) = some (some (.string ⟨#[]⟩), 1, 16) := by kernel_rfl
def strV (l : List (List UInt8)) : List Value := l.map fun s => .string (S s)
theorem strV_snoc (l : List (List UInt8)) (s : List UInt8) : strV (l ++ [s]) = strV l ++ [Value.string (S s)] := by simp [strV]
theorem u8v_append (a b : List UInt8) : u8v (a ++ b) = u8v a ++ u8v b := by simp [u8v]
structure Bld (n₀ B : Nat) (W : World) (d n : Value) (done : List (List UInt8)) (now : List UInt8) (o : Bool) : Prop where
 blk : W.heap[B]? = some (.cells #[d, n, .bool o] 221 (0, 0))
 lt : B < n₀
 le : n₀ ≤ W.heap.size
 od : W.ownsRow n₀ 9 1 d done.length (strV done)
 on : W.ownsRow n₀ 5 1 n now.length (u8v now)
theorem Bld.cells {n₀ B : Nat} {W : World} {d n : Value} {done : List (List UInt8)} {now : List UInt8} {o : Bool} (h : Bld n₀ B W d n done now o) :
    (W.cell? ⟨B, 0, none⟩ = some d ∧ W.cell? ⟨B, 1, none⟩ = some n ∧ W.cell? ⟨B, 2, none⟩ = some (.bool o)) ∧ (W.frozen? ⟨B, 0, none⟩ = false ∧ W.frozen? ⟨B, 1, none⟩ = false ∧ W.frozen? ⟨B, 2, none⟩ = false) := by
 have hb := h.blk
 unfold World.cell? World.frozen?
 dsimp only
 rw [hb]
 exact ⟨⟨rfl, rfl, rfl⟩, by simp⟩
theorem Bld.drew {n₀ B : Nat} {W : World} {d n : Value} {done : List (List UInt8)} {now : List UInt8} {o : Bool} (h : Bld n₀ B W d n done now o) : Bld n₀ B W.drew d n done now o := ⟨h.blk, h.lt, h.le, h.od, h.on⟩
theorem Bld.kept {n₀ B : Nat} {W W' : World} {d n : Value} {done : List (List UInt8)} {now : List UInt8} {o : Bool} (h : Bld n₀ B W d n done now o) {row : Option Nat} (hg : W.grownBy W' row) (hr : ∀ k, row = some k → k ≠ B ∧ n₀ ≤ k → ∃ o : Obj, W.heap[k]? = some o ∧ o.isCells = false) (hB : row ≠ some B) : Bld n₀ B W' d n done now o := by
 have hb : ∀ v : Value, ∀ e sz k xs, W.ownsRow n₀ e sz v k xs → W'.ownsRow n₀ e sz v k xs := fun v e sz k xs ho => by
  refine ho.kept hg ?_
  cases hv : v.ownBlock with
  | none => exact .inl rfl
  | some q =>
   refine .inr (fun e' => ?_)
   obtain ⟨h1, cur, h2⟩ := own_cells ho q hv
   obtain ⟨o, h3, h4⟩ := hr q e'.symm ⟨by have := h.lt; omega, h1⟩
   rw [h2] at h3; cases h3; cases h4
 exact ⟨(hg.block B (by have := h.lt; have := h.le; omega) (fun e => hB e.symm)).trans h.blk, h.lt, Nat.le_trans h.le hg.size, hb _ _ _ _ _ h.od, hb _ _ _ _ _ h.on⟩
theorem Bld.below {n₀ B : Nat} {W W' : World} {d n : Value} {done : List (List UInt8)} {now : List UInt8} {o : Bool} (h : Bld n₀ B W d n done now o) (hb : Below W.heap.size W W') : Bld n₀ B W' d n done now o :=
 h.kept (grown_of_below hb) (fun k e _ => by cases e) (fun e => by cases e)
theorem grownBy_set (W : World) (B off : Nat) (v : Value) : W.grownBy (W.setCell ⟨B, off, none⟩ v) (some B) :=
 ⟨rfl, rfl, rfl, by simp [World.setCell], fun k _ hne => Below.heap_setCell _ _ _ _ (fun e => hne (congrArg some e))⟩
theorem own_set {W : World} {n₀ B off : Nat} {e : TypeId} {size : Nat} {v : Value} {n : Nat} {xs : List Value} (h : W.ownsRow n₀ e size v n xs) (hB : B < n₀) (u : Value) : (W.setCell ⟨B, off, none⟩ u).ownsRow n₀ e size v n xs :=
 own_but h (grownBy_set W B off u) (fun k e => .inl (by cases e; exact hB))
theorem own_zero {W : World} {n₀ : Nat} {e : TypeId} {a : Option Addr} {n c : Nat} {xs : List Value} (h : W.ownsRow n₀ e 1 (.slice a n c) n xs) : W.ownsRow n₀ e 1 (.slice a 0 c) 0 [] := by
 rcases h.2 with ⟨h1, h0⟩ | ⟨g, cap, cur, h1, hg, hc, h2, h3, h4, _⟩
 ·simp only [Value.slice.injEq] at h1
  obtain ⟨rfl, _, rfl⟩ := h1
  exact World.ownsRow_nil _ _ _ _
 ·simp only [Value.slice.injEq] at h1
  obtain ⟨rfl, _, rfl⟩ := h1
  exact ⟨rfl, .inr ⟨g, c, cur, rfl, hg, hc, Nat.zero_le _, h3, h4, by simp⟩⟩
def BldPost (n₀ B : Nat) (W : World) (done : List (List UInt8)) (now : List UInt8) (o : Bool) (e : Ending) (w' : World) : Prop :=
 e = .returned (.tuple #[]) ∧ ∃ d n, Bld n₀ B w' d n done now o ∧ But n₀ B W w'
theorem Bld.set1 {n₀ B : Nat} {W : World} {d n : Value} {done : List (List UInt8)} {now : List UInt8} {o : Bool} (h : Bld n₀ B W d n done now o) (n' : Value) (now' : List UInt8) (hn : W.ownsRow n₀ 5 1 n' now'.length (u8v now')) : Bld n₀ B (W.setCell ⟨B, 1, none⟩ n') d n' done now' o :=
 ⟨(heap_setCell_same _ _ _ _ _ _ h.blk).trans rfl, h.lt, by simp [World.setCell]; exact h.le, own_set h.od h.lt _, own_set hn h.lt _⟩
theorem Bld.set2 {n₀ B : Nat} {W : World} {d n : Value} {done : List (List UInt8)} {now : List UInt8} {o : Bool} (h : Bld n₀ B W d n done now o) (o' : Bool) : Bld n₀ B (W.setCell ⟨B, 2, none⟩ (.bool o')) d n done now o' :=
 ⟨(heap_setCell_same _ _ _ _ _ _ h.blk).trans rfl, h.lt, by simp [World.setCell]; exact h.le, own_set h.od h.lt _, own_set h.on h.lt _⟩
set_option maxRecDepth 100000 in
theorem end_no (n₀ B : Nat) (W : World) (d n : Value) (done : List (List UInt8)) (now : List UInt8) (h : Bld n₀ B W d n done now false) :
    Calls Tryz.prog 164 #[.pointer (some ⟨B, 0, none⟩)] W (BldPost n₀ B W done [] false) := by
 obtain ⟨⟨c0, c1, c2⟩, f0, f1, f2⟩ := h.cells
 rcases own_shape h.on with ⟨rfl, h0⟩ | ⟨g, c, rfl, hnc, _, _⟩
 ·have H0 := Lib.hid h0
  clear h0
  go_enter Tryz.func164, Tryz.ntmps164
  go_wp2
  go_end0
  exact ⟨rfl, d, .slice none 0 0, (h.set1 _ [] (World.ownsRow_nil _ _ _ _)).set2 false, ((But.refl _ _ _).setCell _ _).setCell _ _⟩
 ·go_enter Tryz.func164, Tryz.ntmps164
  go_wp2
  go_end0
  exact ⟨rfl, d, .slice (some ⟨g, 0, none⟩) 0 c, (h.set1 _ [] (own_zero h.on)).set2 false, ((But.refl _ _ _).setCell _ _).setCell _ _⟩
theorem strV_len (l : List (List UInt8)) : (strV l).length = l.length := by simp [strV]
theorem u8v_len (l : List UInt8) : (u8v l).length = l.length := by simp [u8v]
theorem strOfNums_Sc (l : List UInt8) : strOfNums (l.map fun b => (b.toNat : Int)) = S l := by
 unfold strOfNums S
 rw [List.map_map]
 congr 2
 conv => rhs; rw [← List.map_id l]
 apply List.map_congr_left
 intro b _
 simp
theorem conv_ownc {W : World} {base : Nat} {a : Option Addr} {c : Nat} {l : List UInt8} (h : W.ownsRow base 5 1 (.slice a l.length c) l.length (u8v l)) :
    (convert 22 9 (.slice a l.length c)).run Tryz.prog W = .ok (.string (S l)) W := by
 rcases h.2 with ⟨e, h0⟩ | ⟨g, cap, cur, e, _, hg, _, _, hcs, ht⟩
 ·have hl := List.length_eq_zero_iff.1 h0
  subst hl
  simp only [Value.slice.injEq] at e
  obtain ⟨rfl, _, rfl⟩ := e
  exact run_convert_bytes_nil (P := Tryz.prog) W 22 5 Tryz.underlying22 Tryz.underlying5 _ _ 9 Tryz.underlying9
 ·simp only [Value.slice.injEq] at e
  obtain ⟨rfl, _, rfl⟩ := e
  have := run_convert_bytes_arg (P := Tryz.prog) W 22 5 Tryz.underlying22 Tryz.underlying5 g 0 l.length c (l.map fun b => (b.toNat : Int)) (by simp)
   (fun i hi => ?_) 9 Tryz.underlying9
  ·rw [strOfNums_Sc] at this; exact this
  ·unfold World.cell?
   dsimp only
   rw [hg]
   have h4 : (cur.toList.take (l.length * 1))[i]? = (u8v l)[i]? := by rw [ht]
   rw [List.getElem?_take_of_lt (by omega), Array.getElem?_toList] at h4
   simp only [Nat.zero_add, Option.isSome_none, Bool.false_eq_true, if_false]
   rw [h4]
   simp [u8v, hi]
theorem Bld.app {n₀ B : Nat} {W W1 w3 : World} {d n : Value} {done : List (List UInt8)} {now : List UInt8} {o : Bool} (h : Bld n₀ B W d n done now o) (hW : Below W.heap.size W W1) {row : Option Nat} (hg : W1.grownBy w3 row)
    (hr : ∀ k, row = some k → n₀ ≤ k ∧ ∃ cur e, W1.heap[k]? = some (.cells cur e (0, 0))) : But n₀ B W w3 ∧ w3.heap[B]? = some (.cells #[d, n, .bool o] 221 (0, 0)) ∧ n₀ ≤ w3.heap.size := by
 have h1 := h.below hW
 refine ⟨(But.of_below h.le hW).grown h1.le hg (fun k e => by obtain ⟨a, cur, t, b⟩ := hr k e; exact ⟨a, _, b, rfl⟩), ?_, Nat.le_trans h1.le hg.size⟩
 exact (hg.block B (by have := h1.lt; have := h1.le; omega) (fun e => by have := (hr B e.symm).1; have := h1.lt; omega)).trans h1.blk
theorem blk_cells {W : World} {B : Nat} {d n o : Value} {t : TypeId} (hb : W.heap[B]? = some (.cells #[d, n, o] t (0, 0))) :
    (W.cell? ⟨B, 0, none⟩ = some d ∧ W.cell? ⟨B, 1, none⟩ = some n ∧ W.cell? ⟨B, 2, none⟩ = some o) ∧ (W.frozen? ⟨B, 0, none⟩ = false ∧ W.frozen? ⟨B, 1, none⟩ = false ∧ W.frozen? ⟨B, 2, none⟩ = false) := by
 unfold World.cell? World.frozen?
 dsimp only
 rw [hb]
 exact ⟨⟨rfl, rfl, rfl⟩, by simp⟩
theorem own_row {W : World} {base : Nat} {e : TypeId} {size : Nat} {v : Value} {n : Nat} {xs : List Value} (h : W.ownsRow base e size v n xs) : ∀ k, v.ownBlock = some k → base ≤ k ∧ ∃ cur e', W.heap[k]? = some (.cells cur e' (0, 0)) := fun k hk => by
 obtain ⟨h1, cur, h2⟩ := own_cells h k hk
 exact ⟨h1, cur, _, h2⟩
theorem own_other {W1 w3 : World} {n₀ : Nat} {e e' : TypeId} {v v' : Value} {n k : Nat} {xs ys : List Value} (h : W1.ownsRow n₀ e 1 v n xs) (h' : W1.ownsRow n₀ e' 1 v' k ys) (hne : e' ≠ e) (hg : W1.grownBy w3 v'.ownBlock) : w3.ownsRow n₀ e 1 v n xs :=
 own_but h hg (fun q hq => by obtain ⟨_, cur, hc⟩ := own_cells h' q hq; exact .inr ⟨cur, e', _, hne, hc⟩)
theorem Bld.appDone {n₀ B : Nat} {W w3 : World} {d n : Value} {done : List (List UInt8)} {now : List UInt8} {o : Bool} (h : Bld n₀ B W d n done now o) {tmp : Obj} (hne : (9 : TypeId) ≠ 5) (hg : (W.alloc tmp).drew.grownBy w3 d.ownBlock) :
    But n₀ B W w3 ∧ w3.heap[B]? = some (.cells #[d, n, .bool o] 221 (0, 0)) ∧ n₀ ≤ w3.heap.size ∧ w3.ownsRow n₀ 5 1 n now.length (u8v now) := by
 obtain ⟨h1, h2, h3⟩ := h.app ((Below.refl _ _).alloc (Nat.le_refl _) _).drew hg (own_row (h.od.alloc _).drew)
 exact ⟨h1, h2, h3, own_other (h.on.alloc _).drew (h.od.alloc _).drew hne hg⟩
theorem one_at (W : World) (v : Value) (t : TypeId) : ∀ (j : Nat) (u : Value), [v][j]? = some u → (W.alloc (.cells #[v] t)).drew.cell? ((⟨W.heap.size, 0, none⟩ : Addr).add j) = some u := fun j u h => by
 match j with
 | 0 => simp only [List.getElem?_cons_zero, Option.some.injEq] at h; subst h; exact (cell_new_l W v t).1
 | j + 1 => simp at h
set_option maxRecDepth 100000 in
set_option maxHeartbeats 1000000 in
theorem end_yes (n₀ B : Nat) (W : World) (d n : Value) (done : List (List UInt8)) (now : List UInt8) (h : Bld n₀ B W d n done now true) (hd : done.length ≤ 2000000) :
    Calls Tryz.prog 164 #[.pointer (some ⟨B, 0, none⟩)] W (BldPost n₀ B W (done ++ [now]) [] false) := by
 obtain ⟨i0, hi, hz0, hz1, hz2⟩ := info_parts infoStrc
 obtain ⟨⟨c0, c1, c2⟩, f0, f1, f2⟩ := h.cells
 have hlt := h.lt
 have hle := h.le
 have hne : (9 : TypeId) ≠ 5 := by decide
 rcases own_shape h.on with ⟨rfl, h0⟩ | ⟨g, c, rfl, hnc, _, _⟩
 ·have h0' := List.length_eq_zero_iff.1 h0
  subst h0'
  clear h0
  have hcv : ∀ w', w'.ownsRow n₀ 5 1 (.slice none 0 0) 0 (u8v []) → (convert 22 9 (.slice none 0 0)).run Tryz.prog w' = .ok (.string (S [])) w' := fun w' h => conv_ownc h
  have hon : W.ownsRow n₀ 5 1 (.slice none 0 0) 0 (u8v []) := h.on
  go_enter Tryz.func164, Tryz.ntmps164
  go_wp2
  refine wp_region_reads 10 (fun w' => w'.cell? ⟨B, 0, none⟩ = some d ∧ w'.cell? ⟨B, 1, none⟩ = some (.slice none 0 0) ∧ w'.ownsRow n₀ 5 1 (.slice none 0 0) 0 (u8v [])) (by kernel_rfl) (by kernel_rfl) (by kernel_rfl) (by kernel_rfl) (fun _ _ d _ _ h => by cases d <;> exact h) ⟨c0, c1, hon⟩ ?_
  simp only [List.take_succ_cons, List.take_zero, List.drop_succ_cons, List.drop_zero]
  repeat (refine' wpRead_step (v := _) rfl ?_ ?_; rotate_left 1; (intro w' hw'; obtain ⟨s0, s1, s2⟩ := hw'; go_simp; try with_reducible rfl); try simp only [Act.put, List.setIfInBounds_toArray, List.set_cons_zero, List.set_cons_succ])
  clear hcv
  refine wpRead_nil ?_
  refine wpActs_step (fun K hK => ?_)
  go_wp2
  refine hK _ _ ⟨(cell_alloc_l _ c0 : (W.alloc _).cell? _ = _), (cell_alloc_l _ c1 : (W.alloc _).cell? _ = _), hon.alloc _⟩ ?_
  clear hK K
  refine wpActs_step (fun K hK => ?_)
  refine wpList_append_own _ rfl (.tmp 10) (.tmp 16) 51 rfl n₀ 9 i0 (.string ⟨#[]⟩) 1 16 Tryz.underlying51 hi hz0 hz1 hz2 rfl (by decide) d done.length (strV done) rfl (h.od.drew.alloc _) ⟨W.heap.size, 0, none⟩ 1 1 [.string (S [])] rfl rfl (one_at _ _ _) (by intro u hu; rw [List.mem_singleton.1 hu]; rfl) (by unfold maxLen; omega) (by omega) (by simp; omega) ?_
  intro d' w3 ho3 hg3 _
  obtain ⟨hbut, hblk, hle3, hon3⟩ := h.appDone hne hg3
  obtain ⟨⟨d0, d1, d2⟩, e0, e1, e2⟩ := blk_cells hblk
  have ho3 : w3.ownsRow n₀ 9 1 d' (done ++ [[]]).length (strV (done ++ [[]])) := by rw [strV_snoc, List.length_append]; exact ho3
  obtain ⟨g', c', rfl⟩ := own_ne ho3 (by simp)
  refine hK _ _ ⟨d0, d1, hon3⟩ ?_
  clear hK K hg3
  refine wpActs_step (fun K hK => ?_)
  go_wp2
  refine hK _ _ ⟨d0, d1, hon3⟩ ?_
  clear hK K
  refine wpActs_step (fun K hK => ?_)
  go_wp2
  refine hK _ _ ⟨d0, d1, hon3⟩ ?_
  clear hK K
  refine wpActs_last ?_
  go_wp2
  go_end0
  have hB3 : Bld n₀ B (w3.setCell ⟨B, 0, none⟩ (.slice (some ⟨g', 0, none⟩) (done ++ [[]]).length c')) (.slice (some ⟨g', 0, none⟩) (done ++ [[]]).length c') (.slice none 0 0) (done ++ [[]]) [] true := ⟨(heap_setCell_same _ _ _ _ _ _ hblk).trans rfl, hlt, by simp [World.setCell]; exact hle3, own_set ho3 hlt _, own_set hon3 hlt _⟩
  have hl : (done ++ [[]]).length = done.length + 1 := by simp
  rw [hl] at hB3
  exact ⟨rfl, _, .slice none 0 0, (hB3.set1 _ [] (World.ownsRow_nil _ _ _ _)).set2 false, (((hbut.setCell _ _).setCell _ _).setCell _ _)⟩
 ·have hcv : ∀ w', w'.ownsRow n₀ 5 1 (.slice (some ⟨g, 0, none⟩) now.length c) now.length (u8v now) → (convert 22 9 (.slice (some ⟨g, 0, none⟩) now.length c)).run Tryz.prog w' = .ok (.string (S now)) w' := fun w' h => conv_ownc h
  have hon : W.ownsRow n₀ 5 1 (.slice (some ⟨g, 0, none⟩) now.length c) now.length (u8v now) := h.on
  go_enter Tryz.func164, Tryz.ntmps164
  go_wp2
  refine wp_region_reads 10 (fun w' => w'.cell? ⟨B, 0, none⟩ = some d ∧ w'.cell? ⟨B, 1, none⟩ = some (.slice (some ⟨g, 0, none⟩) now.length c) ∧ w'.ownsRow n₀ 5 1 (.slice (some ⟨g, 0, none⟩) now.length c) now.length (u8v now)) (by kernel_rfl) (by kernel_rfl) (by kernel_rfl) (by kernel_rfl) (fun _ _ d _ _ h => by cases d <;> exact h) ⟨c0, c1, hon⟩ ?_
  simp only [List.take_succ_cons, List.take_zero, List.drop_succ_cons, List.drop_zero]
  repeat (refine' wpRead_step (v := _) rfl ?_ ?_; rotate_left 1; (intro w' hw'; obtain ⟨s0, s1, s2⟩ := hw'; go_simp; try with_reducible rfl); try simp only [Act.put, List.setIfInBounds_toArray, List.set_cons_zero, List.set_cons_succ])
  clear hcv
  refine wpRead_nil ?_
  refine wpActs_step (fun K hK => ?_)
  go_wp2
  refine hK _ _ ⟨(cell_alloc_l _ c0 : (W.alloc _).cell? _ = _), (cell_alloc_l _ c1 : (W.alloc _).cell? _ = _), hon.alloc _⟩ ?_
  clear hK K
  refine wpActs_step (fun K hK => ?_)
  refine wpList_append_own _ rfl (.tmp 10) (.tmp 16) 51 rfl n₀ 9 i0 (.string ⟨#[]⟩) 1 16 Tryz.underlying51 hi hz0 hz1 hz2 rfl (by decide) d done.length (strV done) rfl (h.od.drew.alloc _) ⟨W.heap.size, 0, none⟩ 1 1 [.string (S now)] rfl rfl (one_at _ _ _) (by intro u hu; rw [List.mem_singleton.1 hu]; rfl) (by unfold maxLen; omega) (by omega) (by simp; omega) ?_
  intro d' w3 ho3 hg3 _
  obtain ⟨hbut, hblk, hle3, hon3⟩ := h.appDone hne hg3
  obtain ⟨⟨d0, d1, d2⟩, e0, e1, e2⟩ := blk_cells hblk
  have ho3 : w3.ownsRow n₀ 9 1 d' (done ++ [now]).length (strV (done ++ [now])) := by rw [strV_snoc, List.length_append]; exact ho3
  obtain ⟨g', c', rfl⟩ := own_ne ho3 (by simp)
  refine hK _ _ ⟨d0, d1, hon3⟩ ?_
  clear hK K hg3
  refine wpActs_step (fun K hK => ?_)
  go_wp2
  refine hK _ _ ⟨d0, d1, hon3⟩ ?_
  clear hK K
  refine wpActs_step (fun K hK => ?_)
  go_wp2
  refine hK _ _ ⟨d0, d1, hon3⟩ ?_
  clear hK K
  refine wpActs_last ?_
  go_wp2
  go_end0
  have hB3 : Bld n₀ B (w3.setCell ⟨B, 0, none⟩ (.slice (some ⟨g', 0, none⟩) (done ++ [now]).length c')) (.slice (some ⟨g', 0, none⟩) (done ++ [now]).length c') (.slice (some ⟨g, 0, none⟩) now.length c) (done ++ [now]) now true := ⟨(heap_setCell_same _ _ _ _ _ _ hblk).trans rfl, hlt, by simp [World.setCell]; exact hle3, own_set ho3 hlt _, own_set hon3 hlt _⟩
  have hl : (done ++ [now]).length = done.length + 1 := by simp
  rw [hl] at hB3
  exact ⟨rfl, _, .slice (some ⟨g, 0, none⟩) 0 c, (hB3.set1 _ [] (own_zero (own_set hon3 hlt _))).set2 false, (((hbut.setCell _ _).setCell _ _).setCell _ _)⟩
theorem Bld.appNow {n₀ B : Nat} {W w3 : World} {d n : Value} {done : List (List UInt8)} {now : List UInt8} {o : Bool} (h : Bld n₀ B W d n done now o) (hne : (5 : TypeId) ≠ 9) (hg : W.grownBy w3 n.ownBlock) :
    But n₀ B W w3 ∧ w3.heap[B]? = some (.cells #[d, n, .bool o] 221 (0, 0)) ∧ n₀ ≤ w3.heap.size ∧ w3.ownsRow n₀ 9 1 d done.length (strV done) := by
 obtain ⟨h1, h2, h3⟩ := h.app (Below.refl _ _) hg (own_row h.on)
 exact ⟨h1, h2, h3, own_other h.od h.on hne hg⟩
theorem row_at (W : World) (vs : List Value) (t : TypeId) : ∀ (j : Nat) (u : Value), vs[j]? = some u → (W.alloc (.cells vs.toArray t)).cell? ((⟨W.heap.size, 0, none⟩ : Addr).add j) = some u := fun j u h => by
 have h0 : (W.alloc (.cells vs.toArray t)).heap[W.heap.size]? = some (.cells vs.toArray t) := World.alloc_heap_new W _
 have hj : j < vs.length := by
  rcases Nat.lt_or_ge j vs.length with h' | h'
  ·exact h'
  ·rw [List.getElem?_eq_none h'] at h; cases h
 by_cases e : j = 0
 ·subst e
  show (W.alloc (.cells vs.toArray t)).cell? ⟨W.heap.size, 0, none⟩ = some u
  unfold World.cell?
  dsimp only
  rw [h0]
  simpa using h
 ·have ea : (⟨W.heap.size, 0, none⟩ : Addr).add j = ⟨W.heap.size, 0 + j, none⟩ := by unfold Addr.add; simp [e]
  rw [ea]
  unfold World.cell?
  dsimp only
  rw [h0]
  simpa using h
theorem u8v_one (l : List UInt8) : ∀ u ∈ u8v l, u.oneCell' = true := fun u hu => by
 obtain ⟨b, _, rfl⟩ := List.mem_map.1 hu
 rfl
theorem end_any (n₀ B : Nat) (W : World) (d n : Value) (done : List (List UInt8)) (now : List UInt8) (o : Bool) (D : List (List UInt8)) (h : Bld n₀ B W d n done now o) (hd : done.length ≤ 2000000) (hD : (if o then done ++ [now] else done) = D) :
    Calls Tryz.prog 164 #[.pointer (some ⟨B, 0, none⟩)] W (BldPost n₀ B W D [] false) := by
 cases o with
 | false => rw [← hD]; exact end_no n₀ B W d n done now h
 | true => rw [← hD]; exact end_yes n₀ B W d n done now h hd
def BG (n₀ B : Nat) (W : World) (G : List (List Nat)) : Prop :=
 ∃ d n done now o, Bld n₀ B W d n done now o ∧ (o = true ∧ done ++ [now] = G.map encL ∨ o = false ∧ done = [] ∧ now = [] ∧ G = [])
def AddPost (n₀ B : Nat) (W : World) (G : List (List Nat)) (e : Ending) (w' : World) : Prop := e = .returned (.tuple #[]) ∧ BG n₀ B w' G ∧ But n₀ B W w'
set_option maxRecDepth 100000 in
set_option maxHeartbeats 2000000 in
theorem add_base (n₀ B : Nat) (W : World) (G : List (List Nat)) (r : Nat) (hr : isR r = true) (hc : 0 < colsB r) (h : BG n₀ B W G) (hG : G.length ≤ 1100000) :
    Calls Tryz.prog 163 #[.pointer (some ⟨B, 0, none⟩), .int .i32 r] W (AddPost n₀ B W (stepG G r)) := by
 obtain ⟨i0, hi, hz0, hz1, hz2⟩ := info_parts infoU8c
 obtain ⟨d, n, done, now, o, hb, ho⟩ := h
 have hlt := hb.lt
 have hdl : done.length ≤ 2000000 := by
  rcases ho with ⟨_, e⟩ | ⟨_, rfl, _⟩
  ·have := congrArg List.length e; simp at this; omega
  ·simp
 have hD : (if o then done ++ [now] else done) = G.map encL := by
  rcases ho with ⟨rfl, e⟩ | ⟨rfl, rfl, _, rfl⟩
  ·exact e
  ·rfl
 have CE := Lib.hid (fun W' (h' : Below W.heap.size W W') => end_any n₀ B W' d n done now o _ (hb.below h') hdl hD)
 have hle := hb.le
 have hfin : (G.map encL) ++ [bytesN r] = (stepG G r).map encL := by rw [stepG_base _ _ hc]; simp [encL_one]
 have HF := Lib.hid hfin
 have CB := Lib.hid (fun W' => isBase_any r W')
 have hdec : decide (0 < colsB r) = true := decide_eq_true hc
 have CR := Lib.hid (fun W' => rbytes_any r W')
 have hbr : bytesR r = bytesN r := by unfold bytesR runeN; rw [if_pos hr]; simp
 have hlen := bytesN_len r
 obtain ⟨L, hL⟩ : ∃ L, L = bytesN r := ⟨_, rfl⟩
 rw [hbr, ← hL] at CR
 rw [hdec] at CB
 rw [← hL] at HF hlen
 have hne : (5 : TypeId) ≠ 9 := by decide
 have HLEN := Lib.hid hlen
 clear hfin hdec hbr hL hb ho hdl hD hc hr hlen
 go_enter Tryz.func163, Tryz.ntmps163
 go_wp2_with (first
  | (go_at_call 183; refine (CB.out _).mono ?_; rintro e w1 ⟨rfl, hb1⟩)
  | (go_at_call 164; refine (CE.out _ hb1).mono ?_; rintro e w2 ⟨rfl, d1, n1, hb2, hbut2⟩; obtain ⟨⟨c0, c1, c2⟩, f0, f1, f2⟩ := hb2.cells; obtain ⟨a, c, rfl⟩ := own_slice hb2.on))
 have hle2 := hb2.le
 refine wp_region_reads 6 (fun w' => w'.cell? ⟨B, 1, none⟩ = some (.slice a 0 c)) (by kernel_rfl) (by kernel_rfl) (by kernel_rfl) (by kernel_rfl) (fun _ _ d _ _ h => by cases d <;> exact h) c1 ?_
 simp only [List.take_succ_cons, List.take_zero, List.drop_succ_cons, List.drop_zero]
 repeat (refine' wpRead_step (v := _) rfl ?_ ?_; rotate_left 1; (intro w' hw'; go_simp; try with_reducible rfl); try simp only [Act.put, List.setIfInBounds_toArray, List.set_cons_zero, List.set_cons_succ])
 refine wpRead_nil ?_
 refine wpActs_step (fun K hK => ?_)
 go_wp2_with (go_at_call 184; refine (CR.out _).mono ?_; rintro e w3 ⟨k, hk, rfl, hw3⟩)
 have b3 : Bld n₀ B w3 d1 (.slice a 0 c) (G.map encL) [] false := hw3 ▸ hb2.drew.below ((Below.refl _ _).alloc (Nat.le_refl _) _)
 have bw3 : Below w2.heap.size w2 w3 := hw3 ▸ ((Below.refl _ w2).drew).alloc (Nat.le_refl _) _
 refine hK _ _ b3.cells.1.2.1 ?_
 clear hK K
 refine wpActs_step (fun K hK => ?_)
 refine wpList_append_own _ rfl (.tmp 13) (.tmp 15) 22 rfl n₀ 5 i0 (.int .u8 0) 1 1 Tryz.underlying22 hi hz0 hz1 hz2 rfl (by decide) (.slice a 0 c) 0 [] rfl b3.on ⟨w2.heap.size, 0, none⟩ L.length L.length (u8v L) rfl (by rw [u8v_len]; omega) (by rw [← hw3]; exact row_at w2.drew _ _) (u8v_one L) (by have := HLEN.out; unfold maxLen; omega) (by have := HLEN.out; omega) (by have := b3.le; omega) ?_
 intro n' w4 ho4 hg4 _
 rw [Nat.zero_add, List.nil_append] at ho4
 obtain ⟨hbut4, hblk4, hle4, hod4⟩ := b3.appNow hne hg4
 obtain ⟨⟨d40, d41, d42⟩, e40, e41, e42⟩ := blk_cells hblk4
 obtain ⟨g', c', rfl⟩ := own_ne ho4 (by have := HLEN.out; omega)
 refine hK _ _ d41 ?_
 clear hK K hg4
 refine wpActs_step (fun K hK => ?_)
 go_wp2
 refine hK _ _ d41 ?_
 clear hK K
 refine wpActs_step (fun K hK => ?_)
 go_wp2
 refine hK _ _ d41 ?_
 clear hK K
 refine wpActs_last ?_
 go_wp2
 have hB4 : Bld n₀ B (w4.setCell ⟨B, 1, none⟩ (.slice (some ⟨g', 0, none⟩) L.length c')) d1 (.slice (some ⟨g', 0, none⟩) L.length c') (G.map encL) L false := ⟨(heap_setCell_same _ _ _ _ _ _ hblk4).trans rfl, hlt, by simp [World.setCell]; exact hle4, own_set hod4 hlt _, own_set ho4 hlt _⟩
 refine bodyPost_ret (results_none rfl _ _ _) rfl ?_
 exact ⟨rfl, ⟨d1, _, G.map encL, L, true, hB4.set2 true, .inl ⟨rfl, HF.out⟩⟩, ((((But.of_below hle hb1).trans hbut2).trans (But.of_below hle2 bw3)).trans hbut4 |>.setCell _ _).setCell _ _⟩
theorem snoc_map {done : List (List UInt8)} {now : List UInt8} {G : List (List Nat)} (h : done ++ [now] = G.map encL) : ∃ O C, G = O ++ [C] ∧ done = O.map encL ∧ now = encL C := by
 have hne : G ≠ [] := by intro e; subst e; simp at h
 refine ⟨G.dropLast, G.getLast hne, (List.dropLast_concat_getLast hne).symm, ?_⟩
 rw [← List.dropLast_concat_getLast hne, List.map_append] at h
 have h1 := List.append_inj h (by have := congrArg List.length h; simp at this; simpa using this)
 exact ⟨h1.1, by simpa using h1.2⟩
theorem stepG_no (G : List (List Nat)) (r : Nat) (h : ¬ 0 < colsB r) (hj : joinB r = false) : stepG G r = G := by unfold stepG; rw [if_neg h, hj]; rfl
theorem stepG_nil (r : Nat) (h : ¬ 0 < colsB r) : stepG [] r = [] := by unfold stepG; rw [if_neg h]; simp
theorem stepG_full (O : List (List Nat)) (C : List Nat) (r : Nat) (h : ¬ 0 < colsB r) (hl : 64 < (encL C).length + (bytesN r).length) : stepG (O ++ [C]) r = O ++ [C] := by
 unfold stepG; rw [if_neg h, if_neg]
 simp; omega
theorem stepG_join (O : List (List Nat)) (C : List Nat) (r : Nat) (h : ¬ 0 < colsB r) (hj : joinB r = true) (hl : (encL C).length + (bytesN r).length ≤ 64) : stepG (O ++ [C]) r = O ++ [C ++ [r]] := by
 unfold stepG; rw [if_neg h, if_pos]
 ·simp
 ·rw [hj]; simp; omega
set_option maxRecDepth 100000 in
set_option maxHeartbeats 2000000 in
theorem add_no (n₀ B : Nat) (W : World) (G : List (List Nat)) (r : Nat) (hc : ¬ 0 < colsB r) (hj : joinB r = false) (h : BG n₀ B W G) :
    Calls Tryz.prog 163 #[.pointer (some ⟨B, 0, none⟩), .int .i32 r] W (AddPost n₀ B W (stepG G r)) := by
 rw [stepG_no G r hc hj]
 have CB := Lib.hid (fun W' => (decide_eq_false hc : decide (0 < colsB r) = false) ▸ isBase_any r W')
 have CM := Lib.hid (fun W' => hj ▸ isMark_any r W')
 have HH := Lib.hid h
 obtain ⟨d, n, done, now, o, hb, ho⟩ := h
 have hle := hb.le
 obtain ⟨⟨c0, c1, c2⟩, f0, f1, f2⟩ := hb.cells
 clear hc hj ho
 cases o with
 | false =>
  go_enter Tryz.func163, Tryz.ntmps163
  go_wp2_with (go_at_call 183; refine (CB.out _).mono ?_; rintro e w1 ⟨rfl, hb1⟩; obtain ⟨⟨c0', c1', c2'⟩, f0', f1', f2'⟩ := (hb.below hb1).cells)
  refine bodyPost_ret (results_none rfl _ _ _) rfl ?_
  obtain ⟨d, n, done, now, o, hb, ho⟩ := HH.out
  exact ⟨rfl, ⟨d, n, done, now, o, hb.below hb1, ho⟩, But.of_below hle hb1⟩
 | true =>
  go_enter Tryz.func163, Tryz.ntmps163
  go_wp2_with (first
   | (go_at_call 183; refine (CB.out _).mono ?_; rintro e w1 ⟨rfl, hb1⟩; obtain ⟨⟨c0', c1', c2'⟩, f0', f1', f2'⟩ := (hb.below hb1).cells)
   | (go_at_call 185; refine (CM.out _).mono ?_; rintro e w2 ⟨rfl, hb2⟩))
  refine bodyPost_ret (results_none rfl _ _ _) rfl ?_
  obtain ⟨d, n, done, now, o, hb, ho⟩ := HH.out
  exact ⟨rfl, ⟨d, n, done, now, o, (hb.below hb1).below hb2, ho⟩, But.of_below hle (bnext hb1 hb2)⟩
set_option maxRecDepth 100000 in
set_option maxHeartbeats 2000000 in
theorem add_nil (n₀ B : Nat) (W : World) (r : Nat) (hc : ¬ 0 < colsB r) (h : BG n₀ B W []) :
    Calls Tryz.prog 163 #[.pointer (some ⟨B, 0, none⟩), .int .i32 r] W (AddPost n₀ B W (stepG [] r)) := by
 rw [stepG_nil r hc]
 have CB := Lib.hid (fun W' => (decide_eq_false hc : decide (0 < colsB r) = false) ▸ isBase_any r W')
 obtain ⟨d, n, done, now, o, hb, ho⟩ := h
 have hle := hb.le
 obtain rfl : o = false := by
  rcases ho with ⟨_, e⟩ | ⟨h, _⟩
  ·simp at e
  ·exact h
 have HO := Lib.hid ho
 obtain ⟨⟨c0, c1, c2⟩, f0, f1, f2⟩ := hb.cells
 clear hc ho
 go_enter Tryz.func163, Tryz.ntmps163
 go_wp2_with (go_at_call 183; refine (CB.out _).mono ?_; rintro e w1 ⟨rfl, hb1⟩; obtain ⟨⟨c0', c1', c2'⟩, f0', f1', f2'⟩ := (hb.below hb1).cells)
 refine bodyPost_ret (results_none rfl _ _ _) rfl ?_
 exact ⟨rfl, ⟨d, n, done, now, false, hb.below hb1, by simpa using HO.out⟩, But.of_below hle hb1⟩
set_option maxRecDepth 100000 in
set_option maxHeartbeats 2000000 in
theorem add_mark (n₀ B : Nat) (W : World) (O : List (List Nat)) (C : List Nat) (r : Nat) (hr : isR r = true) (hc : ¬ 0 < colsB r) (hj : joinB r = true) (hC : (encL C).length ≤ 64) (h : BG n₀ B W (O ++ [C])) :
    Calls Tryz.prog 163 #[.pointer (some ⟨B, 0, none⟩), .int .i32 r] W (AddPost n₀ B W (stepG (O ++ [C]) r)) := by
 obtain ⟨i0, hi, hz0, hz1, hz2⟩ := info_parts infoU8c
 have CB := Lib.hid (fun W' => (decide_eq_false hc : decide (0 < colsB r) = false) ▸ isBase_any r W')
 have CM := Lib.hid (fun W' => hj ▸ isMark_any r W')
 have CR := Lib.hid (fun W' => rbytes_any r W')
 have hbr : bytesR r = bytesN r := by unfold bytesR runeN; rw [if_pos hr]; simp
 have hlen := bytesN_len r
 obtain ⟨L, hL⟩ : ∃ L, L = bytesN r := ⟨_, rfl⟩
 rw [hbr, ← hL] at CR
 obtain ⟨d, n, done, now, o, hb, ho⟩ := h
 have hlt := hb.lt
 have hle := hb.le
 have ho : o = true ∧ done = O.map encL ∧ now = encL C := by
  rcases ho with ⟨h1, e⟩ | ⟨_, _, _, e⟩
  ·obtain ⟨O', C', e1, e2, e3⟩ := snoc_map e
   have := List.append_inj e1 (by have := congrArg List.length e1; simpa using this)
   obtain ⟨rfl, e5⟩ := this
   simp only [List.cons.injEq, and_true] at e5
   subst e5
   exact ⟨h1, e2, e3⟩
  ·simp at e
 obtain ⟨rfl, hdone, hnow⟩ := ho
 rw [← hnow] at hC
 rw [← hL] at hlen
 obtain ⟨⟨c0, c1, c2⟩, f0, f1, f2⟩ := hb.cells
 obtain ⟨a, c, rfl⟩ := own_slice hb.on
 have hne : (5 : TypeId) ≠ 9 := by decide
 by_cases hfit : now.length + L.length ≤ 64
 ·have hst := stepG_join O C r hc hj (by rw [← hnow, ← hL]; exact hfit)
  have HF := Lib.hid (show done ++ [now ++ L] = (stepG (O ++ [C]) r).map encL by rw [hst, hdone, hnow, hL]; simp [encL_append, encL_one])
  have hfi : (now.length : Int) + (L.length : Int) ≤ 64 := by omega
  clear hst hdone hnow hL hbr hj hc hr
  go_enter Tryz.func163, Tryz.ntmps163
  go_wp2_with (first
   | (go_at_call 183; refine (CB.out _).mono ?_; rintro e w1 ⟨rfl, hb1⟩; obtain ⟨⟨c0', c1', c2'⟩, f0', f1', f2'⟩ := (hb.below hb1).cells)
   | (go_at_call 185; refine (CM.out _).mono ?_; rintro e w2 ⟨rfl, hb2⟩)
   | (go_at_call 184; refine (CR.out _).mono ?_; rintro e w3 ⟨k, hk, rfl, hw3⟩; have b3 : Bld n₀ B w3 d (.slice a now.length c) done now true := hw3 ▸ ((hb.below hb1).below hb2).below ((Below.refl _ _).alloc (Nat.le_refl _) _); have bw3 : Below w2.heap.size w2 w3 := hw3 ▸ (Below.refl _ w2).alloc (Nat.le_refl _) _; obtain ⟨⟨c03, c13, c23⟩, f03, f13, f23⟩ := b3.cells)
   | (at_builtin; refine wpList_append_own _ rfl (.tmp 47) (.tmp 48) 22 rfl n₀ 5 i0 (.int .u8 0) 1 1 Tryz.underlying22 hi hz0 hz1 hz2 rfl (by decide) (.slice a now.length c) now.length (u8v now) rfl b3.on ⟨w2.heap.size, 0, none⟩ L.length L.length (u8v L) rfl (by rw [u8v_len]; omega) (by rw [← hw3]; exact row_at w2 _ _) (u8v_one L) (by unfold maxLen; omega) (by omega) b3.le ?_; intro n' w4 ho4 hg4 hx4; rw [← u8v_append] at ho4; obtain ⟨hbut4, hblk4, hle4, hod4⟩ := b3.appNow hne hg4; obtain ⟨⟨d40, d41, d42⟩, e40, e41, e42⟩ := blk_cells hblk4; obtain ⟨g', c', rfl⟩ := own_ne ho4 (by omega)))
  go_end0
  have hB4 : Bld n₀ B (w4.setCell ⟨B, 1, none⟩ (.slice (some ⟨g', 0, none⟩) (now.length + L.length) c')) d (.slice (some ⟨g', 0, none⟩) (now.length + L.length) c') done (now ++ L) true := ⟨(heap_setCell_same _ _ _ _ _ _ hblk4).trans rfl, hlt, by simp [World.setCell]; exact hle4, own_set hod4 hlt _, by rw [List.length_append]; exact own_set ho4 hlt _⟩
  exact ⟨rfl, ⟨d, _, done, now ++ L, true, hB4, .inl ⟨rfl, HF.out⟩⟩, (((But.of_below hle (bnext hb1 hb2)).trans (But.of_below ((hb.below hb1).below hb2).le bw3)).trans hbut4).setCell _ _⟩
 ·have hst := stepG_full O C r hc (by rw [← hnow, ← hL]; omega)
  have HF := Lib.hid (show done ++ [now] = (stepG (O ++ [C]) r).map encL by rw [hst, hdone, hnow]; simp)
  have hfi : 64 < (now.length : Int) + (L.length : Int) := by omega
  clear hst hdone hnow hL hbr hj hc hr
  go_enter Tryz.func163, Tryz.ntmps163
  go_wp2_with (first
   | (go_at_call 183; refine (CB.out _).mono ?_; rintro e w1 ⟨rfl, hb1⟩; obtain ⟨⟨c0', c1', c2'⟩, f0', f1', f2'⟩ := (hb.below hb1).cells)
   | (go_at_call 185; refine (CM.out _).mono ?_; rintro e w2 ⟨rfl, hb2⟩)
   | (go_at_call 184; refine (CR.out _).mono ?_; rintro e w3 ⟨k, hk, rfl, hw3⟩; have b3 : Bld n₀ B w3 d (.slice a now.length c) done now true := hw3 ▸ ((hb.below hb1).below hb2).below ((Below.refl _ _).alloc (Nat.le_refl _) _); have bw3 : Below w2.heap.size w2 w3 := hw3 ▸ (Below.refl _ w2).alloc (Nat.le_refl _) _; obtain ⟨⟨c03, c13, c23⟩, f03, f13, f23⟩ := b3.cells))
  go_end0
  exact ⟨rfl, ⟨d, _, done, now, true, b3, .inl ⟨rfl, HF.out⟩⟩, (But.of_below hle (bnext hb1 hb2)).trans (But.of_below ((hb.below hb1).below hb2).le bw3)⟩
theorem add_any (n₀ B : Nat) (W : World) (G : List (List Nat)) (r : Nat) (hr : isR r = true) (h : BG n₀ B W G) (hG : G.length ≤ 1100000) (hC : ∀ c ∈ G, (encL c).length ≤ 64) :
    Calls Tryz.prog 163 #[.pointer (some ⟨B, 0, none⟩), .int .i32 r] W (AddPost n₀ B W (stepG G r)) := by
 by_cases hc : 0 < colsB r
 ·exact add_base n₀ B W G r hr hc h hG
 ·cases hj : joinB r with
  | false => exact add_no n₀ B W G r hc hj h
  | true =>
   rcases List.eq_nil_or_concat G with rfl | ⟨O, C, rfl⟩
   ·exact add_nil n₀ B W r hc h
   ·rw [List.concat_eq_append] at h hC ⊢
    exact add_mark n₀ B W O C r hr hc hj (hC C (by simp)) h
attribute [local go_sem] Oper.semAt_some
def StrsPost (L : List (List UInt8)) (w : World) (e : Ending) (w' : World) : Prop :=
 ∃ a n c, n = L.length ∧ n ≤ c ∧ c ≤ maxLen ∧ e = .returned (.slice a n c) ∧ RowAt w'.heap.size w' a (strV L) ∧ Below w.heap.size w w' ∧ ∃ g, w.heap.size ≤ g ∧ (0 < n → a = some ⟨g, 0, none⟩ ∧ ∃ cur, w'.heap[g]? = some (.cells cur 9 (0, 0)))
theorem ctrl_step {G : List (List Nat)} {r : Nat} (h : ctrlB r = true) : stepG G r = G := by
 refine stepG_no G r ?_ ?_
 ·unfold colsB
  rw [if_pos (by simp [h])]
  omega
 ·unfold joinB; rw [h]; simp
def CutI (w w2 : World) (n₀ B : Nat) (pre : List RP) (W : World) : Prop := BG n₀ B W (cutG (pre.map RP.r)) ∧ Below w.heap.size w W
theorem BG.kept {n₀ B : Nat} {W W' : World} {G : List (List Nat)} (h : BG n₀ B W G) {row : Option Nat} (hg : W.grownBy W' row) (hr : ∀ k, row = some k → n₀ ≤ k ∧ ∃ o : Obj, W.heap[k]? = some o ∧ o.isCells = false) : BG n₀ B W' G := by
 obtain ⟨d, n, done, now, o, hb, ho⟩ := h
 exact ⟨d, n, done, now, o, hb.kept hg (fun k e _ => (hr k e).2) (fun e => by have := (hr B e).1; have := hb.lt; omega), ho⟩
theorem BG.new {n₀ B : Nat} {W : World} (hb : W.heap[B]? = some (.cells #[.slice none 0 0, .slice none 0 0, .bool false] 221 (0, 0))) (hlt : B < n₀) (hle : n₀ ≤ W.heap.size) : BG n₀ B W [] :=
 ⟨_, _, [], [], false, ⟨hb, hlt, hle, World.ownsRow_nil _ _ _ _, World.ownsRow_nil _ _ _ _⟩, .inr ⟨rfl, rfl, rfl, rfl⟩⟩
set_option maxRecDepth 100000 in
set_option maxHeartbeats 4000000 in
theorem cut_any (l : List UInt8) (hl : l.length ≤ 1100000) (w : World) : Calls Tryz.prog 130 #[.string (S l)] w (StrsPost (cutL l) w) := by
 have CA := Lib.hid (fun W => rall_any l W)
 refine (callsIn_wide (n := 9)).1 ?_
 have h1 : 1 ≤ 9 := by omega
 refine callsIn_of_wp_marks Tryz.func130 rfl trivial ?_ rfl
 simp only [Tryz.ntmps130, List.size_toArray, List.length_cons, List.length_nil, Nat.reduceAdd, Nat.reduceSub, Array.replicate_succ, Array.replicate_zero, List.push_toArray, List.append_toArray, List.nil_append, List.cons_append]
 gi_wp2
 refine wpIn_wide.2 (wp_scope_straight ((wpIn_wide (n := 9)).1 ?_))
 gi_wp2
 refine wpIn_label ?_
 gi_wp2_with (refine ⟨trivial, ?_⟩; gi_at_call 137; refine (callsIn_wide.2 (CA.out _)).mono ?_; rintro e w2 ⟨Bx, b, cap, rfl, hbx, hbl, hcell, hcap, hbys, hbel⟩)
 have hblk : (w.alloc (.cells #[.slice none 0 0, .slice none 0 0, .bool false] 221)).heap[w.heap.size]? = some (.cells #[.slice none 0 0, .slice none 0 0, .bool false] 221 (0, 0)) := World.alloc_heap_new w _
 have hsz : (w.alloc (.cells #[.slice none 0 0, .slice none 0 0, .bool false] 221)).heap.size = w.heap.size + 1 := by simp
 have hbw : Below w.heap.size w (w.alloc (.cells #[.slice none 0 0, .slice none 0 0, .bool false] 221)) := (Below.refl _ _).alloc (Nat.le_refl _) _
 generalize w.alloc (.cells #[.slice none 0 0, .slice none 0 0, .bool false] 221) = w1 at hblk hsz hbw hbx hbl hbel
 have hblk2 := (hbel.block w.heap.size (by omega)).trans hblk
 have hle1 := hbel.size
 have hw2 : Below w.heap.size w w2 := bto hbw hbel (by omega)
 have hbB := hbx.2
 have hbl2 := hbys.lt
 have HE := Lib.hid (eachL_runes l)
 have hxB : Bx ≠ w.heap.size := by omega
 have hyB : b ≠ w.heap.size := by omega
 have hz1 : w.heap.size ≤ w2.heap.size := by omega
 refine wpIn_rangeFunc_ownG rfl h1 (gf := 187) (lb := #[.pointer (some ⟨Bx, 0, none⟩)]) rfl trivial (enters_of Tryz.func187 (by kernel_rfl) rfl)
  (each1_stops l Bx b cap w2 hbB hcell hcap hbys (by omega) _ (by omega)) KB.trans (KB.put hbB hbl2) (Below.refl _ _) (fun _ => rfl)
  (CutI w w2 w2.heap.size w.heap.size) (fun _ _ _ => False)
  (fun s W W' row hs hg hr => ⟨hs.1.kept hg hr, ownFrom_below (β := List RP) (n₀ := w.heap.size) (w₀ := w) (Nat.le_refl _) (by omega) s W W' row hs.2 hg hr⟩)
  (fun c _ _ _ _ hs _ _ => hs.elim)
  ⟨BG.new hblk2 (by omega) (Nat.le_refl _), hw2⟩
  ?_ ?_ ?_ ?_ ?_
 rotate_left 1
 ·intro L x W K hK
  gi_wp2
  exact hK
 ·rintro L pre x W ⟨hG, hBel⟩ hpl
  have hpl2 : (pre.map RP.r).length ≤ 1100000 := by rw [List.length_map]; omega
  have hGl : (cutG (pre.map RP.r)).length ≤ 1100000 := Nat.le_trans (cutG_len _) hpl2
  have hGc : ∀ c ∈ cutG (pre.map RP.r), (encL c).length ≤ 64 := fun c hc => (cutG_clus _ (by
   intro r hr
   obtain ⟨y, _, rfl⟩ := List.mem_map.1 hr
   exact y.ok) c hc).len
  have hst : cutG ((pre ++ [x]).map RP.r) = stepG (cutG (pre.map RP.r)) x.r := by rw [List.map_append, List.map_cons, List.map_nil, cutG_snoc]
  have HST := Lib.hid hst
  have CA := Lib.hid (add_any w2.heap.size w.heap.size W _ x.r x.ok hG hGl hGc)
  have CC := fun W => control_any (x.r : Int) W
  cases hk : ctrlB (x.r : Int) with
  | true =>
   rw [hk] at CC
   have CC := Lib.hid CC
   have HK := Lib.hid hk
   clear hk hst hGl hGc hpl2
   gi_wp2_with (refine ⟨trivial, ?_⟩; gi_at_call 162; refine (callsIn_wide.2 (CC.out _)).mono ?_; rintro e w3 ⟨rfl, rfl⟩)
   exact ⟨KeepsFrom.refl _ _, KB.refl _ _ _, by rw [HST.out, ctrl_step HK.out]; exact hG, hBel⟩
  | false =>
   rw [hk] at CC
   have CC := Lib.hid CC
   clear hk hst hGl hGc hpl2
   gi_wp2_with (first
    | (refine ⟨trivial, ?_⟩; gi_at_call 162; refine (callsIn_wide.2 (CC.out _)).mono ?_; rintro e w3 ⟨rfl, rfl⟩)
    | (refine ⟨trivial, ?_⟩; gi_at_call 163; refine (callsIn_wide.2 CA.out).mono ?_; rintro e w4' ⟨rfl, hG4, hbut4⟩))
   have hfr : KeepsFrom w2.heap.size W w4' := hbut4.from
   have hI : CutI w w2 w2.heap.size w.heap.size (pre ++ [x]) w4' := ⟨by rw [HST.out]; exact hG4, hBel.trans (hbut4.below hz1 (Nat.le_refl _))⟩
   exact ⟨hfr, hbut4.kb hbB hxB hbl2 hyB, hI⟩
 ·rintro D ys W hD rfl ⟨hG, hBel⟩ hK
  rw [HE.out] at hG
  have hGl : (cutG (runesL l)).length ≤ 1100000 := Nat.le_trans (cutG_len _) (Nat.le_trans (runesL_len l) hl)
  obtain ⟨d, n, done, now, o, hb, ho⟩ := hG
  have hdl : done.length ≤ 2000000 := by
   rcases ho with ⟨_, e⟩ | ⟨_, rfl, _⟩
   ·have := congrArg List.length e; simp at this; omega
   ·simp
  have hD2 : (if o then done ++ [now] else done) = cutL l := by
   rcases ho with ⟨rfl, e⟩ | ⟨rfl, rfl, _, e⟩
   ·exact e
   ·unfold cutL; rw [e]; rfl
  have CE := Lib.hid (end_any _ _ W d n done now o _ hb hdl hD2)
  clear hGl ho hdl hD2 hb
  gi_wp2_with (refine ⟨trivial, ?_⟩; gi_at_call 164; refine (callsIn_wide.2 CE.out).mono ?_; rintro e w5 ⟨rfl, d5, n5, hb5, hbut5⟩; obtain ⟨⟨c0, c1, c2⟩, f0, f1, f2⟩ := hb5.cells; obtain ⟨a5, cap5, rfl⟩ := own_slice hb5.od)
  have hK5 : w5.heap[D]? = some (.deferred (some [])) := hbut5.others.same D _ hK rfl
  rw [Exit.noGoto_ret]
  refine ⟨by simp, .inl ⟨_, _, rfl, run_takeDeferred hK5, ?_⟩⟩
  refine ⟨_, results_tmp rfl _ _ _, ?_⟩
  have hod := ownsRow_putObj hb5.od (.deferred none) hK5 rfl
  obtain ⟨hr, hnc, hcm⟩ := own_row_at hod
  have hsh := own_shape hod
  refine ⟨a5, (cutL l).length, cap5, rfl, hnc, hcm, rfl, hr, ?_, ?_⟩
  ·exact (hBel.trans (hbut5.below hz1 (Nat.le_refl _))).trans (belowK_b (w := w) (Nat.le_refl _) w5 D _ _ (by omega) hK5 rfl rfl)
  ·rcases hsh with ⟨_, h0⟩ | ⟨g, c', e, _, hg, _⟩
   ·exact ⟨w.heap.size, Nat.le_refl _, fun h => by omega⟩
   ·have hcur := (own_cells hod g (by rw [e]; rfl)).2
    simp only [Value.slice.injEq] at e
    exact ⟨g, by omega, fun _ => ⟨e.1, hcur⟩⟩
 ·rintro D c pre W hD hpre hf hK
  exact hf.elim
end Go.Proofs.YtjkajojjehgmdaaGreat
