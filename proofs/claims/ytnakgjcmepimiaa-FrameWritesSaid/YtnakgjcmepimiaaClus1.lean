/- The contracts of isMark, isBase, and of the builder of clusters. -/
import Derived.Test.YtnakgjcmepimiaaRune5
import Derived.Test.YtnakgjcmepimiaaBut
import Derived.Test.YtnakgjcmepimiaaRegZ
import Derived.Deep.RegionHeldLaw
import Derived.Deep.AppendLies
import Derived.Outline
namespace Go.Proofs.Ytnakgjcmepimiaa
set_option linter.unusedVariables false
set_option linter.unusedSimpArgs false
open Go.RowKit Go.Shelf Go.Maps
theorem isR_isB' (r : Int) : isR r = isB r := rfl
set_option maxRecDepth 100000 in
theorem isMark_any (r : Int) (w : World) : Calls Try.prog 125 #[.int .i32 r] w fun e w' => e = .returned (.bool (joinB r)) ∧ Below w.heap.size w w' := by
  have C := of_any r w
  have CC := fun W => control_any r W
  have hz := cols_bd r
  obtain ⟨z, hj⟩ : ∃ z, z = joinB r := ⟨_, rfl⟩
  rw [← hj]
  unfold joinB at hj
  obtain ⟨c, hc⟩ : ∃ c, c = colsB r := ⟨_, rfl⟩
  rw [← hc] at C hz hj
  clear hc
  have C := Lib.hid C
  by_cases h0 : c = 0
  · subst h0
    cases hk : ctrlB r with
    | true =>
      rw [hk] at CC hj
      have CC := Lib.hid CC
      simp only [decide_true, Bool.not_true, Bool.and_false] at hj
      subst hj
      clear hk
      go_enter Try.func125, Try.ntmps125
      go_wp2_with (first
        | (go_at_call 108; refine (C.out).mono ?_; rintro e w1 ⟨rfl, hb1⟩)
        | (go_at_call 105; refine (CC.out _).mono ?_; rintro e w2 ⟨rfl, rfl⟩))
      go_ret
      exact ⟨rfl, hb1⟩
    | false =>
      rw [hk] at CC hj
      have CC := Lib.hid CC
      simp only [decide_true, Bool.not_false, Bool.and_true, Bool.true_and] at hj
      have HJ := Lib.hid hj
      clear hk hj
      go_enter Try.func125, Try.ntmps125
      go_wp2_with (first
        | (go_at_call 108; refine (C.out).mono ?_; rintro e w1 ⟨rfl, hb1⟩)
        | (go_at_call 105; refine (CC.out _).mono ?_; rintro e w2 ⟨rfl, rfl⟩))
      all_goals go_ret
      all_goals refine ⟨ret_bool ?_, hb1⟩
      all_goals rw [HJ.out]
      all_goals unfold isR
      all_goals first | exact (decide_eq_true (by omega)).symm | exact (decide_eq_false (by omega)).symm | (rw [Bool.eq_iff_iff]; simp only [decide_eq_true_eq, Bool.or_eq_true, Bool.and_eq_true]; omega)
  · have hd : decide (c = 0) = false := by simpa using h0
    have hne : (c != 0) = true := by simpa using h0
    rw [hd, Bool.false_and] at hj
    subst hj
    clear hd h0
    go_enter Try.func125, Try.ntmps125
    go_wp2_with (go_at_call 108; refine (C.out).mono ?_; rintro e w1 ⟨rfl, hb1⟩)
    go_ret
    exact ⟨rfl, hb1⟩
theorem isBase_any (r : Int) (w : World) : Calls Try.prog 124 #[.int .i32 r] w fun e w' => e = .returned (.bool (decide (0 < colsB r))) ∧ Below w.heap.size w w' := by
  have C := of_any r w
  obtain ⟨c, hc⟩ : ∃ c, c = colsB r := ⟨_, rfl⟩
  rw [← hc] at C ⊢
  have C := Lib.hid C
  clear hc
  go_enter Try.func124, Try.ntmps124
  go_wp2_with (go_at_call 108; refine (C.out).mono ?_; rintro e w1 ⟨rfl, hb1⟩)
  go_ret
  exact ⟨rfl, hb1⟩
/-! ### the builder -/
theorem infoU8c : (Try.prog.info? 5).map (fun i => (i.zero, i.size, i.bytes)) = some (some (.int .u8 0), 1, 1) := by kernel_rfl
theorem infoStrc : (Try.prog.info? 9).map (fun i => (i.zero, i.size, i.bytes)) = some (some (.string ⟨#[]⟩), 1, 16) := by kernel_rfl
/-- Strings as cells. -/
def strV (l : List (List UInt8)) : List Value := l.map fun s => .string (S s)
theorem strV_snoc (l : List (List UInt8)) (s : List UInt8) : strV (l ++ [s]) = strV l ++ [Value.string (S s)] := by simp [strV]
theorem u8v_append (a b : List UInt8) : u8v (a ++ b) = u8v a ++ u8v b := by simp [u8v]
structure Bld (n₀ B : Nat) (W : World) (d n : Value) (done : List (List UInt8)) (now : List UInt8) (o : Bool) : Prop where
  blk : W.heap[B]? = some (.cells #[d, n, .bool o] 137 (0, 0))
  lt : B < n₀
  le : n₀ ≤ W.heap.size
  od : W.ownsRow n₀ 9 1 d done.length (strV done)
  on : W.ownsRow n₀ 5 1 n now.length (u8v now)
theorem Bld.cells {n₀ B : Nat} {W : World} {d n : Value} {done : List (List UInt8)} {now : List UInt8} {o : Bool} (h : Bld n₀ B W d n done now o) :
    (W.cell? ⟨B, 0, none⟩ = some d ∧ W.cell? ⟨B, 1, none⟩ = some n ∧ W.cell? ⟨B, 2, none⟩ = some (.bool o)) ∧ (W.frozen? ⟨B, 0, none⟩ = false ∧ W.frozen? ⟨B, 1, none⟩ = false ∧ W.frozen? ⟨B, 2, none⟩ = false) := by
  have hb := h.blk
  unfold World.cell? World.frozen?
  dsimp only
  rw [hb]
  exact ⟨⟨rfl, rfl, rfl⟩, by simp⟩
theorem Bld.drew {n₀ B : Nat} {W : World} {d n : Value} {done : List (List UInt8)} {now : List UInt8} {o : Bool} (h : Bld n₀ B W d n done now o) : Bld n₀ B W.drew d n done now o := ⟨h.blk, h.lt, h.le, h.od, h.on⟩
theorem Bld.kept {n₀ B : Nat} {W W' : World} {d n : Value} {done : List (List UInt8)} {now : List UInt8} {o : Bool} (h : Bld n₀ B W d n done now o) {row : Option Nat} (hg : W.grownBy W' row) (hr : ∀ k, row = some k → k ≠ B ∧ n₀ ≤ k → ∃ o : Obj, W.heap[k]? = some o ∧ o.isCells = false) (hB : row ≠ some B) : Bld n₀ B W' d n done now o := by
  have hb : ∀ v : Value, ∀ e sz k xs, W.ownsRow n₀ e sz v k xs → W'.ownsRow n₀ e sz v k xs := fun v e sz k xs ho => by
    refine ho.kept hg ?_
    cases hv : v.ownBlock with
    | none => exact .inl rfl
    | some q =>
      refine .inr (fun e' => ?_)
      obtain ⟨h1, cur, h2⟩ := own_cells ho q hv
      obtain ⟨o, h3, h4⟩ := hr q e'.symm ⟨by have := h.lt; omega, h1⟩
      rw [h2] at h3; cases h3; cases h4
  exact ⟨(hg.block B (by have := h.lt; have := h.le; omega) (fun e => hB e.symm)).trans h.blk, h.lt, Nat.le_trans h.le hg.size, hb _ _ _ _ _ h.od, hb _ _ _ _ _ h.on⟩
theorem Bld.below {n₀ B : Nat} {W W' : World} {d n : Value} {done : List (List UInt8)} {now : List UInt8} {o : Bool} (h : Bld n₀ B W d n done now o) (hb : Below W.heap.size W W') : Bld n₀ B W' d n done now o :=
  h.kept (grown_of_below hb) (fun k e _ => by cases e) (fun e => by cases e)
theorem grownBy_set (W : World) (B off : Nat) (v : Value) : W.grownBy (W.setCell ⟨B, off, none⟩ v) (some B) :=
  ⟨rfl, rfl, rfl, by simp [World.setCell], fun k _ hne => Below.heap_setCell _ _ _ _ (fun e => hne (congrArg some e))⟩
theorem own_set {W : World} {n₀ B off : Nat} {e : TypeId} {size : Nat} {v : Value} {n : Nat} {xs : List Value} (h : W.ownsRow n₀ e size v n xs) (hB : B < n₀) (u : Value) : (W.setCell ⟨B, off, none⟩ u).ownsRow n₀ e size v n xs :=
  own_but h (grownBy_set W B off u) (fun k e => .inl (by cases e; exact hB))
theorem own_zero {W : World} {n₀ : Nat} {e : TypeId} {a : Option Addr} {n c : Nat} {xs : List Value} (h : W.ownsRow n₀ e 1 (.slice a n c) n xs) : W.ownsRow n₀ e 1 (.slice a 0 c) 0 [] := by
  rcases h.2 with ⟨h1, h0⟩ | ⟨g, cap, cur, h1, hg, hc, h2, h3, h4, _⟩
  · simp only [Value.slice.injEq] at h1
    obtain ⟨rfl, _, rfl⟩ := h1
    exact World.ownsRow_nil _ _ _ _
  · simp only [Value.slice.injEq] at h1
    obtain ⟨rfl, _, rfl⟩ := h1
    exact ⟨rfl, .inr ⟨g, c, cur, rfl, hg, hc, Nat.zero_le _, h3, h4, by simp⟩⟩
theorem own_shape {W : World} {n₀ : Nat} {e : TypeId} {v : Value} {n : Nat} {xs : List Value} (h : W.ownsRow n₀ e 1 v n xs) : v = .slice none 0 0 ∧ n = 0 ∨ ∃ g c, v = .slice (some ⟨g, 0, none⟩) n c ∧ n ≤ c ∧ n₀ ≤ g ∧ g < W.heap.size := by
  rcases h.2 with ⟨rfl, h0⟩ | ⟨g, cap, cur, rfl, hg, hc, h2, h3, h4, _⟩
  · exact .inl ⟨rfl, h0⟩
  · exact .inr ⟨g, cap, rfl, h2, hg, (Array.getElem?_eq_some_iff.1 hc).1⟩
theorem own_ne {W : World} {n₀ : Nat} {e : TypeId} {v : Value} {n : Nat} {xs : List Value} (h : W.ownsRow n₀ e 1 v n xs) (hn : n ≠ 0) : ∃ g c, v = .slice (some ⟨g, 0, none⟩) n c := by
  rcases own_shape h with ⟨_, h0⟩ | ⟨g, c, e, _⟩
  · exact absurd h0 hn
  · exact ⟨g, c, e⟩
def BldPost (n₀ B : Nat) (W : World) (done : List (List UInt8)) (now : List UInt8) (o : Bool) (e : Ending) (w' : World) : Prop :=
  e = .returned (.tuple #[]) ∧ ∃ d n, Bld n₀ B w' d n done now o ∧ But n₀ B W w'
theorem Bld.set1 {n₀ B : Nat} {W : World} {d n : Value} {done : List (List UInt8)} {now : List UInt8} {o : Bool} (h : Bld n₀ B W d n done now o) (n' : Value) (now' : List UInt8) (hn : W.ownsRow n₀ 5 1 n' now'.length (u8v now')) : Bld n₀ B (W.setCell ⟨B, 1, none⟩ n') d n' done now' o :=
  ⟨(heap_setCell_same _ _ _ _ _ _ h.blk).trans rfl, h.lt, by simp [World.setCell]; exact h.le, own_set h.od h.lt _, own_set hn h.lt _⟩
theorem Bld.set0 {n₀ B : Nat} {W : World} {d n : Value} {done : List (List UInt8)} {now : List UInt8} {o : Bool} (h : Bld n₀ B W d n done now o) (d' : Value) (done' : List (List UInt8)) (hd : W.ownsRow n₀ 9 1 d' done'.length (strV done')) : Bld n₀ B (W.setCell ⟨B, 0, none⟩ d') d' n done' now o :=
  ⟨(heap_setCell_same _ _ _ _ _ _ h.blk).trans rfl, h.lt, by simp [World.setCell]; exact h.le, own_set hd h.lt _, own_set h.on h.lt _⟩
theorem Bld.set2 {n₀ B : Nat} {W : World} {d n : Value} {done : List (List UInt8)} {now : List UInt8} {o : Bool} (h : Bld n₀ B W d n done now o) (o' : Bool) : Bld n₀ B (W.setCell ⟨B, 2, none⟩ (.bool o')) d n done now o' :=
  ⟨(heap_setCell_same _ _ _ _ _ _ h.blk).trans rfl, h.lt, by simp [World.setCell]; exact h.le, own_set h.od h.lt _, own_set h.on h.lt _⟩
set_option maxRecDepth 100000 in
theorem end_no (n₀ B : Nat) (W : World) (d n : Value) (done : List (List UInt8)) (now : List UInt8) (h : Bld n₀ B W d n done now false) :
    Calls Try.prog 107 #[.pointer (some ⟨B, 0, none⟩)] W (BldPost n₀ B W done [] false) := by
  obtain ⟨⟨c0, c1, c2⟩, f0, f1, f2⟩ := h.cells
  rcases own_shape h.on with ⟨rfl, h0⟩ | ⟨g, c, rfl, hnc, _, _⟩
  · have H0 := Lib.hid h0
    clear h0
    go_enter Try.func107, Try.ntmps107
    go_wp2
    go_end0
    exact ⟨rfl, d, .slice none 0 0, (h.set1 _ [] (World.ownsRow_nil _ _ _ _)).set2 false, ((But.refl _ _ _).setCell _ _).setCell _ _⟩
  · go_enter Try.func107, Try.ntmps107
    go_wp2
    go_end0
    exact ⟨rfl, d, .slice (some ⟨g, 0, none⟩) 0 c, (h.set1 _ [] (own_zero h.on)).set2 false, ((But.refl _ _ _).setCell _ _).setCell _ _⟩
theorem strV_len (l : List (List UInt8)) : (strV l).length = l.length := by simp [strV]
theorem u8v_len (l : List UInt8) : (u8v l).length = l.length := by simp [u8v]
theorem strOfNums_Sc (l : List UInt8) : strOfNums (l.map fun b => (b.toNat : Int)) = S l := by
  unfold strOfNums S
  rw [List.map_map]
  congr 2
  conv => rhs; rw [← List.map_id l]
  apply List.map_congr_left
  intro b _
  simp
/-- A row of bytes that the call owns, as a string. -/
theorem conv_ownc {W : World} {base : Nat} {a : Option Addr} {c : Nat} {l : List UInt8} (h : W.ownsRow base 5 1 (.slice a l.length c) l.length (u8v l)) :
    (convert 64 9 (.slice a l.length c)).run Try.prog W = .ok (.string (S l)) W := by
  rcases h.2 with ⟨e, h0⟩ | ⟨g, cap, cur, e, _, hg, _, _, hcs, ht⟩
  · have hl := List.length_eq_zero_iff.1 h0
    subst hl
    simp only [Value.slice.injEq] at e
    obtain ⟨rfl, _, rfl⟩ := e
    exact run_convert_bytes_nil (P := Try.prog) W 64 5 Try.underlying64 Try.underlying5 _ _ 9 Try.underlying9
  · simp only [Value.slice.injEq] at e
    obtain ⟨rfl, _, rfl⟩ := e
    have := run_convert_bytes_arg (P := Try.prog) W 64 5 Try.underlying64 Try.underlying5 g 0 l.length c (l.map fun b => (b.toNat : Int)) (by simp)
      (fun i hi => ?_) 9 Try.underlying9
    · rw [strOfNums_Sc] at this; exact this
    · unfold World.cell?
      dsimp only
      rw [hg]
      have h4 : (cur.toList.take (l.length * 1))[i]? = (u8v l)[i]? := by rw [ht]
      rw [List.getElem?_take_of_lt (by omega), Array.getElem?_toList] at h4
      simp only [Nat.zero_add, Option.isSome_none, Bool.false_eq_true, if_false]
      rw [h4]
      simp [u8v, hi]
/-- Behind an append to one of the two rows: all but that row is as it was. -/
theorem Bld.app {n₀ B : Nat} {W W1 w3 : World} {d n : Value} {done : List (List UInt8)} {now : List UInt8} {o : Bool} (h : Bld n₀ B W d n done now o) (hW : Below W.heap.size W W1) {row : Option Nat} (hg : W1.grownBy w3 row)
    (hr : ∀ k, row = some k → n₀ ≤ k ∧ ∃ cur e, W1.heap[k]? = some (.cells cur e (0, 0))) : But n₀ B W w3 ∧ w3.heap[B]? = some (.cells #[d, n, .bool o] 137 (0, 0)) ∧ n₀ ≤ w3.heap.size := by
  have h1 := h.below hW
  refine ⟨(But.of_below h.le hW).grown h1.le hg (fun k e => by obtain ⟨a, cur, t, b⟩ := hr k e; exact ⟨a, _, b, rfl⟩), ?_, Nat.le_trans h1.le hg.size⟩
  exact (hg.block B (by have := h1.lt; have := h1.le; omega) (fun e => by have := (hr B e.symm).1; have := h1.lt; omega)).trans h1.blk
theorem blk_cells {W : World} {B : Nat} {d n o : Value} {t : TypeId} (hb : W.heap[B]? = some (.cells #[d, n, o] t (0, 0))) :
    (W.cell? ⟨B, 0, none⟩ = some d ∧ W.cell? ⟨B, 1, none⟩ = some n ∧ W.cell? ⟨B, 2, none⟩ = some o) ∧ (W.frozen? ⟨B, 0, none⟩ = false ∧ W.frozen? ⟨B, 1, none⟩ = false ∧ W.frozen? ⟨B, 2, none⟩ = false) := by
  unfold World.cell? World.frozen?
  dsimp only
  rw [hb]
  exact ⟨⟨rfl, rfl, rfl⟩, by simp⟩
theorem own_row {W : World} {base : Nat} {e : TypeId} {size : Nat} {v : Value} {n : Nat} {xs : List Value} (h : W.ownsRow base e size v n xs) : ∀ k, v.ownBlock = some k → base ≤ k ∧ ∃ cur e', W.heap[k]? = some (.cells cur e' (0, 0)) := fun k hk => by
  obtain ⟨h1, cur, h2⟩ := own_cells h k hk
  exact ⟨h1, cur, _, h2⟩
theorem own_other {W1 w3 : World} {n₀ : Nat} {e e' : TypeId} {v v' : Value} {n k : Nat} {xs ys : List Value} (h : W1.ownsRow n₀ e 1 v n xs) (h' : W1.ownsRow n₀ e' 1 v' k ys) (hne : e' ≠ e) (hg : W1.grownBy w3 v'.ownBlock) : w3.ownsRow n₀ e 1 v n xs :=
  own_but h hg (fun q hq => by obtain ⟨_, cur, hc⟩ := own_cells h' q hq; exact .inr ⟨cur, e', _, hne, hc⟩)
theorem Bld.appDone {n₀ B : Nat} {W w3 : World} {d n : Value} {done : List (List UInt8)} {now : List UInt8} {o : Bool} (h : Bld n₀ B W d n done now o) {tmp : Obj} (hne : (9 : TypeId) ≠ 5) (hg : (W.alloc tmp).drew.grownBy w3 d.ownBlock) :
    But n₀ B W w3 ∧ w3.heap[B]? = some (.cells #[d, n, .bool o] 137 (0, 0)) ∧ n₀ ≤ w3.heap.size ∧ w3.ownsRow n₀ 5 1 n now.length (u8v now) := by
  obtain ⟨h1, h2, h3⟩ := h.app ((Below.refl _ _).alloc (Nat.le_refl _) _).drew hg (own_row (h.od.alloc _).drew)
  exact ⟨h1, h2, h3, own_other (h.on.alloc _).drew (h.od.alloc _).drew hne hg⟩
theorem one_at (W : World) (v : Value) (t : TypeId) : ∀ (j : Nat) (u : Value), [v][j]? = some u → (W.alloc (.cells #[v] t)).drew.cell? ((⟨W.heap.size, 0, none⟩ : Addr).add j) = some u := fun j u h => by
  match j with
  | 0 => simp only [List.getElem?_cons_zero, Option.some.injEq] at h; subst h; exact (cell_new_l W v t).1
  | j + 1 => simp at h
set_option maxRecDepth 100000 in
set_option maxHeartbeats 1000000 in
theorem end_yes (n₀ B : Nat) (W : World) (d n : Value) (done : List (List UInt8)) (now : List UInt8) (h : Bld n₀ B W d n done now true) (hd : done.length ≤ 2000000) :
    Calls Try.prog 107 #[.pointer (some ⟨B, 0, none⟩)] W (BldPost n₀ B W (done ++ [now]) [] false) := by
  obtain ⟨i0, hi, hz0, hz1, hz2⟩ := info_parts infoStrc
  obtain ⟨⟨c0, c1, c2⟩, f0, f1, f2⟩ := h.cells
  have hlt := h.lt
  have hle := h.le
  have hne : (9 : TypeId) ≠ 5 := by decide
  rcases own_shape h.on with ⟨rfl, h0⟩ | ⟨g, c, rfl, hnc, _, _⟩
  · have h0' := List.length_eq_zero_iff.1 h0
    subst h0'
    clear h0
    have hcv : ∀ w', w'.ownsRow n₀ 5 1 (.slice none 0 0) 0 (u8v []) → (convert 64 9 (.slice none 0 0)).run Try.prog w' = .ok (.string (S [])) w' := fun w' h => conv_ownc h
    have hon : W.ownsRow n₀ 5 1 (.slice none 0 0) 0 (u8v []) := h.on
    go_enter Try.func107, Try.ntmps107
    go_wp2
    refine wp_region_reads 10 (fun w' => w'.cell? ⟨B, 0, none⟩ = some d ∧ w'.cell? ⟨B, 1, none⟩ = some (.slice none 0 0) ∧ w'.ownsRow n₀ 5 1 (.slice none 0 0) 0 (u8v [])) (by kernel_rfl) (by kernel_rfl) (by kernel_rfl) (by kernel_rfl) (fun _ _ d _ _ h => by cases d <;> exact h) ⟨c0, c1, hon⟩ ?_
    simp only [List.take_succ_cons, List.take_zero, List.drop_succ_cons, List.drop_zero]
    repeat (refine' wpRead_step (v := _) rfl ?_ ?_; rotate_left 1; (intro w' hw'; obtain ⟨s0, s1, s2⟩ := hw'; go_simp; try with_reducible rfl); try simp only [Act.put, List.setIfInBounds_toArray, List.set_cons_zero, List.set_cons_succ])
    clear hcv
    refine wpRead_nil ?_
    refine wpActs_step (fun K hK => ?_)
    go_wp2
    refine hK _ _ ⟨(cell_alloc_l _ c0 : (W.alloc _).cell? _ = _), (cell_alloc_l _ c1 : (W.alloc _).cell? _ = _), hon.alloc _⟩ ?_
    clear hK K
    refine wpActs_step (fun K hK => ?_)
    refine wpList_append_own _ rfl (.tmp 10) (.tmp 16) 42 rfl n₀ 9 i0 (.string ⟨#[]⟩) 1 16 Try.underlying42 hi hz0 hz1 hz2 rfl (by decide) d done.length (strV done) rfl (h.od.drew.alloc _) ⟨W.heap.size, 0, none⟩ 1 1 [.string (S [])] rfl rfl (one_at _ _ _) (by intro u hu; rw [List.mem_singleton.1 hu]; rfl) (by unfold maxLen; omega) (by omega) (by simp; omega) ?_
    intro d' w3 ho3 hg3 _
    obtain ⟨hbut, hblk, hle3, hon3⟩ := h.appDone hne hg3
    obtain ⟨⟨d0, d1, d2⟩, e0, e1, e2⟩ := blk_cells hblk
    have ho3 : w3.ownsRow n₀ 9 1 d' (done ++ [[]]).length (strV (done ++ [[]])) := by rw [strV_snoc, List.length_append]; exact ho3
    obtain ⟨g', c', rfl⟩ := own_ne ho3 (by simp)
    refine hK _ _ ⟨d0, d1, hon3⟩ ?_
    clear hK K hg3
    refine wpActs_step (fun K hK => ?_)
    go_wp2
    refine hK _ _ ⟨d0, d1, hon3⟩ ?_
    clear hK K
    refine wpActs_step (fun K hK => ?_)
    go_wp2
    refine hK _ _ ⟨d0, d1, hon3⟩ ?_
    clear hK K
    refine wpActs_last ?_
    go_wp2
    go_end0
    have hB3 : Bld n₀ B (w3.setCell ⟨B, 0, none⟩ (.slice (some ⟨g', 0, none⟩) (done ++ [[]]).length c')) (.slice (some ⟨g', 0, none⟩) (done ++ [[]]).length c') (.slice none 0 0) (done ++ [[]]) [] true := ⟨(heap_setCell_same _ _ _ _ _ _ hblk).trans rfl, hlt, by simp [World.setCell]; exact hle3, own_set ho3 hlt _, own_set hon3 hlt _⟩
    have hl : (done ++ [[]]).length = done.length + 1 := by simp
    rw [hl] at hB3
    exact ⟨rfl, _, .slice none 0 0, (hB3.set1 _ [] (World.ownsRow_nil _ _ _ _)).set2 false, (((hbut.setCell _ _).setCell _ _).setCell _ _)⟩
  · have hcv : ∀ w', w'.ownsRow n₀ 5 1 (.slice (some ⟨g, 0, none⟩) now.length c) now.length (u8v now) → (convert 64 9 (.slice (some ⟨g, 0, none⟩) now.length c)).run Try.prog w' = .ok (.string (S now)) w' := fun w' h => conv_ownc h
    have hon : W.ownsRow n₀ 5 1 (.slice (some ⟨g, 0, none⟩) now.length c) now.length (u8v now) := h.on
    go_enter Try.func107, Try.ntmps107
    go_wp2
    refine wp_region_reads 10 (fun w' => w'.cell? ⟨B, 0, none⟩ = some d ∧ w'.cell? ⟨B, 1, none⟩ = some (.slice (some ⟨g, 0, none⟩) now.length c) ∧ w'.ownsRow n₀ 5 1 (.slice (some ⟨g, 0, none⟩) now.length c) now.length (u8v now)) (by kernel_rfl) (by kernel_rfl) (by kernel_rfl) (by kernel_rfl) (fun _ _ d _ _ h => by cases d <;> exact h) ⟨c0, c1, hon⟩ ?_
    simp only [List.take_succ_cons, List.take_zero, List.drop_succ_cons, List.drop_zero]
    repeat (refine' wpRead_step (v := _) rfl ?_ ?_; rotate_left 1; (intro w' hw'; obtain ⟨s0, s1, s2⟩ := hw'; go_simp; try with_reducible rfl); try simp only [Act.put, List.setIfInBounds_toArray, List.set_cons_zero, List.set_cons_succ])
    clear hcv
    refine wpRead_nil ?_
    refine wpActs_step (fun K hK => ?_)
    go_wp2
    refine hK _ _ ⟨(cell_alloc_l _ c0 : (W.alloc _).cell? _ = _), (cell_alloc_l _ c1 : (W.alloc _).cell? _ = _), hon.alloc _⟩ ?_
    clear hK K
    refine wpActs_step (fun K hK => ?_)
    refine wpList_append_own _ rfl (.tmp 10) (.tmp 16) 42 rfl n₀ 9 i0 (.string ⟨#[]⟩) 1 16 Try.underlying42 hi hz0 hz1 hz2 rfl (by decide) d done.length (strV done) rfl (h.od.drew.alloc _) ⟨W.heap.size, 0, none⟩ 1 1 [.string (S now)] rfl rfl (one_at _ _ _) (by intro u hu; rw [List.mem_singleton.1 hu]; rfl) (by unfold maxLen; omega) (by omega) (by simp; omega) ?_
    intro d' w3 ho3 hg3 _
    obtain ⟨hbut, hblk, hle3, hon3⟩ := h.appDone hne hg3
    obtain ⟨⟨d0, d1, d2⟩, e0, e1, e2⟩ := blk_cells hblk
    have ho3 : w3.ownsRow n₀ 9 1 d' (done ++ [now]).length (strV (done ++ [now])) := by rw [strV_snoc, List.length_append]; exact ho3
    obtain ⟨g', c', rfl⟩ := own_ne ho3 (by simp)
    refine hK _ _ ⟨d0, d1, hon3⟩ ?_
    clear hK K hg3
    refine wpActs_step (fun K hK => ?_)
    go_wp2
    refine hK _ _ ⟨d0, d1, hon3⟩ ?_
    clear hK K
    refine wpActs_step (fun K hK => ?_)
    go_wp2
    refine hK _ _ ⟨d0, d1, hon3⟩ ?_
    clear hK K
    refine wpActs_last ?_
    go_wp2
    go_end0
    have hB3 : Bld n₀ B (w3.setCell ⟨B, 0, none⟩ (.slice (some ⟨g', 0, none⟩) (done ++ [now]).length c')) (.slice (some ⟨g', 0, none⟩) (done ++ [now]).length c') (.slice (some ⟨g, 0, none⟩) now.length c) (done ++ [now]) now true := ⟨(heap_setCell_same _ _ _ _ _ _ hblk).trans rfl, hlt, by simp [World.setCell]; exact hle3, own_set ho3 hlt _, own_set hon3 hlt _⟩
    have hl : (done ++ [now]).length = done.length + 1 := by simp
    rw [hl] at hB3
    exact ⟨rfl, _, .slice (some ⟨g, 0, none⟩) 0 c, (hB3.set1 _ [] (own_zero (own_set hon3 hlt _))).set2 false, (((hbut.setCell _ _).setCell _ _).setCell _ _)⟩
end Go.Proofs.Ytnakgjcmepimiaa
