/- Spans in memory; the program's spans of a row. No condition. The reference's diff: other, changes. No condition. -/
import Derived.Laws.AppendOwnNone
import Derived.Test.YtekodpcedjpnjaaGreatBw41
namespace Go.Proofs.YtekodpcedjpnjaaGreat
set_option linter.unusedVariables false
set_option linter.unusedSimpArgs false
open Go.RowKit Go.Shelf Go.Maps
/-! ### own rows: a cell, a store -/
theorem own_get {W : World} {n₀ s g n cap : Nat} {e : TypeId} {xs : List Value} (h : W.ownsRow n₀ e s (.slice (some ⟨g, 0, none⟩) n cap) n xs) {j : Nat} {u : Value} (hj : xs[j]? = some u) : W.cell? ⟨g, j, none⟩ = some u ∧ W.frozen? ⟨g, j, none⟩ = false := by
  rcases h.2 with ⟨h1, _⟩ | ⟨g', cap', cur, h1, h2, h3, h4, h5, h6, h7⟩
  · cases h1
  · cases h1
    have hl : j < xs.length := (List.getElem?_eq_some_iff.1 hj).1
    have h8 : cur[j]? = some u := by
      rw [← h7, List.getElem?_take] at hj
      split at hj
      · rw [Array.getElem?_toList] at hj; exact hj
      · cases hj
    unfold World.cell? World.frozen?
    dsimp only
    rw [h3]
    exact ⟨by simpa using h8, by simp⟩
theorem own_put {W : World} {n₀ s g n cap : Nat} {e : TypeId} {xs : List Value} (h : W.ownsRow n₀ e s (.slice (some ⟨g, 0, none⟩) n cap) n xs) (j : Nat) (u : Value) : (W.setCell ⟨g, j, none⟩ u).ownsRow n₀ e s (.slice (some ⟨g, 0, none⟩) n cap) n (xs.set j u) := by
  obtain ⟨h0, h⟩ := h
  refine ⟨by rw [List.length_set]; exact h0, ?_⟩
  rcases h with ⟨h1, _⟩ | ⟨g', cap', cur, h1, h2, h3, h4, h5, h6, h7⟩
  · cases h1
  · cases h1
    refine .inr ⟨g, cap, cur.setIfInBounds j u, rfl, h2, ?_, h4, h5, by simpa using h6, ?_⟩
    · unfold World.setCell
      dsimp only
      rw [Array.getElem?_modify, if_pos rfl, h3]
      rfl
    · rw [← h7, Array.toList_setIfInBounds, List.take_set]
theorem own_block {W : World} {n₀ s g n cap : Nat} {e : TypeId} {xs : List Value} (h : W.ownsRow n₀ e s (.slice (some ⟨g, 0, none⟩) n cap) n xs) : n₀ ≤ g ∧ g < W.heap.size := by
  rcases h.2 with ⟨h1, _⟩ | ⟨g', cap', cur, h1, h2, h3, _⟩
  · cases h1
  · cases h1
    exact ⟨h2, (Array.getElem?_eq_some_iff.1 h3).1⟩
theorem own_base {W : World} {n₀ n' s n : Nat} {e : TypeId} {v : Value} {xs : List Value} (h : W.ownsRow n₀ e s v n xs) (hb : n' ≤ n₀) : W.ownsRow n' e s v n xs :=
  ⟨h.1, h.2.imp id (fun ⟨g, cap, cur, h1, h2, r⟩ => ⟨g, cap, cur, h1, Nat.le_trans hb h2, r⟩)⟩
/-! ### spans -/
def spV (l : List (Nat × Nat × Nat)) : List Value := l.flatMap fun s => [.int .i64 (s.1 : Nat), .int .i64 (s.2.1 : Nat), .int .i64 (s.2.2 : Nat)]
theorem spV_app (l m : List (Nat × Nat × Nat)) : spV (l ++ m) = spV l ++ spV m := by unfold spV; rw [List.flatMap_append]
theorem spV_len : ∀ l : List (Nat × Nat × Nat), (spV l).length = l.length * 3
  | [] => rfl
  | s :: l => by
    have := spV_len l
    unfold spV at this ⊢
    rw [List.flatMap_cons, List.length_append, this, List.length_cons]
    simp; omega
theorem spV_get : ∀ (l : List (Nat × Nat × Nat)) (i : Nat) (s : Nat × Nat × Nat), l[i]? = some s → (spV l)[i * 3]? = some (.int .i64 (s.1 : Nat)) ∧ (spV l)[i * 3 + 1]? = some (.int .i64 (s.2.1 : Nat)) ∧ (spV l)[i * 3 + 2]? = some (.int .i64 (s.2.2 : Nat))
  | [], _, _, h => by simp at h
  | x :: l, 0, s, h => by
    simp only [List.getElem?_cons_zero, Option.some.injEq] at h
    subst h
    exact ⟨rfl, rfl, rfl⟩
  | x :: l, i + 1, s, h => by
    rw [List.getElem?_cons_succ] at h
    have ih := spV_get l i s h
    have e : ∀ k, (spV (x :: l))[(i + 1) * 3 + k]? = (spV l)[i * 3 + k]? := fun k => by
      show ((.int .i64 (x.1 : Nat)) :: (.int .i64 (x.2.1 : Nat)) :: (.int .i64 (x.2.2 : Nat)) :: spV l)[(i + 1) * 3 + k]? = _
      rw [show (i + 1) * 3 + k = (i * 3 + k) + 1 + 1 + 1 by omega, List.getElem?_cons_succ, List.getElem?_cons_succ, List.getElem?_cons_succ]
    exact ⟨by rw [show (i + 1) * 3 = (i + 1) * 3 + 0 by omega, e]; exact ih.1, by rw [e]; exact ih.2.1, by rw [e]; exact ih.2.2⟩
theorem spV_last (D : List (Nat × Nat × Nat)) (r a b c : Nat) : (spV (D ++ [(r, a, b)])).set (D.length * 3 + 2) (.int .i64 (c : Nat)) = spV (D ++ [(r, a, c)]) := by
  rw [spV_app, spV_app, List.set_append_right _ _ (by rw [spV_len]; omega), spV_len, show D.length * 3 + 2 - D.length * 3 = 2 by omega]
  rfl
theorem spV_one (l : List (Nat × Nat × Nat)) : ∀ u ∈ spV l, u.oneCell' = true := fun u hu => by
  unfold spV at hu
  obtain ⟨s, _, hs⟩ := List.mem_flatMap.1 hu
  simp only [List.mem_cons, List.not_mem_nil, or_false] at hs
  rcases hs with rfl | rfl | rfl <;> rfl
def atSp (r : Nat) (L : List (Nat × Nat)) : List (Nat × Nat × Nat) := L.map fun s => (r, s.1, s.2)
theorem atSp_app (r : Nat) (L M : List (Nat × Nat)) : atSp r (L ++ M) = atSp r L ++ atSp r M := by unfold atSp; rw [List.map_append]
theorem cells3 (W : World) (x y z : Value) (t : TypeId) : ∀ (j : Nat) (u : Value), [x, y, z][j]? = some u → (W.alloc (.cells #[x, y, z] t)).cell? ((⟨W.heap.size, 0, none⟩ : Addr).add j) = some u := fun j u h => by
  rw [Go.WideShapes.add_plain, Nat.zero_add, cell_of_row (W.alloc (.cells #[x, y, z] t)) W.heap.size j #[x, y, z] t (0, 0) (World.alloc_heap_new W _)]
  simpa using h
theorem infoSpan : (Tryz.prog.info? 166).map (fun i => (i.zero, i.size, i.bytes)) = some (some (.agg #[.int .i64 0, .int .i64 0, .int .i64 0]), 3, 24) := by kernel_rfl
/-- Where a row's spans are, at a column. -/
def SpI (on : List Bool) (k : Nat) (o : Bool) (L : List (Nat × Nat)) : Prop :=
  match o with
  | false => L ++ spansF k none (on.drop k) = spansF 0 none on
  | true => ∃ D a, L = D ++ [(a, k)] ∧ D ++ spansF k (some a) (on.drop k) = spansF 0 none on
theorem SpI.len {on : List Bool} {k : Nat} {o : Bool} {L : List (Nat × Nat)} (h : SpI on k o L) : L.length ≤ on.length := by
  have h1 := spansF_count on 0 none
  have h2 : (spansF 0 none on).length ≤ on.length := by simpa using h1
  cases o with
  | false =>
    have := congrArg List.length (show L ++ spansF k none (on.drop k) = spansF 0 none on from h)
    rw [List.length_append] at this
    omega
  | true =>
    obtain ⟨D, a, rfl, h3⟩ := h
    have := congrArg List.length h3
    rw [List.length_append] at this
    have h4 : ∀ (t : List Bool) (j : Nat), 1 ≤ (spansF j (some a) t).length := by
      intro t
      induction t with
      | nil => intro j; simp [spansF]
      | cons x t ih =>
        intro j
        cases x with
        | true => rw [spansF]; exact ih _
        | false => simp [spansF]
    have := h4 (on.drop k) k
    rw [List.length_append]
    simp
    omega
theorem SpI.fin {on : List Bool} {o : Bool} {L : List (Nat × Nat)} (h : SpI on on.length o L) : L = spansF 0 none on := by
  cases o with
  | false =>
    have h1 : L ++ spansF on.length none (on.drop on.length) = spansF 0 none on := h
    rw [spansF_past on on.length (Nat.le_refl _), List.append_nil] at h1
    exact h1
  | true =>
    obtain ⟨D, a, rfl, h3⟩ := h
    rw [List.drop_of_length_le (Nat.le_refl _), spansF] at h3
    exact h3
set_option maxRecDepth 100000 in
set_option maxHeartbeats 8000000 in
theorem drow_any {W : World} {a1 a2 : Option Addr} {n c1 c2 : Nat} {A B : List GC} (hA : CellsAt W a1 n A) (hB : CellsAt W a2 n B) (hn : n ≤ 1000) (wa : wholeB A = true) (wb : wholeB B = true) (r : Nat) :
    Calls Tryz.prog 106 #[.int .i64 r, .slice a1 n c1, .slice a2 n c2] W fun e w' => ∃ v, e = .returned v ∧ w'.ownsRow W.heap.size 166 3 v (rowSp r (chgL A B)).length (spV (rowSp r (chgL A B))) ∧ Below W.heap.size W w' := by
  obtain ⟨i0, hi, hz0, hz1, hz2⟩ := info_parts infoSpan
  have CC := Lib.hid (changes_any (c1 := c1) (c2 := c2) hA hB hn wa wb)
  obtain ⟨on, hon⟩ : ∃ on, on = chgL A B := ⟨_, rfl⟩
  rw [← hon] at CC ⊢
  have hol : on.length = n := by rw [hon, chgL_length (by rw [hA.len, hB.len]), hA.len]
  have HOL := Lib.hid hol
  clear hA hB wa wb hon hol
  go_enter Tryz.func106, Tryz.ntmps106
  go_wp2_with (go_at_call 180; refine (CC.out).mono ?_; rintro e w1 ⟨q, rfl, hq, g1, hb1⟩)
  clear CC
  have hs1 := hb1.size
  have hql := g1.lt
  go_loopw [7, 8, 15] (fun v o i wr => ∃ (k : Nat) (L : List (Nat × Nat)) (ob : Bool), k ≤ n ∧ i = .int .i64 k ∧ o = .bool ob ∧ wr.ownsRow w1.heap.size 166 3 v L.length (spV (atSp r L)) ∧ Hid (SpI on k ob L) ∧ Below w1.heap.size w1 wr) (fun _ _ i _ => n - (intOf i).toNat)
  case atStart => exact ⟨0, [], false, Nat.zero_le _, rfl, rfl, World.ownsRow_nil _ _ _ _, Lib.hid rfl, Below.refl _ _⟩
  case round =>
    obtain ⟨k, L, ob, hk, rfl, rfl, hown, HI, hb⟩ := hrel
    have hs := hb.size
    have hLn := HI.out.len
    rw [HOL.out] at hLn
    have g := g1.below hb
    by_cases hlt : k < n
    · obtain ⟨v0, _⟩ := g.cell (i := k) (by rw [HOL.out]; exact hlt)
      cases hv : nth false on k with
      | true =>
        rw [hv] at v0
        cases ob with
        | true =>
          obtain ⟨D, a, rfl, hD⟩ := HI.out
          have hnx : Hid (SpI on (k + 1) true (D ++ [(a, k + 1)])) := Lib.hid ⟨D, a, rfl, by rw [← hD, spansF_more on k a (by rw [HOL.out]; exact hlt) hv]⟩
          obtain ⟨d, hd⟩ : ∃ d, d = D.length := ⟨_, rfl⟩
          have hdl : (D ++ [(a, k)]).length = d + 1 := by rw [hd]; simp
          rw [hdl] at hown hLn
          obtain ⟨gb, c, rfl, hgb, hc1, hc2⟩ := own_neS hown (by omega)
          obtain ⟨y0, y1⟩ := own_get hown (j := d * 3 + 2) (u := .int .i64 (k : Nat)) (by
            have := (spV_get (atSp r (D ++ [(a, k)])) d (r, a, k) (by rw [atSp_app]; unfold atSp; rw [List.getElem?_append_right (by simp; omega)]; simp [hd])).2.2
            exact this)
          have hp := own_put hown (d * 3 + 2) (.int .i64 ((k + 1 : Nat) : Int))
          have e1 : (spV (atSp r (D ++ [(a, k)]))).set (d * 3 + 2) (.int .i64 ((k + 1 : Nat) : Int)) = spV (atSp r (D ++ [(a, k + 1)])) := by
            rw [atSp_app, atSp_app]
            have := spV_last (atSp r D) r a k (k + 1)
            rw [show (atSp r D).length = d by unfold atSp; rw [List.length_map, hd]] at this
            exact this
          rw [e1] at hp
          have hb3 : Below w1.heap.size w1 (wr.setCell ⟨gb, d * 3 + 2, none⟩ (.int .i64 ((k + 1 : Nat) : Int))) := hb.setCell (p := ⟨gb, d * 3 + 2, none⟩) hgb _
          have hdm : ((d : Int) + 1) - 1 = (d : Int) := by omega
          have hdl2 : (d : Int) < (d : Int) + 1 := by omega
          have hdk : Hid ((D ++ [(a, k + 1)]).length = d + 1) := Lib.hid (by rw [hd]; simp)
          have HP := Lib.hid hp
          clear hp e1 hD HI hown hdl hv hd
          go_wp2
          go_roundw
          case rel => exact ⟨k + 1, D ++ [(a, k + 1)], true, hlt, by go_num, rfl, by rw [hdk.out]; exact HP.out, hnx, hb3⟩
          case measure => simp [intOf]; omega
        | false =>
          have hI : L ++ spansF k none (on.drop k) = spansF 0 none on := HI.out
          have hnx : Hid (SpI on (k + 1) true (L ++ [(k, k + 1)])) := Lib.hid ⟨L, k, rfl, by rw [← hI, spansF_on on k (by rw [HOL.out]; exact hlt) hv]⟩
          have hne : Hid (spV (atSp r (L ++ [(k, k + 1)])) = spV (atSp r L) ++ [.int .i64 (r : Nat), .int .i64 (k : Nat), .int .i64 ((k : Int) + 1)]) := Lib.hid (by rw [atSp_app, spV_app]; rfl)
          have hll : Hid ((L ++ [(k, k + 1)]).length = L.length + 1) := Lib.hid (by simp)
          have hnews := cells3 wr (.int .i64 (r : Nat)) (.int .i64 (k : Nat)) (.int .i64 ((k : Int) + 1)) 166
          have hone : ∀ u ∈ [Value.int .i64 (r : Nat), .int .i64 (k : Nat), .int .i64 ((k : Int) + 1)], u.oneCell' = true := fun u hu => by
            simp only [List.mem_cons, List.not_mem_nil, or_false] at hu
            rcases hu with rfl | rfl | rfl <;> rfl
          obtain ⟨av, cv, rfl⟩ := own_sliceF hown
          clear hI HI hv
          go_wp2_with (at_builtin; refine wpList_append_own_at _ rfl _ _ 72 rfl w1.heap.size 166 i0 (.agg #[.int .i64 0, .int .i64 0, .int .i64 0]) 3 24 Tryz.underlying72 hi hz0 hz1 hz2 rfl (by decide) _ _ _ rfl (hown.alloc _) ⟨wr.heap.size, 0, none⟩ 1 1 [.int .i64 (r : Nat), .int .i64 (k : Nat), .int .i64 ((k : Int) + 1)] rfl rfl hnews hone (by unfold maxLen; omega) (by omega) (by simp; omega) ?_; intro v' w2 hown' hgrow _ _)
          have hB1 : Below w1.heap.size wr w2 := ((Below.refl w1.heap.size wr).alloc (by omega) _).grown hgrow (by simp; omega) (fun k e => (own_cells hown k e).1)
          go_roundw
          case rel => exact ⟨k + 1, L ++ [(k, k + 1)], true, hlt, by go_num, rfl, by rw [hll.out, hne.out]; exact hown', hnx, hb.trans hB1⟩
          case measure => simp [intOf]; omega
      | false =>
        rw [hv] at v0
        obtain ⟨av, cv, rfl⟩ := own_sliceF hown
        have hnx : Hid (SpI on (k + 1) false L) := Lib.hid (by
          cases ob with
          | true =>
            obtain ⟨D, a, rfl, hD⟩ := HI.out
            show D ++ [(a, k)] ++ spansF (k + 1) none (on.drop (k + 1)) = _
            rw [← hD, spansF_shut on k a (by rw [HOL.out]; exact hlt) hv, List.append_assoc]
            rfl
          | false =>
            have hI : L ++ spansF k none (on.drop k) = spansF 0 none on := HI.out
            show L ++ spansF (k + 1) none (on.drop (k + 1)) = _
            rw [← hI, spansF_off on k (by rw [HOL.out]; exact hlt) hv])
        clear HI hv
        go_wp2
        go_roundw
        case rel => exact ⟨k + 1, L, false, hlt, by go_num, rfl, hown, hnx, hb⟩
        case measure => simp [intOf]; omega
    · obtain rfl : k = n := by omega
      have hfin : Hid (atSp r L = rowSp r on) := Lib.hid (by
        have := HI.out
        rw [← HOL.out] at this
        rw [this.fin]; rfl)
      have hlen : Hid (L.length = (rowSp r on).length) := Lib.hid (by rw [← hfin.out]; unfold atSp; rw [List.length_map])
      obtain ⟨av, cv, rfl⟩ := own_sliceF hown
      have ho2 := own_base hown hs1
      rw [hfin.out, hlen.out] at ho2
      have HO2 := Lib.hid ho2
      have hbf := bto hb1 hb hs1
      have HLE : Hid (Value.slice av L.length cv = .slice av (rowSp r on).length cv) := Lib.hid (by rw [hlen.out])
      clear ho2 hown HI
      go_wp2
      go_ret
      exact ⟨_, congrArg Ending.returned HLE.out, HO2.out, hbf⟩
end Go.Proofs.YtekodpcedjpnjaaGreat
namespace Go.Proofs.YtekodpcedjpnjaaGreat
set_option linter.unusedVariables false
set_option linter.unusedSimpArgs false
open Go.RowKit Go.Shelf Go.Maps
theorem bv_get {L : List Bool} {i : Nat} (hi : i < L.length) : (L.map Value.bool)[i]? = some (.bool (nth false L i)) := by
  rw [List.getElem?_map, List.getElem?_eq_getElem hi, nth_eq _ _ _ hi]; rfl
end Go.Proofs.YtekodpcedjpnjaaGreat
