/- Spans in memory; the program's spans of a row. No condition. The reference's diff: other, changes. No condition. -/
import Derived.Laws.AppendOwnNone
import Derived.Test.YtekodpcedjpnjaaGreatBs38
set_option linter.unusedVariables false
set_option linter.unusedSimpArgs false
namespace Go.Proofs.YtekodpcedjpnjaaGreat
open Go.RowKit Go.Shelf Go.Maps
theorem own_get {W : World} {n₀ s g n cap : Nat} {e : TypeId} {xs : List Value} (h : W.ownsRow n₀ e s (.slice (some ⟨g, 0, none⟩) n cap) n xs) {j : Nat} {u : Value} (hj : xs[j]? = some u) : W.cell? ⟨g, j, none⟩ = some u ∧ W.frozen? ⟨g, j, none⟩ = false := by
  rcases h.2 with ⟨h1, _⟩ | ⟨g', cap', cur, h1, h2, h3, h4, h5, h6, h7⟩
  · cases h1
  · cases h1
    have hl : j < xs.length := (List.getElem?_eq_some_iff.1 hj).1
    have h8 : cur[j]? = some u := by
      rw [← h7, List.getElem?_take] at hj
      split at hj
      · rw [Array.getElem?_toList] at hj; exact hj
      · cases hj
    unfold World.cell? World.frozen?
    dsimp only
    rw [h3]
    exact ⟨by simpa using h8, by simp⟩
theorem own_put {W : World} {n₀ s g n cap : Nat} {e : TypeId} {xs : List Value} (h : W.ownsRow n₀ e s (.slice (some ⟨g, 0, none⟩) n cap) n xs) (j : Nat) (u : Value) : (W.setCell ⟨g, j, none⟩ u).ownsRow n₀ e s (.slice (some ⟨g, 0, none⟩) n cap) n (xs.set j u) := by
  obtain ⟨h0, h⟩ := h
  refine ⟨by rw [List.length_set]; exact h0, ?_⟩
  rcases h with ⟨h1, _⟩ | ⟨g', cap', cur, h1, h2, h3, h4, h5, h6, h7⟩
  · cases h1
  · cases h1
    refine .inr ⟨g, cap, cur.setIfInBounds j u, rfl, h2, ?_, h4, h5, by simpa using h6, ?_⟩
    · unfold World.setCell
      dsimp only
      rw [Array.getElem?_modify, if_pos rfl, h3]
      rfl
    · rw [← h7, Array.toList_setIfInBounds, List.take_set]
theorem own_block {W : World} {n₀ s g n cap : Nat} {e : TypeId} {xs : List Value} (h : W.ownsRow n₀ e s (.slice (some ⟨g, 0, none⟩) n cap) n xs) : n₀ ≤ g ∧ g < W.heap.size := by
  rcases h.2 with ⟨h1, _⟩ | ⟨g', cap', cur, h1, h2, h3, _⟩
  · cases h1
  · cases h1
    exact ⟨h2, (Array.getElem?_eq_some_iff.1 h3).1⟩
theorem own_base {W : World} {n₀ n' s n : Nat} {e : TypeId} {v : Value} {xs : List Value} (h : W.ownsRow n₀ e s v n xs) (hb : n' ≤ n₀) : W.ownsRow n' e s v n xs :=
  ⟨h.1, h.2.imp id (fun ⟨g, cap, cur, h1, h2, r⟩ => ⟨g, cap, cur, h1, Nat.le_trans hb h2, r⟩)⟩
def spV (l : List (Nat × Nat × Nat)) : List Value := l.flatMap fun s => [.int .i64 (s.1 : Nat), .int .i64 (s.2.1 : Nat), .int .i64 (s.2.2 : Nat)]
theorem spV_app (l m : List (Nat × Nat × Nat)) : spV (l ++ m) = spV l ++ spV m := by unfold spV; rw [List.flatMap_append]
theorem spV_len : ∀ l : List (Nat × Nat × Nat), (spV l).length = l.length * 3
  | [] => rfl
  | s :: l => by
    have := spV_len l
    unfold spV at this ⊢
    rw [List.flatMap_cons, List.length_append, this, List.length_cons]
    simp; omega
theorem spV_get : ∀ (l : List (Nat × Nat × Nat)) (i : Nat) (s : Nat × Nat × Nat), l[i]? = some s → (spV l)[i * 3]? = some (.int .i64 (s.1 : Nat)) ∧ (spV l)[i * 3 + 1]? = some (.int .i64 (s.2.1 : Nat)) ∧ (spV l)[i * 3 + 2]? = some (.int .i64 (s.2.2 : Nat))
  | [], _, _, h => by simp at h
  | x :: l, 0, s, h => by
    simp only [List.getElem?_cons_zero, Option.some.injEq] at h
    subst h
    exact ⟨rfl, rfl, rfl⟩
  | x :: l, i + 1, s, h => by
    rw [List.getElem?_cons_succ] at h
    have ih := spV_get l i s h
    have e : ∀ k, (spV (x :: l))[(i + 1) * 3 + k]? = (spV l)[i * 3 + k]? := fun k => by
      show ((.int .i64 (x.1 : Nat)) :: (.int .i64 (x.2.1 : Nat)) :: (.int .i64 (x.2.2 : Nat)) :: spV l)[(i + 1) * 3 + k]? = _
      rw [show (i + 1) * 3 + k = (i * 3 + k) + 1 + 1 + 1 by omega, List.getElem?_cons_succ, List.getElem?_cons_succ, List.getElem?_cons_succ]
    exact ⟨by rw [show (i + 1) * 3 = (i + 1) * 3 + 0 by omega, e]; exact ih.1, by rw [e]; exact ih.2.1, by rw [e]; exact ih.2.2⟩
theorem spV_last (D : List (Nat × Nat × Nat)) (r a b c : Nat) : (spV (D ++ [(r, a, b)])).set (D.length * 3 + 2) (.int .i64 (c : Nat)) = spV (D ++ [(r, a, c)]) := by
  rw [spV_app, spV_app, List.set_append_right _ _ (by rw [spV_len]; omega), spV_len, show D.length * 3 + 2 - D.length * 3 = 2 by omega]
  rfl
theorem spV_one (l : List (Nat × Nat × Nat)) : ∀ u ∈ spV l, u.oneCell' = true := fun u hu => by
  unfold spV at hu
  obtain ⟨s, _, hs⟩ := List.mem_flatMap.1 hu
  simp only [List.mem_cons, List.not_mem_nil, or_false] at hs
  rcases hs with rfl | rfl | rfl <;> rfl
def atSp (r : Nat) (L : List (Nat × Nat)) : List (Nat × Nat × Nat) := L.map fun s => (r, s.1, s.2)
theorem atSp_app (r : Nat) (L M : List (Nat × Nat)) : atSp r (L ++ M) = atSp r L ++ atSp r M := by unfold atSp; rw [List.map_append]
theorem cells3 (W : World) (x y z : Value) (t : TypeId) : ∀ (j : Nat) (u : Value), [x, y, z][j]? = some u → (W.alloc (.cells #[x, y, z] t)).cell? ((⟨W.heap.size, 0, none⟩ : Addr).add j) = some u := fun j u h => by
  rw [Go.WideShapes.add_plain, Nat.zero_add, cell_of_row (W.alloc (.cells #[x, y, z] t)) W.heap.size j #[x, y, z] t (0, 0) (World.alloc_heap_new W _)]
  simpa using h
theorem infoSpan : (Tryz.prog.info? 166).map (fun i => (i.zero, i.size, i.bytes)) = some (some (.agg #[.int .i64 0, .int .i64 0, .int .i64 0]), 3, 24) := by kernel_rfl
def SpI (on : List Bool) (k : Nat) (o : Bool) (L : List (Nat × Nat)) : Prop :=
  match o with
  | false => L ++ spansF k none (on.drop k) = spansF 0 none on
  | true => ∃ D a, L = D ++ [(a, k)] ∧ D ++ spansF k (some a) (on.drop k) = spansF 0 none on
theorem SpI.len {on : List Bool} {k : Nat} {o : Bool} {L : List (Nat × Nat)} (h : SpI on k o L) : L.length ≤ on.length := by
  have h1 := spansF_count on 0 none
  have h2 : (spansF 0 none on).length ≤ on.length := by simpa using h1
  cases o with
  | false =>
    have := congrArg List.length (show L ++ spansF k none (on.drop k) = spansF 0 none on from h)
    rw [List.length_append] at this
    omega
  | true =>
    obtain ⟨D, a, rfl, h3⟩ := h
    have := congrArg List.length h3
    rw [List.length_append] at this
    have h4 : ∀ (t : List Bool) (j : Nat), 1 ≤ (spansF j (some a) t).length := by
      intro t
      induction t with
      | nil => intro j; simp [spansF]
      | cons x t ih =>
        intro j
        cases x with
        | true => rw [spansF]; exact ih _
        | false => simp [spansF]
    have := h4 (on.drop k) k
    rw [List.length_append]
    simp
    omega
theorem SpI.fin {on : List Bool} {o : Bool} {L : List (Nat × Nat)} (h : SpI on on.length o L) : L = spansF 0 none on := by
  cases o with
  | false =>
    have h1 : L ++ spansF on.length none (on.drop on.length) = spansF 0 none on := h
    rw [spansF_past on on.length (Nat.le_refl _), List.append_nil] at h1
    exact h1
  | true =>
    obtain ⟨D, a, rfl, h3⟩ := h
    rw [List.drop_of_length_le (Nat.le_refl _), spansF] at h3
    exact h3
set_option maxRecDepth 100000 in
set_option maxHeartbeats 8000000 in
theorem drow_any {W : World} {a1 a2 : Option Addr} {n c1 c2 : Nat} {A B : List GC} (hA : CellsAt W a1 n A) (hB : CellsAt W a2 n B) (hn : n ≤ 1000) (wa : wholeB A = true) (wb : wholeB B = true) (r : Nat) :
    Calls Tryz.prog 106 #[.int .i64 r, .slice a1 n c1, .slice a2 n c2] W fun e w' => ∃ v, e = .returned v ∧ w'.ownsRow W.heap.size 166 3 v (rowSp r (chgL A B)).length (spV (rowSp r (chgL A B))) ∧ Below W.heap.size W w' := by
  obtain ⟨i0, hi, hz0, hz1, hz2⟩ := info_parts infoSpan
  have CC := Lib.hid (changes_any (c1 := c1) (c2 := c2) hA hB hn wa wb)
  obtain ⟨on, hon⟩ : ∃ on, on = chgL A B := ⟨_, rfl⟩
  rw [← hon] at CC ⊢
  have hol : on.length = n := by rw [hon, chgL_length (by rw [hA.len, hB.len]), hA.len]
  have HOL := Lib.hid hol
  clear hA hB wa wb hon hol
  go_enter Tryz.func106, Tryz.ntmps106
  go_wp2_with (go_at_call 180; refine (CC.out).mono ?_; rintro e w1 ⟨q, rfl, hq, g1, hb1⟩)
  clear CC
  have hs1 := hb1.size
  have hql := g1.lt
  go_loopw [7, 8, 15] (fun v o i wr => ∃ (k : Nat) (L : List (Nat × Nat)) (ob : Bool), k ≤ n ∧ i = .int .i64 k ∧ o = .bool ob ∧ wr.ownsRow w1.heap.size 166 3 v L.length (spV (atSp r L)) ∧ Hid (SpI on k ob L) ∧ Below w1.heap.size w1 wr) (fun _ _ i _ => n - (intOf i).toNat)
  case atStart => exact ⟨0, [], false, Nat.zero_le _, rfl, rfl, World.ownsRow_nil _ _ _ _, Lib.hid rfl, Below.refl _ _⟩
  case round =>
    obtain ⟨k, L, ob, hk, rfl, rfl, hown, HI, hb⟩ := hrel
    have hs := hb.size
    have hLn := HI.out.len
    rw [HOL.out] at hLn
    have g := g1.below hb
    by_cases hlt : k < n
    · obtain ⟨v0, _⟩ := g.cell (i := k) (by rw [HOL.out]; exact hlt)
      cases hv : nth false on k with
      | true =>
        rw [hv] at v0
        cases ob with
        | true =>
          obtain ⟨D, a, rfl, hD⟩ := HI.out
          have hnx : Hid (SpI on (k + 1) true (D ++ [(a, k + 1)])) := Lib.hid ⟨D, a, rfl, by rw [← hD, spansF_more on k a (by rw [HOL.out]; exact hlt) hv]⟩
          obtain ⟨d, hd⟩ : ∃ d, d = D.length := ⟨_, rfl⟩
          have hdl : (D ++ [(a, k)]).length = d + 1 := by rw [hd]; simp
          rw [hdl] at hown hLn
          obtain ⟨gb, c, rfl, hgb, hc1, hc2⟩ := own_neS hown (by omega)
          obtain ⟨y0, y1⟩ := own_get hown (j := d * 3 + 2) (u := .int .i64 (k : Nat)) (by
            have := (spV_get (atSp r (D ++ [(a, k)])) d (r, a, k) (by rw [atSp_app]; unfold atSp; rw [List.getElem?_append_right (by simp; omega)]; simp [hd])).2.2
            exact this)
          have hp := own_put hown (d * 3 + 2) (.int .i64 ((k + 1 : Nat) : Int))
          have e1 : (spV (atSp r (D ++ [(a, k)]))).set (d * 3 + 2) (.int .i64 ((k + 1 : Nat) : Int)) = spV (atSp r (D ++ [(a, k + 1)])) := by
            rw [atSp_app, atSp_app]
            have := spV_last (atSp r D) r a k (k + 1)
            rw [show (atSp r D).length = d by unfold atSp; rw [List.length_map, hd]] at this
            exact this
          rw [e1] at hp
          have hb3 : Below w1.heap.size w1 (wr.setCell ⟨gb, d * 3 + 2, none⟩ (.int .i64 ((k + 1 : Nat) : Int))) := hb.setCell (p := ⟨gb, d * 3 + 2, none⟩) hgb _
          have hdm : ((d : Int) + 1) - 1 = (d : Int) := by omega
          have hdl2 : (d : Int) < (d : Int) + 1 := by omega
          have hdk : Hid ((D ++ [(a, k + 1)]).length = d + 1) := Lib.hid (by rw [hd]; simp)
          have HP := Lib.hid hp
          clear hp e1 hD HI hown hdl hv hd
          go_wp2
          go_roundw
          case rel => exact ⟨k + 1, D ++ [(a, k + 1)], true, hlt, by go_num, rfl, by rw [hdk.out]; exact HP.out, hnx, hb3⟩
          case measure => simp [intOf]; omega
        | false =>
          have hI : L ++ spansF k none (on.drop k) = spansF 0 none on := HI.out
          have hnx : Hid (SpI on (k + 1) true (L ++ [(k, k + 1)])) := Lib.hid ⟨L, k, rfl, by rw [← hI, spansF_on on k (by rw [HOL.out]; exact hlt) hv]⟩
          have hne : Hid (spV (atSp r (L ++ [(k, k + 1)])) = spV (atSp r L) ++ [.int .i64 (r : Nat), .int .i64 (k : Nat), .int .i64 ((k : Int) + 1)]) := Lib.hid (by rw [atSp_app, spV_app]; rfl)
          have hll : Hid ((L ++ [(k, k + 1)]).length = L.length + 1) := Lib.hid (by simp)
          have hnews := cells3 wr (.int .i64 (r : Nat)) (.int .i64 (k : Nat)) (.int .i64 ((k : Int) + 1)) 166
          have hone : ∀ u ∈ [Value.int .i64 (r : Nat), .int .i64 (k : Nat), .int .i64 ((k : Int) + 1)], u.oneCell' = true := fun u hu => by
            simp only [List.mem_cons, List.not_mem_nil, or_false] at hu
            rcases hu with rfl | rfl | rfl <;> rfl
          obtain ⟨av, cv, rfl⟩ := own_sliceF hown
          clear hI HI hv
          go_wp2_with (at_builtin; refine wpList_append_own_at _ rfl _ _ 72 rfl w1.heap.size 166 i0 (.agg #[.int .i64 0, .int .i64 0, .int .i64 0]) 3 24 Tryz.underlying72 hi hz0 hz1 hz2 rfl (by decide) _ _ _ rfl (hown.alloc _) ⟨wr.heap.size, 0, none⟩ 1 1 [.int .i64 (r : Nat), .int .i64 (k : Nat), .int .i64 ((k : Int) + 1)] rfl rfl hnews hone (by unfold maxLen; omega) (by omega) (by simp; omega) ?_; intro v' w2 hown' hgrow _ _)
          have hB1 : Below w1.heap.size wr w2 := ((Below.refl w1.heap.size wr).alloc (by omega) _).grown hgrow (by simp; omega) (fun k e => (own_cells hown k e).1)
          go_roundw
          case rel => exact ⟨k + 1, L ++ [(k, k + 1)], true, hlt, by go_num, rfl, by rw [hll.out, hne.out]; exact hown', hnx, hb.trans hB1⟩
          case measure => simp [intOf]; omega
      | false =>
        rw [hv] at v0
        obtain ⟨av, cv, rfl⟩ := own_sliceF hown
        have hnx : Hid (SpI on (k + 1) false L) := Lib.hid (by
          cases ob with
          | true =>
            obtain ⟨D, a, rfl, hD⟩ := HI.out
            show D ++ [(a, k)] ++ spansF (k + 1) none (on.drop (k + 1)) = _
            rw [← hD, spansF_shut on k a (by rw [HOL.out]; exact hlt) hv, List.append_assoc]
            rfl
          | false =>
            have hI : L ++ spansF k none (on.drop k) = spansF 0 none on := HI.out
            show L ++ spansF (k + 1) none (on.drop (k + 1)) = _
            rw [← hI, spansF_off on k (by rw [HOL.out]; exact hlt) hv])
        clear HI hv
        go_wp2
        go_roundw
        case rel => exact ⟨k + 1, L, false, hlt, by go_num, rfl, hown, hnx, hb⟩
        case measure => simp [intOf]; omega
    · obtain rfl : k = n := by omega
      have hfin : Hid (atSp r L = rowSp r on) := Lib.hid (by
        have := HI.out
        rw [← HOL.out] at this
        rw [this.fin]; rfl)
      have hlen : Hid (L.length = (rowSp r on).length) := Lib.hid (by rw [← hfin.out]; unfold atSp; rw [List.length_map])
      obtain ⟨av, cv, rfl⟩ := own_sliceF hown
      have ho2 := own_base hown hs1
      rw [hfin.out, hlen.out] at ho2
      have HO2 := Lib.hid ho2
      have hbf := bto hb1 hb hs1
      have HLE : Hid (Value.slice av L.length cv = .slice av (rowSp r on).length cv) := Lib.hid (by rw [hlen.out])
      clear ho2 hown HI
      go_wp2
      go_ret
      exact ⟨_, congrArg Ending.returned HLE.out, HO2.out, hbf⟩
end Go.Proofs.YtekodpcedjpnjaaGreat
namespace Go.Proofs.YtekodpcedjpnjaaGreat
open Go.RowKit Go.Shelf Go.Maps
set_option maxRecDepth 100000 in
theorem rother_any {W : World} {a : Option Addr} {n cap : Nat} {M : List GC} (hM : CellsAt W a n M) (hw : wholeB M = true) (hn : n ≤ 1000) (i : Nat) (hi : i < n) :
    Calls Tryz.prog 181 #[.slice a n cap, .int .i64 i] W fun e w' => e = .returned (.int .i64 (othC M i)) ∧ W = w' := by
  have l1 := hM.len
  have hCi : M[i]? = some (nth GC.zero M i) := by rw [nth_eq _ _ _ (by omega), List.getElem?_eq_getElem (by omega)]
  obtain ⟨b1, o1, rfl, hb1, r1⟩ := hM.at_ i _ hCi
  obtain ⟨x0, x1, x2, x3, x4, x5, x6⟩ := vals_at r1
  have hwa := whole_at hw i (by omega)
  obtain ⟨j, hjj⟩ : ∃ j, j = othC M i := ⟨_, rfl⟩
  have hje : j = (if (nth GC.zero M i).w = 2 then i + 1 else if (nth GC.zero M i).w = 0 then i - 1 else i) := hjj
  rw [← hjj]
  clear hCi r1 hw hM hjj x0 x2 x3 x4 x5 x6
  obtain ⟨cw, hcw⟩ : ∃ cw, cw = (nth GC.zero M i).w := ⟨_, rfl⟩
  rw [← hcw] at x1 hje hwa
  clear hcw
  have key : (cw = 1 ∧ j = i) ∨ (cw = 2 ∧ j = i + 1) ∨ (cw = 0 ∧ j + 1 = i) := by
    rcases hwa with h | ⟨h, _⟩ | ⟨h, h2, _⟩
    · left; subst h; exact ⟨rfl, by rw [hje]; rfl⟩
    · right; left; subst h; exact ⟨rfl, by rw [hje]; rfl⟩
    · right; right; subst h; exact ⟨rfl, by rw [hje, if_neg (by decide), if_pos rfl]; omega⟩
  clear hwa hje l1
  rcases key with ⟨rfl, rfl⟩ | ⟨rfl, rfl⟩ | ⟨rfl, rfl⟩
  all_goals
    go_enter Tryz.func181, Tryz.ntmps181
    go_wp2
    go_ret
    exact ⟨rfl, rfl⟩
theorem infoBool : (Tryz.prog.info? 4).map (fun i => (i.zero, i.size, i.bytes)) = some (some (.bool false), 1, 1) := by kernel_rfl
theorem cells1 (W : World) (x : Value) (t : TypeId) : ∀ (j : Nat) (u : Value), [x][j]? = some u → (W.alloc (.cells #[x] t)).cell? ((⟨W.heap.size, 0, none⟩ : Addr).add j) = some u := fun j u h => by
  rw [Go.WideShapes.add_plain, Nat.zero_add, cell_of_row (W.alloc (.cells #[x] t)) W.heap.size j #[x] t (0, 0) (World.alloc_heap_new W _)]
  simpa using h
theorem bv_get {L : List Bool} {i : Nat} (hi : i < L.length) : (L.map Value.bool)[i]? = some (.bool (nth false L i)) := by
  rw [List.getElem?_map, List.getElem?_eq_getElem hi, nth_eq _ _ _ hi]; rfl
theorem bv_set (L : List Bool) (i : Nat) (x : Bool) : (L.map Value.bool).set i (.bool x) = (L.set i x).map Value.bool := by rw [List.map_set]
theorem dfT_next {A B : List GC} (h : A.length = B.length) {k : Nat} (hk : k < A.length) : ((diffB A B).take (k + 1)).map Value.bool = ((diffB A B).take k).map Value.bool ++ [.bool (!eqC (nth GC.zero A k) (nth GC.zero B k))] := by
  have hl := diffB_length A B h
  rw [List.take_succ_eq_append_getElem (by omega), List.map_append, ← diffB_nth A B k h hk, nth_eq _ _ _ (by omega)]
  rfl
set_option maxRecDepth 100000 in
set_option maxHeartbeats 8000000 in
theorem rchanges_any {W : World} {a1 a2 : Option Addr} {n c1 c2 : Nat} {A B : List GC} (hA : CellsAt W a1 n A) (hB : CellsAt W a2 n B) (hn : n ≤ 1000) (wa : wholeB A = true) (wb : wholeB B = true) :
    Calls Tryz.prog 108 #[.slice a1 n c1, .slice a2 n c2] W fun e w' => ∃ v, e = .returned v ∧ w'.ownsRow W.heap.size 4 1 v n ((chgL A B).map Value.bool) ∧ Below W.heap.size W w' := by
  obtain ⟨i0, hi, hz0, hz1, hz2⟩ := info_parts infoBool
  have la := hA.len
  have lb := hB.len
  have lab : A.length = B.length := by rw [la, lb]
  have HA := Lib.hid hA
  have HB := Lib.hid hB
  have WA := Lib.hid wa
  have WB := Lib.hid wb
  have LA := Lib.hid la
  have LB := Lib.hid lb
  have LAB := Lib.hid lab
  clear hA hB wa wb la lb lab
  go_enter Tryz.func108, Tryz.ntmps108
  go_wp2
  go_loopw [5, 6] (fun v i wr => ∃ k : Nat, k ≤ n ∧ i = .int .i64 k ∧ wr.ownsRow W.heap.size 4 1 v k (((diffB A B).take k).map Value.bool) ∧ Below W.heap.size W wr) (fun _ i _ => n - (intOf i).toNat)
  case atStart => exact ⟨0, Nat.zero_le _, rfl, World.ownsRow_nil _ _ _ _, Below.refl _ _⟩
  case round =>
    obtain ⟨k, hk, rfl, hown, hb⟩ := hrel
    have hs := hb.size
    obtain ⟨av, cv, rfl⟩ := own_sliceF hown
    by_cases hlt : k < n
    · obtain ⟨C, hC⟩ : ∃ C, C = nth GC.zero A k := ⟨_, rfl⟩
      obtain ⟨D, hD⟩ : ∃ D, D = nth GC.zero B k := ⟨_, rfl⟩
      have hCi : A[k]? = some C := by rw [hC, nth_eq _ _ _ (by rw [LA.out]; exact hlt), List.getElem?_eq_getElem (by rw [LA.out]; exact hlt)]
      have hDi : B[k]? = some D := by rw [hD, nth_eq _ _ _ (by rw [LB.out]; exact hlt), List.getElem?_eq_getElem (by rw [LB.out]; exact hlt)]
      have hnext := dfT_next LAB.out (k := k) (by rw [LA.out]; exact hlt)
      rw [← hC, ← hD] at hnext
      have HNX := Lib.hid hnext
      obtain ⟨b1, o1, rfl, hb1, r1⟩ := HA.out.at_ k C hCi
      obtain ⟨b2, o2, rfl, hb2, r2⟩ := HB.out.at_ k D hDi
      have V1 := fun (X : World) (hX : Below W.heap.size W X) => vals_at (W := X) (b := b1) (o := o1 + k * 7) (c := C) (fun j v hv => (hX.cell (p := ⟨b1, _, none⟩) hb1).trans (r1 j v hv))
      have V2 := fun (X : World) (hX : Below W.heap.size W X) => vals_at (W := X) (b := b2) (o := o2 + k * 7) (c := D) (fun j v hv => (hX.cell (p := ⟨b2, _, none⟩) hb2).trans (r2 j v hv))
      have hq' := neq_gc C D
      have dB : Below wr.heap.size wr wr.drew := (Below.refl _ _).drew
      have hbd : Below W.heap.size W wr.drew := bto hb dB hs
      have hnews := cells1 wr.drew (.bool (!eqC C D)) 4
      have hone : ∀ u ∈ [Value.bool (!eqC C D)], u.oneCell' = true := fun u hu => by
        rw [List.mem_singleton.1 hu]; rfl
      have hownd : wr.drew.ownsRow W.heap.size 4 1 (.slice av k cv) k (((diffB A B).take k).map Value.bool) := hown
      have V1 := Lib.hid V1
      have V2 := Lib.hid V2
      clear hnext hC hD hCi hDi r1 r2 hb1 hb2 hown
      go_wp2_with fail
      refine wp_region_mix2 [(true, 0), (true, 1), (true, 2), (true, 3), (true, 4), (true, 5), (true, 6), (true, 7), (true, 8), (true, 9), (false, 10), (false, 11), (true, 12)] (fun X => Below W.heap.size W X) (by kernel_rfl) (by kernel_rfl) (by rfl) (by kernel_rfl) (by kernel_rfl) (fun _ _ d _ _ h => by cases d <;> exact h) hbd ?_
      simp only [mixL, List.getElem?_cons_succ, List.getElem?_cons_zero]
      repeat (refine' wpMix2_read (v := _) rfl ?_ ?_; rotate_left 1; (intro w' hw'; obtain ⟨x0, x1, x2, x3, x4, x5, x6⟩ := V1.out w' hw'; obtain ⟨t0, t1, t2, t3, t4, t5, t6⟩ := V2.out w' hw'; go_simp; try with_reducible rfl); try simp only [Act.put, List.setIfInBounds_toArray, List.set_cons_zero, List.set_cons_succ])
      clear V1 V2
      refine wpMix2_act (fun K hK => ?_)
      go_wp2
      refine hK _ _ (hbd.alloc hbd.size _) ?_
      clear hK K
      refine wpMix2_act (fun K hK => ?_)
      go_wp2_with (at_builtin; refine wpList_append_own_at _ rfl _ _ 175 rfl W.heap.size 4 i0 (.bool false) 1 1 Tryz.underlying175 hi hz0 hz1 hz2 rfl (by decide) _ _ _ rfl (hownd.alloc _) ⟨wr.drew.heap.size, 0, none⟩ 1 1 [.bool (!eqC C D)] rfl rfl hnews hone (by unfold maxLen; omega) (by omega) (by have := hbd.size; simp; omega) ?_; intro v' w1 hown' hgrow _ _)
      have hB1 : Below W.heap.size W w1 := hbd.trans (((Below.refl W.heap.size wr.drew).alloc hbd.size _).grown hgrow (by have := hbd.size; simp; omega) (fun k e => (own_cells hownd k e).1))
      refine hK _ _ hB1 ?_
      clear hK K
      repeat (refine' wpMix2_read (v := _) rfl ?_ ?_; rotate_left 1; (intro w' hw'; go_simp; try with_reducible rfl); try simp only [Act.put, List.setIfInBounds_toArray, List.set_cons_zero, List.set_cons_succ])
      refine wpMix2_nil ?_
      rw [← HNX.out] at hown'
      clear hownd hnews hone hgrow
      go_wp2
      go_roundw
      case rel => exact ⟨k + 1, hlt, by go_num, hown', hB1⟩
      case measure => simp [intOf]; omega
    · obtain rfl : k = n := by omega
      obtain ⟨L0, hL0⟩ : ∃ L, L = diffB A B := ⟨_, rfl⟩
      have hdl : L0.length = k := by rw [hL0, diffB_length A B LAB.out, LA.out]
      have HL0 := Lib.hid hdl
      have HCH : Hid (chgL A B = closeN (othC A) (othC B) L0 k) := Lib.hid (by rw [hL0]; unfold chgL; rw [LA.out])
      rw [← hL0, List.take_of_length_le (by omega)] at hown
      clear hL0 hdl
      go_wp2
      go_loopw [7] (fun mv wr => ∃ m : Nat, m ≤ k ∧ mv = .int .i64 m ∧ wr.ownsRow W.heap.size 4 1 (.slice av k cv) k ((closeN (othC A) (othC B) L0 m).map Value.bool) ∧ Below W.heap.size W wr) (fun mv _ => k - (intOf mv).toNat)
      case atStart => exact ⟨0, Nat.zero_le _, rfl, hown, hb⟩
      case round =>
        clear hown hb hs
        obtain ⟨m, hm, rfl, hown, hb⟩ := hrel
        by_cases hltm : m < k
        · obtain ⟨P, hP⟩ : ∃ P, P = closeN (othC A) (othC B) L0 m := ⟨_, rfl⟩
          have HPL : Hid (P.length = k) := Lib.hid (by rw [hP, closeN_length, HL0.out])
          have HP := Lib.hid hP
          rw [← hP] at hown
          clear hP
          go_wp2
          go_loopw [8] (fun i wx => ∃ j : Nat, j ≤ k ∧ i = .int .i64 j ∧ wx.ownsRow W.heap.size 4 1 (.slice av k cv) k ((passN (othC A) (othC B) P j).map Value.bool) ∧ Below W.heap.size W wx) (fun i _ => k - (intOf i).toNat)
          case atStart => exact ⟨0, Nat.zero_le _, rfl, hown, hb⟩
          case round =>
            clear hown hb
            obtain ⟨j, hj, rfl, hown, hb⟩ := hrel
            have hs := hb.size
            obtain ⟨Q, hQ⟩ : ∃ Q, Q = passN (othC A) (othC B) P j := ⟨_, rfl⟩
            rw [← hQ] at hown
            have hQL : Q.length = k := by rw [hQ, passN_length, HPL.out]
            have HQ := Lib.hid hQ
            clear hQ
            by_cases hlt2 : j < k
            · obtain ⟨gb, c, hv0, hgb, hc1, hc2⟩ := own_neS hown (by omega)
              simp only [Value.slice.injEq, true_and] at hv0
              obtain ⟨rfl, rfl⟩ := hv0
              have oA := othC_lt WA.out j (by rw [LA.out]; exact hlt2)
              have oB := othC_lt WB.out j (by rw [LB.out]; exact hlt2)
              rw [LA.out] at oA
              rw [LB.out] at oB
              obtain ⟨v0, _⟩ := own_get hown (bv_get (i := j) (by omega))
              cases hv : nth false Q j with
              | false =>
                have HN : Hid (passN (othC A) (othC B) P (j + 1) = Q) := Lib.hid (by rw [passN, ← HQ.out, markAt, if_neg (by rw [hv]; decide)])
                rw [hv] at v0
                clear hv oA oB
                go_wp2
                go_roundw
                case rel => exact ⟨j + 1, hlt2, by go_num, by rw [HN.out]; exact hown, hb⟩
                case measure => simp [intOf]; omega
              | true =>
                have HN : Hid (passN (othC A) (othC B) P (j + 1) = (Q.set (othC A j) true).set (othC B j) true) := Lib.hid (by rw [passN, ← HQ.out, markAt, if_pos hv])
                rw [hv] at v0
                have CO1 := Lib.hid (rother_any (cap := c1) (HA.out.below hb) WA.out hn j hlt2)
                obtain ⟨x, hx⟩ : ∃ x, x = othC A j := ⟨_, rfl⟩
                obtain ⟨y, hy⟩ : ∃ y, y = othC B j := ⟨_, rfl⟩
                rw [← hx] at CO1 HN oA
                rw [← hy] at HN oB
                obtain ⟨t0, t1⟩ := own_get hown (bv_get (i := x) (by omega))
                have own2 := own_put hown x (.bool true)
                rw [bv_set] at own2
                have hb2 : Below W.heap.size W (wr.setCell ⟨gb, x, none⟩ (.bool true)) := hb.setCell (p := ⟨gb, x, none⟩) hgb _
                have CO2 := rother_any (cap := c2) (HB.out.below hb2) WB.out hn j hlt2
                rw [← hy] at CO2
                have CO2 := Lib.hid CO2
                obtain ⟨s0, s1⟩ := own_get own2 (bv_get (i := y) (by rw [List.length_set]; omega))
                have own3 := own_put own2 y (.bool true)
                rw [bv_set, ← HN.out] at own3
                have hb3 := hb2.setCell (p := ⟨gb, y, none⟩) hgb (.bool true)
                have OWN := Lib.hid own3
                clear hv hx hy own3 own2 hown
                go_wp2_with fail
                refine (CO1.out).mono ?_
                rintro e w1 ⟨rfl, rfl⟩
                go_wp2_with fail
                refine (CO2.out).mono ?_
                rintro e w2 ⟨rfl, rfl⟩
                go_wp2
                go_roundw
                case rel => exact ⟨j + 1, hlt2, by go_num, OWN.out, hb3⟩
                case measure => simp [intOf]; omega
            · obtain rfl : j = k := by omega
              have HCK : Hid (closeN (othC A) (othC B) L0 (m + 1) = Q) := Lib.hid (by rw [closeN, HL0.out, ← HP.out, HQ.out])
              go_wp2
              go_roundw
              case rel => exact ⟨m + 1, hltm, by go_num, by rw [HCK.out]; exact hown, hb⟩
              case measure => simp [intOf]; omega
        · obtain rfl : m = k := by omega
          have ho2 := hown
          rw [← HCH.out] at ho2
          clear hown
          go_wp2
          go_ret
          exact ⟨_, rfl, ho2, hb⟩
end Go.Proofs.YtekodpcedjpnjaaGreat
