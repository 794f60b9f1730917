/- The law WidthYields: the contracts of told, same and of its function. -/
import Derived.Test.YtcihcjlaamfjfaaWidth5
import Derived.RangeFuncWrites
import Derived.Maps.AppendAt
namespace Go.Proofs.Ytcihcjlaamfjfaa
open Go.RowKit Go.Shelf Go.Maps
attribute [local go_sem] Oper.semAt_some

theorem infoI32 : (Try.prog.info? 21).map (fun i => (i.zero, i.size, i.bytes)) = some (some (.int .i32 0), 1, 4) := by kernel_rfl
/-- What has come, firsts and lasts by turns. -/
def flat (pre : List (Int × Int)) : List Int := pre.flatMap fun x => [x.1, x.2]
theorem flat_snoc (pre : List (Int × Int)) (x : Int × Int) : flat (pre ++ [x]) = flat pre ++ [x.1, x.2] := by simp [flat]
theorem flat_length (pre : List (Int × Int)) : (flat pre).length = 2 * pre.length := by
  induction pre with
  | nil => rfl
  | cons x t ih => simp only [flat, List.flatMap_cons, List.length_append, List.length_cons, List.length_nil] at ih ⊢; omega
theorem flat_take (L : List Int) (k : Nat) (hk : k ≤ L.length / 2) : flat ((pairsOf L).take k) = L.take (2 * k) := by
  induction k with
  | zero => simp [flat]
  | succ k ih =>
    rw [take_pairs L k (by omega), flat_snoc, ih (by omega)]
    rw [show 2 * (k + 1) = 2 * k + 1 + 1 by omega, List.take_succ_eq_append_getElem (i := 2 * k + 1) (by omega), List.take_succ_eq_append_getElem (i := 2 * k) (by omega)]
    unfold fst snd
    rw [nth_eq _ _ _ (by omega), nth_eq _ _ _ (by omega), List.append_assoc]
    rfl
theorem flat_pre (L : List Int) (pre : List (Int × Int)) (h : pre <+: pairsOf L) : flat pre = L.take (2 * pre.length) := by
  have h1 : pre = (pairsOf L).take pre.length := List.prefix_iff_eq_take.1 h
  have h2 : pre.length ≤ L.length / 2 := by have := h.length_le; simpa [pairsOf] using this
  conv => lhs; rw [h1]
  exact flat_take L _ h2

def ToldPost (T : List Int) (w : World) (e : Ending) (w' : World) : Prop := ∃ a c len, e = .returned (.tuple #[.slice a len c, .bool true]) ∧ len = T.length ∧ Runes w'.heap.size w' a T ∧ Below w.heap.size w w'
/-- A row that the call owns, as runes. -/
theorem runes_of_owns {W : World} {n₀ : Nat} {v : Value} {l : List Int} (h : W.ownsRow n₀ 21 1 v l.length (i32s l)) (hl : l.length ≤ 1000) : ∃ a c, v = .slice a l.length c ∧ Runes W.heap.size W a l := by
  obtain ⟨h1, ⟨rfl, h0⟩ | ⟨g, cap, cur, rfl, _, hg, hc, _, hcs, ht⟩⟩ := h
  · exact ⟨none, 0, by rw [h0], ⟨by rw [List.length_eq_zero_iff.1 h0]; exact RowAt.nil _ _ _, hl⟩⟩
  · refine ⟨_, cap, rfl, ⟨fun j hj => ⟨g, 0, rfl, (Array.getElem?_eq_some_iff.1 hg).1, ?_⟩, hl⟩⟩
    unfold World.cell?
    dsimp only
    rw [hg]
    rw [i32s_length] at hj
    simp only [Nat.zero_add, Option.isSome_none, Bool.false_eq_true, if_false]
    rw [← ht, nth_eq _ _ _ (by rw [ht, i32s_length]; exact hj)]
    simp


theorem ownsRow_slice {W : World} {base : Nat} {e : TypeId} {size : Nat} {v : Value} {n : Nat} {xs : List Value} (h : W.ownsRow base e size v n xs) : ∃ a c, v = .slice a n c := by
  rcases h.2 with ⟨rfl, rfl⟩ | ⟨g, cap, _, rfl, _⟩
  · exact ⟨_, _, rfl⟩
  · exact ⟨_, _, rfl⟩
/-- What stands where told's loop begins. -/
structure ToldAt (w W : World) (most : Nat) (L : List Int) (n Bx bl B : Nat) : Prop where
  len : L.length = 2 * n
  few : n < 1000
  size : W.heap.size = B + 1
  box : Boxed W B 27 (.slice none 0 0)
  most : W.cell? ⟨w.heap.size, 0, none⟩ = some (.int .i64 most)
  lt : w.heap.size < B
  bx : Bx < B
  cell : W.cell? ⟨Bx, 0, none⟩ = some (.slice (some ⟨bl, 0, none⟩) (2 * n) (2 * n))
  row : RowAt B W (some ⟨bl, 0, none⟩) (i32s L)
  below : Below w.heap.size w W
theorem toldAt_of (w : World) (most : Nat) (L : List Int) (n : Nat) (hl : L.length = 2 * n) (hn : n < 1000) (W1 : World) (hm : W1.cell? ⟨w.heap.size, 0, none⟩ = some (.int .i64 most)) (hB : Below w.heap.size w W1) (hlt : w.heap.size < W1.heap.size) :
    ToldAt w (((W1.alloc (.cells (i32s L).toArray 21)).alloc (.cells #[.slice (some ⟨W1.heap.size, 0, none⟩) (2 * n) (2 * n)] 27)).alloc (.cells #[.slice none 0 0] 27)) most L n (W1.heap.size + 1) W1.heap.size (W1.heap.size + 1 + 1) := by
  obtain ⟨t1, t2, t3, t4⟩ := two_new W1 L (.slice (some ⟨W1.heap.size, 0, none⟩) (2 * n) (2 * n)) 21 27
  obtain ⟨W2, hW2⟩ : ∃ W2, (W1.alloc (.cells (i32s L).toArray 21)).alloc (.cells #[.slice (some ⟨W1.heap.size, 0, none⟩) (2 * n) (2 * n)] 27) = W2 := ⟨_, rfl⟩
  have hs : W2.heap.size = W1.heap.size + 1 + 1 := by rw [← hW2]; simp
  rw [hW2] at t1 t2 t3 t4 ⊢
  refine ⟨hl, hn, by simp [hs], ?_, ?_, by omega, by omega, ?_, ?_, ?_⟩
  · rw [← hs]; exact Boxed.new W2 _ _
  · exact cell_alloc_l _ ((t4.cell (p := ⟨w.heap.size, 0, none⟩) hlt).trans hm)
  · exact cell_alloc_l _ t2
  · rw [hs] at t3; exact t3.below ((Below.refl _ _).alloc (by omega) _)
  · exact (hB.trans (t4.mono (by omega))).alloc (by omega) _

theorem told_fin (T l : List Int) {w W : World} {n₀ : Nat} {a : Option Addr} {n c : Nat} (hT : l = T) (h : W.ownsRow n₀ 21 1 (.slice a n c) l.length (i32s l)) (hb : Below w.heap.size w W) (hl : T.length ≤ 1000 := by simp [marks_len, wides_len]; omega) :
    ToldPost T w (.returned (.tuple #[.slice a n c, .bool true])) W := by
  subst hT
  obtain ⟨a', c', e, hr⟩ := runes_of_owns h hl
  simp only [Value.slice.injEq] at e
  obtain ⟨rfl, rfl, rfl⟩ := e
  exact ⟨_, _, _, rfl, rfl, hr, hb⟩
set_option maxRecDepth 100000 in
set_option maxHeartbeats 4000000 in
theorem told_any (mk : Bool) (most : Nat) (hmost : most ≤ 1000) (w : World) :
    Calls Try.prog 26 #[.bool mk, .int .i64 most] w (ToldPost ((if mk then marksL else widesL).take (2 * most)) w) := by
  obtain ⟨i0, hi, hz0, hz1, hz2⟩ := info_parts infoI32
  have hfn : ∀ (fn : Fn) (a b : Array Value) (w : World), (binOp .eql 106 (.func fn a b) .nilFunc).run Try.prog w = .ok (.bool false) w := fun _ _ _ _ => by kernel_rfl
  obtain ⟨L, hLL⟩ : ∃ L, L = (if mk then marksL else widesL) := ⟨_, rfl⟩
  rw [← hLL]
  have h1 : 1 ≤ 9 := by omega
  refine (callsIn_wide (n := 9)).1 ?_
  refine callsIn_of_wp_marks Try.func26 rfl trivial ?_ rfl
  simp only [Try.ntmps26, List.size_toArray, List.length_cons, List.length_nil, Nat.reduceAdd, Nat.reduceSub, Array.replicate_succ, Array.replicate_zero, List.push_toArray, List.append_toArray, List.nil_append, List.cons_append]
  have hm0 := (cell_new_l w (.int .i64 most) 3).1
  have hB0 : Below w.heap.size w (w.alloc (.cells #[.int .i64 most] 3)) := (Below.refl _ _).alloc (Nat.le_refl _) _
  have hlt0 : w.heap.size < (w.alloc (.cells #[.int .i64 most] 3)).heap.size := by simp
  have key : mk = true ∨ mk = false := by cases mk <;> simp
  rcases key with rfl | rfl
  have T := toldAt_of w most marksL 28 rfl (by omega) _ (hm0 ▸ ((two_new _ widesL (.slice (some ⟨w.heap.size + 1, 0, none⟩) 102 102) 21 27).2.2.2.cell (p := ⟨w.heap.size, 0, none⟩) hlt0))
    (hB0.trans ((two_new _ widesL (.slice (some ⟨w.heap.size + 1, 0, none⟩) 102 102) 21 27).2.2.2.mono (by simp))) (by simp; omega)
  rw [if_pos rfl] at hLL
  subst hLL
  simp only [World.size_alloc, Nat.reduceMul] at T
  clear hm0 hB0 hlt0
  gi_wp2_with (first
    | (refine ⟨trivial, ?_⟩; gi_at_call 80; refine (callsIn_wide.2 (Wides_any _)).mono ?_; rintro e w' ⟨rfl, rfl⟩)
    | (refine ⟨trivial, ?_⟩; gi_at_call 82; refine (callsIn_wide.2 (Marks_any _)).mono ?_; rintro e w' ⟨rfl, rfl⟩))
  revert T
  generalize h9 : World.alloc _ (.cells #[.slice none 0 0] 27) = W0
  clear h9
  generalize w.heap.size + 1 + 1 + 1 + 1 + 1 = B
  generalize w.heap.size + 1 + 1 + 1 + 1 = Bx
  generalize w.heap.size + 1 + 1 + 1 = bl
  intro T
  rotate_left 1
  have T := toldAt_of w most widesL 51 rfl (by omega) _ hm0 hB0 hlt0
  rw [if_neg (by simp)] at hLL
  subst hLL
  simp only [World.size_alloc, Nat.reduceMul] at T
  clear hm0 hB0 hlt0
  gi_wp2_with (first
    | (refine ⟨trivial, ?_⟩; gi_at_call 80; refine (callsIn_wide.2 (Wides_any _)).mono ?_; rintro e w' ⟨rfl, rfl⟩)
    | (refine ⟨trivial, ?_⟩; gi_at_call 82; refine (callsIn_wide.2 (Marks_any _)).mono ?_; rintro e w' ⟨rfl, rfl⟩))
  revert T
  generalize h9 : World.alloc _ (.cells #[.slice none 0 0] 27) = W0
  clear h9
  generalize w.heap.size + 1 + 1 + 1 = B
  generalize w.heap.size + 1 + 1 = Bx
  generalize w.heap.size + 1 = bl
  intro T
  all_goals
    obtain ⟨hlen, hfew, hsz, hbox, hmo, hlt, hbx, hcell, hrow, hB0⟩ := T
    refine wpIn_rangeFunc_ownG rfl h1 (gf := 124) (lb := #[.pointer (some ⟨Bx, 0, none⟩)]) rfl trivial (enters_of Try.func124 (by kernel_rfl) rfl)
      (pairs1_stops _ _ hlen hfew Bx bl B W0 (by omega) hbx hcell hrow _ (by omega)) belowK_t (belowK_b (by omega)) (Below.refl _ _) (fun _ => rfl)
      (fun pre W => ((∃ v, Boxed W B 27 v ∧ W.ownsRow B 21 1 v (flat pre).length (i32s (flat pre)) ∧ True) ∧ pre.length ≤ most ∧ W.cell? ⟨w.heap.size, 0, none⟩ = some (.int .i64 most)) ∧ Below w.heap.size w W)
      (fun c pre W => (c = .exit 0 ∧ ∃ q x, pre = q ++ [x] ∧ q.length = most ∧ ∃ v, Boxed W B 27 v ∧ W.ownsRow B 21 1 v (flat q).length (i32s (flat q)) ∧ True) ∧ Below w.heap.size w W)
      (OwnFrom.and (Own.from (fun s A C row hs hg hr => ⟨holdsRow_own B B 27 21 1 (fun pre => (flat pre).length) (fun pre => i32s (flat pre)) (fun _ _ => True) s A C row hs.1 hg hr, hs.2.1, cell_kept hs.2.2 hg hr⟩) _) (ownFrom_below (Nat.le_refl _) (by omega)))
      (fun c => OwnFrom.and (Own.from (fun s A C row hs hg hr => ⟨hs.1, by
        obtain ⟨q, x, e1, e2, hv⟩ := hs.2
        exact ⟨q, x, e1, e2, holdsRow_own B B 27 21 1 (fun pre => (flat pre).length) (fun pre => i32s (flat pre)) (fun _ _ => True) q A C row hv hg hr⟩⟩) _) (ownFrom_below (Nat.le_refl _) (by omega)))
      ⟨⟨⟨_, hbox, World.ownsRow_nil _ _ _ _, trivial⟩, by simp, hmo⟩, hB0⟩
      ?_ ?_ ?_ ?_ ?_
    rotate_left 1
    · intro l x W K hK
      gi_wp2
      exact hK
    · rintro l pre x W ⟨⟨⟨v, hv, hown, _⟩, hpl, hmo1⟩, hB⟩ _
      have hc := hv.cell
      have hfl := flat_length pre
      have Hfl := Lib.hid hfl
      have hbd : (flat pre).length ≤ 2000 := by omega
      have hsl := ownsRow_slice hown
      clear hfl
      have hBW := hv.lt
      obtain ⟨a, c, rfl⟩ := hsl
      by_cases hge : pre.length = most
      · have hd : 2 * (most : Int) ≤ ((flat pre).length : Int) := by have := Hfl.out; omega
        have Hge := Lib.hid hge
        clear hge
        gi_wp2
        exact ⟨KeepsFrom.refl _ _, ⟨rfl, pre, x, rfl, Hge.out, _, hv, hown, trivial⟩, hB⟩
      · have hd : ((flat pre).length : Int) < 2 * (most : Int) := by have := Hfl.out; omega
        have hlt2 : pre.length + 1 ≤ most := by omega
        clear hge
        gi_wp2_with (gi_at_builtin; refine wpListIn_append_own _ rfl _ _ 27 rfl B 21 i0 (.int .i32 0) 1 4 Try.underlying27 hi hz0 hz1 hz2 rfl (by decide) _ _ _ rfl (hown.alloc _) ⟨W.heap.size, 0, none⟩ 2 2 [.int .i32 x.1, .int .i32 x.2] rfl rfl (cell_two_new _ _ _ _) (by simp [Value.oneCell']) (by unfold maxLen; omega) (by omega) (by simp; omega) ?_; intro v' w1 hown' hgrow _; obtain ⟨g', cap', rfl⟩ := ownsRow_succ hown'; obtain ⟨hv1, hv2, hr2, hk2, hb2⟩ := hv.appended (by decide) hown (by omega) (Nat.le_refl _) hown' hgrow; have hc1 := hv1.cell; have hf1 := hv1.frozen)
        have hmo2 := (hb2.cell (p := ⟨w.heap.size, 0, none⟩) hlt).trans hmo1
        have he : i32s (flat (pre ++ [x])) = i32s (flat pre) ++ [Value.int .i32 x.1, Value.int .i32 x.2] := by rw [flat_snoc]; simp [i32s]
        have hl2 : (flat (pre ++ [x])).length = (flat pre).length + 2 := by rw [flat_snoc]; simp
        exact ⟨hk2.from _, hb2, ⟨⟨_, hv2, by rw [he, hl2]; exact hr2, trivial⟩, by simp; omega, hmo2⟩, hB.trans (hb2.mono (by omega))⟩
    · rintro D ys W hD rfl ⟨⟨⟨v, hv, hown, _⟩, hpl, hmo1⟩, hB⟩ hK
      have hc := hv.cell
      obtain ⟨a, c, rfl⟩ := ownsRow_slice hown
      gi_wp2
      refine ⟨by simp, .inl ⟨_, _, rfl, run_takeDeferred hK, ?_⟩⟩
      refine ⟨_, results_tmp2 rfl _ _ _, told_fin _ _ ?_ (ownsRow_putObj hown _ hK rfl) (hB.trans (belowK_b (w := w) (Nat.le_refl _) W D _ _ (by omega) hK rfl rfl))⟩
      rw [flat_pre _ _ (List.prefix_refl _), List.take_of_length_le (by simp [pairsOf]; omega), List.take_of_length_le (by simp [pairsOf] at hpl; omega)]
    · rintro D c pre W hD hpre ⟨⟨rfl, q, x, rfl, hq, v, hv, hown, _⟩, hB⟩ hK
      have hc := hv.cell
      obtain ⟨a, c, rfl⟩ := ownsRow_slice hown
      have Hq := Lib.hid hq
      clear hq
      gi_wp2
      refine ⟨by simp, .inl ⟨_, _, rfl, run_takeDeferred hK, ?_⟩⟩
      refine ⟨_, results_tmp2 rfl _ _ _, told_fin _ _ ?_ (ownsRow_putObj hown _ hK rfl) (hB.trans (belowK_b (w := w) (Nat.le_refl _) W D _ _ (by omega) hK rfl rfl))⟩
      rw [flat_pre _ _ ((List.prefix_append q [x]).trans hpre), Hq.out]
end Go.Proofs.Ytcihcjlaamfjfaa
