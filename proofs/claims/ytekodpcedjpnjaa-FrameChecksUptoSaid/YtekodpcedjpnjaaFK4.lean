/- The law FrameChecks: texts: the first rows' texts. No condition but that the rows' texts are not too long. -/
import Derived.Test.YtekodpcedjpnjaaFK3
import Derived.Test.YtekodpcedjpnjaaRegT
namespace Go.Proofs.Ytekodpcedjpnjaa
set_option linter.unusedVariables false
set_option linter.unusedSimpArgs false
open Go.RowKit Go.Shelf Go.Maps
attribute [local go_sem] Oper.semAt_some
def linesR (R : List (List GC)) : List (List UInt8) := R.map lineT
theorem texts_world (w : World) (v : Value) (r c : Int) (s : Bool) (v1 : Value) (X : World)
    (hX : ((((w.alloc (.cells #[v, .int .i64 r, .int .i64 c, .bool s] 51)).alloc (.cells #[v1] 3)).alloc (.cells #[.slice none 0 0] 53)).alloc (.cells #[.bool false] 4)).alloc (.cells #[.slice none 0 0] 53) = X) :
    Boxed X (w.heap.size + 1) 3 v1 ∧ Boxed X (w.heap.size + 1 + 1) 53 (.slice none 0 0) ∧ Boxed X (w.heap.size + 1 + 1 + 1) 4 (.bool false) ∧ Boxed X (w.heap.size + 1 + 1 + 1 + 1) 53 (.slice none 0 0) ∧ Below w.heap.size w X ∧ X.heap.size = w.heap.size + 1 + 1 + 1 + 1 + 1 := by
  obtain ⟨X1, h1⟩ : ∃ X1, w.alloc (.cells #[v, .int .i64 r, .int .i64 c, .bool s] 51) = X1 := ⟨_, rfl⟩
  obtain ⟨X2, h2⟩ : ∃ X2, X1.alloc (.cells #[v1] 3) = X2 := ⟨_, rfl⟩
  obtain ⟨X3, h3⟩ : ∃ X3, X2.alloc (.cells #[.slice none 0 0] 53) = X3 := ⟨_, rfl⟩
  obtain ⟨X4, h4⟩ : ∃ X4, X3.alloc (.cells #[.bool false] 4) = X4 := ⟨_, rfl⟩
  rw [h1, h2, h3, h4] at hX
  have s1 : X1.heap.size = w.heap.size + 1 := by rw [← h1]; simp
  have s2 : X2.heap.size = w.heap.size + 1 + 1 := by rw [← h2]; simp [s1]
  have s3 : X3.heap.size = w.heap.size + 1 + 1 + 1 := by rw [← h3]; simp [s2]
  have s4 : X4.heap.size = w.heap.size + 1 + 1 + 1 + 1 := by rw [← h4]; simp [s3]
  have b2 := Boxed.new X1 3 v1
  have b3 := Boxed.new X2 53 (.slice none 0 0)
  have b4 := Boxed.new X3 4 (.bool false)
  have b5 := Boxed.new X4 53 (.slice none 0 0)
  rw [h2, s1] at b2
  rw [h3, s2] at b3
  rw [h4, s3] at b4
  rw [hX, s4] at b5
  refine ⟨hX ▸ (h4 ▸ (h3 ▸ b2.alloc _ : Boxed X3 _ _ _).alloc _ : Boxed X4 _ _ _).alloc _, hX ▸ (h4 ▸ b3.alloc _ : Boxed X4 _ _ _).alloc _, hX ▸ b4.alloc _, b5, ?_, by rw [← hX]; simp [s4]⟩
  rw [← hX, ← h4, ← h3, ← h2, ← h1]
  exact (((((Below.refl _ _).alloc (Nat.le_refl _) _).alloc (by simp) _).alloc (by simp; omega) _).alloc (by simp; omega) _).alloc (by simp; omega) _
/-- What abides in texts' loop. -/
def UT (w : World) (n₀ : Nat) (L : List (List UInt8)) (most : Nat) (pre : List Nat) (W : World) : Prop :=
  (∃ v, Boxed W (w.heap.size + 1 + 1 + 1 + 1) 53 v ∧ W.ownsRow n₀ 9 1 v pre.length (strV (L.take pre.length))) ∧
  (pre.length ≤ most ∧ pre.length ≤ L.length ∧ Boxed W (w.heap.size + 1) 3 (.int .i64 most) ∧ Boxed W (w.heap.size + 1 + 1) 53 (.slice none 0 0) ∧ Boxed W (w.heap.size + 1 + 1 + 1) 4 (.bool false)) ∧ Below w.heap.size w W
theorem UT.own {w : World} {n₀ : Nat} {L : List (List UInt8)} {most B : Nat} (hB : w.heap.size ≤ B) : OwnFrom B (UT w n₀ L most) := fun s X Y row ⟨⟨v, h1, h2⟩, ⟨h4, h4', h5, h7, h8⟩, h9⟩ hg hr =>
  have hr' := fun k e => (hr k e).2
  ⟨⟨v, boxed_own h1 hg hr', own_far h2 hg hr'⟩, ⟨h4, h4', boxed_own h5 hg hr', boxed_own h7 hg hr', boxed_own h8 hg hr'⟩, ownFrom_below (β := List Nat) (n₀ := w.heap.size) (w₀ := w) (Nat.le_refl _) hB s X Y row h9 hg hr⟩
def ToldT (L : List (List UInt8)) (w : World) (e : Ending) (w' : World) : Prop :=
  ∃ v, e = .returned (.tuple #[v, .bool true]) ∧ w'.ownsRow w.heap.size 9 1 v L.length (strV L) ∧ Below w.heap.size w w'
theorem texts_fin {w W : World} {n₀ D most : Nat} {L : List (List UInt8)} {ys : List Nat} {a : Option Addr} {c : Nat} (hn : w.heap.size + 1 + 1 + 1 + 1 ≤ n₀) (hD : n₀ ≤ D) (hall : L.take ys.length = L.take most) (hlen : ys.length ≤ L.length) (q1 : Boxed W (w.heap.size + 1 + 1) 53 (.slice none 0 0)) (q2 : Boxed W (w.heap.size + 1 + 1 + 1) 4 (.bool false))
    (hown : W.ownsRow n₀ 9 1 (.slice a ys.length c) ys.length (strV (L.take ys.length))) (hB : Below w.heap.size w W) (hK : W.heap[D]? = some (.deferred (some []))) (W2 : World) (hW2 : (W.setCell ⟨w.heap.size + 1 + 1, 0, none⟩ (.slice a ys.length c)).setCell ⟨w.heap.size + 1 + 1 + 1, 0, none⟩ (.bool true) = W2) :
    W2.heap[D]? = some (.deferred (some [])) ∧ (W2.putObj D (.deferred none)).cell? ⟨w.heap.size + 1 + 1, 0, none⟩ = some (.slice a ys.length c) ∧ (W2.putObj D (.deferred none)).cell? ⟨w.heap.size + 1 + 1 + 1, 0, none⟩ = some (.bool true) ∧
    ToldT (L.take most) w (.returned (.tuple #[.slice a ys.length c, .bool true])) (W2.putObj D (.deferred none)) := by
  have b1 := boxed_put (q1.set (.slice a ys.length c)) (k := w.heap.size + 1 + 1 + 1) (by omega) (.bool true)
  have b2 := (boxed_put q2 (k := w.heap.size + 1 + 1) (by omega) (.slice a ys.length c)).set (.bool true)
  have hK2 : W2.heap[D]? = some (.deferred (some [])) := by
    rw [← hW2, Below.heap_setCell _ _ _ _ (by show D ≠ w.heap.size + 1 + 1 + 1; omega), Below.heap_setCell _ _ _ _ (by show D ≠ w.heap.size + 1 + 1; omega)]; exact hK
  have ho2 : W2.ownsRow n₀ 9 1 (.slice a ys.length c) ys.length (strV (L.take ys.length)) := hW2 ▸ own_set (off := 0) (own_set (off := 0) hown (show w.heap.size + 1 + 1 < n₀ by omega) _) (show w.heap.size + 1 + 1 + 1 < n₀ by omega) _
  have hB2 : Below w.heap.size w W2 := hW2 ▸ (hB.setCell (p := ⟨w.heap.size + 1 + 1, 0, none⟩) (by show _ ≤ w.heap.size + 1 + 1; omega) _).setCell (p := ⟨w.heap.size + 1 + 1 + 1, 0, none⟩) (by show _ ≤ w.heap.size + 1 + 1 + 1; omega) _
  rw [hW2] at b1 b2
  have far : ∀ {k : Nat} {t : TypeId} {v : Value}, Boxed W2 k t v → Boxed (W2.putObj D (.deferred none)) k t v := fun h => boxed_own h (grownBy_putObj' _ D (.deferred none)) (fun r e => by cases e; exact ⟨_, hK2, rfl⟩)
  have ho3 : (W2.putObj D (.deferred none)).ownsRow w.heap.size 9 1 (.slice a ys.length c) ys.length (strV (L.take ys.length)) := by
    have := ownsRow_putObj ho2 (.deferred none) hK2 rfl
    exact ⟨this.1, this.2.imp id (fun ⟨g, cap, cur, h1, h2, r⟩ => ⟨g, cap, cur, h1, Nat.le_trans (by omega) h2, r⟩)⟩
  have hk : (L.take most).length = ys.length := by rw [← hall, List.length_take]; omega
  refine ⟨hK2, (far b1).cell, (far b2).cell, _, rfl, ?_, hB2.trans (belowK_b (w := w) (Nat.le_refl _) W2 D _ _ (by omega) hK2 rfl rfl)⟩
  rw [hk, ← hall]; exact ho3
set_option maxRecDepth 100000 in
set_option maxHeartbeats 8000000 in
theorem texts_any {w : World} {a : Option Addr} {n cap : Nat} {R : List (List GC)} (hR : RowsAt w a n R) (hn : n ≤ 1000) (hs : ∀ M ∈ R, M.length ≤ 1000 ∧ (lineT M).length ≤ 2000000) (r c : Int) (s : Bool) (most : Nat) (hmost : most ≤ 100000) :
    Calls Try.prog 20 #[.agg #[.slice a n cap, .int .i64 r, .int .i64 c, .bool s], .int .i64 most] w (ToldT ((linesR R).take most) w) := by
  have CA := Lib.hid (fun W => call09_any (.slice a n cap) r c s W)
  obtain ⟨i0, hi, hz0, hz1, hz2⟩ := info_parts infoStrc
  have hfn : ∀ (fn : Fn) (a b : Array Value) (w : World), (binOp .eql 118 (.func fn a b) .nilFunc).run Try.prog w = .ok (.bool false) w := fun _ _ _ _ => by kernel_rfl
  have hl := hR.len
  have HR := Lib.hid hR
  have HS := Lib.hid hs
  clear hR hs
  refine (callsIn_wide (n := 9)).1 ?_
  have h1 : 1 ≤ 9 := by omega
  refine callsIn_of_wp_marks Try.func20 rfl trivial ?_ rfl
  simp only [Try.ntmps20, List.size_toArray, List.length_cons, List.length_nil, Nat.reduceAdd, Nat.reduceSub, Array.replicate_succ, Array.replicate_zero, List.push_toArray, List.append_toArray, List.nil_append, List.cons_append]
  gi_wp2_with (refine ⟨trivial, ?_⟩; gi_at_call 71; refine (callsIn_wide.2 (CA.out _)).mono ?_; rintro e w2 ⟨rfl, hw2⟩)
  obtain ⟨X, hX⟩ : ∃ X, ((((w.alloc (.cells #[.slice a n cap, .int .i64 r, .int .i64 c, .bool s] 51)).alloc (.cells #[.int .i64 most] 3)).alloc (.cells #[.slice none 0 0] 53)).alloc (.cells #[.bool false] 4)).alloc (.cells #[.slice none 0 0] 53) = X := ⟨_, rfl⟩
  obtain ⟨p0, p1, p2, p3, hbX, hsX⟩ := texts_world w _ _ _ _ _ X hX
  rw [hX] at hw2
  clear hX
  have z : FBI w2 (w.heap.size + 1 + 1 + 1 + 1 + 1) (.slice a n cap) r c s := by rw [← hw2, ← hsX]; exact World.alloc_heap_new X _
  have hs2 : w2.heap.size = w.heap.size + 1 + 1 + 1 + 1 + 1 + 1 := by rw [← hw2]; simp [hsX]
  have hb2 : Below w.heap.size w w2 := hw2 ▸ hbX.alloc (by omega) _
  replace p0 : Boxed w2 (w.heap.size + 1) 3 (.int .i64 most) := hw2 ▸ p0.alloc _
  replace p1 : Boxed w2 (w.heap.size + 1 + 1) 53 (.slice none 0 0) := hw2 ▸ p1.alloc _
  replace p2 : Boxed w2 (w.heap.size + 1 + 1 + 1) 4 (.bool false) := hw2 ▸ p2.alloc _
  replace p3 : Boxed w2 (w.heap.size + 1 + 1 + 1 + 1) 53 (.slice none 0 0) := hw2 ▸ p3.alloc _
  clear hw2 hbX hsX
  have hLl : (linesR R).length = n := by unfold linesR; rw [List.length_map, hl]
  refine wpIn_rangeFunc_X rfl h1 (gf := 95) (lb := #[.pointer (some ⟨w.heap.size + 1 + 1 + 1 + 1 + 1, 0, none⟩)]) rfl trivial (enters_of Try.func95 (by kernel_rfl) rfl)
    (texts_seq HR.out (LowK.of_below hb2 (Nat.le_refl _)) hn HS.out r c s z _ (by omega)) LowK.trans (LowK.put (by omega)) (Below.refl _ _) (fun _ => rfl)
    (UT w w2.heap.size (linesR R) most)
    (fun c pre W => ∃ q, c = .exit 0 ∧ pre = q ++ [q.length] ∧ q.length = most ∧ UT w w2.heap.size (linesR R) most q W)
    (UT.own (by omega))
    (fun c s X Y row hs hg hr => by obtain ⟨q, e1, e2, e3, h⟩ := hs; exact ⟨q, e1, e2, e3, UT.own (by omega) q X Y row h hg hr⟩)
    (fun x => fun s X Y row hs hg hr => hs)
    ⟨⟨_, p3, World.ownsRow_nil _ _ _ _⟩, ⟨by simp, by simp, p0, p1, p2⟩, hb2⟩
    ?_ ?_ ?_ ?_ ?_
  rotate_left 1
  · intro L x W K hK
    dsimp only [encT]
    gi_wp2
    exact hK
  · rintro L pre x W hL1 hL2 ⟨⟨v, q3, hown⟩, ⟨hpm, hpL, q0, q1, q2⟩, hB⟩ ⟨rfl, hxl⟩ hpl
    obtain ⟨av, cv, rfl⟩ := own_sliceF hown
    have hc0 := q0.cell
    have hc3 := q3.cell
    have hf3 := q3.frozen
    have hplb : pre.length ≤ 1000 := by omega
    by_cases hge : pre.length = most
    · have hd : (most : Int) ≤ (pre.length : Int) := by omega
      have Hge := Lib.hid hge
      clear hge
      gi_wp2
      exact ⟨KeepsFrom.refl _ _, pre, rfl, rfl, Hge.out, ⟨⟨_, q3, hown⟩, ⟨hpm, hpL, q0, q1, q2⟩, hB⟩⟩
    · have hd : (pre.length : Int) < (most : Int) := by omega
      have HSV : Hid (strV ((linesR R).take (pre.length + 1)) = strV ((linesR R).take pre.length) ++ [.string (S (lineT (nth [] R pre.length)))]) := Lib.hid (by
        rw [List.take_succ_eq_append_getElem (by omega)]; unfold strV linesR; rw [List.map_append, List.getElem_map, nth_eq _ _ _ (by omega)]; rfl)
      obtain ⟨T, hT⟩ : ∃ T, T = lineT (nth [] R pre.length) := ⟨_, rfl⟩
      rw [← hT] at HSV
      rw [← hT]
      have HX := Lib.hid (And.intro hxl hge)
      clear hT hge
      have hcn : ∀ j v, [Value.string (S T)][j]? = some v → (W.alloc (.cells #[.string (S T)] 9)).cell? ((⟨W.heap.size, 0, none⟩ : Addr).add j) = some v := cell_one_new W _ _
      have hwl : w2.heap.size ≤ W.heap.size := by omega
      gi_wp2_with (gi_at_builtin; refine wpListIn_append_own_at _ rfl _ _ 53 rfl w2.heap.size 9 i0 (.string ⟨#[]⟩) 1 16 Try.underlying53 hi hz0 hz1 hz2 rfl (by decide) _ _ _ rfl (hown.alloc _) ⟨W.heap.size, 0, none⟩ 1 1 [.string (S T)] rfl rfl hcn (by simp [Value.oneCell']) (by unfold maxLen; omega) (by omega) (by simp; omega) ?_; intro v' w1 hown' hgrow _ hob; obtain ⟨g', cap', rfl⟩ := ownsRow_succ hown'; have q3' := (q3.alloc _).kept hgrow (q3.not_row (by decide) hown); have hc3' := q3'.cell; have hf3' := q3'.frozen)
      have hbut : But w2.heap.size (w.heap.size + 1 + 1 + 1 + 1) W (w1.setCell ⟨w.heap.size + 1 + 1 + 1 + 1, 0, none⟩ (.slice (some ⟨g', 0, none⟩) (pre.length + 1) cap')) :=
        (((But.refl _ _ W).alloc hwl _).grown (by simp; omega) hgrow (fun k e => by obtain ⟨h1, cur', h2⟩ := own_cells (hown.alloc _) k e; exact ⟨h1, _, h2, rfl⟩)).setCell 0 _
      have k3 := q3'.set (.slice (some ⟨g', 0, none⟩) (pre.length + 1) cap')
      have k0 := boxed_put ((q0.alloc _).kept hgrow (q0.not_row (by decide) hown)) (k := w.heap.size + 1 + 1 + 1 + 1) (by omega) (.slice (some ⟨g', 0, none⟩) (pre.length + 1) cap')
      have k1 := boxed_put ((q1.alloc _).kept hgrow (q1.not_row (by decide) hown)) (k := w.heap.size + 1 + 1 + 1 + 1) (by omega) (.slice (some ⟨g', 0, none⟩) (pre.length + 1) cap')
      have k2 := boxed_put ((q2.alloc _).kept hgrow (q2.not_row (by decide) hown)) (k := w.heap.size + 1 + 1 + 1 + 1) (by omega) (.slice (some ⟨g', 0, none⟩) (pre.length + 1) cap')
      have hown3 := own_set (off := 0) hown' (show w.heap.size + 1 + 1 + 1 + 1 < w2.heap.size by omega) (.slice (some ⟨g', 0, none⟩) (pre.length + 1) cap')
      refine ⟨hbut.others.from _, LowK.of_below (hbut.below (m := w.heap.size) (by omega) (by omega)) (Nat.le_refl _), ?_⟩
      unfold UT
      rw [List.length_append, show ([pre.length] : List Nat).length = 1 from rfl, HSV.out]
      have hxg := HX.out.2
      exact ⟨⟨_, k3, hown3⟩, ⟨by omega, by have := HX.out.1; omega, k0, k1, k2⟩, hB.trans (hbut.below (by omega) (by omega))⟩
  · rintro D ys W hD hys ⟨⟨v, q3, hown⟩, ⟨hpm, hpL, q0, q1, q2⟩, hB⟩ hK
    have hall : (linesR R).take ys.length = (linesR R).take most := by
      have h2 := congrArg List.length hys
      rw [List.length_range] at h2
      rw [List.take_of_length_le (by omega), List.take_of_length_le (by omega)]
    obtain ⟨av, cv, rfl⟩ := own_sliceF hown
    have HALL := Lib.hid hall
    clear hall hys
    have hc3 := q3.cell
    have hc1 := q1.cell
    have hf1 := q1.frozen
    have hc2 := q2.cell
    have hf2 := q2.frozen
    obtain ⟨W2, hW2⟩ : ∃ W2, (W.setCell ⟨w.heap.size + 1 + 1, 0, none⟩ (.slice av ys.length cv)).setCell ⟨w.heap.size + 1 + 1 + 1, 0, none⟩ (.bool true) = W2 := ⟨_, rfl⟩
    obtain ⟨hK2, hr1, hr2, hfin⟩ := texts_fin (most := most) (by omega) hD HALL.out hpL q1 q2 hown hB hK W2 hW2
    have HF := Lib.hid hfin
    clear hfin
    gi_wp2
    refine ⟨by simp, .inl ⟨_, _, rfl, run_takeDeferred hK2, ?_⟩⟩
    refine ⟨.tuple #[.slice av ys.length cv, .bool true], ?_, HF.out⟩
    simp [results, Try.f20, go_sem, hr1, hr2]
  · rintro D c pre W hD hpre ⟨ys, rfl, rfl, hym, ⟨v, q3, hown⟩, ⟨hpm, hpL, q0, q1, q2⟩, hB⟩ hK
    have hall : (linesR R).take ys.length = (linesR R).take most := by rw [hym]
    obtain ⟨av, cv, rfl⟩ := own_sliceF hown
    have HALL := Lib.hid hall
    clear hall hym hpm
    have hc3 := q3.cell
    have hc1 := q1.cell
    have hf1 := q1.frozen
    have hc2 := q2.cell
    have hf2 := q2.frozen
    obtain ⟨W2, hW2⟩ : ∃ W2, (W.setCell ⟨w.heap.size + 1 + 1, 0, none⟩ (.slice av ys.length cv)).setCell ⟨w.heap.size + 1 + 1 + 1, 0, none⟩ (.bool true) = W2 := ⟨_, rfl⟩
    obtain ⟨hK2, hr1, hr2, hfin⟩ := texts_fin (most := most) (by omega) hD HALL.out hpL q1 q2 hown hB hK W2 hW2
    have HF := Lib.hid hfin
    clear hfin
    gi_wp2
    refine ⟨by simp, .inl ⟨_, _, rfl, run_takeDeferred hK2, ?_⟩⟩
    refine ⟨.tuple #[.slice av ys.length cv, .bool true], ?_, HF.out⟩
    simp [results, Try.f20, go_sem, hr1, hr2]
end Go.Proofs.Ytekodpcedjpnjaa
