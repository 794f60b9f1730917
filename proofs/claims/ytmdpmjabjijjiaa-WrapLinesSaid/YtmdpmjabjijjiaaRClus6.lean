/- The law ClusterCuts: told. -/
import Derived.Test.YtmdpmjabjijjiaaRClus4
import Derived.RangeFuncBox
import Derived.Maps.OwnIn
namespace Go.Proofs.Ytmdpmjabjijjiaa
set_option linter.unusedVariables false
set_option linter.unusedSimpArgs false
open Go.RowKit Go.Shelf Go.Maps
attribute [local go_sem] Oper.semAt_some
/-- A region that draws its order inside a fence that lets all in: first operations that read, then acts in one forced order, the last of which may write what was read. -/
theorem wpIn_region_reads {P : Program} {Q : Exit → Act → World → Prop} {id : Nat} {a : Act} {w : World} {l : List Oper} {l₀ : Option Nat} {n : Nat} (n₁ : Nat) (S : World → Prop) (hm : P.follows .mixedOrders = true) (hs : Region.noSelect l.toArray = true) (hn : Nat.blt n₁ l.length = true) (hB : readsB .any l.toArray (l.length - 1) n₁ 0 (Array.replicate l.toArray.size false) = true)
    (hd : noDefer l.toArray = true) (ho : ∀ a w, ¬ Q .outgrown a w) (hQ : ∀ c a d v w, Q (.panic c) (Act.put a d v) w → Q (.panic c) a w) (hS : S w.drew)
    (h : wpRead P l.toArray S (fun a' => wpActs P l.toArray Q S (l.drop n₁) a' w.drew) (l.take n₁) a) : (Code.region id l.toArray true).wpIn (wideAt l₀) n P Q a w := by
  have hn : n₁ < l.length := by simpa [Nat.blt_eq] using hn
  refine wpIn_region_any hm (wpAnyIn_of_wpAny ho hd _ _ _ _ (wpAny_of_Z (S := S) (z := l.length - 1) _ _ _ _ ?_))
  have htl : (l.take n₁).length = n₁ := by simp; omega
  have hdl : (l.drop n₁).length = l.length - n₁ := by simp
  have mono : ∀ (K K' : Act → Prop), (∀ a, K a → K' a) → ∀ (q : List Oper) (a : Act), wpRead P l.toArray S K q a → wpRead P l.toArray S K' q a := by
    intro K K' hK q
    induction q with
    | nil => intro a h; exact hK a h
    | cons o q ih => intro a ⟨v, hy, h⟩; exact ⟨v, hy, ih _ h⟩
  have := wpAnyZ_reads (md := .any) (z := l.length - 1) (P := P) (Q := Q) (S := S) hs hQ (l.take n₁) 0 (l.length - n₁) (Array.replicate l.toArray.size false) a w.drew (fun j hj => by
      rw [htl] at hj
      simp [hj]) (by rw [htl]; exact hB) hS (by rw [htl]; simp; omega) (mono _ _ (fun a' ha' listed' hq => by
        rw [htl, Nat.zero_add] at hq
        have := wpAnyZ_acts (md := .any) (z := l.length - 1) (l.drop n₁) n₁ listed' a' w.drew (fun j => by simp [List.getElem?_drop]) (by rw [hdl]; omega) (by rw [hdl]; exact hq) ha'
        rwa [hdl] at this) _ _ h)
  rw [htl, show n₁ + (l.length - n₁) = l.length by omega] at this
  simpa using this
theorem boxed_own {X Y : World} {b : Nat} {t : TypeId} {v : Value} {row : Option Nat} (h : Boxed X b t v) (hg : X.grownBy Y row) (hr : ∀ r, row = some r → ∃ o, X.heap[r]? = some o ∧ o.isCells = false) : Boxed Y b t v :=
  h.kept hg fun e => by
    obtain ⟨o, ho, hc⟩ := hr b e.symm
    rw [show X.heap[b]? = _ from h] at ho
    cases ho
    cases hc
theorem boxed_put {X : World} {b : Nat} {t : TypeId} {v : Value} (h : Boxed X b t v) {k : Nat} (hk : b ≠ k) (u : Value) : Boxed (X.setCell ⟨k, 0, none⟩ u) b t v := (Below.heap_setCell _ _ _ _ (by exact hk)).trans h
theorem told3_world (w : World) (v1 : Value) (X : World) (hX : ((((w.alloc (.cells #[v1] 3)).alloc (.cells #[.slice none 0 0] 23)).alloc (.cells #[.bool false] 4)).alloc (.cells #[.slice none 0 0] 23)).alloc (.cells #[.int .i64 0] 3) = X) :
    Boxed X w.heap.size 3 v1 ∧ Boxed X (w.heap.size + 1) 23 (.slice none 0 0) ∧ Boxed X (w.heap.size + 1 + 1) 4 (.bool false) ∧ Boxed X (w.heap.size + 1 + 1 + 1) 23 (.slice none 0 0) ∧ Boxed X (w.heap.size + 1 + 1 + 1 + 1) 3 (.int .i64 0) ∧ Below w.heap.size w X ∧ X.heap.size = w.heap.size + 1 + 1 + 1 + 1 + 1 := by
  obtain ⟨X1, h1⟩ : ∃ X1, w.alloc (.cells #[v1] 3) = X1 := ⟨_, rfl⟩
  obtain ⟨X2, h2⟩ : ∃ X2, X1.alloc (.cells #[.slice none 0 0] 23) = X2 := ⟨_, rfl⟩
  obtain ⟨X3, h3⟩ : ∃ X3, X2.alloc (.cells #[.bool false] 4) = X3 := ⟨_, rfl⟩
  obtain ⟨X4, h4⟩ : ∃ X4, X3.alloc (.cells #[.slice none 0 0] 23) = X4 := ⟨_, rfl⟩
  rw [h1, h2, h3, h4] at hX
  have s1 : X1.heap.size = w.heap.size + 1 := by rw [← h1]; simp
  have s2 : X2.heap.size = w.heap.size + 1 + 1 := by rw [← h2]; simp [s1]
  have s3 : X3.heap.size = w.heap.size + 1 + 1 + 1 := by rw [← h3]; simp [s2]
  have s4 : X4.heap.size = w.heap.size + 1 + 1 + 1 + 1 := by rw [← h4]; simp [s3]
  have b1 := Boxed.new w 3 v1
  have b2 := Boxed.new X1 23 (.slice none 0 0)
  have b3 := Boxed.new X2 4 (.bool false)
  have b4 := Boxed.new X3 23 (.slice none 0 0)
  have b5 := Boxed.new X4 3 (.int .i64 0)
  rw [h1] at b1
  rw [h2, s1] at b2
  rw [h3, s2] at b3
  rw [h4, s3] at b4
  rw [hX, s4] at b5
  refine ⟨hX ▸ (h4 ▸ (h3 ▸ (h2 ▸ b1.alloc _ : Boxed X2 _ _ _).alloc _ : Boxed X3 _ _ _).alloc _ : Boxed X4 _ _ _).alloc _, hX ▸ (h4 ▸ (h3 ▸ b2.alloc _ : Boxed X3 _ _ _).alloc _ : Boxed X4 _ _ _).alloc _, hX ▸ (h4 ▸ b3.alloc _ : Boxed X4 _ _ _).alloc _, hX ▸ b4.alloc _, b5, ?_, by rw [← hX]; simp [s4]⟩
  rw [← hX, ← h4, ← h3, ← h2, ← h1]
  exact (((((Below.refl _ _).alloc (Nat.le_refl _) _).alloc (by simp) _).alloc (by simp; omega) _).alloc (by simp; omega) _).alloc (by simp; omega) _
/-- What abides in told's loop. -/
def UI (w : World) (n₀ : Nat) (L : List (List UInt8)) (most : Nat) (g : Nat) (pre : List Nat) (W : World) : Prop :=
  (∃ v, Boxed W (w.heap.size + 1 + 1 + 1) 23 v ∧ W.ownsRow n₀ 9 1 v pre.length (strV (L.take pre.length)) ∧ v.ownBlock ≠ some g) ∧
  (pre.length ≤ most ∧ pre.length ≤ L.length ∧ Boxed W w.heap.size 3 (.int .i64 most) ∧ Boxed W (w.heap.size + 1 + 1 + 1 + 1) 3 (.int .i64 (sumC (L.take pre.length))) ∧ Boxed W (w.heap.size + 1) 23 (.slice none 0 0) ∧ Boxed W (w.heap.size + 1 + 1) 4 (.bool false)) ∧ Below w.heap.size w W
theorem own_far {W W' : World} {n₀ : Nat} {e : TypeId} {size : Nat} {v : Value} {n : Nat} {xs : List Value} {row : Option Nat} (h : W.ownsRow n₀ e size v n xs) (hg : W.grownBy W' row) (hr : ∀ r, row = some r → ∃ o : Obj, W.heap[r]? = some o ∧ o.isCells = false) : W'.ownsRow n₀ e size v n xs := by
  refine h.kept hg ?_
  cases hv : v.ownBlock with
  | none => exact .inl rfl
  | some k =>
    refine .inr (fun e' => ?_)
    obtain ⟨h1, cur, h2⟩ := own_cells h k hv
    obtain ⟨o, h3, h4⟩ := hr k e'.symm
    rw [h2] at h3; cases h3; cases h4
theorem UI.own {w : World} {n₀ : Nat} {L : List (List UInt8)} {most g B : Nat} (hB : w.heap.size ≤ B) : OwnFrom B (UI w n₀ L most g) := fun s X Y row ⟨⟨v, h1, h2, h3⟩, ⟨h4, h4', h5, h6, h7, h8⟩, h9⟩ hg hr =>
  have hr' := fun k e => (hr k e).2
  ⟨⟨v, boxed_own h1 hg hr', own_far h2 hg hr', h3⟩, ⟨h4, h4', boxed_own h5 hg hr', boxed_own h6 hg hr', boxed_own h7 hg hr', boxed_own h8 hg hr'⟩, ownFrom_below (β := List Nat) (n₀ := w.heap.size) (w₀ := w) (Nat.le_refl _) hB s X Y row h9 hg hr⟩
def Told3 (L : List (List UInt8)) (w : World) (e : Ending) (w' : World) : Prop :=
  ∃ a n c, n = L.length ∧ n ≤ c ∧ c ≤ maxLen ∧ e = .returned (.tuple #[.slice a n c, .bool true]) ∧ RowAt w'.heap.size w' a (strV L) ∧ Below w.heap.size w w'
theorem told3_fin {w W : World} {n₀ D most : Nat} {L : List (List UInt8)} {ys : List Nat} {a : Option Addr} {c : Nat} (hn : w.heap.size + 1 + 1 + 1 ≤ n₀) (hD : n₀ ≤ D) (hall : L.take ys.length = L.take most) (hlen : ys.length ≤ L.length) (q1 : Boxed W (w.heap.size + 1) 23 (.slice none 0 0)) (q2 : Boxed W (w.heap.size + 1 + 1) 4 (.bool false))
    (hown : W.ownsRow n₀ 9 1 (.slice a ys.length c) ys.length (strV (L.take ys.length))) (hB : Below w.heap.size w W) (hK : W.heap[D]? = some (.deferred (some []))) (W2 : World) (hW2 : (W.setCell ⟨w.heap.size + 1, 0, none⟩ (.slice a ys.length c)).setCell ⟨w.heap.size + 1 + 1, 0, none⟩ (.bool true) = W2) :
    W2.heap[D]? = some (.deferred (some [])) ∧ (W2.putObj D (.deferred none)).cell? ⟨w.heap.size + 1, 0, none⟩ = some (.slice a ys.length c) ∧ (W2.putObj D (.deferred none)).cell? ⟨w.heap.size + 1 + 1, 0, none⟩ = some (.bool true) ∧
    Told3 (L.take most) w (.returned (.tuple #[.slice a ys.length c, .bool true])) (W2.putObj D (.deferred none)) := by
  have b1 := boxed_put (q1.set (.slice a ys.length c)) (k := w.heap.size + 1 + 1) (by omega) (.bool true)
  have b2 := (boxed_put q2 (k := w.heap.size + 1) (by omega) (.slice a ys.length c)).set (.bool true)
  have hK2 : W2.heap[D]? = some (.deferred (some [])) := by
    rw [← hW2, Below.heap_setCell _ _ _ _ (by show D ≠ w.heap.size + 1 + 1; omega), Below.heap_setCell _ _ _ _ (by show D ≠ w.heap.size + 1; omega)]; exact hK
  have ho2 : W2.ownsRow n₀ 9 1 (.slice a ys.length c) ys.length (strV (L.take ys.length)) := hW2 ▸ own_set (off := 0) (own_set (off := 0) hown (show w.heap.size + 1 < n₀ by omega) _) (show w.heap.size + 1 + 1 < n₀ by omega) _
  have hB2 : Below w.heap.size w W2 := hW2 ▸ (hB.setCell (p := ⟨w.heap.size + 1, 0, none⟩) (by show _ ≤ w.heap.size + 1; omega) _).setCell (p := ⟨w.heap.size + 1 + 1, 0, none⟩) (by show _ ≤ w.heap.size + 1 + 1; omega) _
  rw [hW2] at b1 b2
  have far : ∀ {k : Nat} {t : TypeId} {v : Value}, Boxed W2 k t v → Boxed (W2.putObj D (.deferred none)) k t v := fun h => boxed_own h (grownBy_putObj' _ D (.deferred none)) (fun r e => by cases e; exact ⟨_, hK2, rfl⟩)
  have ho3 := ownsRow_putObj ho2 (.deferred none) hK2 rfl
  obtain ⟨hr, hnc, hcm⟩ := own_row_at ho3
  refine ⟨hK2, (far b1).cell, (far b2).cell, a, ys.length, c, ?_, hnc, hcm, rfl, ?_, hB2.trans (belowK_b (w := w) (Nat.le_refl _) W2 D _ _ (by omega) hK2 rfl rfl)⟩
  · rw [← hall, List.length_take]; omega
  · rw [← hall]; exact hr
set_option maxRecDepth 100000 in
set_option maxHeartbeats 8000000 in
theorem told3_any (l : List UInt8) (hl : l.length ≤ 1100000) (most : Nat) (hmost : most ≤ 1100000) (w : World) : Calls Try.prog 23 #[.string (S l), .int .i64 most] w (Told3 ((cutL l).take most) w) := by
  have CA := Lib.hid (fun W => call_any l W)
  obtain ⟨i0, hi, hz0, hz1, hz2⟩ := info_parts infoStrc
  have hfn : ∀ (fn : Fn) (a b : Array Value) (w : World), (binOp .eql 97 (.func fn a b) .nilFunc).run Try.prog w = .ok (.bool false) w := fun _ _ _ _ => by kernel_rfl
  refine (callsIn_wide (n := 9)).1 ?_
  have h1 : 1 ≤ 9 := by omega
  refine callsIn_of_wp_marks Try.func23 rfl trivial ?_ rfl
  simp only [Try.ntmps23, List.size_toArray, List.length_cons, List.length_nil, Nat.reduceAdd, Nat.reduceSub, Array.replicate_succ, Array.replicate_zero, List.push_toArray, List.append_toArray, List.nil_append, List.cons_append]
  gi_wp2_with (refine ⟨trivial, ?_⟩; gi_at_call 88; refine (callsIn_wide.2 (CA.out _)).mono ?_; rintro e w2 ⟨rfl, hw2⟩)
  obtain ⟨X, hX⟩ : ∃ X, ((((w.alloc (.cells #[.int .i64 most] 3)).alloc (.cells #[.slice none 0 0] 23)).alloc (.cells #[.bool false] 4)).alloc (.cells #[.slice none 0 0] 23)).alloc (.cells #[.int .i64 0] 3) = X := ⟨_, rfl⟩
  obtain ⟨p0, p1, p2, p3, p4, hbX, hsX⟩ := told3_world w _ X hX
  rw [hX] at hw2
  clear hX
  have hcx := (Boxed.new X 9 (.string (S l)))
  rw [hw2, hsX] at hcx
  have hs2 : w2.heap.size = w.heap.size + 1 + 1 + 1 + 1 + 1 + 1 := by rw [← hw2]; simp [hsX]
  have hb2 : Below w.heap.size w w2 := hw2 ▸ hbX.alloc (by omega) _
  replace p0 : Boxed w2 w.heap.size 3 (.int .i64 most) := hw2 ▸ p0.alloc _
  replace p1 : Boxed w2 (w.heap.size + 1) 23 (.slice none 0 0) := hw2 ▸ p1.alloc _
  replace p2 : Boxed w2 (w.heap.size + 1 + 1) 4 (.bool false) := hw2 ▸ p2.alloc _
  replace p3 : Boxed w2 (w.heap.size + 1 + 1 + 1) 23 (.slice none 0 0) := hw2 ▸ p3.alloc _
  replace p4 : Boxed w2 (w.heap.size + 1 + 1 + 1 + 1) 3 (.int .i64 0) := hw2 ▸ p4.alloc _
  clear hw2 hbX hsX
  have hzl := cutL_len l
  refine wpIn_rangeFunc_GH rfl h1 (gf := 126) (lb := #[.pointer (some ⟨w.heap.size + 1 + 1 + 1 + 1 + 1, 0, none⟩)]) rfl trivial (enters_of Try.func126 (by kernel_rfl) rfl)
    (call1_seq l hl (w.heap.size + 1 + 1 + 1 + 1 + 1) w2 (by omega) hcx.cell _ (by omega)) KB.trans (KB.put (by omega) (by omega)) (Below.refl _ _) (fun _ => rfl)
    (fun g => UI w w2.heap.size (cutL l) most g)
    (fun g c pre W => ∃ q, c = .exit 0 ∧ pre = q ++ [q.length] ∧ q.length = most ∧ UI w w2.heap.size (cutL l) most g q W)
    (fun g => UI.own (by omega))
    (fun g c s X Y row hs hg hr => by obtain ⟨q, e1, e2, e3, h⟩ := hs; exact ⟨q, e1, e2, e3, UI.own (by omega) q X Y row h hg hr⟩)
    (fun g x => ghost_own _ g x)
    (fun g hg => ⟨⟨_, p3, World.ownsRow_nil _ _ _ _, by simp [Value.ownBlock]⟩, ⟨by simp, by simp, p0, by simpa [sumC] using p4, p1, p2⟩, hb2⟩)
    ?_ ?_ ?_ ?_ ?_
  rotate_left 1
  · intro L x W K hK
    dsimp only [encC]
    gi_wp2
    exact hK
  · rintro L g pre x W hL1 hL2 hg ⟨⟨v, q3, hown, hne⟩, ⟨hpm, hpL, q0, q4, q1, q2⟩, hB⟩ ⟨⟨rfl, hxl⟩, cur, hcur⟩ hpl
    obtain ⟨a, c, rfl⟩ := own_slice hown
    have hc0 := q0.cell
    have hc3 := q3.cell
    have hc4 := q4.cell
    have hplb : pre.length ≤ 1100000 := by omega
    by_cases hge : pre.length = most
    · have hd : (most : Int) ≤ (pre.length : Int) := by omega
      have Hge := Lib.hid hge
      clear hge
      gi_wp2
      exact ⟨KeepsFrom.refl _ _, pre, rfl, rfl, Hge.out, ⟨⟨_, q3, hown, hne⟩, ⟨hpm, hpL, q0, q4, q1, q2⟩, hB⟩⟩
    · have hd : (pre.length : Int) < (most : Int) := by omega
      have hclu := nth_clu hxl
      have hcl := hclu.len
      have hcb := hclu.cols
      have hbd := sumC_take_bd (cutL l) pre.length
      have HST := Lib.hid (sumC_take (cutL l) pre.length hxl)
      have hsv : strV ((cutL l).take (pre.length + 1)) = strV ((cutL l).take pre.length) ++ [.string (S (nth [] (cutL l) pre.length))] := by
        rw [List.take_succ_eq_append_getElem hxl, nth_eq _ _ _ hxl]; unfold strV; rw [List.map_append]; rfl
      have HSV := Lib.hid hsv
      obtain ⟨s, hs⟩ : ∃ s, s = sumC ((cutL l).take pre.length) := ⟨_, rfl⟩
      obtain ⟨C, hC⟩ : ∃ C, C = nth [] (cutL l) pre.length := ⟨_, rfl⟩
      obtain ⟨V, hV⟩ : ∃ V, V = strV ((cutL l).take pre.length) := ⟨_, rfl⟩
      have CW := Lib.hid (fun W => refWidth_any C (by rw [hC]; omega) W)
      have hwC : widthL C = colsL C := widthL_clu (hC ▸ hclu)
      rw [hwC] at CW
      obtain ⟨z, hz⟩ : ∃ z, z = colsL C := ⟨_, rfl⟩
      rw [← hC] at HST hcb HSV
      rw [← hz] at HST hcb CW
      rw [← hs] at HST hbd hc4 q4
      rw [← hV] at HSV hown
      rw [← hC, ← hs]
      have hsb0 : 0 ≤ s ∧ s ≤ 2200000 := by omega
      have HX := Lib.hid (And.intro hxl hge)
      have HS := Lib.hid hs
      clear hwC hs hV hC hz hclu hcl hbd hsv hxl hge
      have hss : (s != s) = false := by simp
      have hcn : ∀ j v, [Value.string (S C)][j]? = some v → (W.alloc (.cells #[.string (S C)] 9)).cell? ((⟨W.heap.size, 0, none⟩ : Addr).add j) = some v := cell_one_new W _ _
      gi_wp2_with (gi_at_builtin; refine wpListIn_append_own_at _ rfl _ _ 23 rfl w2.heap.size 9 i0 (.string ⟨#[]⟩) 1 16 Try.underlying23 hi hz0 hz1 hz2 rfl (by decide) _ _ _ rfl (hown.alloc _) ⟨W.heap.size, 0, none⟩ 1 1 [.string (S C)] rfl rfl hcn (by simp [Value.oneCell']) (by unfold maxLen; omega) (by omega) (by simp; omega) ?_; intro v' w1 hown' hgrow _ hob; obtain ⟨g', cap', rfl⟩ := ownsRow_succ hown'; have q3' := (q3.alloc _).kept hgrow (q3.not_row (by decide) hown); have hc3' := q3'.cell; have hf3' := q3'.frozen)
      have hwl : w2.heap.size ≤ W.heap.size := by omega
      have hbut : But w2.heap.size (w.heap.size + 1 + 1 + 1) W (w1.setCell ⟨w.heap.size + 1 + 1 + 1, 0, none⟩ (.slice (some ⟨g', 0, none⟩) (pre.length + 1) cap')) :=
        (((But.refl _ _ W).alloc hwl _).grown (by simp; omega) hgrow (fun k e => by obtain ⟨h1, cur', h2⟩ := own_cells (hown.alloc _) k e; exact ⟨h1, _, h2, rfl⟩)).setCell 0 _
      have hgk : (w1.setCell ⟨w.heap.size + 1 + 1 + 1, 0, none⟩ (.slice (some ⟨g', 0, none⟩) (pre.length + 1) cap')).heap[g]? = W.heap[g]? := by
        have hgl := (Array.getElem?_eq_some_iff.1 hcur).1
        rw [Below.heap_setCell _ _ _ _ (by show g ≠ w.heap.size + 1 + 1 + 1; omega), hgrow.block g (by simp; omega) (fun e => hne e.symm), Below.heap_alloc _ _ _ (by omega)]
      have hne3 : (Value.slice (some ⟨g', 0, none⟩) (pre.length + 1) cap').ownBlock ≠ some g := by
        rcases hob with h | h
        · rw [h]; exact hne
        · rw [h]
          have hgl := (Array.getElem?_eq_some_iff.1 hcur).1
          intro e
          injection e with e
          simp at e
          omega
      have k3 := q3'.set (.slice (some ⟨g', 0, none⟩) (pre.length + 1) cap')
      have k0 := boxed_put ((q0.alloc _).kept hgrow (q0.not_row (by decide) hown)) (k := w.heap.size + 1 + 1 + 1) (by omega) (.slice (some ⟨g', 0, none⟩) (pre.length + 1) cap')
      have k1 := boxed_put ((q1.alloc _).kept hgrow (q1.not_row (by decide) hown)) (k := w.heap.size + 1 + 1 + 1) (by omega) (.slice (some ⟨g', 0, none⟩) (pre.length + 1) cap')
      have k2 := boxed_put ((q2.alloc _).kept hgrow (q2.not_row (by decide) hown)) (k := w.heap.size + 1 + 1 + 1) (by omega) (.slice (some ⟨g', 0, none⟩) (pre.length + 1) cap')
      have k4 := boxed_put ((q4.alloc _).kept hgrow (q4.not_row (by decide) hown)) (k := w.heap.size + 1 + 1 + 1) (by omega) (.slice (some ⟨g', 0, none⟩) (pre.length + 1) cap')
      have hown3 := own_set (off := 0) hown' (show w.heap.size + 1 + 1 + 1 < w2.heap.size by omega) (.slice (some ⟨g', 0, none⟩) (pre.length + 1) cap')
      have hcn3 := k4.cell
      generalize (w1.setCell ⟨w.heap.size + 1 + 1 + 1, 0, none⟩ (.slice (some ⟨g', 0, none⟩) (pre.length + 1) cap')) = w3 at hbut hgk k3 k0 k1 k2 k4 hown3 hcn3 ⊢
      clear hgrow hown' hob q3' hc3' hf3' hcn hc3 hc4 hc0
      refine wpIn_region_reads (l₀ := some L) 2 (fun w' => w'.cell? ⟨w.heap.size + 1 + 1 + 1 + 1, 0, none⟩ = some (.int .i64 s)) (by kernel_rfl) (by kernel_rfl) (by kernel_rfl) (by kernel_rfl) (by kernel_rfl) (fun _ _ h => h) (fun _ _ d _ _ h => by cases d <;> exact h) hcn3 ?_
      simp only [List.take_succ_cons, List.take_zero, List.drop_succ_cons, List.drop_zero]
      repeat (refine' wpRead_step (v := _) rfl ?_ ?_; rotate_left 1; (intro w' hw'; go_simp; try with_reducible rfl); try simp only [Act.put, List.setIfInBounds_toArray, List.set_cons_zero, List.set_cons_succ])
      refine wpRead_nil ?_
      have k4d : Boxed w3.drew (w.heap.size + 1 + 1 + 1 + 1) 3 (.int .i64 s) := k4
      refine wpActs_step (fun K hK => ?_)
      go_wp2_with (go_at_call 29; refine (CW.out _).mono ?_; rintro e w4 ⟨rfl, hb4⟩)
      have k4' := k4d.kept (grown_of_below hb4) (by simp)
      have hc4' := k4'.cell
      have hf4' := k4'.frozen
      refine hK _ _ hc4' ?_
      clear hK K
      refine wpActs_step (fun K hK => ?_)
      go_wp2
      refine hK _ _ hc4' ?_
      clear hK K
      refine wpActs_last ?_
      go_wp2
      have hle3 : w2.heap.size ≤ w3.heap.size := by have := hbut.size; omega
      have hbut4 : But w2.heap.size (w.heap.size + 1 + 1 + 1) W w4 := hbut.drew.trans (But.of_below hle3 hb4)
      have hgl := (Array.getElem?_eq_some_iff.1 hcur).1
      have hg3 : g < w3.heap.size := by have := hbut.size; omega
      have bx : ∀ {k : Nat} {t : TypeId} {v : Value}, Boxed w3 k t v → Boxed w4 k t v := fun h => (show Boxed w3.drew _ _ _ from h).kept (grown_of_below hb4) (by simp)
      refine ⟨(hbut4.others.trans (KeepsOthers.setCell _ _ _)).from _, ⟨(hbut4.kb (by omega) (by omega) (by omega) (by omega)).trans (KB.setCell _ _ _ _ (by omega) (by omega)), (Below.heap_setCell _ _ _ _ (by show g ≠ w.heap.size + 1 + 1 + 1 + 1; omega)).trans ((hb4.block g hg3).trans hgk)⟩, ?_⟩
      unfold UI
      rw [List.length_append, show ([pre.length] : List Nat).length = 1 from rfl, HST.out, HSV.out]
      refine ⟨⟨_, boxed_put (bx k3) (by omega) _, own_set (own_below (show w3.drew.ownsRow _ _ _ _ _ _ from own_far hown3 (row := none) ⟨rfl, rfl, rfl, Nat.le_refl _, fun _ _ _ => rfl⟩ (fun k e => by cases e)) hb4) (by omega) _, hne3⟩, ⟨?_, HX.out.1, boxed_put (bx k0) (by omega) _, (bx k4).set _, boxed_put (bx k1) (by omega) _, boxed_put (bx k2) (by omega) _⟩, (hB.trans (hbut4.below (by omega) (by omega))).setCell (p := ⟨w.heap.size + 1 + 1 + 1 + 1, 0, none⟩) (by show w.heap.size ≤ w.heap.size + 1 + 1 + 1 + 1; omega) _⟩
      have := HX.out.2
      omega
  · rintro D g ys W hD hys ⟨⟨v, q3, hown, hne⟩, ⟨hpm, hpL, q0, q4, q1, q2⟩, hB⟩ hK
    obtain ⟨a, c, rfl⟩ := own_slice hown
    have hall : (cutL l).take ys.length = (cutL l).take most := by
      have h2 := congrArg List.length hys
      rw [List.length_range] at h2
      rw [List.take_of_length_le (by omega), List.take_of_length_le (by omega)]
    have HALL := Lib.hid hall
    clear hall hys
    have hc3 := q3.cell
    have hc1 := q1.cell
    have hf1 := q1.frozen
    have hc2 := q2.cell
    have hf2 := q2.frozen
    obtain ⟨W2, hW2⟩ : ∃ W2, (W.setCell ⟨w.heap.size + 1, 0, none⟩ (.slice a ys.length c)).setCell ⟨w.heap.size + 1 + 1, 0, none⟩ (.bool true) = W2 := ⟨_, rfl⟩
    obtain ⟨hK2, hr1, hr2, hfin⟩ := told3_fin (most := most) (by omega) hD HALL.out hpL q1 q2 hown hB hK W2 hW2
    have HF := Lib.hid hfin
    clear hfin
    gi_wp2
    refine ⟨by simp, .inl ⟨_, _, rfl, run_takeDeferred hK2, ?_⟩⟩
    refine ⟨.tuple #[.slice a ys.length c, .bool true], ?_, HF.out⟩
    simp [results, Try.f23, go_sem, hr1, hr2]
  · rintro D g c pre W hD hpre ⟨ys, rfl, rfl, hym, ⟨v, q3, hown, hne⟩, ⟨hpm, hpL, q0, q4, q1, q2⟩, hB⟩ hK
    obtain ⟨a, c, rfl⟩ := own_slice hown
    have hall : (cutL l).take ys.length = (cutL l).take most := by rw [hym]
    have HALL := Lib.hid hall
    clear hall hpre
    have hc3 := q3.cell
    have hc1 := q1.cell
    have hf1 := q1.frozen
    have hc2 := q2.cell
    have hf2 := q2.frozen
    obtain ⟨W2, hW2⟩ : ∃ W2, (W.setCell ⟨w.heap.size + 1, 0, none⟩ (.slice a ys.length c)).setCell ⟨w.heap.size + 1 + 1, 0, none⟩ (.bool true) = W2 := ⟨_, rfl⟩
    obtain ⟨hK2, hr1, hr2, hfin⟩ := told3_fin (most := most) (by omega) hD HALL.out hpL q1 q2 hown hB hK W2 hW2
    have HF := Lib.hid hfin
    have HY := Lib.hid hym
    clear hfin hym
    gi_wp2
    refine ⟨by simp, .inl ⟨_, _, rfl, run_takeDeferred hK2, ?_⟩⟩
    refine ⟨.tuple #[.slice a ys.length c, .bool true], ?_, HF.out⟩
    simp [results, Try.f23, go_sem, hr1, hr2]
end Go.Proofs.Ytmdpmjabjijjiaa
