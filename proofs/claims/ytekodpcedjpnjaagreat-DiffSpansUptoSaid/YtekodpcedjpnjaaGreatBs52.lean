/- The law DiffSpans: told: the iterator's first spans. No condition but that the strings are not too long for a cut. The law DiffSpans: back, same. No condition. The law DiffSpans: the program's spans, its iterator's and the number of columns agree with the reference. No condition but that the strings are not too long for a cut. Printed by gen_ds5.py. The law DiffSpans, as its statement hands it the frames and the number. No condition but that the strings are not too long for a cut. -/
import Derived.RangeFuncBox
import Derived.Maps.OwnIn
import Derived.Test.YtekodpcedjpnjaaGreatBs01
import Derived.Test.YtekodpcedjpnjaaGreatBs19
import Derived.Test.YtekodpcedjpnjaaGreatBs45
import Derived.Test.YtekodpcedjpnjaaGreatBs47
import Derived.Test.YtekodpcedjpnjaaGreatBs49
import Derived.Test.YtekodpcedjpnjaaGreatBs50
import Derived.Test.YtekodpcedjpnjaaGreatBs51
set_option linter.unusedVariables false
set_option linter.unusedSimpArgs false
namespace Go.Proofs.YtekodpcedjpnjaaGreat
open Go.RowKit Go.Shelf Go.Maps
attribute [local go_sem] Oper.semAt_some
theorem told10_world (Y : World) (v1 v2 : Value) (t1 t2 : TypeId) (W : World) (hW : (Y.alloc (.cells #[v1] t1)).alloc (.cells #[v2] t2) = W) :
    Boxed W Y.heap.size t1 v1 ∧ Boxed W (Y.heap.size + 1) t2 v2 ∧ Below Y.heap.size Y W ∧ W.heap.size = Y.heap.size + 1 + 1 := by
  subst hW
  have b1 := (Boxed.new Y t1 v1).alloc (.cells #[v2] t2)
  have b2 := Boxed.new (Y.alloc (.cells #[v1] t1)) t2 v2
  rw [World.size_alloc] at b2
  exact ⟨b1, b2, ((Below.refl _ _).alloc (Nat.le_refl _) _).alloc (by simp) _, by simp⟩
def U10 (w : World) (n₀ : Nat) (l : List (Nat × Nat × Nat)) (most g : Nat) (pre : List Nat) (W : World) : Prop :=
  (∃ v, Boxed W (w.heap.size + 1 + 1 + 1 + 1 + 1) 72 v ∧ W.ownsRow n₀ 166 3 v pre.length (spV (l.take pre.length)) ∧ v.ownBlock ≠ some g) ∧
  (pre.length ≤ most ∧ pre.length ≤ l.length ∧ Boxed W (w.heap.size + 1 + 1) 3 (.int .i64 most) ∧ Boxed W (w.heap.size + 1 + 1 + 1 + 1 + 1 + 1) 4 (.bool true)) ∧ Below w.heap.size w W
theorem U10.own {w : World} {n₀ : Nat} {l : List (Nat × Nat × Nat)} {most g B : Nat} (hB : w.heap.size ≤ B) : OwnFrom B (U10 w n₀ l most g) := fun s X Y row ⟨⟨v, h1, h2, h3⟩, ⟨h4, h4', h5, h6⟩, h9⟩ hg hr =>
  have hr' := fun k e => (hr k e).2
  ⟨⟨v, boxed_own h1 hg hr', own_far h2 hg hr', h3⟩, ⟨h4, h4', boxed_own h5 hg hr', boxed_own h6 hg hr'⟩, ownFrom_below (β := List Nat) (n₀ := w.heap.size) (w₀ := w) (Nat.le_refl _) hB s X Y row h9 hg hr⟩
def Told10 (l : List (Nat × Nat × Nat)) (w : World) (e : Ending) (w' : World) : Prop :=
  ∃ v, e = .returned (.tuple #[v, .bool true]) ∧ w'.ownsRow w.heap.size 166 3 v l.length (spV l) ∧ Below w.heap.size w w'
theorem told10_fin {w Z : World} {n₀ D k most : Nat} {l : List (Nat × Nat × Nat)} {v : Value} (hn : w.heap.size ≤ n₀) (hD : n₀ ≤ D) (hall : l.take k = l.take most) (hlen : k ≤ l.length) (hown : Z.ownsRow n₀ 166 3 v k (spV (l.take k))) (hB : Below w.heap.size w Z) (hK : Z.heap[D]? = some (.deferred (some []))) :
    (Z.drew.putObj D (.deferred none)).ownsRow w.heap.size 166 3 v (l.take most).length (spV (l.take most)) ∧ Below w.heap.size w (Z.drew.putObj D (.deferred none)) := by
  have hKd : Z.drew.heap[D]? = some (.deferred (some [])) := hK
  have h1 : Z.drew.ownsRow n₀ 166 3 v k (spV (l.take k)) := own_far hown (row := none) ⟨rfl, rfl, rfl, Nat.le_refl _, fun _ _ _ => rfl⟩ (fun k e => by cases e)
  have h2 := own_base (ownsRow_putObj h1 (.deferred none) hKd rfl) hn
  have hk : (l.take most).length = k := by rw [← hall, List.length_take]; omega
  rw [hk, ← hall]
  exact ⟨h2, hB.drew.trans (belowK_b (w := w) (Nat.le_refl _) Z.drew D _ _ (by omega) hKd rfl rfl)⟩
set_option maxRecDepth 100000 in
set_option maxHeartbeats 8000000 in
theorem told10_any {W : World} {a1 a2 : Option Addr} {n1 n2 c1 c2 : Nat} {A B : List (List GC)} (hA : RowsAt W a1 n1 A) (hB : RowsAt W a2 n2 B) (hn1 : n1 ≤ maxLen) (hn2 : n2 ≤ maxLen) (sA : ∀ M ∈ A, ∀ c ∈ M, c.s.size ≤ 1100000) (sB : ∀ M ∈ B, ∀ c ∈ M, c.s.size ≤ 1100000) (r1 k1 r2 k2 : Int) (s1 s2 : Bool) (most : Nat) (hmost : most ≤ 100000) :
    Calls Tryz.prog 42 #[(.agg #[.slice a1 n1 c1, .int .i64 r1, .int .i64 k1, .bool s1]), (.agg #[.slice a2 n2 c2, .int .i64 r2, .int .i64 k2, .bool s2]), .int .i64 most] W (Told10 ((spansE A r1 k1 B r2 k2).take most) W) := by
  obtain ⟨i0, hi, hz0, hz1, hz2⟩ := info_parts infoSpan
  have hfn : ∀ (fn : Fn) (a b : Array Value) (w : World), (binOp .eql 178 (.func fn a b) .nilFunc).run Tryz.prog w = .ok (.bool false) w := fun _ _ _ _ => by kernel_rfl
  have RA := Lib.hid hA
  have RB := Lib.hid hB
  have SA := Lib.hid sA
  have SB := Lib.hid sB
  have HBD := Lib.hid (spansE_ok A B r1 k1 r2 k2)
  obtain ⟨l, hl⟩ : ∃ l, l = spansE A r1 k1 B r2 k2 := ⟨_, rfl⟩
  rw [← hl] at HBD ⊢
  have HL := Lib.hid hl
  clear hl
  have CA := Lib.hid (fun X => call10_any (.slice a1 n1 c1) (.slice a2 n2 c2) r1 k1 r2 k2 s1 s2 X)
  clear hA hB sA sB
  refine (callsIn_wide (n := 9)).1 ?_
  have h1 : 1 ≤ 9 := by omega
  refine callsIn_of_wp_marks Tryz.func42 rfl trivial ?_ rfl
  simp only [Tryz.ntmps42, List.size_toArray, List.length_cons, List.length_nil, Nat.reduceAdd, Nat.reduceSub, Array.replicate_succ, Array.replicate_zero, List.push_toArray, List.append_toArray, List.nil_append, List.cons_append]
  gi_wp2_with (refine ⟨trivial, ?_⟩; gi_at_call 109; refine (callsIn_wide.2 (CA.out _)).mono ?_; rintro e w2 ⟨rfl, hw2⟩)
  obtain ⟨X, hX⟩ : ∃ X, (W.alloc (.cells #[.slice a1 n1 c1, .int .i64 r1, .int .i64 k1, .bool s1] 52)).alloc (.cells #[.slice a2 n2 c2, .int .i64 r2, .int .i64 k2, .bool s2] 52) = X := ⟨_, rfl⟩
  rw [hX] at hw2
  obtain ⟨_, _, bX, sX⟩ := frames2 W _ _ _ _ _ _ _ _ X hX
  have qY := Boxed.new X 3 (.int .i64 most)
  rw [sX] at qY
  have bY0 : Below X.heap.size X (X.alloc (.cells #[.int .i64 most] 3)) := (Below.refl _ _).alloc (Nat.le_refl _) _
  obtain ⟨Y, hY⟩ : ∃ Y, X.alloc (.cells #[.int .i64 most] 3) = Y := ⟨_, rfl⟩
  have sY : Y.heap.size = W.heap.size + 1 + 1 + 1 := by rw [← hY]; simp [sX]
  rw [hY] at hw2 qY bY0
  obtain ⟨y1, y2, b2, s2'⟩ := frames2 Y _ _ _ _ _ _ _ _ w2 hw2
  rw [sY] at y1 y2 s2'
  obtain ⟨V, hV⟩ : ∃ V, (w2.alloc (.cells #[.slice none 0 0] 72)).alloc (.cells #[.bool true] 4) = V := ⟨_, rfl⟩
  rw [hV, s2']
  obtain ⟨q5, q6, b3, s3'⟩ := told10_world w2 _ _ _ _ V hV
  rw [s2'] at q5 q6 s3'
  have qV : Boxed V (W.heap.size + 1 + 1) 3 (.int .i64 most) := (qY.kept (grown_of_below b2) (by simp)).kept (grown_of_below b3) (by simp)
  have y1 := y1.below b3
  have y2 := y2.below b3
  have bY := bto bX bY0 bX.size
  have bW2 := bto bY b2 bY.size
  have hbV := bto bW2 b3 bW2.size
  clear hX hY hw2 hV qY bX bY0 bY b2 b3 bW2 sX sY s2'
  have hlen := HBD.out.2.2
  have hseq := all10_seq (RA.out.below hbV) (RB.out.below hbV) hn1 hn2 SA.out SB.out r1 k1 r2 k2 s1 s2 y1 y2 (9 - 1) (by omega)
  rw [← HL.out] at hseq
  clear HL RA RB SA SB
  refine wpIn_rangeFunc_GA rfl h1 (gf := 182) (lb := #[.pointer (some ⟨W.heap.size + 1 + 1 + 1, 0, none⟩), .pointer (some ⟨W.heap.size + 1 + 1 + 1 + 1, 0, none⟩)]) rfl trivial (enters_of Tryz.func182 (by kernel_rfl) rfl)
    hseq KB.trans (KB.put (by omega) (by omega)) (Below.refl _ _) (fun _ => rfl)
    (fun g => U10 W V.heap.size l most g)
    (fun g c pre V' => ∃ q, c = .exit 0 ∧ pre = q ++ [q.length] ∧ q.length = most ∧ U10 W V.heap.size l most g q V')
    (fun g => U10.own (by omega))
    (fun g c s X Y row hs hg hr => by obtain ⟨q, e1, e2, e3, h⟩ := hs; exact ⟨q, e1, e2, e3, U10.own (by omega) q X Y row h hg hr⟩)
    (fun g x => XSp.own _ g x)
    (fun g hg => ⟨⟨_, q5, World.ownsRow_nil _ _ _ _, by simp [Value.ownBlock]⟩, ⟨by simp, by simp, qV, q6⟩, hbV⟩)
    ?_ (spO l) (fun Z Zα hZ hb => KB.of_below hb (by omega) (by omega)) (fun g pre x Z hx => by obtain ⟨_, cur, h⟩ := hx; exact (Array.getElem?_eq_some_iff.1 h).1) ?_ ?_ ?_ ?_
  rotate_left 1
  · intro L x Z k K hk hK
    dsimp only [encSp, spA]
    have hb : Below Z.heap.size Z (Z.alloc (spO l x)) := (Below.refl _ _).alloc (Nat.le_refl _) _
    have ho := World.alloc_heap_new Z (spO l x)
    rw [← hk] at ho
    have HKK := Lib.hid (hK _ hb ho)
    clear hK hb ho
    gi_wp2
    rw [← hk]
    exact HKK.out
  · rintro L g pre x k Z hL1 hL2 hg hk ho hkg ⟨⟨v, p5, hown, hne⟩, ⟨hpm, hpL, p2, p6⟩, hB⟩ ⟨⟨rfl, hxl⟩, cur, hcur⟩ hpl
    obtain ⟨sp, hsp⟩ : ∃ s, l[pre.length]? = some s := ⟨_, List.getElem?_eq_getElem hxl⟩
    have hnth : nth (0, 0, 0) l pre.length = sp := by rw [nth_eq _ _ _ hxl]; exact (List.getElem?_eq_some_iff.1 hsp).2
    have HSV : Hid (spV (l.take (pre.length + 1)) = spV (l.take pre.length) ++ spV [sp]) := Lib.hid (by rw [List.take_succ_eq_append_getElem hxl, spV_app, (List.getElem?_eq_some_iff.1 hsp).2])
    obtain ⟨av, cv, rfl⟩ := own_sliceF hown
    have hc5 := p5.cell
    have hc2 := p2.cell
    have hc6 := p6.cell
    have hplb : pre.length ≤ 30000 := by omega
    by_cases hge : pre.length = most
    · have hd : (most : Int) ≤ (pre.length : Int) := by omega
      have Hge := Lib.hid hge
      clear hge
      gi_wp2
      exact ⟨KeepsFrom.refl _ _, pre, rfl, rfl, Hge.out, ⟨⟨_, p5, hown, hne⟩, ⟨hpm, hpL, p2, p6⟩, hB⟩⟩
    · have hd : (pre.length : Int) < (most : Int) := by omega
      unfold spO at ho
      rw [hnth] at ho
      obtain ⟨sr, sa, se⟩ := sp
      dsimp only at ho
      obtain ⟨f0, f1, f2⟩ := (show SpanBx Z k sr sa se from ho).cells
      have hf5 := p5.frozen
      have hf6 := p6.frozen
      have hwl : V.heap.size ≤ Z.heap.size := by omega
      have sZ0 : (Z.setCell ⟨W.heap.size + 1 + 1 + 1 + 1 + 1 + 1, 0, none⟩ (.bool true)).heap.size = Z.heap.size := by simp [World.setCell]
      have e5 := boxed_put p5 (k := W.heap.size + 1 + 1 + 1 + 1 + 1 + 1) (by omega) (.bool true)
      have e2 := boxed_put p2 (k := W.heap.size + 1 + 1 + 1 + 1 + 1 + 1) (by omega) (.bool true)
      have e6 := p6.set (.bool true)
      have eo := own_set (off := 0) hown (show W.heap.size + 1 + 1 + 1 + 1 + 1 + 1 < V.heap.size by omega) (.bool true)
      have eg : (Z.setCell ⟨W.heap.size + 1 + 1 + 1 + 1 + 1 + 1, 0, none⟩ (.bool true)).heap[g]? = Z.heap[g]? := Below.heap_setCell _ _ _ _ (by show g ≠ W.heap.size + 1 + 1 + 1 + 1 + 1 + 1; omega)
      have ek : KeepsOthers Z (Z.setCell ⟨W.heap.size + 1 + 1 + 1 + 1 + 1 + 1, 0, none⟩ (.bool true)) := KeepsOthers.setCell _ _ _
      have eB := hB.setCell (p := ⟨W.heap.size + 1 + 1 + 1 + 1 + 1 + 1, 0, none⟩) (by show W.heap.size ≤ W.heap.size + 1 + 1 + 1 + 1 + 1 + 1; omega) (.bool true)
      have eK : KB (W.heap.size + 1 + 1 + 1) (W.heap.size + 1 + 1 + 1 + 1) Z (Z.setCell ⟨W.heap.size + 1 + 1 + 1 + 1 + 1 + 1, 0, none⟩ (.bool true)) := KB.setCell _ _ _ _ (by omega) (by omega)
      obtain ⟨Z1, hZ1⟩ : ∃ Z1, Z.setCell ⟨W.heap.size + 1 + 1 + 1 + 1 + 1 + 1, 0, none⟩ (.bool true) = Z1 := ⟨_, rfl⟩
      rw [hZ1] at sZ0 e5 e2 e6 eo eg ek eB eK
      have HZ1 := Lib.hid hZ1
      have hcn : ∀ j u, [Value.int .i64 sr, .int .i64 sa, .int .i64 se][j]? = some u → (Z1.alloc (.cells #[.int .i64 sr, .int .i64 sa, .int .i64 se] 166)).cell? ((⟨Z.heap.size, 0, none⟩ : Addr).add j) = some u := by
        have := cells3 Z1 (.int .i64 sr) (.int .i64 sa) (.int .i64 se) 166
        rw [sZ0] at this
        exact this
      have HCN := Lib.hid hcn
      have HX := Lib.hid (And.intro hxl hge)
      have hglt := (Array.getElem?_eq_some_iff.1 hcur).1
      clear hsp hnth hZ1 hcn hge
      gi_wp2_with (gi_at_builtin; rw [HZ1.out]; refine wpListIn_append_own_at _ rfl _ _ 72 rfl V.heap.size 166 i0 (.agg #[.int .i64 0, .int .i64 0, .int .i64 0]) 3 24 Tryz.underlying72 hi hz0 hz1 hz2 rfl (by decide) _ _ _ rfl (eo.alloc _) ⟨Z.heap.size, 0, none⟩ 1 1 [.int .i64 sr, .int .i64 sa, .int .i64 se] rfl rfl HCN.out (by intro u hu; simp only [List.mem_cons, List.not_mem_nil, or_false] at hu; rcases hu with rfl | rfl | rfl <;> rfl) (by unfold maxLen; omega) (by omega) (by simp; omega) ?_; intro v' w1 hown' hgrow _ hob; obtain ⟨g', cap', rfl⟩ := ownsRow_succ hown'; have q5' := (e5.alloc _).kept hgrow (e5.not_row (by decide) eo); have hc5' := q5'.cell; have hf5' := q5'.frozen)
      have hbut : But V.heap.size (W.heap.size + 1 + 1 + 1 + 1 + 1) Z1 (w1.setCell ⟨W.heap.size + 1 + 1 + 1 + 1 + 1, 0, none⟩ (.slice (some ⟨g', 0, none⟩) (pre.length + 1) cap')) :=
        (((But.refl _ _ Z1).alloc (by omega) _).grown (by simp; omega) hgrow (fun k e => by obtain ⟨h1, cur', h2⟩ := own_cells (eo.alloc _) k e; exact ⟨h1, _, h2, rfl⟩)).setCell 0 _
      have hgk : (w1.setCell ⟨W.heap.size + 1 + 1 + 1 + 1 + 1, 0, none⟩ (.slice (some ⟨g', 0, none⟩) (pre.length + 1) cap')).heap[g]? = Z.heap[g]? := by
        rw [Below.heap_setCell _ _ _ _ (by show g ≠ W.heap.size + 1 + 1 + 1 + 1 + 1; omega), hgrow.block g (by simp; omega) (fun e => hne e.symm), Below.heap_alloc _ _ _ (by omega)]
        exact eg
      have hne3 : (Value.slice (some ⟨g', 0, none⟩) (pre.length + 1) cap').ownBlock ≠ some g := by
        rcases hob with h | h
        · rw [h]; exact hne
        · rw [h]
          intro e
          injection e with e
          simp at e
          omega
      have k5 := q5'.set (.slice (some ⟨g', 0, none⟩) (pre.length + 1) cap')
      have k2 := boxed_put ((e2.alloc _).kept hgrow (e2.not_row (by decide) eo)) (k := W.heap.size + 1 + 1 + 1 + 1 + 1) (by omega) (.slice (some ⟨g', 0, none⟩) (pre.length + 1) cap')
      have k6 := boxed_put ((e6.alloc _).kept hgrow (e6.not_row (by decide) eo)) (k := W.heap.size + 1 + 1 + 1 + 1 + 1) (by omega) (.slice (some ⟨g', 0, none⟩) (pre.length + 1) cap')
      have hown3 := own_set (off := 0) hown' (show W.heap.size + 1 + 1 + 1 + 1 + 1 < V.heap.size by omega) (.slice (some ⟨g', 0, none⟩) (pre.length + 1) cap')
      refine ⟨(ek.trans hbut.others).from _, ⟨eK.trans (hbut.kb (by omega) (by omega) (by omega) (by omega)), hgk⟩, ?_⟩
      unfold U10
      rw [List.length_append, show ([pre.length] : List Nat).length = 1 from rfl, HSV.out]
      have hxg := HX.out.2
      exact ⟨⟨_, k5, hown3, hne3⟩, ⟨by omega, HX.out.1, k2, k6⟩, eB.trans (hbut.below (by omega) (by omega))⟩
  · rintro D g ys Z hD hys ⟨⟨v, p5, hown, hne⟩, ⟨hpm, hpL, p2, p6⟩, hB⟩ hK
    have hall : l.take ys.length = l.take most := by
      have h2 := congrArg List.length hys
      rw [List.length_range] at h2
      rw [List.take_of_length_le (by omega), List.take_of_length_le (by omega)]
    obtain ⟨av, cv, rfl⟩ := own_sliceF hown
    have HFIN := Lib.hid (told10_fin (by omega) hD hall hpL hown hB hK)
    have hc5 := p5.cell
    have hc6 := p6.cell
    have hKd : Z.drew.heap[D]? = some (.deferred (some [])) := hK
    clear hall hown hne hys
    gi_wp2
    refine wpIn_normal ?_
    refine wpIn_region_reads (l₀ := none) 3 (fun w' => w'.cell? ⟨W.heap.size + 1 + 1 + 1 + 1 + 1, 0, none⟩ = some (.slice av ys.length cv) ∧ w'.cell? ⟨W.heap.size + 1 + 1 + 1 + 1 + 1 + 1, 0, none⟩ = some (.bool true)) (by kernel_rfl) (by kernel_rfl) (by kernel_rfl) (by kernel_rfl) (by kernel_rfl) (fun _ _ h => h) (fun _ _ d _ _ h => by cases d <;> exact h) ⟨hc5, hc6⟩ ?_
    simp only [List.take_succ_cons, List.take_zero, List.drop_succ_cons, List.drop_zero]
    repeat (refine' wpRead_step (v := _) rfl ?_ ?_; rotate_left 1; (intro w' hw'; obtain ⟨j1, j2⟩ := hw'; go_simp; try with_reducible rfl); try simp only [Act.put, List.setIfInBounds_toArray, List.set_cons_zero, List.set_cons_succ])
    refine wpRead_nil ?_
    refine wpActs_last ?_
    go_wp2
    gi_wp2
    refine ⟨by simp, .inl ⟨_, _, rfl, run_takeDeferred hKd, ?_⟩⟩
    refine ⟨.tuple #[.slice av ys.length cv, .bool true], ?_, _, rfl, HFIN.out⟩
    simp [results, Tryz.f42, go_sem]
  · rintro D g c pre Z hD hpre ⟨ys, rfl, rfl, hym, ⟨v, p5, hown, hne⟩, ⟨hpm, hpL, p2, p6⟩, hB⟩ hK
    have hall : l.take ys.length = l.take most := by rw [hym]
    obtain ⟨av, cv, rfl⟩ := own_sliceF hown
    have HFIN := Lib.hid (told10_fin (by omega) hD hall hpL hown hB hK)
    have hc5 := p5.cell
    have hc6 := p6.cell
    have hKd : Z.drew.heap[D]? = some (.deferred (some [])) := hK
    clear hall hown hne hym hpm
    gi_wp2
    refine wpIn_normal ?_
    refine wpIn_region_reads (l₀ := none) 3 (fun w' => w'.cell? ⟨W.heap.size + 1 + 1 + 1 + 1 + 1, 0, none⟩ = some (.slice av ys.length cv) ∧ w'.cell? ⟨W.heap.size + 1 + 1 + 1 + 1 + 1 + 1, 0, none⟩ = some (.bool true)) (by kernel_rfl) (by kernel_rfl) (by kernel_rfl) (by kernel_rfl) (by kernel_rfl) (fun _ _ h => h) (fun _ _ d _ _ h => by cases d <;> exact h) ⟨hc5, hc6⟩ ?_
    simp only [List.take_succ_cons, List.take_zero, List.drop_succ_cons, List.drop_zero]
    repeat (refine' wpRead_step (v := _) rfl ?_ ?_; rotate_left 1; (intro w' hw'; obtain ⟨j1, j2⟩ := hw'; go_simp; try with_reducible rfl); try simp only [Act.put, List.setIfInBounds_toArray, List.set_cons_zero, List.set_cons_succ])
    refine wpRead_nil ?_
    refine wpActs_last ?_
    go_wp2
    gi_wp2
    refine ⟨by simp, .inl ⟨_, _, rfl, run_takeDeferred hKd, ?_⟩⟩
    refine ⟨.tuple #[.slice av ys.length cv, .bool true], ?_, _, rfl, HFIN.out⟩
    simp [results, Tryz.f42, go_sem]
end Go.Proofs.YtekodpcedjpnjaaGreat
namespace Go.Proofs.YtekodpcedjpnjaaGreat
open Go.RowKit Go.Shelf Go.Maps
theorem spV_next {l : List (Nat × Nat × Nat)} {j : Nat} {s : Nat × Nat × Nat} (h : l[j]? = some s) : spV (l.take (j + 1)) = spV (l.take j) ++ [.int .i64 (s.1 : Nat), .int .i64 (s.2.1 : Nat), .int .i64 (s.2.2 : Nat)] := by
  obtain ⟨hj, rfl⟩ := List.getElem?_eq_some_iff.1 h
  rw [List.take_succ_eq_append_getElem hj, spV_app]
  rfl
def BkS (g j a b c : Nat) (X : World) : Prop := X.cell? ⟨g, j * 3, none⟩ = some (.int .i64 (a : Nat)) ∧ X.cell? ⟨g, j * 3 + 1, none⟩ = some (.int .i64 (b : Nat)) ∧ X.cell? ⟨g, j * 3 + 2, none⟩ = some (.int .i64 (c : Nat))
set_option maxRecDepth 100000 in
set_option maxHeartbeats 8000000 in
theorem back_any {W : World} {n₀ : Nat} {v : Value} (l : List (Nat × Nat × Nat)) (hl : l.length ≤ 1000000) (hown : W.ownsRow n₀ 166 3 v l.length (spV l)) :
    Calls Tryz.prog 44 #[v] W fun e w' => ∃ u, e = .returned u ∧ w'.ownsRow W.heap.size 172 3 u l.length (spV l) ∧ Below W.heap.size W w' := by
  obtain ⟨i0, hi0, hz0, hz1, hz2⟩ := info_parts infoSpanR
  obtain ⟨av, cv, rfl⟩ := own_sliceF hown
  have HOW := Lib.hid hown
  clear hown
  go_enter Tryz.func44, Tryz.ntmps44
  go_wp2
  go_loopw [3, 4] (fun u iv wr => ∃ j : Nat, j ≤ l.length ∧ iv = .int .i64 j ∧ wr.ownsRow W.heap.size 172 3 u j (spV (l.take j)) ∧ Below W.heap.size W wr) (fun _ iv _ => l.length - (intOf iv).toNat)
  case atStart => exact ⟨0, Nat.zero_le _, rfl, World.ownsRow_nil _ _ _ _, Below.refl _ _⟩
  case round =>
    obtain ⟨j, hj, rfl, hu, hb⟩ := hrel
    obtain ⟨au, cu, rfl⟩ := own_sliceF hu
    have hs := hb.size
    by_cases hlt : j < l.length
    · obtain ⟨sp, hsp⟩ : ∃ s, l[j]? = some s := ⟨_, List.getElem?_eq_getElem hlt⟩
      obtain ⟨g, c, hv0, _, _, _⟩ := own_neS HOW.out (by omega)
      simp only [Value.slice.injEq, true_and] at hv0
      obtain ⟨rfl, rfl⟩ := hv0
      have HNX := Lib.hid (spV_next hsp)
      obtain ⟨g0, g1, g2⟩ := spV_get l j sp hsp
      have x0 := (own_get HOW.out g0).1
      have x1 := (own_get HOW.out g1).1
      have x2 := (own_get HOW.out g2).1
      have hgl : g < W.heap.size := World.block_lt_of_cell? _ _ x0
      obtain ⟨q, hq⟩ : ∃ q, wr.drew = q := ⟨_, rfl⟩
      have dB : Below wr.heap.size wr q := by rw [← hq]; exact (Below.refl _ _).drew
      have hbq : Below W.heap.size W q := bto hb dB hb.size
      have hqs := hbq.size
      have hqw := dB.size
      have hSq : BkS g j sp.1 sp.2.1 sp.2.2 q := ⟨(hbq.cell (p := ⟨g, j * 3, none⟩) hgl).trans x0, (hbq.cell (p := ⟨g, j * 3 + 1, none⟩) hgl).trans x1, (hbq.cell (p := ⟨g, j * 3 + 2, none⟩) hgl).trans x2⟩
      have hS0 : BkS g j sp.1 sp.2.1 sp.2.2 wr.drew := by rw [hq]; exact hSq
      have hcn := cells3 q (.int .i64 (sp.1 : Nat)) (.int .i64 (sp.2.1 : Nat)) (.int .i64 (sp.2.2 : Nat)) 172
      have bA : Below q.heap.size q (q.alloc (.cells #[.int .i64 (sp.1 : Nat), .int .i64 (sp.2.1 : Nat), .int .i64 (sp.2.2 : Nat)] 172)) := (Below.refl _ _).alloc (Nat.le_refl _) _
      obtain ⟨Z, hZ⟩ : ∃ Z, q.alloc (.cells #[.int .i64 (sp.1 : Nat), .int .i64 (sp.2.1 : Nat), .int .i64 (sp.2.2 : Nat)] 172) = Z := ⟨_, rfl⟩
      rw [hZ] at hcn bA
      have hown1 := own_belowF (own_belowF hu dB) bA
      have hS1 : BkS g j sp.1 sp.2.1 sp.2.2 Z := ⟨(bA.cell (p := ⟨g, j * 3, none⟩) (by show g < q.heap.size; omega)).trans hSq.1, (bA.cell (p := ⟨g, j * 3 + 1, none⟩) (by show g < q.heap.size; omega)).trans hSq.2.1, (bA.cell (p := ⟨g, j * 3 + 2, none⟩) (by show g < q.heap.size; omega)).trans hSq.2.2⟩
      have HZ := Lib.hid hZ
      have HQ := Lib.hid hq
      have hZs := bA.size
      have hji : (j : Int) < (l.length : Int) := by omega
      clear hZ hq g0 g1 g2 x0 x1 x2 hsp hSq
      obtain ⟨sa, sb, sc⟩ := sp
      dsimp only at hS0 hS1 hcn HNX HZ
      go_wp2_with fail
      refine wp_region_mix2 [(true, 0), (true, 1), (true, 2), (true, 3), (true, 4), (true, 5), (true, 6), (true, 7), (true, 8), (true, 9), (true, 10), (true, 11), (true, 12), (true, 13), (true, 14), (true, 15), (true, 16), (false, 17), (false, 18), (true, 19)] (BkS g j sa sb sc) (by kernel_rfl) (by kernel_rfl) (by rfl) (by kernel_rfl) (by kernel_rfl) (fun _ _ d _ _ h => by cases d <;> exact h) hS0 ?_
      simp only [mixL, List.getElem?_cons_succ, List.getElem?_cons_zero]
      rw [HQ.out]
      repeat (refine' wpMix2_read (v := _) rfl ?_ ?_; rotate_left 1; (intro w' hw'; obtain ⟨h0, h1, h2⟩ := hw'; go_simp; try with_reducible rfl); try simp only [Act.put, List.setIfInBounds_toArray, List.set_cons_zero, List.set_cons_succ])
      refine wpMix2_act (fun K hK => ?_)
      go_wp2
      rw [HZ.out]
      refine hK _ _ hS1 ?_
      clear hK K
      refine wpMix2_act (fun K hK => ?_)
      go_wp2_with (at_builtin; refine wpList_append_own_at _ rfl _ _ 75 rfl W.heap.size 172 i0 (.agg #[.int .i64 0, .int .i64 0, .int .i64 0]) 3 24 Tryz.underlying75 hi0 hz0 hz1 hz2 rfl (by decide) _ _ _ rfl hown1 ⟨q.heap.size, 0, none⟩ 1 1 [.int .i64 (sa : Nat), .int .i64 (sb : Nat), .int .i64 (sc : Nat)] rfl rfl hcn (by intro u hu; simp only [List.mem_cons, List.not_mem_nil, or_false] at hu; rcases hu with rfl | rfl | rfl <;> rfl) (by unfold maxLen; omega) (by omega) (by omega) ?_; intro v' w1 hown' hgrow _ _)
      have hB1 : Below W.heap.size Z w1 := (Below.refl W.heap.size Z).grown hgrow (by omega) (fun k e => (own_cells hown1 k e).1)
      have hS2 : BkS g j sa sb sc w1 := ⟨(hB1.cell (p := ⟨g, j * 3, none⟩) hgl).trans hS1.1, (hB1.cell (p := ⟨g, j * 3 + 1, none⟩) hgl).trans hS1.2.1, (hB1.cell (p := ⟨g, j * 3 + 2, none⟩) hgl).trans hS1.2.2⟩
      refine hK _ _ hS2 ?_
      clear hK K
      repeat (refine' wpMix2_read (v := _) rfl ?_ ?_; rotate_left 1; (intro w' hw'; obtain ⟨h0, h1, h2⟩ := hw'; go_simp; try with_reducible rfl); try simp only [Act.put, List.setIfInBounds_toArray, List.set_cons_zero, List.set_cons_succ])
      refine wpMix2_nil ?_
      go_wp2
      go_roundw
      case rel => exact ⟨j + 1, hlt, by go_num, by rw [HNX.out]; exact hown', (hbq.trans (bA.mono hqs)).trans hB1⟩
      case measure => simp [intOf]; omega
    · obtain rfl : j = l.length := by omega
      rw [List.take_length] at hu
      go_wp2
      go_ret
      exact ⟨_, rfl, hu, hb⟩
set_option maxRecDepth 100000 in
set_option maxHeartbeats 8000000 in
theorem same10_true {W : World} {a1 a2 : Option Addr} {c1 c2 : Nat} (l : List (Nat × Nat × Nat)) (hl : l.length ≤ 1000000) (h1 : ∀ j s, l[j]? = some s → ∃ g, a1 = some ⟨g, 0, none⟩ ∧ BkS g j s.1 s.2.1 s.2.2 W) (h2 : ∀ j s, l[j]? = some s → ∃ g, a2 = some ⟨g, 0, none⟩ ∧ BkS g j s.1 s.2.1 s.2.2 W) :
    Calls Tryz.prog 43 #[.slice a1 l.length c1, .slice a2 l.length c2] W fun e w' => e = .returned (.bool true) ∧ Below W.heap.size W w' := by
  have H1 := Lib.hid h1
  have H2 := Lib.hid h2
  clear h1 h2
  go_enter Tryz.func43, Tryz.ntmps43
  go_wp2
  go_loopw [5] (fun iv wr => ∃ j : Nat, j ≤ l.length ∧ iv = .int .i64 j ∧ Below W.heap.size W wr) (fun iv _ => l.length - (intOf iv).toNat)
  case atStart => exact ⟨0, Nat.zero_le _, rfl, Below.refl _ _⟩
  case round =>
    obtain ⟨j, hj, rfl, hb⟩ := hrel
    by_cases hlt : j < l.length
    · obtain ⟨sp, hsp⟩ : ∃ s, l[j]? = some s := ⟨_, List.getElem?_eq_getElem hlt⟩
      obtain ⟨g, rfl, x0, x1, x2⟩ := H1.out j sp hsp
      obtain ⟨f, rfl, y0, y1, y2⟩ := H2.out j sp hsp
      have hgl : g < W.heap.size := World.block_lt_of_cell? _ _ x0
      have hfl : f < W.heap.size := World.block_lt_of_cell? _ _ y0
      have x0 := (hb.cell (p := ⟨g, j * 3, none⟩) hgl).trans x0
      have x1 := (hb.cell (p := ⟨g, j * 3 + 1, none⟩) hgl).trans x1
      have x2 := (hb.cell (p := ⟨g, j * 3 + 2, none⟩) hgl).trans x2
      have y0 := (hb.cell (p := ⟨f, j * 3, none⟩) hfl).trans y0
      have y1 := (hb.cell (p := ⟨f, j * 3 + 1, none⟩) hfl).trans y1
      have y2 := (hb.cell (p := ⟨f, j * 3 + 2, none⟩) hfl).trans y2
      have hji : (j : Int) < (l.length : Int) := by omega
      clear hsp
      obtain ⟨sa, sb, sc⟩ := sp
      dsimp only at x0 x1 x2 y0 y1 y2
      go_wp2_with fail
      refine wp_region_still_lit (by kernel_rfl) (by kernel_rfl) ?_
      repeat still_step
      refine wpStill_nil ?_
      go_wp2
      go_roundw
      case rel => exact ⟨j + 1, hlt, by go_num, hb.drew⟩
      case measure => simp [intOf]; omega
    · obtain rfl : j = l.length := by omega
      go_wp2
      go_ret
      exact ⟨rfl, hb⟩
end Go.Proofs.YtekodpcedjpnjaaGreat
namespace Go.Proofs.YtekodpcedjpnjaaGreat
open Go.RowKit Go.Shelf Go.Maps
theorem own_bk {W : World} {n₀ : Nat} {t : TypeId} {a : Option Addr} {c n : Nat} {l : List (Nat × Nat × Nat)} (hown : W.ownsRow n₀ t 3 (.slice a n c) l.length (spV l)) : ∀ j s, l[j]? = some s → ∃ g, a = some ⟨g, 0, none⟩ ∧ BkS g j s.1 s.2.1 s.2.2 W := by
  intro j s hs
  have hj : j < l.length := (List.getElem?_eq_some_iff.1 hs).1
  obtain ⟨g, c', hv0, _, _, _⟩ := own_neS hown (by omega)
  simp only [Value.slice.injEq] at hv0
  obtain ⟨rfl, rfl, rfl⟩ := hv0
  obtain ⟨g0, g1, g2⟩ := spV_get l j s hs
  exact ⟨g, rfl, (own_get hown g0).1, (own_get hown g1).1, (own_get hown g2).1⟩
theorem own_cap {W : World} {n₀ s n c : Nat} {e : TypeId} {a : Option Addr} {xs : List Value} (h : W.ownsRow n₀ e s (.slice a n c) n xs) : n ≤ c ∧ c ≤ maxLen := by
  rcases h.2 with ⟨h1, h2⟩ | ⟨g, cap, cur, h1, h2, _, h3, h4, _⟩
  · simp only [Value.slice.injEq] at h1
    obtain ⟨_, _, rfl⟩ := h1
    exact ⟨by omega, by unfold maxLen; omega⟩
  · simp only [Value.slice.injEq, true_and] at h1
    obtain ⟨_, rfl⟩ := h1
    exact ⟨h3, h4⟩
set_option maxRecDepth 100000 in
set_option maxHeartbeats 32000000 in
theorem diffSpans_any {W : World} {a1 a2 : Option Addr} {n1 n2 c1 c2 : Nat} {A B : List (List GC)} (hA : RowsAt W a1 n1 A) (hB : RowsAt W a2 n2 B) (hn1 : n1 ≤ maxLen) (hn2 : n2 ≤ maxLen) (sA : ∀ M ∈ A, ∀ c ∈ M, c.s.size ≤ 1100000) (sB : ∀ M ∈ B, ∀ c ∈ M, c.s.size ≤ 1100000) (r1 k1 r2 k2 : Int) (s1 s2 : Bool) (stop : Nat) (hst : stop ≤ 255) :
    Calls Tryz.prog 7 #[(.agg #[.slice a1 n1 c1, .int .i64 r1, .int .i64 k1, .bool s1]), (.agg #[.slice a2 n2 c2, .int .i64 r2, .int .i64 k2, .bool s2]), .int .u8 stop] W fun e w' => e = .returned (.bool true) ∧ Below W.heap.size W w' := by
  have RA := Lib.hid hA
  have RB := Lib.hid hB
  have SA := Lib.hid sA
  have SB := Lib.hid sB
  clear hA hB sA sB
  obtain ⟨hb1, hb2, hb3⟩ := spansE_ok A B r1 k1 r2 k2
  go_enter Tryz.func7, Tryz.ntmps7
  go_upto_region 1 with (fail)
  obtain ⟨X, hX⟩ : ∃ X, ((W.alloc (.cells #[.slice a1 n1 c1, .int .i64 r1, .int .i64 k1, .bool s1] 52)).alloc (.cells #[.slice a2 n2 c2, .int .i64 r2, .int .i64 k2, .bool s2] 52)) = X := ⟨_, rfl⟩
  obtain ⟨z1, z2, bX, sX⟩ := frames2 W _ _ _ _ _ _ _ _ X hX
  rw [hX]
  clear hX
  have hz1 := z1.lt
  have hz2 := z2.lt
  obtain ⟨u0, u1, u2, u3⟩ := z1.cells
  obtain ⟨v0, v1, v2, v3⟩ := z2.cells
  have CP := pspans_any (c1 := c1) (c2 := c2) (RA.out.below bX) (RB.out.below bX) hn1 hn2 SA.out SB.out r1 k1 r2 k2 s1 s2
  have CR := fun (Y : World) (hY : Below X.heap.size X Y) => rspans10_any (c1 := c1) (c2 := c2) ((RA.out.below bX).below hY) ((RB.out.below bX).below hY) hn1 hn2 SA.out SB.out r1 k1 r2 k2 s1 s2
  have CT := fun (Y : World) (hY : Below X.heap.size X Y) (most : Nat) (hm : most ≤ 100000) => told10_any (c1 := c1) (c2 := c2) ((RA.out.below bX).below hY) ((RB.out.below bX).below hY) hn1 hn2 SA.out SB.out r1 k1 r2 k2 s1 s2 most hm
  have CPC := fun (Y : World) (hY : Below X.heap.size X Y) => pchanged_any (c1 := c1) (c2 := c2) ((RA.out.below bX).below hY) ((RB.out.below bX).below hY) hn1 hn2 SA.out SB.out r1 k1 r2 k2 s1 s2
  have CRC := fun (Y : World) (hY : Below X.heap.size X Y) => rchanged_any (c1 := c1) (c2 := c2) ((RA.out.below bX).below hY) ((RB.out.below bX).below hY) hn1 hn2 SA.out SB.out r1 k1 r2 k2 s1 s2
  obtain ⟨l, hl⟩ : ∃ l, l = spansE A r1 k1 B r2 k2 := ⟨_, rfl⟩
  obtain ⟨zz, hzz⟩ : ∃ zz, zz = errD (fitF A r1 k1 B r2 k2) := ⟨_, rfl⟩
  simp only [← hl, ← hzz] at CP CR CT CPC CRC hb3
  obtain ⟨sm, hsm⟩ : ∃ s, s = sumS l := ⟨_, rfl⟩
  simp only [← hsm] at CPC CRC
  have hl5 : l.take 100000 = l := List.take_of_length_le (by omega)
  have CT1 := fun (Y : World) (hY : Below X.heap.size X Y) => (by
    have := CT Y hY 100000 (by omega)
    rw [hl5] at this
    exact this : Calls Tryz.prog 42 #[(.agg #[.slice a1 n1 c1, .int .i64 r1, .int .i64 k1, .bool s1]), (.agg #[.slice a2 n2 c2, .int .i64 r2, .int .i64 k2, .bool s2]), .int .i64 100000] Y (Told10 l Y))
  have CT2 := fun (Y : World) (hY : Below X.heap.size X Y) => CT Y hY stop (by omega)
  obtain ⟨l4, hl4⟩ : ∃ m, m = l.take stop := ⟨_, rfl⟩
  simp only [← hl4] at CT2
  have hk4 : l4.length = min stop l.length := by rw [hl4, List.length_take]
  have HL4 : Hid (∀ j s, l4[j]? = some s → l[j]? = some s) := Lib.hid (fun j s h => by
    rw [hl4, List.getElem?_take] at h
    split at h
    · exact h
    · cases h)
  have CP := Lib.hid CP
  have CR := Lib.hid CR
  have CT1 := Lib.hid CT1
  have CT2 := Lib.hid CT2
  have CPC := Lib.hid CPC
  have CRC := Lib.hid CRC
  have hl4b : l4.length ≤ 255 := by omega
  clear hl hzz hsm hl5 hl4 hb1 hb2 CT
  go_upto_region 2 with (go_at_call 40; refine (CP.out).mono ?_; rintro e w1 ⟨p1, rfl, ho1, hb1⟩)
  obtain ⟨av1, cv1, rfl⟩ := own_sliceF ho1
  clear u0 u1 u2 u3 v0 v1 v2 v3
  obtain ⟨u0, u1, u2, u3⟩ := (z1.below hb1).cells
  obtain ⟨v0, v1, v2, v3⟩ := (z2.below hb1).cells
  go_upto_region 3 with (go_at_call 41; refine (CR.out _ hb1).mono ?_; rintro e w2 ⟨p2, rfl, ho2, hb2⟩)
  obtain ⟨av2, cv2, rfl⟩ := own_sliceF ho2
  have x2 := bto hb1 hb2 hb1.size
  clear u0 u1 u2 u3 v0 v1 v2 v3
  obtain ⟨u0, u1, u2, u3⟩ := (z1.below x2).cells
  obtain ⟨v0, v1, v2, v3⟩ := (z2.below x2).cells
  go_upto_region 4 with (go_at_call 42; refine (CT1.out _ x2).mono ?_; rintro e w3 ⟨p3, rfl, ho3, hb3'⟩)
  obtain ⟨av3, cv3, rfl⟩ := own_sliceF ho3
  have x3 := bto x2 hb3' x2.size
  clear u0 u1 u2 u3 v0 v1 v2 v3
  obtain ⟨u0, u1, u2, u3⟩ := (z1.below x3).cells
  obtain ⟨v0, v1, v2, v3⟩ := (z2.below x3).cells
  go_upto_region 5 with (go_at_call 42; refine (CT2.out _ x3).mono ?_; rintro e w5 ⟨p4, rfl, ho4, hb5⟩)
  obtain ⟨av4, cv4, rfl⟩ := own_sliceF ho4
  have x5 := bto x3 hb5 x3.size
  clear u0 u1 u2 u3 v0 v1 v2 v3
  have b12 := bto hb2 (bto hb3' hb5 hb3'.size) hb2.size
  have HV1 := Lib.hid (own_belowF ho1 b12)
  have HV2 := Lib.hid (own_belowF ho2 (bto hb3' hb5 hb3'.size))
  have HV3 := Lib.hid (own_belowF ho3 hb5)
  have HV4 := Lib.hid ho4
  obtain ⟨hcv2a, hcv2b⟩ := own_cap ho2
  unfold maxLen at hcv2b
  go_cut [6] (fun v wx => v = .bool true ∧ Below w5.heap.size w5 wx)
  case first =>
    have Bq0 : Below w5.heap.size w5 w5.drew := (Below.refl _ _).drew
    have hk4a : l4.length ≤ l.length := by omega
    have HM1 : Hid ((min (l.length : Int) (stop : Int)) = (l4.length : Int)) := Lib.hid (by omega)
    have HWS : Hid (IntKind.i64.wrap (stop : Int) = (stop : Int)) := Lib.hid (by rw [IntKind.wrap_i64]; omega)
    clear hk4
    refine wp_region_mix2 [(true, 0), (true, 2), (false, 1), (false, 3), (true, 4), (true, 5), (true, 6), (true, 7), (true, 8), (true, 9), (true, 10), (true, 11), (true, 12), (true, 13), (true, 14), (true, 15), (true, 16), (true, 18), (false, 17), (false, 19), (true, 20), (true, 21), (true, 22), (true, 24), (true, 25), (true, 26), (true, 27), (true, 28), (true, 29), (true, 30), (false, 23), (false, 31), (true, 32), (true, 33), (true, 34), (true, 35), (true, 37), (true, 38), (false, 36), (false, 39), (true, 40), (true, 41), (true, 42), (false, 43), (true, 44), (true, 45)] (fun Y => Below w5.heap.size w5 Y) (by kernel_rfl) (by kernel_rfl) (by rfl) (by kernel_rfl) (by kernel_rfl) (fun _ _ d _ _ h => by cases d <;> exact h) Bq0 ?_
    simp only [mixL, List.getElem?_cons_succ, List.getElem?_cons_zero]
    obtain ⟨q0, hq0⟩ : ∃ q, w5.drew = q := ⟨_, rfl⟩
    rw [hq0] at Bq0 ⊢
    clear hq0
    refine' wpMix2_read (v := _) rfl ?_ ?_
    rotate_left 1
    · intro w' hw'; obtain ⟨g0, g1, g2, g3⟩ := (z1.below (bto x5 hw' x5.size)).cells; obtain ⟨e0, e1, e2, e3⟩ := (z2.below (bto x5 hw' x5.size)).cells; go_simp; try with_reducible rfl
    try simp only [Act.put, List.setIfInBounds_toArray, List.set_cons_zero, List.set_cons_succ]
    refine' wpMix2_read (v := _) rfl ?_ ?_
    rotate_left 1
    · intro w' hw'; obtain ⟨g0, g1, g2, g3⟩ := (z1.below (bto x5 hw' x5.size)).cells; obtain ⟨e0, e1, e2, e3⟩ := (z2.below (bto x5 hw' x5.size)).cells; go_simp; try with_reducible rfl
    try simp only [Act.put, List.setIfInBounds_toArray, List.set_cons_zero, List.set_cons_succ]
    refine wpMix2_act (fun K hK => ?_)
    have CBK := Lib.hid (back_any l (by omega) (own_belowF HV1.out (bto Bq0 (Below.refl _ _) Bq0.size)))
    go_wp2_with fail
    refine (CBK.out).mono ?_
    rintro e q1 ⟨u1, rfl, hu1, hbq1⟩
    have Bq1 : Below w5.heap.size w5 q1 := bto Bq0 hbq1 Bq0.size
    go_wp2
    refine hK _ _ Bq1 ?_
    clear hK K
    obtain ⟨au1, cu1, rfl⟩ := own_sliceF hu1
    refine wpMix2_act (fun K hK => ?_)
    have CSA := Lib.hid (same10_true (W := q1) (c1 := cu1) (c2 := cv2) l (by omega) (own_bk hu1) (fun j s h => own_bk (own_belowF HV2.out Bq1) j s h))
    go_wp2_with fail
    refine (CSA.out).mono ?_
    rintro e q2 ⟨rfl, hbq2⟩
    have Bq2 : Below w5.heap.size w5 q2 := bto Bq1 hbq2 Bq1.size
    go_wp2
    refine hK _ _ Bq2 ?_
    clear hK K
    refine' wpMix2_read (v := _) rfl ?_ ?_
    rotate_left 1
    · intro w' hw'; obtain ⟨g0, g1, g2, g3⟩ := (z1.below (bto x5 hw' x5.size)).cells; obtain ⟨e0, e1, e2, e3⟩ := (z2.below (bto x5 hw' x5.size)).cells; go_simp; try with_reducible rfl
    try simp only [Act.put, List.setIfInBounds_toArray, List.set_cons_zero, List.set_cons_succ]
    refine' wpMix2_read (v := _) rfl ?_ ?_
    rotate_left 1
    · intro w' hw'; obtain ⟨g0, g1, g2, g3⟩ := (z1.below (bto x5 hw' x5.size)).cells; obtain ⟨e0, e1, e2, e3⟩ := (z2.below (bto x5 hw' x5.size)).cells; go_simp; try with_reducible rfl
    try simp only [Act.put, List.setIfInBounds_toArray, List.set_cons_zero, List.set_cons_succ]
    refine' wpMix2_read (v := _) rfl ?_ ?_
    rotate_left 1
    · intro w' hw'; obtain ⟨g0, g1, g2, g3⟩ := (z1.below (bto x5 hw' x5.size)).cells; obtain ⟨e0, e1, e2, e3⟩ := (z2.below (bto x5 hw' x5.size)).cells; go_simp; try with_reducible rfl
    try simp only [Act.put, List.setIfInBounds_toArray, List.set_cons_zero, List.set_cons_succ]
    refine' wpMix2_read (v := _) rfl ?_ ?_
    rotate_left 1
    · intro w' hw'; obtain ⟨g0, g1, g2, g3⟩ := (z1.below (bto x5 hw' x5.size)).cells; obtain ⟨e0, e1, e2, e3⟩ := (z2.below (bto x5 hw' x5.size)).cells; go_simp; try with_reducible rfl
    try simp only [Act.put, List.setIfInBounds_toArray, List.set_cons_zero, List.set_cons_succ]
    refine' wpMix2_read (v := _) rfl ?_ ?_
    rotate_left 1
    · intro w' hw'; obtain ⟨g0, g1, g2, g3⟩ := (z1.below (bto x5 hw' x5.size)).cells; obtain ⟨e0, e1, e2, e3⟩ := (z2.below (bto x5 hw' x5.size)).cells; go_simp; try with_reducible rfl
    try simp only [Act.put, List.setIfInBounds_toArray, List.set_cons_zero, List.set_cons_succ]
    refine' wpMix2_read (v := _) rfl ?_ ?_
    rotate_left 1
    · intro w' hw'; obtain ⟨g0, g1, g2, g3⟩ := (z1.below (bto x5 hw' x5.size)).cells; obtain ⟨e0, e1, e2, e3⟩ := (z2.below (bto x5 hw' x5.size)).cells; go_simp; try with_reducible rfl
    try simp only [Act.put, List.setIfInBounds_toArray, List.set_cons_zero, List.set_cons_succ]
    refine' wpMix2_read (v := _) rfl ?_ ?_
    rotate_left 1
    · intro w' hw'; obtain ⟨g0, g1, g2, g3⟩ := (z1.below (bto x5 hw' x5.size)).cells; obtain ⟨e0, e1, e2, e3⟩ := (z2.below (bto x5 hw' x5.size)).cells; go_simp; try with_reducible rfl
    try simp only [Act.put, List.setIfInBounds_toArray, List.set_cons_zero, List.set_cons_succ]
    refine' wpMix2_read (v := _) rfl ?_ ?_
    rotate_left 1
    · intro w' hw'; obtain ⟨g0, g1, g2, g3⟩ := (z1.below (bto x5 hw' x5.size)).cells; obtain ⟨e0, e1, e2, e3⟩ := (z2.below (bto x5 hw' x5.size)).cells; go_simp; try with_reducible rfl
    try simp only [Act.put, List.setIfInBounds_toArray, List.set_cons_zero, List.set_cons_succ]
    refine' wpMix2_read (v := _) rfl ?_ ?_
    rotate_left 1
    · intro w' hw'; obtain ⟨g0, g1, g2, g3⟩ := (z1.below (bto x5 hw' x5.size)).cells; obtain ⟨e0, e1, e2, e3⟩ := (z2.below (bto x5 hw' x5.size)).cells; go_simp; try with_reducible rfl
    try simp only [Act.put, List.setIfInBounds_toArray, List.set_cons_zero, List.set_cons_succ]
    refine' wpMix2_read (v := _) rfl ?_ ?_
    rotate_left 1
    · intro w' hw'; obtain ⟨g0, g1, g2, g3⟩ := (z1.below (bto x5 hw' x5.size)).cells; obtain ⟨e0, e1, e2, e3⟩ := (z2.below (bto x5 hw' x5.size)).cells; go_simp; try with_reducible rfl
    try simp only [Act.put, List.setIfInBounds_toArray, List.set_cons_zero, List.set_cons_succ]
    refine' wpMix2_read (v := _) rfl ?_ ?_
    rotate_left 1
    · intro w' hw'; obtain ⟨g0, g1, g2, g3⟩ := (z1.below (bto x5 hw' x5.size)).cells; obtain ⟨e0, e1, e2, e3⟩ := (z2.below (bto x5 hw' x5.size)).cells; go_simp; try with_reducible rfl
    try simp only [Act.put, List.setIfInBounds_toArray, List.set_cons_zero, List.set_cons_succ]
    refine' wpMix2_read (v := _) rfl ?_ ?_
    rotate_left 1
    · intro w' hw'; obtain ⟨g0, g1, g2, g3⟩ := (z1.below (bto x5 hw' x5.size)).cells; obtain ⟨e0, e1, e2, e3⟩ := (z2.below (bto x5 hw' x5.size)).cells; go_simp; try with_reducible rfl
    try simp only [Act.put, List.setIfInBounds_toArray, List.set_cons_zero, List.set_cons_succ]
    refine' wpMix2_read (v := _) rfl ?_ ?_
    rotate_left 1
    · intro w' hw'; obtain ⟨g0, g1, g2, g3⟩ := (z1.below (bto x5 hw' x5.size)).cells; obtain ⟨e0, e1, e2, e3⟩ := (z2.below (bto x5 hw' x5.size)).cells; go_simp; try with_reducible rfl
    try simp only [Act.put, List.setIfInBounds_toArray, List.set_cons_zero, List.set_cons_succ]
    refine' wpMix2_read (v := _) rfl ?_ ?_
    rotate_left 1
    · intro w' hw'; obtain ⟨g0, g1, g2, g3⟩ := (z1.below (bto x5 hw' x5.size)).cells; obtain ⟨e0, e1, e2, e3⟩ := (z2.below (bto x5 hw' x5.size)).cells; go_simp; try with_reducible rfl
    try simp only [Act.put, List.setIfInBounds_toArray, List.set_cons_zero, List.set_cons_succ]
    refine wpMix2_act (fun K hK => ?_)
    have CBK := Lib.hid (back_any l (by omega) (own_belowF HV3.out (bto Bq2 (Below.refl _ _) Bq2.size)))
    go_wp2_with fail
    refine (CBK.out).mono ?_
    rintro e q3 ⟨u3, rfl, hu3, hbq3⟩
    have Bq3 : Below w5.heap.size w5 q3 := bto Bq2 hbq3 Bq2.size
    go_wp2
    refine hK _ _ Bq3 ?_
    clear hK K
    obtain ⟨au3, cu3, rfl⟩ := own_sliceF hu3
    refine wpMix2_act (fun K hK => ?_)
    have CSA := Lib.hid (same10_true (W := q3) (c1 := cu3) (c2 := cv2) l (by omega) (own_bk hu3) (fun j s h => own_bk (own_belowF HV2.out Bq3) j s h))
    go_wp2_with fail
    refine (CSA.out).mono ?_
    rintro e q4 ⟨rfl, hbq4⟩
    have Bq4 : Below w5.heap.size w5 q4 := bto Bq3 hbq4 Bq3.size
    go_wp2
    refine hK _ _ Bq4 ?_
    clear hK K
    refine' wpMix2_read (v := _) rfl ?_ ?_
    rotate_left 1
    · intro w' hw'; obtain ⟨g0, g1, g2, g3⟩ := (z1.below (bto x5 hw' x5.size)).cells; obtain ⟨e0, e1, e2, e3⟩ := (z2.below (bto x5 hw' x5.size)).cells; go_simp; try with_reducible rfl
    try simp only [Act.put, List.setIfInBounds_toArray, List.set_cons_zero, List.set_cons_succ]
    refine' wpMix2_read (v := _) rfl ?_ ?_
    rotate_left 1
    · intro w' hw'; obtain ⟨g0, g1, g2, g3⟩ := (z1.below (bto x5 hw' x5.size)).cells; obtain ⟨e0, e1, e2, e3⟩ := (z2.below (bto x5 hw' x5.size)).cells; go_simp; try with_reducible rfl
    try simp only [Act.put, List.setIfInBounds_toArray, List.set_cons_zero, List.set_cons_succ]
    refine' wpMix2_read (v := _) rfl ?_ ?_
    rotate_left 1
    · intro w' hw'; obtain ⟨g0, g1, g2, g3⟩ := (z1.below (bto x5 hw' x5.size)).cells; obtain ⟨e0, e1, e2, e3⟩ := (z2.below (bto x5 hw' x5.size)).cells; go_simp; try with_reducible rfl
    try simp only [Act.put, List.setIfInBounds_toArray, List.set_cons_zero, List.set_cons_succ]
    refine' wpMix2_read (v := _) rfl ?_ ?_
    rotate_left 1
    · intro w' hw'; obtain ⟨g0, g1, g2, g3⟩ := (z1.below (bto x5 hw' x5.size)).cells; obtain ⟨e0, e1, e2, e3⟩ := (z2.below (bto x5 hw' x5.size)).cells; go_simp; try with_reducible rfl
    try simp only [Act.put, List.setIfInBounds_toArray, List.set_cons_zero, List.set_cons_succ]
    refine' wpMix2_read (v := _) rfl ?_ ?_
    rotate_left 1
    · intro w' hw'; obtain ⟨g0, g1, g2, g3⟩ := (z1.below (bto x5 hw' x5.size)).cells; obtain ⟨e0, e1, e2, e3⟩ := (z2.below (bto x5 hw' x5.size)).cells; go_simp; try with_reducible rfl
    try simp only [Act.put, List.setIfInBounds_toArray, List.set_cons_zero, List.set_cons_succ]
    refine' wpMix2_read (v := _) rfl ?_ ?_
    rotate_left 1
    · intro w' hw'; obtain ⟨g0, g1, g2, g3⟩ := (z1.below (bto x5 hw' x5.size)).cells; obtain ⟨e0, e1, e2, e3⟩ := (z2.below (bto x5 hw' x5.size)).cells; go_simp; try with_reducible rfl
    try simp only [Act.put, List.setIfInBounds_toArray, List.set_cons_zero, List.set_cons_succ]
    refine' wpMix2_read (v := _) rfl ?_ ?_
    rotate_left 1
    · intro w' hw'; obtain ⟨g0, g1, g2, g3⟩ := (z1.below (bto x5 hw' x5.size)).cells; obtain ⟨e0, e1, e2, e3⟩ := (z2.below (bto x5 hw' x5.size)).cells; go_simp; try with_reducible rfl
    try simp only [Act.put, List.setIfInBounds_toArray, List.set_cons_zero, List.set_cons_succ]
    refine' wpMix2_read (v := (.int .i64 stop)) rfl ?_ ?_
    · intro w' hw'; go_simp; try rw [HWS.out]
    try simp only [Act.put, List.setIfInBounds_toArray, List.set_cons_zero, List.set_cons_succ]
    refine' wpMix2_read (v := (.int .i64 l4.length)) rfl ?_ ?_
    · intro w' hw'; go_simp; try rw [HM1.out]
    try simp only [Act.put, List.setIfInBounds_toArray, List.set_cons_zero, List.set_cons_succ]
    refine' wpMix2_read (v := (.slice av2 l4.length cv2)) rfl ?_ ?_
    · intro w' hw'; go_simp; try (intro hlt; exfalso; omega)
    try simp only [Act.put, List.setIfInBounds_toArray, List.set_cons_zero, List.set_cons_succ]
    refine wpMix2_act (fun K hK => ?_)
    have CBK := Lib.hid (back_any l4 (by omega) (own_belowF HV4.out (bto Bq4 (Below.refl _ _) Bq4.size)))
    go_wp2_with fail
    refine (CBK.out).mono ?_
    rintro e q5 ⟨u4, rfl, hu4, hbq5⟩
    have Bq5 : Below w5.heap.size w5 q5 := bto Bq4 hbq5 Bq4.size
    go_wp2
    refine hK _ _ Bq5 ?_
    clear hK K
    obtain ⟨au4, cu4, rfl⟩ := own_sliceF hu4
    refine wpMix2_act (fun K hK => ?_)
    have CSA := Lib.hid (same10_true (W := q5) (c1 := cu4) (c2 := cv2) l4 (by omega) (own_bk hu4) (fun j s h => own_bk (own_belowF HV2.out Bq5) j s (HL4.out j s h)))
    go_wp2_with fail
    refine (CSA.out).mono ?_
    rintro e q6 ⟨rfl, hbq6⟩
    have Bq6 : Below w5.heap.size w5 q6 := bto Bq5 hbq6 Bq5.size
    go_wp2
    refine hK _ _ Bq6 ?_
    clear hK K
    refine' wpMix2_read (v := _) rfl ?_ ?_
    rotate_left 1
    · intro w' hw'; obtain ⟨g0, g1, g2, g3⟩ := (z1.below (bto x5 hw' x5.size)).cells; obtain ⟨e0, e1, e2, e3⟩ := (z2.below (bto x5 hw' x5.size)).cells; go_simp; try with_reducible rfl
    try simp only [Act.put, List.setIfInBounds_toArray, List.set_cons_zero, List.set_cons_succ]
    refine' wpMix2_read (v := _) rfl ?_ ?_
    rotate_left 1
    · intro w' hw'; obtain ⟨g0, g1, g2, g3⟩ := (z1.below (bto x5 hw' x5.size)).cells; obtain ⟨e0, e1, e2, e3⟩ := (z2.below (bto x5 hw' x5.size)).cells; go_simp; try with_reducible rfl
    try simp only [Act.put, List.setIfInBounds_toArray, List.set_cons_zero, List.set_cons_succ]
    refine' wpMix2_read (v := _) rfl ?_ ?_
    rotate_left 1
    · intro w' hw'; obtain ⟨g0, g1, g2, g3⟩ := (z1.below (bto x5 hw' x5.size)).cells; obtain ⟨e0, e1, e2, e3⟩ := (z2.below (bto x5 hw' x5.size)).cells; go_simp; try with_reducible rfl
    try simp only [Act.put, List.setIfInBounds_toArray, List.set_cons_zero, List.set_cons_succ]
    refine' wpMix2_read (v := _) rfl ?_ ?_
    rotate_left 1
    · intro w' hw'; obtain ⟨g0, g1, g2, g3⟩ := (z1.below (bto x5 hw' x5.size)).cells; obtain ⟨e0, e1, e2, e3⟩ := (z2.below (bto x5 hw' x5.size)).cells; go_simp; try with_reducible rfl
    try simp only [Act.put, List.setIfInBounds_toArray, List.set_cons_zero, List.set_cons_succ]
    refine' wpMix2_read (v := _) rfl ?_ ?_
    rotate_left 1
    · intro w' hw'; obtain ⟨g0, g1, g2, g3⟩ := (z1.below (bto x5 hw' x5.size)).cells; obtain ⟨e0, e1, e2, e3⟩ := (z2.below (bto x5 hw' x5.size)).cells; go_simp; try with_reducible rfl
    try simp only [Act.put, List.setIfInBounds_toArray, List.set_cons_zero, List.set_cons_succ]
    refine' wpMix2_read (v := _) rfl ?_ ?_
    rotate_left 1
    · intro w' hw'; obtain ⟨g0, g1, g2, g3⟩ := (z1.below (bto x5 hw' x5.size)).cells; obtain ⟨e0, e1, e2, e3⟩ := (z2.below (bto x5 hw' x5.size)).cells; go_simp; try with_reducible rfl
    try simp only [Act.put, List.setIfInBounds_toArray, List.set_cons_zero, List.set_cons_succ]
    refine wpMix2_act (fun K hK => ?_)
    have CC1 := Lib.hid (CPC.out _ (bto x5 Bq6 x5.size))
    go_wp2_with fail
    refine (CC1.out).mono ?_
    rintro e q7 ⟨rfl, hbq7⟩
    have Bq7 : Below w5.heap.size w5 q7 := bto Bq6 hbq7 Bq6.size
    go_wp2
    refine hK _ _ Bq7 ?_
    clear hK K
    refine wpMix2_act (fun K hK => ?_)
    have CC2 := Lib.hid (CRC.out _ (bto x5 Bq7 x5.size))
    go_wp2_with fail
    refine (CC2.out).mono ?_
    rintro e q8 ⟨rfl, hbq8⟩
    have Bq8 : Below w5.heap.size w5 q8 := bto Bq7 hbq8 Bq7.size
    go_wp2
    refine hK _ _ Bq8 ?_
    clear hK K
    refine' wpMix2_read (v := _) rfl ?_ ?_
    rotate_left 1
    · intro w' hw'; obtain ⟨g0, g1, g2, g3⟩ := (z1.below (bto x5 hw' x5.size)).cells; obtain ⟨e0, e1, e2, e3⟩ := (z2.below (bto x5 hw' x5.size)).cells; go_simp; try with_reducible rfl
    try simp only [Act.put, List.setIfInBounds_toArray, List.set_cons_zero, List.set_cons_succ]
    refine' wpMix2_read (v := _) rfl ?_ ?_
    rotate_left 1
    · intro w' hw'; obtain ⟨g0, g1, g2, g3⟩ := (z1.below (bto x5 hw' x5.size)).cells; obtain ⟨e0, e1, e2, e3⟩ := (z2.below (bto x5 hw' x5.size)).cells; go_simp; try with_reducible rfl
    try simp only [Act.put, List.setIfInBounds_toArray, List.set_cons_zero, List.set_cons_succ]
    refine' wpMix2_read (v := _) rfl ?_ ?_
    rotate_left 1
    · intro w' hw'; obtain ⟨g0, g1, g2, g3⟩ := (z1.below (bto x5 hw' x5.size)).cells; obtain ⟨e0, e1, e2, e3⟩ := (z2.below (bto x5 hw' x5.size)).cells; go_simp; try with_reducible rfl
    try simp only [Act.put, List.setIfInBounds_toArray, List.set_cons_zero, List.set_cons_succ]
    refine wpMix2_act (fun K hK => ?_)
    go_wp2_with fail
    refine (awake10_any _).mono ?_
    rintro e q9 ⟨rfl, hbq9⟩
    have Bq9 : Below w5.heap.size w5 q9 := bto Bq8 hbq9 Bq8.size
    go_wp2
    refine hK _ _ Bq9 ?_
    clear hK K
    refine' wpMix2_read (v := _) rfl ?_ ?_
    rotate_left 1
    · intro w' hw'; obtain ⟨g0, g1, g2, g3⟩ := (z1.below (bto x5 hw' x5.size)).cells; obtain ⟨e0, e1, e2, e3⟩ := (z2.below (bto x5 hw' x5.size)).cells; go_simp; try with_reducible rfl
    try simp only [Act.put, List.setIfInBounds_toArray, List.set_cons_zero, List.set_cons_succ]
    refine' wpMix2_read (v := _) rfl ?_ ?_
    rotate_left 1
    · intro w' hw'; obtain ⟨g0, g1, g2, g3⟩ := (z1.below (bto x5 hw' x5.size)).cells; obtain ⟨e0, e1, e2, e3⟩ := (z2.below (bto x5 hw' x5.size)).cells; go_simp; try with_reducible rfl
    try simp only [Act.put, List.setIfInBounds_toArray, List.set_cons_zero, List.set_cons_succ]
    refine wpMix2_nil ?_
    go_wp2
    go_meet
    exact ⟨rfl, Bq9⟩
  case rest =>
    obtain ⟨rfl, hcb⟩ := hcut
    go_wp2
    go_ret
    exact ⟨rfl, bto bX (bto x5 hcb x5.size) bX.size⟩
end Go.Proofs.YtekodpcedjpnjaaGreat
namespace Go.Proofs.YtekodpcedjpnjaaGreat
open Go.RowKit Go.Shelf Go.Maps
theorem diffSpans_law (a : Option Addr) (n cap : Nat) (r c : Int) (s : Bool) (R : List (List GC)) (a2 : Option Addr) (n2 cap2 : Nat) (r2 c2 : Int) (s2 : Bool) (R2 : List (List GC)) (stop : Int) (W : World)
    (h : RowsAt W a n R) (hn : n ≤ maxLen) (_ : n ≤ cap) (_ : cap ≤ maxLen) (hs : ∀ M ∈ R, ∀ c ∈ M, c.s.size ≤ 1100000)
    (h2 : RowsAt W a2 n2 R2) (hn2 : n2 ≤ maxLen) (_ : n2 ≤ cap2) (_ : cap2 ≤ maxLen) (hs2 : ∀ M ∈ R2, ∀ c ∈ M, c.s.size ≤ 1100000) (w : (Lit.int .u8 stop).wf = true) :
    Calls Tryz.prog 7 #[.agg #[.slice a n cap, .int .i64 r, .int .i64 c, .bool s], .agg #[.slice a2 n2 cap2, .int .i64 r2, .int .i64 c2, .bool s2], .int .u8 stop] W fun e w' => e = .returned (.bool true) ∧ Below W.heap.size W w' := by
  have h0 : 0 ≤ stop ∧ stop ≤ 255 := by simpa [Lit.wf, IntKind.min, IntKind.max, IntKind.signed, IntKind.bits] using w
  obtain ⟨k, rfl⟩ := Int.eq_ofNat_of_zero_le h0.1
  exact diffSpans_any h h2 hn hn2 hs hs2 r c r2 c2 s s2 k (by omega)
end Go.Proofs.YtekodpcedjpnjaaGreat
