/- The methods of a builder that nobody made. No condition. The frame of a builder: its rows copied. No condition. The frame of a builder: the walk. No condition. A row's text (reference). No condition. Plain: clusters put behind each other over blanks stand in their cells. No condition. A row that is whole: what Check says of it. No condition. Check of a frame that may be. No condition. The law's example. No condition. -/
import Derived.Test.YtekodpcedjpnjaaFrame2
import Derived.Test.YtekodpcedjpnjaaGrid16
import Derived.Test.YtekodpcedjpnjaaFRows
namespace Go.Proofs.Ytekodpcedjpnjaa
set_option linter.unusedVariables false
set_option linter.unusedSimpArgs false
open Go.RowKit Go.Maps
theorem text_only (w : World) (v : Value) (rr cc : Int) (y : Sy) (X : World) (hX : (((w.alloc (.cells #[v] 120)).alloc (.cells #[.int .i64 rr] 3)).alloc (.cells #[.int .i64 cc] 3)).alloc (.cells #[.bool y.b, .bool y.u, .bool y.i, .int .i64 y.f, .int .i64 y.g] 34) = X) :
    Only [] w X ∧ X.cell? ⟨w.heap.size, 0, none⟩ = some v := by
  have o : Only [] w X := by rw [← hX]; exact ((((Only.refl _ _).alloc _).alloc _).alloc _).alloc _
  refine ⟨o, ?_⟩
  rw [← hX]
  exact ((((Boxed.new w 120 v).alloc _).alloc _).alloc _).cell
set_option maxRecDepth 100000 in
set_option maxHeartbeats 2000000 in
theorem text_no {W : World} {v : Value} (h : NoB W v) (rr cc : Int) (l : ByteArray) (y : Sy) : Calls Try.prog 76 #[v, .int .i64 rr, .int .i64 cc, .string l, .agg #[.bool y.b, .bool y.u, .bool y.i, .int .i64 y.f, .int .i64 y.g]] W fun e w' =>
    e = .returned (.tuple #[.int .i64 0, .int .i64 4]) ∧ Below W.heap.size W w' := by
  have CM := Lib.hid (fun W' (o : Only [] W W') => bmade_no (h.below o.nil))
  have TX := Lib.hid (fun (X : World) hX => text_only W v rr cc y X hX)
  have hv : ∃ a, v = .pointer a := by rcases h with rfl | ⟨z, rfl, _⟩ <;> exact ⟨_, rfl⟩
  obtain ⟨a, rfl⟩ := hv
  clear h
  go_enter Try.func76, Try.ntmps76
  go_wp2_with (go_at_call 103; refine (CM.out _ (TX.out _ rfl).1).mono ?_; rintro e X ⟨rfl, hX⟩; obtain ⟨o1, d5⟩ := TX.out _ hX; clear hX)
  go_ret2
  exact ⟨rfl, o1.nil⟩
end Go.Proofs.Ytekodpcedjpnjaa
namespace Go.Proofs.Ytekodpcedjpnjaa
set_option linter.unusedVariables false
set_option linter.unusedSimpArgs false
open Go.RowKit Go.Shelf Go.Maps
attribute [local go_sem] Oper.semAt_some
end Go.Proofs.Ytekodpcedjpnjaa
namespace Go.Proofs.Ytekodpcedjpnjaa
set_option linter.unusedVariables false
set_option linter.unusedSimpArgs false
open Go.RowKit Go.Shelf Go.Maps
attribute [local go_sem] Oper.semAt_some
/-- The rows of a grid. -/
def rowsG (L : List GC) (w k : Nat) : List (List GC) := (List.range k).map (lineL L w)
theorem rowsG_succ (L : List GC) (w k : Nat) : rowsG L w (k + 1) = rowsG L w k ++ [lineL L w k] := by unfold rowsG; rw [List.range_succ, List.map_append]; rfl
theorem rowsG_len (L : List GC) (w k : Nat) : (rowsG L w k).length = k := by simp [rowsG]
def FrI (w : World) (F n₀ : Nat) (b p q gw gh : Nat) (L : List GC) (r c : Nat) (s : Bool) (pre : List (Nat × Nat)) (W : World) : Prop :=
  (∃ v vs, FBox W F v r c s ∧ RowsV n₀ W v vs (rowsG L gw pre.length)) ∧ FBox W w.heap.size (.slice none 0 0) 0 0 false ∧ BAt W b p q gw gh L r c s ∧ Below w.heap.size w W
theorem FrI.own {w : World} {F n₀ b p q gw gh : Nat} {L : List GC} {r c : Nat} {s : Bool} {B : Nat} (hB : w.heap.size ≤ B) : OwnFrom B (FrI w F n₀ b p q gw gh L r c s) := fun _ _ _ _ h hg hr => by
  obtain ⟨⟨v, vs, h1, h2⟩, h3, h4, h5⟩ := h
  exact ⟨⟨v, vs, own_heap h1 rfl hg hr, h2.far hg (fun r e => (hr r e).2)⟩, own_heap h3 rfl hg hr, h4.own hg hr, h5.grown hg h5.size (fun k e => Nat.le_trans hB (hr k e).1)⟩
/-- What a call of Frame gives. -/
def FrPost (R : List (List GC)) (r c : Nat) (s : Bool) (w : World) (e : Ending) (w' : World) : Prop :=
  ∃ a cap, e = .returned (.agg #[.slice a R.length cap, .int .i64 r, .int .i64 c, .bool s]) ∧ RowsAt w' a R.length R ∧ (R.length ≤ cap ∧ cap ≤ maxLen) ∧ Below w.heap.size w w'
theorem wpIn_normal {F : Fence} {n : Nat} {P : Program} {c : Code} {K : Act → World → Prop} {Q : Exit → Act → World → Prop} {a : Act} {w : World} (h : c.wpIn F n P (Exit.then K (fun _ _ _ => False)) a w) : c.wpIn F n P (Exit.then K Q) a w :=
  Code.wpIn_mono (fun e _ _ h => by cases e <;> first | exact h | exact False.elim h) h
set_option maxRecDepth 100000 in
set_option maxHeartbeats 16000000 in
theorem frame_any {W : World} {b p q w h : Nat} {L : List GC} {r c : Nat} {s : Bool} (a : BAt W b p q w h L r c s) (hh : h ≤ 60) (hr : r ≤ 1000) (hc : c ≤ 1000) :
    Calls Try.prog 77 #[.pointer (some ⟨b, 0, none⟩)] W (FrPost (rowsG L w h) r c s W) := by
  have hlt := a.lt
  have hw1 := a.g.w1
  have hw2 := a.g.w2
  have hgl := a.g.len
  obtain ⟨i0, hi, hz0, hz1, hz2⟩ := info_parts infoCell
  obtain ⟨j0, hj, hy0, hy1, hy2⟩ := info_parts infoCells
  have CM := Lib.hid (fun W b p q w h L r c s (a : BAt W b p q w h L r c s) => bmade_any a)
  have CR := Lib.hid (fun W => rowsK_any p W)
  have HSEQ := Lib.hid (fun (w0 : World) (g : GridAt w0 p q w h L) Bx hbx hcx => rowsK_seq g Bx hbx hcx)
  refine (callsIn_wide (n := 9)).1 ?_
  have h1 : 1 ≤ 9 := by omega
  refine callsIn_of_wp_marks Try.func77 rfl trivial ?_ rfl
  simp only [Try.ntmps77, List.size_toArray, List.length_cons, List.length_nil, Nat.reduceAdd, Nat.reduceSub, Array.replicate_succ, Array.replicate_zero, List.push_toArray, List.append_toArray, List.nil_append, List.cons_append]
  gi_wp2_with (first
    | (refine ⟨trivial, ?_⟩; gi_at_call 103; refine (callsIn_wide.2 (CM.out _ _ _ _ _ _ _ _ _ _ (a.below ((Below.refl _ _).alloc (Nat.le_refl _) _)))).mono ?_; rintro e X0 ⟨rfl, hX0⟩))
  have z0 : FBox X0 W.heap.size (.slice none 0 0) 0 0 false := by rw [← hX0]; exact World.alloc_heap_new W _
  have hb0 : Below W.heap.size W X0 := by rw [← hX0]; exact (Below.refl _ _).alloc (Nat.le_refl _) _
  have a0 := a.below hb0
  have hs0 : X0.heap.size = W.heap.size + 1 := by rw [← hX0]; simp
  clear hX0
  obtain ⟨d0, d1, d2, d3⟩ := a0.cells
  have hSd : X0.drew.cell? ⟨b, 1, none⟩ = some (.int .i64 r) ∧ X0.drew.cell? ⟨b, 2, none⟩ = some (.int .i64 c) ∧ X0.drew.cell? ⟨b, 3, none⟩ = some (.bool s) := ⟨d1, d2, d3⟩
  have zd := z0.below ((Below.refl _ _).drew)
  have ad := a0.below ((Below.refl _ _).drew)
  have bd : Below W.heap.size W X0.drew := hb0.drew
  have sd : X0.drew.heap.size = W.heap.size + 1 := hs0
  refine wpIn_normal ?_
  refine wpIn_region_tree (l₀ := none) (fun _ w1 w2 => (w1.cell? ⟨b, 1, none⟩ = some (.int .i64 r) ∧ w1.cell? ⟨b, 2, none⟩ = some (.int .i64 c) ∧ w1.cell? ⟨b, 3, none⟩ = some (.bool s)) → (w2.cell? ⟨b, 1, none⟩ = some (.int .i64 r) ∧ w2.cell? ⟨b, 2, none⟩ = some (.int .i64 c) ∧ w2.cell? ⟨b, 3, none⟩ = some (.bool s))) (by kernel_rfl) (by kernel_rfl) (fun _ _ h => h) ?_
  simp only [List.size_toArray, List.length_cons, List.length_nil, Nat.reduceAdd]
  refine' wpAnyY_read 0 (fun w' => w'.cell? ⟨b, 1, none⟩ = some (.int .i64 r) ∧ w'.cell? ⟨b, 2, none⟩ = some (.int .i64 c) ∧ w'.cell? ⟨b, 3, none⟩ = some (.bool s)) [] (v := _) (by kernel_rfl) (fun _ _ d _ _ h => by cases d <;> exact h) (by kernel_rfl) rfl (fun _ _ _ _ h hs => h hs) (fun _ h => h) hSd rfl ?_ ?_
  rotate_left 1
  · rintro w' ⟨h1', h2', h3'⟩; go_simp; try with_reducible rfl
  try simp only [Act.put, List.setIfInBounds_toArray, List.set_cons_zero, List.set_cons_succ]
  refine' wpAnyY_read 1 (fun w' => w'.cell? ⟨b, 1, none⟩ = some (.int .i64 r) ∧ w'.cell? ⟨b, 2, none⟩ = some (.int .i64 c) ∧ w'.cell? ⟨b, 3, none⟩ = some (.bool s)) [] (v := _) (by kernel_rfl) (fun _ _ d _ _ h => by cases d <;> exact h) (by kernel_rfl) rfl (fun _ _ _ _ h hs => h hs) (fun _ h => h) hSd rfl ?_ ?_
  rotate_left 1
  · rintro w' ⟨h1', h2', h3'⟩; go_simp; try with_reducible rfl
  try simp only [Act.put, List.setIfInBounds_toArray, List.set_cons_zero, List.set_cons_succ]
  refine' wpAnyY_read 2 (fun w' => w'.cell? ⟨b, 1, none⟩ = some (.int .i64 r) ∧ w'.cell? ⟨b, 2, none⟩ = some (.int .i64 c) ∧ w'.cell? ⟨b, 3, none⟩ = some (.bool s)) [] (v := _) (by kernel_rfl) (fun _ _ d _ _ h => by cases d <;> exact h) (by kernel_rfl) rfl (fun _ _ _ _ h hs => h hs) (fun _ h => h) hSd rfl ?_ ?_
  rotate_left 1
  · rintro w' ⟨h1', h2', h3'⟩; go_simp; try with_reducible rfl
  try simp only [Act.put, List.setIfInBounds_toArray, List.set_cons_zero, List.set_cons_succ]
  refine' wpAnyY_read 3 (fun w' => w'.cell? ⟨b, 1, none⟩ = some (.int .i64 r) ∧ w'.cell? ⟨b, 2, none⟩ = some (.int .i64 c) ∧ w'.cell? ⟨b, 3, none⟩ = some (.bool s)) [] (v := _) (by kernel_rfl) (fun _ _ d _ _ h => by cases d <;> exact h) (by kernel_rfl) rfl (fun _ _ _ _ h hs => h hs) (fun _ h => h) hSd rfl ?_ ?_
  rotate_left 1
  · rintro w' ⟨h1', h2', h3'⟩; go_simp; try with_reducible rfl
  try simp only [Act.put, List.setIfInBounds_toArray, List.set_cons_zero, List.set_cons_succ]
  refine' wpAnyY_read 4 (fun w' => w'.cell? ⟨b, 1, none⟩ = some (.int .i64 r) ∧ w'.cell? ⟨b, 2, none⟩ = some (.int .i64 c) ∧ w'.cell? ⟨b, 3, none⟩ = some (.bool s)) [] (v := _) (by kernel_rfl) (fun _ _ d _ _ h => by cases d <;> exact h) (by kernel_rfl) rfl (fun _ _ _ _ h hs => h hs) (fun _ h => h) hSd rfl ?_ ?_
  rotate_left 1
  · rintro w' ⟨h1', h2', h3'⟩; go_simp; try with_reducible rfl
  try simp only [Act.put, List.setIfInBounds_toArray, List.set_cons_zero, List.set_cons_succ]
  refine' wpAnyY_read 5 (fun w' => w'.cell? ⟨b, 1, none⟩ = some (.int .i64 r) ∧ w'.cell? ⟨b, 2, none⟩ = some (.int .i64 c) ∧ w'.cell? ⟨b, 3, none⟩ = some (.bool s)) [] (v := _) (by kernel_rfl) (fun _ _ d _ _ h => by cases d <;> exact h) (by kernel_rfl) rfl (fun _ _ _ _ h hs => h hs) (fun _ h => h) hSd rfl ?_ ?_
  rotate_left 1
  · rintro w' ⟨h1', h2', h3'⟩; go_simp; try with_reducible rfl
  try simp only [Act.put, List.setIfInBounds_toArray, List.set_cons_zero, List.set_cons_succ]
  refine' wpAnyY_read 6 (fun w' => w'.cell? ⟨b, 1, none⟩ = some (.int .i64 r) ∧ w'.cell? ⟨b, 2, none⟩ = some (.int .i64 c) ∧ w'.cell? ⟨b, 3, none⟩ = some (.bool s)) [] (v := _) (by kernel_rfl) (fun _ _ d _ _ h => by cases d <;> exact h) (by kernel_rfl) rfl (fun _ _ _ _ h hs => h hs) (fun _ h => h) hSd rfl ?_ ?_
  rotate_left 1
  · rintro w' ⟨h1', h2', h3'⟩; go_simp; try with_reducible rfl
  try simp only [Act.put, List.setIfInBounds_toArray, List.set_cons_zero, List.set_cons_succ]
  refine' wpAnyY_read 7 (fun w' => w'.cell? ⟨b, 1, none⟩ = some (.int .i64 r) ∧ w'.cell? ⟨b, 2, none⟩ = some (.int .i64 c) ∧ w'.cell? ⟨b, 3, none⟩ = some (.bool s)) [] (v := _) (by kernel_rfl) (fun _ _ d _ _ h => by cases d <;> exact h) (by kernel_rfl) rfl (fun _ _ _ _ h hs => h hs) (fun _ h => h) hSd rfl ?_ ?_
  rotate_left 1
  · rintro w' ⟨h1', h2', h3'⟩; go_simp; try with_reducible rfl
  try simp only [Act.put, List.setIfInBounds_toArray, List.set_cons_zero, List.set_cons_succ]
  refine' wpAnyY_read 8 (fun w' => w'.cell? ⟨b, 1, none⟩ = some (.int .i64 r) ∧ w'.cell? ⟨b, 2, none⟩ = some (.int .i64 c) ∧ w'.cell? ⟨b, 3, none⟩ = some (.bool s)) [] (v := _) (by kernel_rfl) (fun _ _ d _ _ h => by cases d <;> exact h) (by kernel_rfl) rfl (fun _ _ _ _ h hs => h hs) (fun _ h => h) hSd rfl ?_ ?_
  rotate_left 1
  · rintro w' ⟨h1', h2', h3'⟩; go_simp; try with_reducible rfl
  try simp only [Act.put, List.setIfInBounds_toArray, List.set_cons_zero, List.set_cons_succ]
  refine' wpAnyY_read 9 (fun w' => w'.cell? ⟨b, 1, none⟩ = some (.int .i64 r) ∧ w'.cell? ⟨b, 2, none⟩ = some (.int .i64 c) ∧ w'.cell? ⟨b, 3, none⟩ = some (.bool s)) [] (v := _) (by kernel_rfl) (fun _ _ d _ _ h => by cases d <;> exact h) (by kernel_rfl) rfl (fun _ _ _ _ h hs => h hs) (fun _ h => h) hSd rfl ?_ ?_
  rotate_left 1
  · rintro w' ⟨h1', h2', h3'⟩; go_simp; try with_reducible rfl
  try simp only [Act.put, List.setIfInBounds_toArray, List.set_cons_zero, List.set_cons_succ]
  refine' wpAnyY_read 10 (fun w' => w'.cell? ⟨b, 1, none⟩ = some (.int .i64 r) ∧ w'.cell? ⟨b, 2, none⟩ = some (.int .i64 c) ∧ w'.cell? ⟨b, 3, none⟩ = some (.bool s)) [] (v := _) (by kernel_rfl) (fun _ _ d _ _ h => by cases d <;> exact h) (by kernel_rfl) rfl (fun _ _ _ _ h hs => h hs) (fun _ h => h) hSd rfl ?_ ?_
  rotate_left 1
  · rintro w' ⟨h1', h2', h3'⟩; go_simp; try with_reducible rfl
  try simp only [Act.put, List.setIfInBounds_toArray, List.set_cons_zero, List.set_cons_succ]
  refine' wpAnyY_read 11 (fun w' => w'.cell? ⟨b, 1, none⟩ = some (.int .i64 r) ∧ w'.cell? ⟨b, 2, none⟩ = some (.int .i64 c) ∧ w'.cell? ⟨b, 3, none⟩ = some (.bool s)) [] (v := _) (by kernel_rfl) (fun _ _ d _ _ h => by cases d <;> exact h) (by kernel_rfl) rfl (fun _ _ _ _ h hs => h hs) (fun _ h => h) hSd rfl ?_ ?_
  rotate_left 1
  · rintro w' ⟨h1', h2', h3'⟩; go_simp; try with_reducible rfl
  try simp only [Act.put, List.setIfInBounds_toArray, List.set_cons_zero, List.set_cons_succ]
  refine' wpAnyY_read 12 (fun w' => w'.cell? ⟨b, 1, none⟩ = some (.int .i64 r) ∧ w'.cell? ⟨b, 2, none⟩ = some (.int .i64 c) ∧ w'.cell? ⟨b, 3, none⟩ = some (.bool s)) [] (v := _) (by kernel_rfl) (fun _ _ d _ _ h => by cases d <;> exact h) (by kernel_rfl) rfl (fun _ _ _ _ h hs => h hs) (fun _ h => h) hSd rfl ?_ ?_
  rotate_left 1
  · rintro w' ⟨h1', h2', h3'⟩; go_simp; try with_reducible rfl
  try simp only [Act.put, List.setIfInBounds_toArray, List.set_cons_zero, List.set_cons_succ]
  refine' wpAnyY_read 13 (fun w' => w'.cell? ⟨b, 1, none⟩ = some (.int .i64 r) ∧ w'.cell? ⟨b, 2, none⟩ = some (.int .i64 c) ∧ w'.cell? ⟨b, 3, none⟩ = some (.bool s)) [] (v := _) (by kernel_rfl) (fun _ _ d _ _ h => by cases d <;> exact h) (by kernel_rfl) rfl (fun _ _ _ _ h hs => h hs) (fun _ h => h) hSd rfl ?_ ?_
  rotate_left 1
  · rintro w' ⟨h1', h2', h3'⟩; go_simp; try with_reducible rfl
  try simp only [Act.put, List.setIfInBounds_toArray, List.set_cons_zero, List.set_cons_succ]
  refine' wpAnyY_read 14 (fun w' => w'.cell? ⟨b, 1, none⟩ = some (.int .i64 r) ∧ w'.cell? ⟨b, 2, none⟩ = some (.int .i64 c) ∧ w'.cell? ⟨b, 3, none⟩ = some (.bool s)) [] (v := _) (by kernel_rfl) (fun _ _ d _ _ h => by cases d <;> exact h) (by kernel_rfl) rfl (fun _ _ _ _ h hs => h hs) (fun _ h => h) hSd rfl ?_ ?_
  rotate_left 1
  · rintro w' ⟨h1', h2', h3'⟩; go_simp; try with_reducible rfl
  try simp only [Act.put, List.setIfInBounds_toArray, List.set_cons_zero, List.set_cons_succ]
  refine' wpAnyY_read 15 (fun w' => w'.cell? ⟨b, 1, none⟩ = some (.int .i64 r) ∧ w'.cell? ⟨b, 2, none⟩ = some (.int .i64 c) ∧ w'.cell? ⟨b, 3, none⟩ = some (.bool s)) [] (v := _) (by kernel_rfl) (fun _ _ d _ _ h => by cases d <;> exact h) (by kernel_rfl) rfl (fun _ _ _ _ h hs => h hs) (fun _ h => h) hSd rfl ?_ ?_
  rotate_left 1
  · rintro w' ⟨h1', h2', h3'⟩; go_simp; try with_reducible rfl
  try simp only [Act.put, List.setIfInBounds_toArray, List.set_cons_zero, List.set_cons_succ]
  refine wpAnyY_one (i := 16) (by kernel_rfl) rfl (fun K hK => ?_)
  go_wp2
  obtain ⟨X2, hX2⟩ : ∃ X, (X0.alloc (.cells #[.slice none 0 0, .int .i64 0, .int .i64 0, .bool false] 51)).drew = X := ⟨_, rfl⟩
  have z1 : FBox X2 (W.heap.size + 1) (.slice none 0 0) 0 0 false := by rw [← hX2, ← hs0]; exact World.alloc_heap_new X0 _
  have hb1 : Below X0.heap.size X0 X2 := by rw [← hX2]; exact ((Below.refl _ _).alloc (Nat.le_refl _) _).drew
  have a1 := a0.below hb1
  have z2 := z0.below hb1
  have b1 := bto hb0 hb1 hb0.size
  have s1 : X2.heap.size = W.heap.size + 1 + 1 := by rw [← hX2]; show (X0.alloc _).heap.size = _; simp [hs0]
  rw [hX2]
  obtain ⟨_, e1, e2, e3⟩ := a1.cells
  refine hK _ _ (fun _ => ⟨e1, e2, e3⟩) ?_
  clear hK K hX2 hSd zd ad bd sd e1 e2 e3 hb1 hb0 a0 z0 d0 d1 d2 d3
  refine wpAnyY_one (i := 17) (by kernel_rfl) rfl (fun K hK => ?_)
  obtain ⟨c0, c1, c2, c3, c4⟩ := z1.cells
  go_wp2
  obtain ⟨X3, hX3⟩ : ∃ X, ((((X2.setCell ⟨W.heap.size + 1, 0, none⟩ (.slice none 0 0)).setCell ⟨W.heap.size + 1, 1, none⟩ (.int .i64 r)).setCell ⟨W.heap.size + 1, 2, none⟩ (.int .i64 c)).setCell ⟨W.heap.size + 1, 3, none⟩ (.bool s)) = X := ⟨_, rfl⟩
  obtain ⟨z3, o3⟩ := FBox.fill z1 (.slice none 0 0) r c s X3 hX3
  have a3 := a1.only o3 (by simp; omega) (by simp; omega) (by simp; omega)
  have z4 : FBox X3 W.heap.size (.slice none 0 0) 0 0 false := o3.heap z2 (by simp)
  have b3 : Below W.heap.size W X3 := b1.trans (o3.below (by simp) (by omega))
  have s3 : X3.heap.size = W.heap.size + 1 + 1 := by rw [← hX3]; simp [World.setCell, s1]
  rw [hX3]
  obtain ⟨d0, e1, e2, e3⟩ := a3.cells
  refine hK _ _ (fun _ => ⟨e1, e2, e3⟩) (wpAnyY_end (by kernel_rfl) ?_)
  clear hK K hX3 o3 a1 z2 b1 s1 c0 c1 c2 c3 c4 z1 e1 e2 e3
  try simp only [Exit.then]
  gi_wp2_with (refine ⟨trivial, ?_⟩; gi_at_call 54; refine (callsIn_wide.2 (CR.out _)).mono ?_; rintro e X4 ⟨rfl, hX4⟩)
  have hbx := Boxed.new X3 23 (.pointer (some ⟨p, 0, none⟩))
  rw [hX4] at hbx
  have hb4 : Below X3.heap.size X3 X4 := by rw [← hX4]; exact (Below.refl _ _).alloc (Nat.le_refl _) _
  have a4 := a3.below hb4
  have z5 := z3.below hb4
  have z6 := z4.below hb4
  have b4 := bto b3 hb4 b3.size
  have s4 : X4.heap.size = W.heap.size + 1 + 1 + 1 := by rw [← hX4]; simp [s3]
  rw [s3] at hbx
  clear hX4 hb4 a3 z3 z4 b3 d0
  refine wpIn_rangeFunc_X rfl h1 (gf := 88) (lb := #[.pointer (some ⟨W.heap.size + 1 + 1, 0, none⟩)]) rfl trivial (enters_of Try.func88 (by kernel_rfl) rfl)
    (HSEQ.out X4 a4.g (W.heap.size + 1 + 1) hbx.lt hbx.cell _ (by omega)) KP.trans (KP.put a4.lt.2.1 a4.lt.2.2 hbx.lt) (Below.refl _ _) (fun _ => rfl)
    (FrI W (W.heap.size + 1) X4.heap.size b p q w h L r c s)
    (fun cd pre Z => False)
    (FrI.own (by omega))
    (fun cd s' A B row hs hg hr => hs.elim)
    (fun x s' A B row hs hg hr => ⟨hs.1, hs.2.1, own_heap hs.2.2 rfl hg hr⟩)
    ⟨⟨_, [], z5, ⟨World.ownsRow_nil _ _ _ _, fun i M hi => by simp [rowsG] at hi⟩⟩, z6, a4, b4⟩ ?_ ?_ ?_ ?_ ?_
  rotate_left 1
  · intro Lq x Z K hK
    gi_wp2
    exact hK
  · rintro Lq pre x Z hL1 hL2 ⟨⟨v, vs, hf, hv⟩, hz, ha, hb⟩ ⟨hx1, hx2, hx3⟩ hlen
    obtain ⟨k, g⟩ := x
    dsimp only at hx1 hx2 hx3 ⊢
    subst hx1
    have hkw : (lineL L w pre.length).length = w := lineL_length hgl hlen
    have HRS := Lib.hid (rowsG_succ L w pre.length)
    have hRl := rowsG_len L w pre.length
    have hZs : X4.heap.size ≤ Z.heap.size := by omega
    have hgL := hx3.lt
    obtain ⟨k, hk⟩ : ∃ k, k = pre.length := ⟨_, rfl⟩
    have HK := Lib.hid hk
    rw [← hk] at hkw HRS hRl hv hx3 hlen ⊢
    obtain ⟨M, hM⟩ : ∃ M, M = lineL L w k := ⟨_, rfl⟩
    obtain ⟨R, hR⟩ : ∃ R, R = rowsG L w k := ⟨_, rfl⟩
    rw [← hM] at hkw HRS hx3
    rw [← hR] at HRS hRl hv
    clear hk hM hR
    have ho := hv.o
    rw [hRl] at ho
    obtain ⟨av, cv, rfl⟩ := own_slice ho
    clear ho
    gi_wp2_with fail
    obtain ⟨Y1, hY1⟩ : ∃ Y, Z.drew = Y := ⟨_, rfl⟩
    have b1 : Below Z.heap.size Z Y1 := by rw [← hY1]; exact (Below.refl _ _).drew
    have f1 := hf.below b1
    have v1 := hv.below b1
    have g1 : GBlk Y1 g M := (b1.block g hgL).trans hx3
    have S1 := Lib.hid (show Y1.heap.size = Z.heap.size by rw [← hY1]; rfl)
    have hSd := f1.cells.1
    refine wpIn_region_tree (l₀ := some Lq) (fun j y y' => j ∉ [8] → y.cell? ⟨W.heap.size + 1, 0, none⟩ = some (.slice av k cv) → y'.cell? ⟨W.heap.size + 1, 0, none⟩ = some (.slice av k cv)) (by kernel_rfl) (by kernel_rfl) (fun _ _ h => h) ?_
    rw [hY1]
    simp only [List.size_toArray, List.length_cons, List.length_nil, Nat.reduceAdd]
    refine' wpAnyY_read 0 (fun _ => True) [] (v := _) (by kernel_rfl) (fun _ _ d _ _ h => by cases d <;> exact h) (by kernel_rfl) rfl (fun _ _ _ _ _ _ => trivial) (fun _ _ h => h) trivial rfl ?_ ?_
    rotate_left 1
    · intro w' hw'; go_simp; try with_reducible rfl
    try simp only [Act.put, List.setIfInBounds_toArray, List.set_cons_zero, List.set_cons_succ]
    refine' wpAnyY_read 1 (fun w' => w'.cell? ⟨W.heap.size + 1, 0, none⟩ = some (.slice av k cv)) [8] (v := _) (by kernel_rfl) (fun _ _ d _ _ h => by cases d <;> exact h) (by kernel_rfl) rfl (fun j y y' hj h hs => h hj hs) (fun _ _ h => h) hSd rfl ?_ ?_
    rotate_left 1
    · intro w' hw'; go_simp; try with_reducible rfl
    try simp only [Act.put, List.setIfInBounds_toArray, List.set_cons_zero, List.set_cons_succ]
    refine' wpAnyY_read 3 (fun _ => True) [] (v := _) (by kernel_rfl) (fun _ _ d _ _ h => by cases d <;> exact h) (by kernel_rfl) rfl (fun _ _ _ _ _ _ => trivial) (fun _ _ h => h) trivial rfl ?_ ?_
    rotate_left 1
    · intro w' hw'; go_simp; try with_reducible rfl
    try simp only [Act.put, List.setIfInBounds_toArray, List.set_cons_zero, List.set_cons_succ]
    refine wpAnyY_one (i := 2) (by kernel_rfl) rfl (fun K hK => ?_)
    go_wp2
    have o2 := World.ownsRow_made (base := X4.heap.size) (e := 70) (size := 7) Y1 #[] 0 (by have := S1.out; omega) (by unfold maxLen; omega) rfl
    have b2 : Below Y1.heap.size Y1 (Y1.alloc (.cells #[] 70)) := (Below.refl _ _).alloc (Nat.le_refl _) _
    have n2 := (g1.alloc (.cells #[] 70)).news
    have s2 : (Y1.alloc (.cells #[] 70)).heap.size = Y1.heap.size + 1 := by simp
    refine hK _ _ (fun _ _ => (f1.below b2).cells.1) ?_
    clear hK K
    refine wpAnyY_one (i := 4) (by kernel_rfl) rfl (fun K hK => ?_)
    simp only [List.getElem_toArray, List.getElem_cons_succ, List.getElem_cons_zero]
    have hq1 := S1.out
    go_wp2_with (at_builtin; go_loud (refine wpList_append_own_at _ rfl _ _ 46 rfl X4.heap.size 70 i0 GC.zero.v 7 48 Try.underlying46 hi hz0 hz1 hz2 rfl (by decide) _ _ _ rfl o2 _ w w (flatV M) rfl (by rw [flatV_length, hkw, Nat.mul_comm]) n2 (flatV_one M) (by unfold maxLen; omega) (by omega) (by omega) ?_; intro v4 Y4 ho4 hg4 _ _))
    have b4' : Below Y1.heap.size Y1 Y4 := b2.grown hg4 (by omega) (fun k e => by have h' : some Y1.heap.size = some k := e; injection h' with h'; omega)
    rw [Nat.zero_add, List.nil_append] at ho4
    obtain ⟨a4', c4', rfl⟩ := own_sliceF ho4
    have f4 := f1.below b4'
    have v4R := v1.below b4'
    have s4' := b4'.size
    refine hK _ _ (fun _ _ => f4.cells.1) ?_
    clear hK K o2 b2 n2 s2 hg4
    refine wpAnyY_one (i := 5) (by kernel_rfl) rfl (fun K hK => ?_)
    go_wp2
    have t5 := Boxed.new Y4 46 (.slice a4' w c4')
    have b5 : Below Y4.heap.size Y4 (Y4.alloc (.cells #[.slice a4' w c4'] 46)) := (Below.refl _ _).alloc (Nat.le_refl _) _
    have v5 := v4R.below b5
    have f5 := f4.below b5
    have ho5 := own_belowF ho4 b5
    refine hK _ _ (fun _ _ => f5.cells.1) ?_
    clear hK K
    have bb5 : Below Z.heap.size Z (Y4.alloc (.cells #[.slice a4' w c4'] 46)) := bnext b1 (bnext b4' b5)
    obtain ⟨Y5, hY5⟩ : ∃ Y, Y4.alloc (.cells #[.slice a4' w c4'] 46) = Y := ⟨_, rfl⟩
    rw [hY5] at t5 v5 f5 ho5 bb5 ⊢
    clear hY5 b5
    have n5 := boxed_newsF t5
    have s5 := bb5.size
    refine wpAnyY_one (i := 6) (by kernel_rfl) rfl (fun K hK => ?_)
    simp only [List.getElem_toArray, List.getElem_cons_succ, List.getElem_cons_zero]
    go_wp2_with (at_builtin; go_loud (refine wpList_append_own_at _ rfl _ _ 49 rfl X4.heap.size 46 j0 (.slice none 0 0) 1 24 Try.underlying49 hj hy0 hy1 hy2 rfl (by decide) _ _ _ rfl v5.o _ 1 1 [_] rfl rfl n5 (by simp [Value.oneCell']) (by unfold maxLen; omega) (by omega) (by omega) ?_; intro v6 Y6 ho6 hg6 _ _))
    have hR6 := v5.app (by rw [hkw]; exact ho5) hg6 ho6
    have hnf : W.heap.size + 1 < X4.heap.size := by omega
    have hbut : But X4.heap.size (W.heap.size + 1) Z Y6 := (But.of_below (B := W.heap.size + 1) hZs bb5).grown (by omega) hg6 (fun k e => by obtain ⟨h1', cur', h2'⟩ := own_cells v5.o k e; exact ⟨h1', _, h2', rfl⟩)
    have f6 : FBox Y6 (W.heap.size + 1) (.slice av k cv) r c s := ((Below.refl X4.heap.size Y5).grown hg6 (by omega) (fun k e => (own_cells v5.o k e).1)).block _ hnf |>.trans f5
    obtain ⟨g6, c6, rfl⟩ := ownsRow_succ ho6
    refine hK _ _ (fun _ _ => f6.cells.1) ?_
    clear hK K n5 t5 v5 f5 ho5 ho6 hg6 v4R f4 f1 v1 g1
    refine' wpAnyY_read 7 (fun _ => True) [] (v := _) (by kernel_rfl) (fun _ _ d _ _ h => by cases d <;> exact h) (by kernel_rfl) rfl (fun _ _ _ _ _ _ => trivial) (fun _ _ h => h) trivial rfl ?_ ?_
    rotate_left 1
    · intro w' hw'; go_simp; try with_reducible rfl
    try simp only [Act.put, List.setIfInBounds_toArray, List.set_cons_zero, List.set_cons_succ]
    refine wpAnyY_one (i := 8) (by kernel_rfl) rfl (fun K hK => ?_)
    obtain ⟨e0, _, _, _, e4⟩ := f6.cells
    go_wp2
    refine hK _ _ (fun hn => absurd (by decide) hn) (wpAnyY_end (by kernel_rfl) ?_)
    clear hK K e0 e4
    rw [hRl] at hR6
    have hbut2 := hbut.setCell 0 (.slice (some ⟨g6, 0, none⟩) (k + 1) c6)
    have f7 := f6.set (.slice (some ⟨g6, 0, none⟩) (k + 1) c6)
    have v7 := hR6.set (k := W.heap.size + 1) hnf (.slice (some ⟨g6, 0, none⟩) (k + 1) c6)
    have hal := ha.lt
    refine ⟨hbut2.from, ⟨hbut2.block p (by omega) (by omega), hbut2.block q (by omega) (by omega), hbut2.block _ (by omega) (by omega), hbut2.size⟩, ?_⟩
    unfold FrI
    rw [show (pre ++ [(k, g)]).length = k + 1 by simp [HK.out], HRS.out]
    exact ⟨⟨_, _, f7, v7⟩, (hbut2.block _ (by omega) (by omega)).trans hz, ⟨(hbut2.block _ (by omega) (by omega)).trans ha.blk, { ha.g with head := (hbut2.block _ (by omega) (by omega)).trans ha.g.head, blk := (hbut2.block _ (by omega) (by omega)).trans ha.g.blk }, ha.bp, ha.bq⟩, hb.trans (hbut2.below (by omega) (by omega))⟩
  · rintro D xs Z hD hxs ⟨⟨v, vs, hf, hv⟩, hz, ha, hb⟩ hK
    have hRl := rowsG_len L w h
    rw [hxs] at hv
    obtain ⟨R, hR⟩ : ∃ R, R = rowsG L w h := ⟨_, rfl⟩
    rw [← hR] at hRl hv
    have ho := hv.o
    rw [hRl] at ho
    obtain ⟨av, cv, rfl⟩ := own_sliceF ho
    obtain ⟨X, hX⟩ : ∃ X, ((((Z.setCell ⟨W.heap.size, 0, none⟩ (.slice av h cv)).setCell ⟨W.heap.size, 1, none⟩ (.int .i64 r)).setCell ⟨W.heap.size, 2, none⟩ (.int .i64 c)).setCell ⟨W.heap.size, 3, none⟩ (.bool s)) = X := ⟨_, rfl⟩
    obtain ⟨fX, oX⟩ := FBox.fill hz (.slice av h cv) r c s X hX
    have hKX := oX.heap hK (by simp; omega)
    have vX : RowsV X4.heap.size X (.slice av h cv) vs R := by
      have hq : Below X4.heap.size Z X ∨ True := .inr trivial
      rw [← hX]
      exact ((((hv.setAt (k := W.heap.size) (by omega) 0 _).setAt (k := W.heap.size) (by omega) 1 _).setAt (k := W.heap.size) (by omega) 2 _).setAt (k := W.heap.size) (by omega) 3 _)
    have bX : Below W.heap.size W X := hb.trans (oX.below (by simp) hb.size)
    have fD : FBox (X.putObj D (.deferred none)) W.heap.size (.slice av h cv) r c s := own_heap (B := 0) fX rfl (grownBy_putObj' X D (.deferred none)) (fun r e => by cases e; exact ⟨Nat.zero_le _, _, hKX, rfl⟩)
    have vD := vX.far (grownBy_putObj' X D (.deferred none)) (fun r e => by cases e; exact ⟨_, hKX, rfl⟩)
    have bD : Below W.heap.size W (X.putObj D (.deferred none)) := bX.trans (belowK_b (w := W) (Nat.le_refl _) X D _ _ (by omega) hKX rfl rfl)
    obtain ⟨q1, q2, q3⟩ := RowsAt.of_own hRl vD
    have HR := Lib.hid hR
    obtain ⟨c0, c1, c2, c3, _⟩ := hf.cells
    obtain ⟨e0, e1, e2, e3, e4⟩ := hz.cells
    have HX := Lib.hid hX
    clear hR hxs hv hz ho hX
    gi_wp2
    rw [HX.out]
    refine ⟨by simp, .inl ⟨_, _, rfl, run_takeDeferred hKX, ?_⟩⟩
    refine ⟨_, results_cell_row rfl _ _ W.heap.size 51 _ (0, 0) _ rfl fD Try.underlying51 rfl (by kernel_rfl), ?_⟩
    rw [← HR.out]
    exact ⟨av, cv, by rw [hRl], by rw [hRl]; exact q1, by rw [hRl]; exact ⟨q2, q3⟩, bD⟩
  · rintro D cd pre Z hD hpre hx hK
    exact hx.elim
end Go.Proofs.Ytekodpcedjpnjaa
namespace Go.Proofs.Ytekodpcedjpnjaa
set_option linter.unusedVariables false
set_option linter.unusedSimpArgs false
open Go.RowKit Go.Shelf Go.Maps
/-- The text of a row of cells. -/
def lineT (M : List GC) : List UInt8 := M.flatMap fun c => c.s.data.toList
theorem lineT_take (M : List GC) (k : Nat) (h : k < M.length) : lineT (M.take (k + 1)) = lineT (M.take k) ++ (nth GC.zero M k).s.data.toList := by
  unfold lineT
  rw [List.take_succ_eq_append_getElem h, List.flatMap_append, nth_eq _ _ _ h]
  simp
theorem lineT_len (M : List GC) (h : ∀ c ∈ M, c.s.size ≤ 64) : (lineT M).length ≤ 64 * M.length := by
  induction M with
  | nil => simp [lineT]
  | cons c M ih =>
    have h1 := ih (fun d hd => h d (List.mem_cons_of_mem _ hd))
    have h2 := h c (List.mem_cons_self ..)
    unfold lineT at h1 ⊢
    rw [List.flatMap_cons, List.length_append, List.length_cons]
    have : c.s.data.toList.length = c.s.size := by rw [Array.length_toList]; rfl
    omega
theorem S_list (s : ByteArray) : S s.data.toList = s := by
  obtain ⟨l⟩ := s
  unfold S
  simp
set_option maxRecDepth 100000 in
set_option maxHeartbeats 4000000 in
theorem fline_any {W : World} {a : Option Addr} {n cap : Nat} {M : List GC} (hM : CellsAt W a n M) (hn : n ≤ 1000) (hs : ∀ c ∈ M, c.s.size ≤ 64) :
    Calls Try.prog 21 #[.slice a n cap] W fun e w' => e = .returned (.string (S (lineT M))) ∧ Below W.heap.size W w' := by
  have l1 := hM.len
  have hlen : ∀ k, (lineT (M.take k)).length ≤ 64000 := fun k => by
    have h1 := lineT_len (M.take k) (fun c hc => hs c (List.mem_of_mem_take hc))
    rw [List.length_take] at h1
    omega
  have HLEN := Lib.hid hlen
  clear hlen
  go_enter Try.func21, Try.ntmps21
  go_wp2
  go_loopw [4, 3] (fun i g wr => ∃ k : Nat, k ≤ n ∧ i = .int .i64 k ∧ g = .string (S (lineT (M.take k))) ∧ Below W.heap.size W wr) (fun i _ _ => n - (intOf i).toNat)
  case atStart => exact ⟨0, Nat.zero_le _, rfl, rfl, Below.refl _ _⟩
  case round =>
    obtain ⟨k, hk, rfl, rfl, hb⟩ := hrel
    by_cases hlt : k < n
    · have hCi : M[k]? = some (nth GC.zero M k) := by rw [nth_eq _ _ _ (by omega), List.getElem?_eq_getElem (by omega)]
      have HT := Lib.hid (lineT_take M k (by omega))
      have hsz := hs (nth GC.zero M k) (by rw [nth_eq _ _ _ (by omega)]; exact List.getElem_mem (by omega))
      obtain ⟨b1, o1, rfl, hb1, r1⟩ := (hM.below hb).at_ k _ hCi
      obtain ⟨C, hC⟩ : ∃ C, C = nth GC.zero M k := ⟨_, rfl⟩
      rw [← hC] at HT hsz r1
      obtain ⟨x0, _⟩ := vals_at r1
      have hL := HLEN.out k
      obtain ⟨T, hT⟩ : ∃ T, T = lineT (M.take k) := ⟨_, rfl⟩
      rw [← hT] at HT hL ⊢
      have hsT := S_size T
      have HAP := Lib.hid (show S T ++ C.s = S (T ++ C.s.data.toList) by rw [← S_append, S_list])
      clear hT hC hCi r1
      go_wp2
      go_roundw
      case rel => exact ⟨k + 1, hlt, by go_num, by rw [HT.out, ← HAP.out], hb⟩
      case measure => simp [intOf]; omega
    · obtain rfl : k = n := by omega
      rw [← l1, List.take_length, l1]
      go_wp2
      go_ret
      exact ⟨rfl, hb⟩
end Go.Proofs.Ytekodpcedjpnjaa
namespace Go.Proofs.Ytekodpcedjpnjaa
set_option linter.unusedVariables false
set_option linter.unusedSimpArgs false
open Go.RowKit Go.Shelf Go.Maps
/-- The cells of a cluster, of clusters. -/
def cellOf (y : Sy) (x : List UInt8) : List GC := if colsL x = 2 then [⟨S x, 2, y⟩, ⟨⟨#[]⟩, 0, y⟩] else [⟨S x, 1, y⟩]
def cellsOf (y : Sy) (C : List (List UInt8)) : List GC := C.flatMap (cellOf y)
theorem cellOf_len (y : Sy) (x : List UInt8) (h : Clu x) : ((cellOf y x).length : Int) = colsL x := by
  have := h.cols
  unfold cellOf
  split
  · simp; omega
  · simp; omega
theorem cellsOf_len (y : Sy) : ∀ (C : List (List UInt8)), (∀ x ∈ C, Clu x) → ((cellsOf y C).length : Int) = sumC C
  | [], _ => rfl
  | x :: C, h => by
    have h1 := cellOf_len y x (h x (List.mem_cons_self ..))
    have h2 := cellsOf_len y C (fun z hz => h z (List.mem_cons_of_mem _ hz))
    unfold cellsOf at h2 ⊢
    rw [List.flatMap_cons, List.length_append, sumC_cons]
    omega
theorem cellOf_text (y : Sy) (x : List UInt8) : lineT (cellOf y x) = x := by
  unfold cellOf lineT
  split <;> simp [S]
theorem cellsOf_text (y : Sy) (C : List (List UInt8)) : lineT (cellsOf y C) = C.flatten := by
  induction C with
  | nil => rfl
  | cons x C ih =>
    have h1 := cellOf_text y x
    unfold lineT cellsOf at *
    rw [List.flatMap_cons, List.flatMap_append, h1, ih, List.flatten_cons]
theorem set_midF {α : Type} (P T : List α) (a b : α) (k : Nat) (hk : k = P.length) : (P ++ a :: T).set k b = P ++ b :: T := by
  subst hk
  rw [List.set_append_right _ _ (Nat.le_refl _), Nat.sub_self, List.set_cons_zero]
theorem nth_midF (P T : List GC) (a : GC) (k : Nat) (hk : k = P.length) : nth GC.zero (P ++ a :: T) k = a := by
  subst hk
  simp [nth]
theorem wipe_blank (P T : List GC) (o n c : Nat) (hk : o + c = P.length) : wipeL (P ++ GC.blank :: T) o n c = P ++ GC.blank :: T := by
  unfold wipeL
  dsimp only
  rw [nth_midF P T GC.blank (o + c) hk, set_midF P T _ _ _ hk]
  rw [if_neg (by rintro ⟨h, _⟩; exact absurd h (by decide)), if_neg (by rintro ⟨h, _⟩; exact absurd h (by decide))]
theorem put_blank {w h r c m : Nat} (P Q : List GC) (y : Sy) (x : List UInt8) (hx : Clu x) (hr : r < h) (hP : P.length = w * r + c) (hm : c + m ≤ w) (hv : colsL x ≤ m) :
    putG w h (P ++ List.replicate m GC.blank ++ Q) r c (S x) (colsL x) y = P ++ cellOf y x ++ List.replicate (m - (colsL x).toNat) GC.blank ++ Q := by
  have hc := hx.cols
  have hl := hx.len
  have hs : (S x).size = x.length := S_size x
  have hne : S x ≠ ⟨#[]⟩ := fun e => by rw [e] at hs; have : (⟨#[]⟩ : ByteArray).size = 0 := rfl; omega
  have he : putErr w h r c (S x) (colsL x) = 0 := by
    unfold putErr
    rw [if_neg (by rintro (h1 | h1 | h1); exact hne h1; omega; omega), if_neg (by omega)]
  unfold putG
  rw [if_pos he]
  simp only [Int.toNat_natCast]
  unfold putL cellOf
  by_cases h2 : colsL x = 2
  · rw [if_pos h2, if_pos h2, h2]
    obtain ⟨d, rfl⟩ : ∃ d, m = d + 2 := ⟨m - 2, by omega⟩
    have e1 : P ++ List.replicate (d + 2) GC.blank ++ Q = P ++ GC.blank :: (GC.blank :: (List.replicate d GC.blank ++ Q)) := by
      rw [List.replicate_succ, List.replicate_succ]; simp
    have e2 : P ++ GC.blank :: (GC.blank :: (List.replicate d GC.blank ++ Q)) = (P ++ [GC.blank]) ++ GC.blank :: (List.replicate d GC.blank ++ Q) := by simp
    rw [e1, wipe_blank _ _ _ _ _ hP.symm, e2, wipe_blank _ _ _ _ _ (by simp; omega), set_midF _ _ _ _ _ (by simp; omega)]
    rw [show (P ++ [GC.blank]) ++ (⟨⟨#[]⟩, 0, y⟩ : GC) :: (List.replicate d GC.blank ++ Q) = P ++ GC.blank :: ((⟨⟨#[]⟩, 0, y⟩ : GC) :: (List.replicate d GC.blank ++ Q)) by simp, set_midF _ _ _ _ _ hP.symm]
    simp
  · have h1 : colsL x = 1 := by omega
    rw [if_neg h2, if_neg h2, h1]
    obtain ⟨d, rfl⟩ : ∃ d, m = d + 1 := ⟨m - 1, by omega⟩
    have e1 : P ++ List.replicate (d + 1) GC.blank ++ Q = P ++ GC.blank :: (List.replicate d GC.blank ++ Q) := by
      rw [List.replicate_succ]; simp
    rw [e1, wipe_blank _ _ _ _ _ hP.symm, set_midF _ _ _ _ _ hP.symm]
    simp
theorem puts_blank {w h r c : Nat} (P Q : List GC) (y : Sy) (C : List (List UInt8)) (hC : ∀ x ∈ C, Clu x) (hr : r < h) (hP : P.length = w * r + c) (hfit : (c : Int) + sumC C ≤ w) :
    ∀ j, j ≤ C.length → putsG w h r c y C j (P ++ List.replicate (w - c) GC.blank ++ Q) = P ++ cellsOf y (C.take j) ++ List.replicate (w - c - (sumC (C.take j)).toNat) GC.blank ++ Q
  | 0, _ => by simp [putsG, cellsOf, sumC]
  | j + 1, hj => by
    have ih := puts_blank P Q y C hC hr hP hfit j (by omega)
    have hx : Clu (nth [] C j) := hC _ (by rw [nth_eq _ _ _ (by omega)]; exact List.getElem_mem (by omega))
    have hxc := hx.cols
    have hCt : ∀ x ∈ C.take j, Clu x := fun x hx => hC x (List.mem_of_mem_take hx)
    have hlen := cellsOf_len y (C.take j) hCt
    have hst := sumC_take C j (by omega)
    have hsplit : sumC C = sumC (C.take (j + 1)) + sumC (C.drop (j + 1)) := by rw [← sumC_append, List.take_append_drop]
    have hd := sumC_bd (C.drop (j + 1))
    have ht := sumC_bd (C.take j)
    have htk : cellsOf y (C.take (j + 1)) = cellsOf y (C.take j) ++ cellOf y (nth [] C j) := by
      unfold cellsOf
      rw [List.take_succ_eq_append_getElem (by omega), List.flatMap_append, nth_eq _ _ _ (by omega)]
      simp
    show putG w h (putsG w h r c y C j _) r (c + sumC (C.take j)) (S (nth [] C j)) (colsL (nth [] C j)) y = _
    rw [ih]
    obtain ⟨t, ht'⟩ : ∃ t : Nat, sumC (C.take j) = t := ⟨(sumC (C.take j)).toNat, by omega⟩
    rw [ht'] at hst hlen ⊢
    have hpb := put_blank (w := w) (h := h) (r := r) (c := c + t) (m := w - c - t) (P ++ cellsOf y (C.take j)) Q y (nth [] C j) hx hr (by rw [List.length_append]; omega) (by omega) (by omega)
    rw [show ((t : Nat) : Int).toNat = t by omega]
    rw [show ((c : Int) + (t : Int)) = ((c + t : Nat) : Int) by omega]
    rw [hpb, htk]
    simp only [List.append_assoc]
    rw [show w - c - t - (colsL (nth [] C j)).toNat = w - c - (sumC (C.take (j + 1))).toNat by omega]
end Go.Proofs.Ytekodpcedjpnjaa
namespace Go.Proofs.Ytekodpcedjpnjaa
set_option linter.unusedVariables false
set_option linter.unusedSimpArgs false
open Go.RowKit Go.Shelf Go.Maps
def GC.tail (y : Sy) : GC := ⟨⟨#[]⟩, 0, y⟩
def okB (c : GC) : Bool := mayF c.y && (decide (c.w = 1 ∨ c.w = 2) && (isCl c.s.data.toList && decide (widthL c.s.data.toList = c.w ∧ c.s.size ≤ 64)))
def wholeB : List GC → Bool
  | [] => true
  | c :: t => okB c && (if c.w = 1 then wholeB t else match t with
    | [] => false
    | d :: t' => eqC d (GC.tail c.y) && wholeB t')
def wholeTl (y : Sy) : List GC → Bool
  | [] => false
  | d :: t' => eqC d (GC.tail y) && wholeB t'
theorem wholeB_cons (c : GC) (t : List GC) : wholeB (c :: t) = (okB c && (if c.w = 1 then wholeB t else wholeTl c.y t)) := by
  cases t with
  | nil => simp [wholeB, wholeTl]
  | cons d t' => rw [wholeB]; rfl
set_option maxRecDepth 100000 in
set_option maxHeartbeats 8000000 in
theorem whole_true {W : World} {a : Option Addr} {n cap : Nat} {M : List GC} (hM : CellsAt W a n M) (hn : n ≤ 1000) (hw : wholeB M = true) :
    Calls Try.prog 72 #[.slice a n cap] W fun e w' => e = .returned (.bool true) ∧ Below W.heap.size W w' := by
  have l1 := hM.len
  go_enter Try.func72, Try.ntmps72
  go_wp2
  go_loopw [3] (fun i wr => ∃ k : Nat, k ≤ n ∧ i = .int .i64 k ∧ Hid (wholeB (M.drop k) = true) ∧ Below W.heap.size W wr) (fun i _ => n - (intOf i).toNat)
  case atStart => exact ⟨0, Nat.zero_le _, rfl, Lib.hid hw, Below.refl _ _⟩
  case round =>
    obtain ⟨k, hk, rfl, hwk, hb⟩ := hrel
    by_cases hlt : k < n
    · have hCi : M[k]? = some (nth GC.zero M k) := by rw [nth_eq _ _ _ (by omega), List.getElem?_eq_getElem (by omega)]
      have hdr : M.drop k = nth GC.zero M k :: M.drop (k + 1) := by rw [List.drop_eq_getElem_cons (by omega), nth_eq _ _ _ (by omega)]
      have hwk' := hwk.out
      rw [hdr] at hwk'
      obtain ⟨b1, o1, rfl, hb1, r1⟩ := (hM.below hb).at_ k _ hCi
      obtain ⟨C, hC⟩ : ∃ C, C = nth GC.zero M k := ⟨_, rfl⟩
      rw [← hC] at hwk' r1
      obtain ⟨x0, x1, x2, x3, x4, x5, x6⟩ := vals_at r1
      rw [wholeB_cons] at hwk'
      simp only [okB, Bool.and_eq_true, decide_eq_true_eq] at hwk'
      obtain ⟨⟨hy, hw12, hcl, hwd, hsz⟩, hnext⟩ := hwk'
      have hsl := S_list C.s
      have C1 := (fun W => is_any' C.s.data.toList (by rw [Array.length_toList]; exact Nat.le_trans hsz (by omega)) W)
      have C2 := (fun W => cwidth_any C.s.data.toList (by rw [Array.length_toList]; exact Nat.le_trans hsz (by omega)) W)
      have C3 := (fun W => colours_any C.y W)
      rw [hsl, hcl] at C1
      rw [hsl, hwd] at C2
      rw [hy] at C3
      clear hwk hdr hC hCi r1 hy hcl hwd hsl
      have hnx : k + 1 ≤ n := hlt
      have HNX := Lib.hid hnext
      clear hnext
      obtain ⟨cs, cw, cy⟩ := C
      dsimp only at hw12 hsz C1 C2 C3 HNX x0 x1 x2 x3 x4 x5 x6
      have g1 : GBlk (wr.alloc (.cells #[.string cs, .int .i64 cw, .bool cy.b, .bool cy.u, .bool cy.i, .int .i64 cy.f, .int .i64 cy.g] 70)) wr.heap.size [⟨cs, cw, cy⟩] := GBlk.made wr [⟨cs, cw, cy⟩]
      have hb1x : Below wr.heap.size wr (wr.alloc (.cells #[.string cs, .int .i64 cw, .bool cy.b, .bool cy.u, .bool cy.i, .int .i64 cy.f, .int .i64 cy.g] 70)) := (Below.refl _ _).alloc (Nat.le_refl _) _
      obtain ⟨X1, hX1⟩ : ∃ X, wr.alloc (.cells #[.string cs, .int .i64 cw, .bool cy.b, .bool cy.u, .bool cy.i, .int .i64 cy.f, .int .i64 cy.g] 70) = X := ⟨_, rfl⟩
      rw [hX1] at g1 hb1x
      have HX1 := Lib.hid hX1
      clear hX1
      have hsx : wr.heap.size < X1.heap.size := g1.lt
      have gr := g1.range1 (i := 0) (c := ⟨cs, cw, cy⟩) rfl
      rw [Nat.mul_zero] at gr
      obtain ⟨y0, y1, y2, y3, y4, y5, y6⟩ := vals_at gr
      dsimp only [Nat.zero_add] at y0 y1 y2 y3 y4 y5 y6
      have K0 := fun p : BW X1.heap.size X1 => p.cell (by exact hsx) y0
      have K1 := fun p : BW X1.heap.size X1 => p.cell (by exact hsx) y1
      have K2 := fun p : BW X1.heap.size X1 => p.cell (by exact hsx) y2
      have K3 := fun p : BW X1.heap.size X1 => p.cell (by exact hsx) y3
      have K4 := fun p : BW X1.heap.size X1 => p.cell (by exact hsx) y4
      have K5 := fun p : BW X1.heap.size X1 => p.cell (by exact hsx) y5
      have K6 := fun p : BW X1.heap.size X1 => p.cell (by exact hsx) y6
      have C1 := Lib.hid C1
      have C2 := Lib.hid C2
      have C3 := Lib.hid C3
      rcases hw12 with hW | hW
      · subst hW
        go_wp2_with fail
        rw [HX1.out]
        refine wp_region_bw X1.heap.size (by kernel_rfl) (by kernel_rfl) ?_
        repeat (quiet_step ((apply Calls.bw_of (Nat.le_refl _); first
          | (go_at_call 98; exact C3.out _)
          | (go_at_call 99; exact C1.out _)
          | (go_at_call 100; exact C2.out _))))
        refine wpQuiet_nil ?_
        intro wq hw'
        have hwq : Below X1.heap.size X1 wq := by obtain ⟨p, rfl⟩ := hw'; exact p.h
        have z1 := (hwq.cell (p := ⟨wr.heap.size, 1, none⟩) hsx).trans y1
        have hbq : Below W.heap.size W wq := bto (bto hb hb1x hb.size) hwq (bto hb hb1x hb.size).size
        have HN2 : Hid (wholeB (M.drop (k + 1)) = true) := Lib.hid (by have h := HNX.out; simpa using h)
        clear hw' C1 C2 C3 K0 K1 K2 K3 K4 K5 K6
        go_wp2
        go_roundw
        case rel => exact ⟨k + 1, hnx, by go_num, HN2, hbq⟩
        case measure => simp [intOf]; omega
      · subst hW
        have hn2 := HNX.out
        rw [if_neg (by decide)] at hn2
        obtain ⟨D, t, hDt⟩ : ∃ D t, M.drop (k + 1) = D :: t := by
          cases hd : M.drop (k + 1) with
          | nil => rw [hd] at hn2; simp [wholeTl] at hn2
          | cons D t => exact ⟨D, t, rfl⟩
        rw [hDt] at hn2
        simp only [wholeTl, Bool.and_eq_true] at hn2
        obtain ⟨heq, hwt⟩ := hn2
        have hk1 : k + 1 < n := by
          have := congrArg List.length hDt
          rw [List.length_drop, List.length_cons] at this
          omega
        have hD1 : M[k + 1]? = some D := by
          have h0 : (M.drop (k + 1))[0]? = some D := by rw [hDt]; rfl
          rw [List.getElem?_drop] at h0
          simpa using h0
        have ht2 : M.drop (k + 1 + 1) = t := by
          rw [← List.drop_drop, hDt]; rfl
        rw [← ht2] at hwt
        have HWT := Lib.hid hwt
        obtain ⟨b2, o2, e2, hb2, r2⟩ := (hM.below hb).at_ (k + 1) D hD1
        simp only [Option.some.injEq, Addr.mk.injEq] at e2
        obtain ⟨rfl, rfl, _⟩ := e2
        have hq := neq_gc D (GC.tail cy)
        rw [heq] at hq
        have HQ := Lib.hid hq
        clear hDt hD1 ht2 hwt heq hq
        go_wp2_with fail
        rw [HX1.out]
        refine wp_region_bw X1.heap.size (by kernel_rfl) (by kernel_rfl) ?_
        repeat (quiet_step ((apply Calls.bw_of (Nat.le_refl _); first
          | (go_at_call 98; exact C3.out _)
          | (go_at_call 99; exact C1.out _)
          | (go_at_call 100; exact C2.out _))))
        refine wpQuiet_nil ?_
        intro wq hw'
        have hwq : Below X1.heap.size X1 wq := by obtain ⟨p, rfl⟩ := hw'; exact p.h
        have z1 := (hwq.cell (p := ⟨wr.heap.size, 1, none⟩) hsx).trans y1
        have z2 := (hwq.cell (p := ⟨wr.heap.size, 2, none⟩) hsx).trans y2
        have z3 := (hwq.cell (p := ⟨wr.heap.size, 3, none⟩) hsx).trans y3
        have z4 := (hwq.cell (p := ⟨wr.heap.size, 4, none⟩) hsx).trans y4
        have z5 := (hwq.cell (p := ⟨wr.heap.size, 5, none⟩) hsx).trans y5
        have z6 := (hwq.cell (p := ⟨wr.heap.size, 6, none⟩) hsx).trans y6
        have hrq : Below wr.heap.size wr wq := bto hb1x hwq hb1x.size
        have r3 : wq.rangeAt b1 (o1 + (k + 1) * 7) D.vals := fun j v hv => (hrq.cell (p := ⟨b1, _, none⟩) hb2).trans (r2 j v hv)
        obtain ⟨t0, t1, t2, t3, t4, t5, t6⟩ := vals_at r3
        have hbq : Below W.heap.size W wq := bto hb hrq hb.size
        clear hw' C1 C2 C3 K0 K1 K2 K3 K4 K5 K6 r2 r3
        have hq := HQ.out
        dsimp only [GC.tail] at hq
        have hki : decide ((n : Int) ≤ (k : Int) + 1) = false := by simp; omega
        have hkj : (k : Int) + 1 < (n : Int) := by omega
        have hkt : ((k : Int) + 1).toNat = k + 1 := by omega
        have hk0 : ¬ (k : Int) + 1 < 0 := by omega
        go_wp2_with fail
        refine wp_region_still_lit (by kernel_rfl) (by kernel_rfl) ?_
        repeat still_step
        refine wpStill_nil ?_
        go_wp2
        go_roundw
        case rel => exact ⟨k + 1 + 1, by omega, by go_num, HWT, hbq.drew⟩
        case measure => simp [intOf]; omega
    · obtain rfl : k = n := by omega
      go_wp2
      go_ret
      exact ⟨rfl, hb⟩
end Go.Proofs.Ytekodpcedjpnjaa
namespace Go.Proofs.Ytekodpcedjpnjaa
set_option linter.unusedVariables false
set_option linter.unusedSimpArgs false
open Go.RowKit Go.Shelf Go.Maps
set_option maxRecDepth 100000 in
set_option maxHeartbeats 8000000 in
theorem check_true {W : World} {a : Option Addr} {n cap : Nat} {R : List (List GC)} {r c w : Nat} {s : Bool} (hR : RowsAt W a n R) (h1 : 1 ≤ n) (h2 : n ≤ 60) (hw : ∀ M ∈ R, M.length = w ∧ wholeB M = true) (w1 : 1 ≤ w) (w2 : w ≤ 500) (hr : r < n) (hc : c < w) :
    Calls Try.prog 22 #[.agg #[.slice a n cap, .int .i64 r, .int .i64 c, .bool s]] W fun e w' => e = .returned (.int .i64 0) ∧ Below W.heap.size W w' := by
  have hl := hR.len
  have z1 : FBox (W.alloc (.cells #[.slice a n cap, .int .i64 r, .int .i64 c, .bool s] 51)) W.heap.size (.slice a n cap) r c s := World.alloc_heap_new W _
  have b1 : Below W.heap.size W (W.alloc (.cells #[.slice a n cap, .int .i64 r, .int .i64 c, .bool s] 51)) := (Below.refl _ _).alloc (Nat.le_refl _) _
  have R1 := hR.below b1
  have s1 : (W.alloc (.cells #[.slice a n cap, .int .i64 r, .int .i64 c, .bool s] 51)).heap.size = W.heap.size + 1 := by simp
  have hMw : ∀ i M, R[i]? = some M → M.length = w ∧ wholeB M = true := fun i M hi => hw M (List.mem_of_getElem? hi)
  obtain ⟨M0, hM0⟩ : ∃ M, R[0]? = some M := ⟨_, List.getElem?_eq_getElem (by omega)⟩
  obtain ⟨b, off, a2, c2, rfl, hb, hc0, ⟨hc1, hc2⟩, _⟩ := R1.at_ 0 M0 hM0
  obtain ⟨hM1, _⟩ := hMw 0 M0 hM0
  rw [hM1] at hc0 hc1
  have HMW := Lib.hid hMw
  have HR := Lib.hid R1
  rw [Nat.add_zero] at hc0
  have e1 := z1.cells.2.1
  have e2 := z1.cells.2.2.1
  clear hMw hw hM0 hM1 R1
  have k1 : ¬ (n : Int) < 1 := by omega
  have k2 : ¬ 60 < (n : Int) := by omega
  have k3 : ¬ (w : Int) < 1 := by omega
  have k4 : ¬ 500 < (w : Int) := by omega
  have k5 : ¬ (r : Int) < 0 := by omega
  have k6 : ¬ (n : Int) ≤ (r : Int) := by omega
  have k7 : ¬ (c : Int) < 0 := by omega
  have k8 : ¬ (w : Int) ≤ (c : Int) := by omega
  go_enter Try.func22, Try.ntmps22
  go_wp2
  obtain ⟨X, hX⟩ : ∃ X, W.alloc (.cells #[.slice (some ⟨b, off, none⟩) n cap, .int .i64 r, .int .i64 c, .bool s] 51) = X := ⟨_, rfl⟩
  rw [hX] at b1 HR ⊢
  clear hX hc0 e1 e2 z1 s1
  have R1 := HR.out
  go_loopw [54] (fun i wr => ∃ k : Nat, k ≤ n ∧ i = .int .i64 k ∧ Below X.heap.size X wr) (fun i _ => n - (intOf i).toNat)
  case atStart => exact ⟨0, Nat.zero_le _, rfl, Below.refl _ _⟩
  case round =>
    obtain ⟨k, hk, rfl, hbr⟩ := hrel
    by_cases hlt : k < n
    · have hMk : R[k]? = some (nth [] R k) := by rw [nth_eq _ _ _ (by omega), List.getElem?_eq_getElem (by omega)]
      obtain ⟨b', off', a3, c3, e', hb', hc3, ⟨hc4, hc5⟩, hM⟩ := (R1.below hbr).at_ k _ hMk
      simp only [Option.some.injEq, Addr.mk.injEq] at e'
      obtain ⟨rfl, rfl, _⟩ := e'
      obtain ⟨hl3, hw3⟩ := HMW.out k _ hMk
      rw [hl3] at hc3 hc4 hM
      have CW := Lib.hid (fun cap => whole_true (cap := cap) hM (by omega) hw3)
      have hne : ((w : Int) != (w : Int)) = false := by simp
      clear hMk hl3 hw3 hM hc5
      go_wp2_with (go_at_call 72; refine (CW.out _).mono ?_; rintro e w2 ⟨rfl, hb2⟩; have hB2 := bto hbr hb2 hbr.size)
      go_roundw
      case rel => exact ⟨k + 1, hlt, by go_num, hB2⟩
      case measure => simp [intOf]; omega
    · obtain rfl : k = n := by omega
      go_wp2
      go_ret
      exact ⟨rfl, bto b1 hbr b1.size⟩
end Go.Proofs.Ytekodpcedjpnjaa
namespace Go.Proofs.Ytekodpcedjpnjaa
set_option linter.unusedVariables false
set_option linter.unusedSimpArgs false
open Go.RowKit Go.Shelf Go.Maps
def awT : List UInt8 := [228, 184, 173, 120, 121]
def awC : List (List UInt8) := cutL (flatL awT)
def awK : Nat := fitK awC (((4 : Nat) : Int) - ((1 : Nat) : Int))
def awG : List GC := putsG 4 1 ((0 : Nat) : Int) ((1 : Nat) : Int) Sy.zero awC awK (List.replicate (4 * 1) GC.blank)
theorem awF0 : (⟨#[228, 184, 173, 120, 121]⟩ : ByteArray) = S awT := by kernel_rfl
theorem awF1 : ((1 : Nat) : Int) + sumC (awC.take awK) = 4 := by kernel_rfl
theorem awF2 : S (lineT (lineL awG 4 0)) = ⟨#[32, 228, 184, 173, 120]⟩ := by kernel_rfl
theorem awF3 : wholeB (lineL awG 4 0) = true := by kernel_rfl
theorem awF4 : (lineL awG 4 0).all (fun c => decide (c.s.size ≤ 64)) = true := by kernel_rfl
theorem awF5 : (lineL awG 4 0).length = 4 := by kernel_rfl
theorem fnew_okI (x y : Int) (a b : Nat) (hx : x = a) (hy : y = b) (h : 1 ≤ a ∧ a ≤ 500 ∧ 1 ≤ b ∧ b ≤ 60) (W : World) :
    Calls Try.prog 75 #[.int .i64 x, .int .i64 y] W fun e w' => ∃ z p q, e = .returned (.tuple #[.pointer (some ⟨z, 0, none⟩), .int .i64 0]) ∧ BAt w' z p q a b (List.replicate (a * b) GC.blank) 0 0 false ∧ (W.heap.size ≤ z ∧ W.heap.size ≤ p ∧ W.heap.size ≤ q) ∧ Below W.heap.size W w' := by
  subst hx hy; exact fnew_ok a b h W
theorem text_aw {W : World} {b p q : Nat} {r c : Nat} {s : Bool} (a : BAt W b p q 4 1 (List.replicate (4 * 1) GC.blank) r c s) :
    Calls Try.prog 76 #[.pointer (some ⟨b, 0, none⟩), .int .i64 0, .int .i64 1, .string ⟨#[228, 184, 173, 120, 121]⟩, .agg #[.bool false, .bool false, .bool false, .int .i64 0, .int .i64 0]] W fun e w' =>
      e = .returned (.tuple #[.int .i64 4, .int .i64 0]) ∧ BAt w' b p q 4 1 awG r c s ∧ Only [q] W w' := by
  have h := text_ok a 0 1 awT Sy.zero (by omega) (by omega) rfl (by decide)
  rw [← awF0] at h
  refine h.mono fun e w' ⟨h1, h2, h3⟩ => ⟨?_, h2, h3⟩
  rw [h1]
  exact congrArg (fun x => Ending.returned (.tuple #[.int .i64 x, .int .i64 0])) awF1
set_option maxRecDepth 100000 in
set_option maxHeartbeats 8000000 in
theorem awake09_any (W : World) : Calls Try.prog 26 #[] W fun e w' => e = .returned (.bool true) ∧ Below W.heap.size W w' := by
  have C0 := Lib.hid (fun W => fnew_okI 4 1 4 1 rfl rfl (by omega) W)
  have C1 := Lib.hid (fun W => fnew_bad 0 1 (by omega) W)
  have hl4 : ∀ c ∈ lineL awG 4 0, c.s.size ≤ 64 := fun c hc => by have := List.all_eq_true.1 awF4 c hc; simpa using this
  have HL4 := Lib.hid hl4
  have CF := Lib.hid (fun W b p q r c s (a : BAt W b p q 4 1 awG r c s) hr hc => frame_any a (by omega) hr hc)
  have CT := Lib.hid (fun W b p q r c s (a : BAt W b p q 4 1 (List.replicate (4 * 1) GC.blank) r c s) => text_aw a)
  have hrg : rowsG awG 4 1 = [lineL awG 4 0] := rfl
  have HRG := Lib.hid hrg
  clear hl4 hrg
  go_enter Try.func26, Try.ntmps26
  go_wp2_with fail
  refine (C0.out _).mono ?_
  rintro e w1 ⟨z, p, q, rfl, a1, ⟨g1, g2, g3⟩, hb1⟩
  go_wp2_with fail
  refine (CT.out _ _ _ _ _ _ _ a1).mono ?_
  rintro e w2 ⟨rfl, a2, o2⟩
  go_wp2_with fail
  refine (CF.out _ _ _ _ _ _ _ a2 (by omega) (by omega)).mono ?_
  rintro e w3 ⟨ar, cap, rfl, hR, ⟨hc1, hc2⟩, hb3⟩
  rw [HRG.out] at hR hc1 ⊢
  simp only [List.length_cons, List.length_nil, Nat.zero_add] at hR hc1 ⊢
  go_wp2_with fail
  refine (C1.out _).mono ?_
  rintro e w4 ⟨rfl, hw4⟩
  have z4 : FBox w4 w3.heap.size (.slice ar 1 cap) 0 0 false := by rw [← hw4]; exact World.alloc_heap_new w3 _
  have hb4 : Below w3.heap.size w3 w4 := by rw [← hw4]; exact (Below.refl _ _).alloc (Nat.le_refl _) _
  have R4 := hR.below hb4
  have B4 : Below W.heap.size W w4 := by
    have k2 : Below W.heap.size W w2 := hb1.trans (o2.below (by simp; omega) hb1.size)
    have k3 := bto k2 hb3 k2.size
    exact bto k3 hb4 k3.size
  clear hw4 hR
  obtain ⟨bb, off, a2', c2, rfl, hbl, hcell, ⟨hc3, hc4⟩, hM⟩ := R4.at_ 0 (lineL awG 4 0) rfl
  rw [awF5] at hcell hc3 hM
  rw [Nat.add_zero] at hcell
  obtain ⟨e0, e1, e2, e3, _⟩ := z4.cells
  have CL := fun cap => fline_any (cap := cap) hM (by omega) HL4.out
  simp only [awF2] at CL
  have CL := Lib.hid CL
  go_wp2_with fail
  refine (CL.out _).mono ?_
  rintro e w5 ⟨rfl, hb5⟩
  have z5 := z4.below hb5
  obtain ⟨d0, d1, d2, d3, _⟩ := z5.cells
  have R5 := R4.below hb5
  have CK := Lib.hid (fun cap => check_true (cap := cap) (r := 0) (c := 0) (w := 4) (s := false) R5 (by omega) (by omega) (fun M hM => by rw [List.mem_singleton] at hM; subst hM; exact ⟨awF5, awF3⟩) (by omega) (by omega) (by omega) (by omega))
  go_wp2_with (go_at_call 22; refine (CK.out _).mono ?_; rintro e w6 ⟨rfl, hb6⟩)
  go_ret
  exact ⟨rfl, bto (bto B4 hb5 B4.size) hb6 (bto B4 hb5 B4.size).size⟩
end Go.Proofs.Ytekodpcedjpnjaa
