/- The methods of a builder that nobody made. No condition. The frame of a builder: its rows copied. No condition. The frame of a builder: the walk. No condition. A row's text (reference). No condition. Plain: clusters put behind each other over blanks stand in their cells. No condition. A row that is whole: what Check says of it. No condition. Check of a frame that may be. No condition. The law's example. No condition. -/
import Derived.Test.YtjkajojjehgmdaaGreatRE03
import Derived.Test.YtjkajojjehgmdaaGreatRE04
import Derived.Test.YtjkajojjehgmdaaGreatRE14
set_option linter.unusedVariables false
set_option linter.unusedSimpArgs false
namespace Go.Proofs.YtjkajojjehgmdaaGreat
open Go.RowKit Go.Maps
end Go.Proofs.YtjkajojjehgmdaaGreat
namespace Go.Proofs.YtjkajojjehgmdaaGreat
open Go.RowKit Go.Shelf Go.Maps
attribute [local go_sem] Oper.semAt_some
end Go.Proofs.YtjkajojjehgmdaaGreat
namespace Go.Proofs.YtjkajojjehgmdaaGreat
open Go.RowKit Go.Shelf Go.Maps
attribute [local go_sem] Oper.semAt_some
def rowsG (L : List GC) (w k : Nat) : List (List GC) := (List.range k).map (lineL L w)
theorem rowsG_succ (L : List GC) (w k : Nat) : rowsG L w (k + 1) = rowsG L w k ++ [lineL L w k] := by unfold rowsG; rw [List.range_succ, List.map_append]; rfl
theorem rowsG_len (L : List GC) (w k : Nat) : (rowsG L w k).length = k := by simp [rowsG]
def FrI (w : World) (F n₀ : Nat) (b p q gw gh : Nat) (L : List GC) (r c : Nat) (s : Bool) (pre : List (Nat × Nat)) (W : World) : Prop :=
 (∃ v vs, FBox W F v r c s ∧ RowsV n₀ W v vs (rowsG L gw pre.length)) ∧ FBox W w.heap.size (.slice none 0 0) 0 0 false ∧ BAt W b p q gw gh L r c s ∧ Below w.heap.size w W
theorem FrI.own {w : World} {F n₀ b p q gw gh : Nat} {L : List GC} {r c : Nat} {s : Bool} {B : Nat} (hB : w.heap.size ≤ B) : OwnFrom B (FrI w F n₀ b p q gw gh L r c s) := fun _ _ _ _ h hg hr => by
 obtain ⟨⟨v, vs, h1, h2⟩, h3, h4, h5⟩ := h
 exact ⟨⟨v, vs, own_heap h1 rfl hg hr, h2.far hg (fun r e => (hr r e).2)⟩, own_heap h3 rfl hg hr, h4.own hg hr, h5.grown hg h5.size (fun k e => Nat.le_trans hB (hr k e).1)⟩
def FrPost (R : List (List GC)) (r c : Nat) (s : Bool) (w : World) (e : Ending) (w' : World) : Prop :=
 ∃ a cap, e = .returned (.agg #[.slice a R.length cap, .int .i64 r, .int .i64 c, .bool s]) ∧ RowsAt w' a R.length R ∧ (R.length ≤ cap ∧ cap ≤ maxLen) ∧ Below w.heap.size w w'
theorem wpIn_normal {F : Fence} {n : Nat} {P : Program} {c : Code} {K : Act → World → Prop} {Q : Exit → Act → World → Prop} {a : Act} {w : World} (h : c.wpIn F n P (Exit.then K (fun _ _ _ => False)) a w) : c.wpIn F n P (Exit.then K Q) a w :=
 Code.wpIn_mono (fun e _ _ h => by cases e <;> first | exact h | exact False.elim h) h
set_option maxRecDepth 100000 in
set_option maxHeartbeats 16000000 in
theorem frame_any {W : World} {b p q w h : Nat} {L : List GC} {r c : Nat} {s : Bool} (a : BAt W b p q w h L r c s) (hh : h ≤ 60) (hr : r ≤ 1000) (hc : c ≤ 1000) :
    Calls Tryz.prog 77 #[.pointer (some ⟨b, 0, none⟩)] W (FrPost (rowsG L w h) r c s W) := by
 have hlt := a.lt
 have hw1 := a.g.w1
 have hw2 := a.g.w2
 have hgl := a.g.len
 obtain ⟨i0, hi, hz0, hz1, hz2⟩ := info_parts infoCell
 obtain ⟨j0, hj, hy0, hy1, hy2⟩ := info_parts infoCells
 have CM := Lib.hid (fun W b p q w h L r c s (a : BAt W b p q w h L r c s) => bmade_any a)
 have CR := Lib.hid (fun W => rowsK_any p W)
 have HSEQ := Lib.hid (fun (w0 : World) (g : GridAt w0 p q w h L) Bx hbx hcx => rowsK_seq g Bx hbx hcx)
 refine (callsIn_wide (n := 9)).1 ?_
 have h1 : 1 ≤ 9 := by omega
 refine callsIn_of_wp_marks Tryz.func77 rfl trivial ?_ rfl
 simp only [Tryz.ntmps77, List.size_toArray, List.length_cons, List.length_nil, Nat.reduceAdd, Nat.reduceSub, Array.replicate_succ, Array.replicate_zero, List.push_toArray, List.append_toArray, List.nil_append, List.cons_append]
 gi_wp2_with (first
  | (refine ⟨trivial, ?_⟩; gi_at_call 108; refine (callsIn_wide.2 (CM.out _ _ _ _ _ _ _ _ _ _ (a.below ((Below.refl _ _).alloc (Nat.le_refl _) _)))).mono ?_; rintro e X0 ⟨rfl, hX0⟩))
 have z0 : FBox X0 W.heap.size (.slice none 0 0) 0 0 false := by rw [← hX0]; exact World.alloc_heap_new W _
 have hb0 : Below W.heap.size W X0 := by rw [← hX0]; exact (Below.refl _ _).alloc (Nat.le_refl _) _
 have a0 := a.below hb0
 have hs0 : X0.heap.size = W.heap.size + 1 := by rw [← hX0]; simp
 clear hX0
 obtain ⟨d0, d1, d2, d3⟩ := a0.cells
 have hSd : X0.drew.cell? ⟨b, 1, none⟩ = some (.int .i64 r) ∧ X0.drew.cell? ⟨b, 2, none⟩ = some (.int .i64 c) ∧ X0.drew.cell? ⟨b, 3, none⟩ = some (.bool s) := ⟨d1, d2, d3⟩
 have zd := z0.below ((Below.refl _ _).drew)
 have ad := a0.below ((Below.refl _ _).drew)
 have bd : Below W.heap.size W X0.drew := hb0.drew
 have sd : X0.drew.heap.size = W.heap.size + 1 := hs0
 refine wpIn_normal ?_
 refine wpIn_region_tree (l₀ := none) (fun _ w1 w2 => (w1.cell? ⟨b, 1, none⟩ = some (.int .i64 r) ∧ w1.cell? ⟨b, 2, none⟩ = some (.int .i64 c) ∧ w1.cell? ⟨b, 3, none⟩ = some (.bool s)) → (w2.cell? ⟨b, 1, none⟩ = some (.int .i64 r) ∧ w2.cell? ⟨b, 2, none⟩ = some (.int .i64 c) ∧ w2.cell? ⟨b, 3, none⟩ = some (.bool s))) (by kernel_rfl) (by kernel_rfl) (fun _ _ h => h) ?_
 simp only [List.size_toArray, List.length_cons, List.length_nil, Nat.reduceAdd]
 refine' wpAnyY_read 0 (fun w' => w'.cell? ⟨b, 1, none⟩ = some (.int .i64 r) ∧ w'.cell? ⟨b, 2, none⟩ = some (.int .i64 c) ∧ w'.cell? ⟨b, 3, none⟩ = some (.bool s)) [] (v := _) (by kernel_rfl) (fun _ _ d _ _ h => by cases d <;> exact h) (by kernel_rfl) rfl (fun _ _ _ _ h hs => h hs) (fun _ h => h) hSd rfl ?_ ?_
 rotate_left 1
 ·rintro w' ⟨h1', h2', h3'⟩; go_simp; try with_reducible rfl
 try simp only [Act.put, List.setIfInBounds_toArray, List.set_cons_zero, List.set_cons_succ]
 refine' wpAnyY_read 1 (fun w' => w'.cell? ⟨b, 1, none⟩ = some (.int .i64 r) ∧ w'.cell? ⟨b, 2, none⟩ = some (.int .i64 c) ∧ w'.cell? ⟨b, 3, none⟩ = some (.bool s)) [] (v := _) (by kernel_rfl) (fun _ _ d _ _ h => by cases d <;> exact h) (by kernel_rfl) rfl (fun _ _ _ _ h hs => h hs) (fun _ h => h) hSd rfl ?_ ?_
 rotate_left 1
 ·rintro w' ⟨h1', h2', h3'⟩; go_simp; try with_reducible rfl
 try simp only [Act.put, List.setIfInBounds_toArray, List.set_cons_zero, List.set_cons_succ]
 refine' wpAnyY_read 2 (fun w' => w'.cell? ⟨b, 1, none⟩ = some (.int .i64 r) ∧ w'.cell? ⟨b, 2, none⟩ = some (.int .i64 c) ∧ w'.cell? ⟨b, 3, none⟩ = some (.bool s)) [] (v := _) (by kernel_rfl) (fun _ _ d _ _ h => by cases d <;> exact h) (by kernel_rfl) rfl (fun _ _ _ _ h hs => h hs) (fun _ h => h) hSd rfl ?_ ?_
 rotate_left 1
 ·rintro w' ⟨h1', h2', h3'⟩; go_simp; try with_reducible rfl
 try simp only [Act.put, List.setIfInBounds_toArray, List.set_cons_zero, List.set_cons_succ]
 refine' wpAnyY_read 3 (fun w' => w'.cell? ⟨b, 1, none⟩ = some (.int .i64 r) ∧ w'.cell? ⟨b, 2, none⟩ = some (.int .i64 c) ∧ w'.cell? ⟨b, 3, none⟩ = some (.bool s)) [] (v := _) (by kernel_rfl) (fun _ _ d _ _ h => by cases d <;> exact h) (by kernel_rfl) rfl (fun _ _ _ _ h hs => h hs) (fun _ h => h) hSd rfl ?_ ?_
 rotate_left 1
 ·rintro w' ⟨h1', h2', h3'⟩; go_simp; try with_reducible rfl
 try simp only [Act.put, List.setIfInBounds_toArray, List.set_cons_zero, List.set_cons_succ]
 refine' wpAnyY_read 4 (fun w' => w'.cell? ⟨b, 1, none⟩ = some (.int .i64 r) ∧ w'.cell? ⟨b, 2, none⟩ = some (.int .i64 c) ∧ w'.cell? ⟨b, 3, none⟩ = some (.bool s)) [] (v := _) (by kernel_rfl) (fun _ _ d _ _ h => by cases d <;> exact h) (by kernel_rfl) rfl (fun _ _ _ _ h hs => h hs) (fun _ h => h) hSd rfl ?_ ?_
 rotate_left 1
 ·rintro w' ⟨h1', h2', h3'⟩; go_simp; try with_reducible rfl
 try simp only [Act.put, List.setIfInBounds_toArray, List.set_cons_zero, List.set_cons_succ]
 refine' wpAnyY_read 5 (fun w' => w'.cell? ⟨b, 1, none⟩ = some (.int .i64 r) ∧ w'.cell? ⟨b, 2, none⟩ = some (.int .i64 c) ∧ w'.cell? ⟨b, 3, none⟩ = some (.bool s)) [] (v := _) (by kernel_rfl) (fun _ _ d _ _ h => by cases d <;> exact h) (by kernel_rfl) rfl (fun _ _ _ _ h hs => h hs) (fun _ h => h) hSd rfl ?_ ?_
 rotate_left 1
 ·rintro w' ⟨h1', h2', h3'⟩; go_simp; try with_reducible rfl
 try simp only [Act.put, List.setIfInBounds_toArray, List.set_cons_zero, List.set_cons_succ]
 refine' wpAnyY_read 6 (fun w' => w'.cell? ⟨b, 1, none⟩ = some (.int .i64 r) ∧ w'.cell? ⟨b, 2, none⟩ = some (.int .i64 c) ∧ w'.cell? ⟨b, 3, none⟩ = some (.bool s)) [] (v := _) (by kernel_rfl) (fun _ _ d _ _ h => by cases d <;> exact h) (by kernel_rfl) rfl (fun _ _ _ _ h hs => h hs) (fun _ h => h) hSd rfl ?_ ?_
 rotate_left 1
 ·rintro w' ⟨h1', h2', h3'⟩; go_simp; try with_reducible rfl
 try simp only [Act.put, List.setIfInBounds_toArray, List.set_cons_zero, List.set_cons_succ]
 refine' wpAnyY_read 7 (fun w' => w'.cell? ⟨b, 1, none⟩ = some (.int .i64 r) ∧ w'.cell? ⟨b, 2, none⟩ = some (.int .i64 c) ∧ w'.cell? ⟨b, 3, none⟩ = some (.bool s)) [] (v := _) (by kernel_rfl) (fun _ _ d _ _ h => by cases d <;> exact h) (by kernel_rfl) rfl (fun _ _ _ _ h hs => h hs) (fun _ h => h) hSd rfl ?_ ?_
 rotate_left 1
 ·rintro w' ⟨h1', h2', h3'⟩; go_simp; try with_reducible rfl
 try simp only [Act.put, List.setIfInBounds_toArray, List.set_cons_zero, List.set_cons_succ]
 refine' wpAnyY_read 8 (fun w' => w'.cell? ⟨b, 1, none⟩ = some (.int .i64 r) ∧ w'.cell? ⟨b, 2, none⟩ = some (.int .i64 c) ∧ w'.cell? ⟨b, 3, none⟩ = some (.bool s)) [] (v := _) (by kernel_rfl) (fun _ _ d _ _ h => by cases d <;> exact h) (by kernel_rfl) rfl (fun _ _ _ _ h hs => h hs) (fun _ h => h) hSd rfl ?_ ?_
 rotate_left 1
 ·rintro w' ⟨h1', h2', h3'⟩; go_simp; try with_reducible rfl
 try simp only [Act.put, List.setIfInBounds_toArray, List.set_cons_zero, List.set_cons_succ]
 refine' wpAnyY_read 9 (fun w' => w'.cell? ⟨b, 1, none⟩ = some (.int .i64 r) ∧ w'.cell? ⟨b, 2, none⟩ = some (.int .i64 c) ∧ w'.cell? ⟨b, 3, none⟩ = some (.bool s)) [] (v := _) (by kernel_rfl) (fun _ _ d _ _ h => by cases d <;> exact h) (by kernel_rfl) rfl (fun _ _ _ _ h hs => h hs) (fun _ h => h) hSd rfl ?_ ?_
 rotate_left 1
 ·rintro w' ⟨h1', h2', h3'⟩; go_simp; try with_reducible rfl
 try simp only [Act.put, List.setIfInBounds_toArray, List.set_cons_zero, List.set_cons_succ]
 refine' wpAnyY_read 10 (fun w' => w'.cell? ⟨b, 1, none⟩ = some (.int .i64 r) ∧ w'.cell? ⟨b, 2, none⟩ = some (.int .i64 c) ∧ w'.cell? ⟨b, 3, none⟩ = some (.bool s)) [] (v := _) (by kernel_rfl) (fun _ _ d _ _ h => by cases d <;> exact h) (by kernel_rfl) rfl (fun _ _ _ _ h hs => h hs) (fun _ h => h) hSd rfl ?_ ?_
 rotate_left 1
 ·rintro w' ⟨h1', h2', h3'⟩; go_simp; try with_reducible rfl
 try simp only [Act.put, List.setIfInBounds_toArray, List.set_cons_zero, List.set_cons_succ]
 refine' wpAnyY_read 11 (fun w' => w'.cell? ⟨b, 1, none⟩ = some (.int .i64 r) ∧ w'.cell? ⟨b, 2, none⟩ = some (.int .i64 c) ∧ w'.cell? ⟨b, 3, none⟩ = some (.bool s)) [] (v := _) (by kernel_rfl) (fun _ _ d _ _ h => by cases d <;> exact h) (by kernel_rfl) rfl (fun _ _ _ _ h hs => h hs) (fun _ h => h) hSd rfl ?_ ?_
 rotate_left 1
 ·rintro w' ⟨h1', h2', h3'⟩; go_simp; try with_reducible rfl
 try simp only [Act.put, List.setIfInBounds_toArray, List.set_cons_zero, List.set_cons_succ]
 refine' wpAnyY_read 12 (fun w' => w'.cell? ⟨b, 1, none⟩ = some (.int .i64 r) ∧ w'.cell? ⟨b, 2, none⟩ = some (.int .i64 c) ∧ w'.cell? ⟨b, 3, none⟩ = some (.bool s)) [] (v := _) (by kernel_rfl) (fun _ _ d _ _ h => by cases d <;> exact h) (by kernel_rfl) rfl (fun _ _ _ _ h hs => h hs) (fun _ h => h) hSd rfl ?_ ?_
 rotate_left 1
 ·rintro w' ⟨h1', h2', h3'⟩; go_simp; try with_reducible rfl
 try simp only [Act.put, List.setIfInBounds_toArray, List.set_cons_zero, List.set_cons_succ]
 refine' wpAnyY_read 13 (fun w' => w'.cell? ⟨b, 1, none⟩ = some (.int .i64 r) ∧ w'.cell? ⟨b, 2, none⟩ = some (.int .i64 c) ∧ w'.cell? ⟨b, 3, none⟩ = some (.bool s)) [] (v := _) (by kernel_rfl) (fun _ _ d _ _ h => by cases d <;> exact h) (by kernel_rfl) rfl (fun _ _ _ _ h hs => h hs) (fun _ h => h) hSd rfl ?_ ?_
 rotate_left 1
 ·rintro w' ⟨h1', h2', h3'⟩; go_simp; try with_reducible rfl
 try simp only [Act.put, List.setIfInBounds_toArray, List.set_cons_zero, List.set_cons_succ]
 refine' wpAnyY_read 14 (fun w' => w'.cell? ⟨b, 1, none⟩ = some (.int .i64 r) ∧ w'.cell? ⟨b, 2, none⟩ = some (.int .i64 c) ∧ w'.cell? ⟨b, 3, none⟩ = some (.bool s)) [] (v := _) (by kernel_rfl) (fun _ _ d _ _ h => by cases d <;> exact h) (by kernel_rfl) rfl (fun _ _ _ _ h hs => h hs) (fun _ h => h) hSd rfl ?_ ?_
 rotate_left 1
 ·rintro w' ⟨h1', h2', h3'⟩; go_simp; try with_reducible rfl
 try simp only [Act.put, List.setIfInBounds_toArray, List.set_cons_zero, List.set_cons_succ]
 refine' wpAnyY_read 15 (fun w' => w'.cell? ⟨b, 1, none⟩ = some (.int .i64 r) ∧ w'.cell? ⟨b, 2, none⟩ = some (.int .i64 c) ∧ w'.cell? ⟨b, 3, none⟩ = some (.bool s)) [] (v := _) (by kernel_rfl) (fun _ _ d _ _ h => by cases d <;> exact h) (by kernel_rfl) rfl (fun _ _ _ _ h hs => h hs) (fun _ h => h) hSd rfl ?_ ?_
 rotate_left 1
 ·rintro w' ⟨h1', h2', h3'⟩; go_simp; try with_reducible rfl
 try simp only [Act.put, List.setIfInBounds_toArray, List.set_cons_zero, List.set_cons_succ]
 refine wpAnyY_one (i := 16) (by kernel_rfl) rfl (fun K hK => ?_)
 go_wp2
 obtain ⟨X2, hX2⟩ : ∃ X, (X0.alloc (.cells #[.slice none 0 0, .int .i64 0, .int .i64 0, .bool false] 42)).drew = X := ⟨_, rfl⟩
 have z1 : FBox X2 (W.heap.size + 1) (.slice none 0 0) 0 0 false := by rw [← hX2, ← hs0]; exact World.alloc_heap_new X0 _
 have hb1 : Below X0.heap.size X0 X2 := by rw [← hX2]; exact ((Below.refl _ _).alloc (Nat.le_refl _) _).drew
 have a1 := a0.below hb1
 have z2 := z0.below hb1
 have b1 := bto hb0 hb1 hb0.size
 have s1 : X2.heap.size = W.heap.size + 1 + 1 := by rw [← hX2]; show (X0.alloc _).heap.size = _; simp [hs0]
 rw [hX2]
 obtain ⟨_, e1, e2, e3⟩ := a1.cells
 refine hK _ _ (fun _ => ⟨e1, e2, e3⟩) ?_
 clear hK K hX2 hSd zd ad bd sd e1 e2 e3 hb1 hb0 a0 z0 d0 d1 d2 d3
 refine wpAnyY_one (i := 17) (by kernel_rfl) rfl (fun K hK => ?_)
 obtain ⟨c0, c1, c2, c3, c4⟩ := z1.cells
 go_wp2
 obtain ⟨X3, hX3⟩ : ∃ X, ((((X2.setCell ⟨W.heap.size + 1, 0, none⟩ (.slice none 0 0)).setCell ⟨W.heap.size + 1, 1, none⟩ (.int .i64 r)).setCell ⟨W.heap.size + 1, 2, none⟩ (.int .i64 c)).setCell ⟨W.heap.size + 1, 3, none⟩ (.bool s)) = X := ⟨_, rfl⟩
 obtain ⟨z3, o3⟩ := FBox.fill z1 (.slice none 0 0) r c s X3 hX3
 have a3 := a1.only o3 (by simp; omega) (by simp; omega) (by simp; omega)
 have z4 : FBox X3 W.heap.size (.slice none 0 0) 0 0 false := o3.heap z2 (by simp)
 have b3 : Below W.heap.size W X3 := b1.trans (o3.below (by simp) (by omega))
 have s3 : X3.heap.size = W.heap.size + 1 + 1 := by rw [← hX3]; simp [World.setCell, s1]
 rw [hX3]
 obtain ⟨d0, e1, e2, e3⟩ := a3.cells
 refine hK _ _ (fun _ => ⟨e1, e2, e3⟩) (wpAnyY_end (by kernel_rfl) ?_)
 clear hK K hX3 o3 a1 z2 b1 s1 c0 c1 c2 c3 c4 z1 e1 e2 e3
 try simp only [Exit.then]
 gi_wp2_with (refine ⟨trivial, ?_⟩; gi_at_call 109; refine (callsIn_wide.2 (CR.out _)).mono ?_; rintro e X4 ⟨rfl, hX4⟩)
 have hbx := Boxed.new X3 163 (.pointer (some ⟨p, 0, none⟩))
 rw [hX4] at hbx
 have hb4 : Below X3.heap.size X3 X4 := by rw [← hX4]; exact (Below.refl _ _).alloc (Nat.le_refl _) _
 have a4 := a3.below hb4
 have z5 := z3.below hb4
 have z6 := z4.below hb4
 have b4 := bto b3 hb4 b3.size
 have s4 : X4.heap.size = W.heap.size + 1 + 1 + 1 := by rw [← hX4]; simp [s3]
 rw [s3] at hbx
 clear hX4 hb4 a3 z3 z4 b3 d0
 refine wpIn_rangeFunc_X rfl h1 (gf := 150) (lb := #[.pointer (some ⟨W.heap.size + 1 + 1, 0, none⟩)]) rfl trivial (enters_of Tryz.func150 (by kernel_rfl) rfl)
  (HSEQ.out X4 a4.g (W.heap.size + 1 + 1) hbx.lt hbx.cell _ (by omega)) KP.trans (KP.put a4.lt.2.1 a4.lt.2.2 hbx.lt) (Below.refl _ _) (fun _ => rfl)
  (FrI W (W.heap.size + 1) X4.heap.size b p q w h L r c s)
  (fun cd pre Z => False)
  (FrI.own (by omega))
  (fun cd s' A B row hs hg hr => hs.elim)
  (fun x s' A B row hs hg hr => ⟨hs.1, hs.2.1, own_heap hs.2.2 rfl hg hr⟩)
  ⟨⟨_, [], z5, ⟨World.ownsRow_nil _ _ _ _, fun i M hi => by simp [rowsG] at hi⟩⟩, z6, a4, b4⟩ ?_ ?_ ?_ ?_ ?_
 rotate_left 1
 ·intro Lq x Z K hK
  gi_wp2
  exact hK
 ·rintro Lq pre x Z hL1 hL2 ⟨⟨v, vs, hf, hv⟩, hz, ha, hb⟩ ⟨hx1, hx2, hx3⟩ hlen
  obtain ⟨k, g⟩ := x
  dsimp only at hx1 hx2 hx3 ⊢
  subst hx1
  have hkw : (lineL L w pre.length).length = w := lineL_length hgl hlen
  have HRS := Lib.hid (rowsG_succ L w pre.length)
  have hRl := rowsG_len L w pre.length
  have hZs : X4.heap.size ≤ Z.heap.size := by omega
  have hgL := hx3.lt
  obtain ⟨k, hk⟩ : ∃ k, k = pre.length := ⟨_, rfl⟩
  have HK := Lib.hid hk
  rw [← hk] at hkw HRS hRl hv hx3 hlen ⊢
  obtain ⟨M, hM⟩ : ∃ M, M = lineL L w k := ⟨_, rfl⟩
  obtain ⟨R, hR⟩ : ∃ R, R = rowsG L w k := ⟨_, rfl⟩
  rw [← hM] at hkw HRS hx3
  rw [← hR] at HRS hRl hv
  clear hk hM hR
  have ho := hv.o
  rw [hRl] at ho
  obtain ⟨av, cv, rfl⟩ := own_slice ho
  clear ho
  gi_wp2_with fail
  obtain ⟨Y1, hY1⟩ : ∃ Y, Z.drew = Y := ⟨_, rfl⟩
  have b1 : Below Z.heap.size Z Y1 := by rw [← hY1]; exact (Below.refl _ _).drew
  have f1 := hf.below b1
  have v1 := hv.below b1
  have g1 : GBlk Y1 g M := (b1.block g hgL).trans hx3
  have S1 := Lib.hid (show Y1.heap.size = Z.heap.size by rw [← hY1]; rfl)
  have hSd := f1.cells.1
  refine wpIn_region_tree (l₀ := some Lq) (fun j y y' => j ∉ [8] → y.cell? ⟨W.heap.size + 1, 0, none⟩ = some (.slice av k cv) → y'.cell? ⟨W.heap.size + 1, 0, none⟩ = some (.slice av k cv)) (by kernel_rfl) (by kernel_rfl) (fun _ _ h => h) ?_
  rw [hY1]
  simp only [List.size_toArray, List.length_cons, List.length_nil, Nat.reduceAdd]
  refine' wpAnyY_read 0 (fun _ => True) [] (v := _) (by kernel_rfl) (fun _ _ d _ _ h => by cases d <;> exact h) (by kernel_rfl) rfl (fun _ _ _ _ _ _ => trivial) (fun _ _ h => h) trivial rfl ?_ ?_
  rotate_left 1
  ·intro w' hw'; go_simp; try with_reducible rfl
  try simp only [Act.put, List.setIfInBounds_toArray, List.set_cons_zero, List.set_cons_succ]
  refine' wpAnyY_read 1 (fun w' => w'.cell? ⟨W.heap.size + 1, 0, none⟩ = some (.slice av k cv)) [8] (v := _) (by kernel_rfl) (fun _ _ d _ _ h => by cases d <;> exact h) (by kernel_rfl) rfl (fun j y y' hj h hs => h hj hs) (fun _ _ h => h) hSd rfl ?_ ?_
  rotate_left 1
  ·intro w' hw'; go_simp; try with_reducible rfl
  try simp only [Act.put, List.setIfInBounds_toArray, List.set_cons_zero, List.set_cons_succ]
  refine' wpAnyY_read 3 (fun _ => True) [] (v := _) (by kernel_rfl) (fun _ _ d _ _ h => by cases d <;> exact h) (by kernel_rfl) rfl (fun _ _ _ _ _ _ => trivial) (fun _ _ h => h) trivial rfl ?_ ?_
  rotate_left 1
  ·intro w' hw'; go_simp; try with_reducible rfl
  try simp only [Act.put, List.setIfInBounds_toArray, List.set_cons_zero, List.set_cons_succ]
  refine wpAnyY_one (i := 2) (by kernel_rfl) rfl (fun K hK => ?_)
  go_wp2
  have o2 := World.ownsRow_made (base := X4.heap.size) (e := 88) (size := 7) Y1 #[] 0 (by have := S1.out; omega) (by unfold maxLen; omega) rfl
  have b2 : Below Y1.heap.size Y1 (Y1.alloc (.cells #[] 88)) := (Below.refl _ _).alloc (Nat.le_refl _) _
  have n2 := (g1.alloc (.cells #[] 88)).news
  have s2 : (Y1.alloc (.cells #[] 88)).heap.size = Y1.heap.size + 1 := by simp
  refine hK _ _ (fun _ _ => (f1.below b2).cells.1) ?_
  clear hK K
  refine wpAnyY_one (i := 4) (by kernel_rfl) rfl (fun K hK => ?_)
  simp only [List.getElem_toArray, List.getElem_cons_succ, List.getElem_cons_zero]
  have hq1 := S1.out
  go_wp2_with (at_builtin; go_loud (refine wpList_append_own_at _ rfl _ _ 46 rfl X4.heap.size 88 i0 GC.zero.v 7 48 Tryz.underlying46 hi hz0 hz1 hz2 rfl (by decide) _ _ _ rfl o2 _ w w (flatV M) rfl (by rw [flatV_length, hkw, Nat.mul_comm]) n2 (flatV_one M) (by unfold maxLen; omega) (by omega) (by omega) ?_; intro v4 Y4 ho4 hg4 _ _))
  have b4' : Below Y1.heap.size Y1 Y4 := b2.grown hg4 (by omega) (fun k e => by have h' : some Y1.heap.size = some k := e; injection h' with h'; omega)
  rw [Nat.zero_add, List.nil_append] at ho4
  obtain ⟨a4', c4', rfl⟩ := own_sliceF ho4
  have f4 := f1.below b4'
  have v4R := v1.below b4'
  have s4' := b4'.size
  refine hK _ _ (fun _ _ => f4.cells.1) ?_
  clear hK K o2 b2 n2 s2 hg4
  refine wpAnyY_one (i := 5) (by kernel_rfl) rfl (fun K hK => ?_)
  go_wp2
  have t5 := Boxed.new Y4 46 (.slice a4' w c4')
  have b5 : Below Y4.heap.size Y4 (Y4.alloc (.cells #[.slice a4' w c4'] 46)) := (Below.refl _ _).alloc (Nat.le_refl _) _
  have v5 := v4R.below b5
  have f5 := f4.below b5
  have ho5 := own_belowF ho4 b5
  refine hK _ _ (fun _ _ => f5.cells.1) ?_
  clear hK K
  have bb5 : Below Z.heap.size Z (Y4.alloc (.cells #[.slice a4' w c4'] 46)) := bnext b1 (bnext b4' b5)
  obtain ⟨Y5, hY5⟩ : ∃ Y, Y4.alloc (.cells #[.slice a4' w c4'] 46) = Y := ⟨_, rfl⟩
  rw [hY5] at t5 v5 f5 ho5 bb5 ⊢
  clear hY5 b5
  have n5 := boxed_newsF t5
  have s5 := bb5.size
  refine wpAnyY_one (i := 6) (by kernel_rfl) rfl (fun K hK => ?_)
  simp only [List.getElem_toArray, List.getElem_cons_succ, List.getElem_cons_zero]
  go_wp2_with (at_builtin; go_loud (refine wpList_append_own_at _ rfl _ _ 40 rfl X4.heap.size 46 j0 (.slice none 0 0) 1 24 Tryz.underlying40 hj hy0 hy1 hy2 rfl (by decide) _ _ _ rfl v5.o _ 1 1 [_] rfl rfl n5 (by simp [Value.oneCell']) (by unfold maxLen; omega) (by omega) (by omega) ?_; intro v6 Y6 ho6 hg6 _ _))
  have hR6 := v5.app (by rw [hkw]; exact ho5) hg6 ho6
  have hnf : W.heap.size + 1 < X4.heap.size := by omega
  have hbut : But X4.heap.size (W.heap.size + 1) Z Y6 := (But.of_below (B := W.heap.size + 1) hZs bb5).grown (by omega) hg6 (fun k e => by obtain ⟨h1', cur', h2'⟩ := own_cells v5.o k e; exact ⟨h1', _, h2', rfl⟩)
  have f6 : FBox Y6 (W.heap.size + 1) (.slice av k cv) r c s := ((Below.refl X4.heap.size Y5).grown hg6 (by omega) (fun k e => (own_cells v5.o k e).1)).block _ hnf |>.trans f5
  obtain ⟨g6, c6, rfl⟩ := ownsRow_succ ho6
  refine hK _ _ (fun _ _ => f6.cells.1) ?_
  clear hK K n5 t5 v5 f5 ho5 ho6 hg6 v4R f4 f1 v1 g1
  refine' wpAnyY_read 7 (fun _ => True) [] (v := _) (by kernel_rfl) (fun _ _ d _ _ h => by cases d <;> exact h) (by kernel_rfl) rfl (fun _ _ _ _ _ _ => trivial) (fun _ _ h => h) trivial rfl ?_ ?_
  rotate_left 1
  ·intro w' hw'; go_simp; try with_reducible rfl
  try simp only [Act.put, List.setIfInBounds_toArray, List.set_cons_zero, List.set_cons_succ]
  refine wpAnyY_one (i := 8) (by kernel_rfl) rfl (fun K hK => ?_)
  obtain ⟨e0, _, _, _, e4⟩ := f6.cells
  go_wp2
  refine hK _ _ (fun hn => absurd (by decide) hn) (wpAnyY_end (by kernel_rfl) ?_)
  clear hK K e0 e4
  rw [hRl] at hR6
  have hbut2 := hbut.setCell 0 (.slice (some ⟨g6, 0, none⟩) (k + 1) c6)
  have f7 := f6.set (.slice (some ⟨g6, 0, none⟩) (k + 1) c6)
  have v7 := hR6.set (k := W.heap.size + 1) hnf (.slice (some ⟨g6, 0, none⟩) (k + 1) c6)
  have hal := ha.lt
  refine ⟨hbut2.from, ⟨hbut2.block p (by omega) (by omega), hbut2.block q (by omega) (by omega), hbut2.block _ (by omega) (by omega), hbut2.size⟩, ?_⟩
  unfold FrI
  rw [show (pre ++ [(k, g)]).length = k + 1 by simp [HK.out], HRS.out]
  exact ⟨⟨_, _, f7, v7⟩, (hbut2.block _ (by omega) (by omega)).trans hz, ⟨(hbut2.block _ (by omega) (by omega)).trans ha.blk, { ha.g with head := (hbut2.block _ (by omega) (by omega)).trans ha.g.head, blk := (hbut2.block _ (by omega) (by omega)).trans ha.g.blk }, ha.bp, ha.bq⟩, hb.trans (hbut2.below (by omega) (by omega))⟩
 ·rintro D xs Z hD hxs ⟨⟨v, vs, hf, hv⟩, hz, ha, hb⟩ hK
  have hRl := rowsG_len L w h
  rw [hxs] at hv
  obtain ⟨R, hR⟩ : ∃ R, R = rowsG L w h := ⟨_, rfl⟩
  rw [← hR] at hRl hv
  have ho := hv.o
  rw [hRl] at ho
  obtain ⟨av, cv, rfl⟩ := own_sliceF ho
  obtain ⟨X, hX⟩ : ∃ X, ((((Z.setCell ⟨W.heap.size, 0, none⟩ (.slice av h cv)).setCell ⟨W.heap.size, 1, none⟩ (.int .i64 r)).setCell ⟨W.heap.size, 2, none⟩ (.int .i64 c)).setCell ⟨W.heap.size, 3, none⟩ (.bool s)) = X := ⟨_, rfl⟩
  obtain ⟨fX, oX⟩ := FBox.fill hz (.slice av h cv) r c s X hX
  have hKX := oX.heap hK (by simp; omega)
  have vX : RowsV X4.heap.size X (.slice av h cv) vs R := by
   have hq : Below X4.heap.size Z X ∨ True := .inr trivial
   rw [← hX]
   exact ((((hv.setAt (k := W.heap.size) (by omega) 0 _).setAt (k := W.heap.size) (by omega) 1 _).setAt (k := W.heap.size) (by omega) 2 _).setAt (k := W.heap.size) (by omega) 3 _)
  have bX : Below W.heap.size W X := hb.trans (oX.below (by simp) hb.size)
  have fD : FBox (X.putObj D (.deferred none)) W.heap.size (.slice av h cv) r c s := own_heap (B := 0) fX rfl (grownBy_putObj' X D (.deferred none)) (fun r e => by cases e; exact ⟨Nat.zero_le _, _, hKX, rfl⟩)
  have vD := vX.far (grownBy_putObj' X D (.deferred none)) (fun r e => by cases e; exact ⟨_, hKX, rfl⟩)
  have bD : Below W.heap.size W (X.putObj D (.deferred none)) := bX.trans (belowK_b (w := W) (Nat.le_refl _) X D _ _ (by omega) hKX rfl rfl)
  obtain ⟨q1, q2, q3⟩ := RowsAt.of_own hRl vD
  have HR := Lib.hid hR
  obtain ⟨c0, c1, c2, c3, _⟩ := hf.cells
  obtain ⟨e0, e1, e2, e3, e4⟩ := hz.cells
  have HX := Lib.hid hX
  clear hR hxs hv hz ho hX
  gi_wp2
  rw [HX.out]
  refine ⟨by simp, .inl ⟨_, _, rfl, run_takeDeferred hKX, ?_⟩⟩
  refine ⟨_, results_cell_row rfl _ _ W.heap.size 42 _ (0, 0) _ rfl fD Tryz.underlying42 rfl (by kernel_rfl), ?_⟩
  rw [← HR.out]
  exact ⟨av, cv, by rw [hRl], by rw [hRl]; exact q1, by rw [hRl]; exact ⟨q2, q3⟩, bD⟩
 ·rintro D cd pre Z hD hpre hx hK
  exact hx.elim
end Go.Proofs.YtjkajojjehgmdaaGreat
namespace Go.Proofs.YtjkajojjehgmdaaGreat
open Go.RowKit Go.Shelf Go.Maps
def lineT (M : List GC) : List UInt8 := M.flatMap fun c => c.s.data.toList
theorem lineT_take (M : List GC) (k : Nat) (h : k < M.length) : lineT (M.take (k + 1)) = lineT (M.take k) ++ (nth GC.zero M k).s.data.toList := by
 unfold lineT
 rw [List.take_succ_eq_append_getElem h, List.flatMap_append, nth_eq _ _ _ h]
 simp
theorem lineT_len (M : List GC) (h : ∀ c ∈ M, c.s.size ≤ 64) : (lineT M).length ≤ 64 * M.length := by
 induction M with
 | nil => simp [lineT]
 | cons c M ih =>
  have h1 := ih (fun d hd => h d (List.mem_cons_of_mem _ hd))
  have h2 := h c (List.mem_cons_self ..)
  unfold lineT at h1 ⊢
  rw [List.flatMap_cons, List.length_append, List.length_cons]
  have : c.s.data.toList.length = c.s.size := by rw [Array.length_toList]; rfl
  omega
theorem S_list (s : ByteArray) : S s.data.toList = s := by
 obtain ⟨l⟩ := s
 unfold S
 simp
def cellOf (y : Sy) (x : List UInt8) : List GC := if colsL x = 2 then [⟨S x, 2, y⟩, ⟨⟨#[]⟩, 0, y⟩] else [⟨S x, 1, y⟩]
def cellsOf (y : Sy) (C : List (List UInt8)) : List GC := C.flatMap (cellOf y)
theorem cellOf_len (y : Sy) (x : List UInt8) (h : Clu x) : ((cellOf y x).length : Int) = colsL x := by
 have := h.cols
 unfold cellOf
 split
 ·simp; omega
 ·simp; omega
theorem cellsOf_len (y : Sy) : ∀ (C : List (List UInt8)), (∀ x ∈ C, Clu x) → ((cellsOf y C).length : Int) = sumC C
 | [], _ => rfl
 | x :: C, h => by
  have h1 := cellOf_len y x (h x (List.mem_cons_self ..))
  have h2 := cellsOf_len y C (fun z hz => h z (List.mem_cons_of_mem _ hz))
  unfold cellsOf at h2 ⊢
  rw [List.flatMap_cons, List.length_append, sumC_cons]
  omega
def GC.tail (y : Sy) : GC := ⟨⟨#[]⟩, 0, y⟩
def okB (c : GC) : Bool := mayF c.y && (decide (c.w = 1 ∨ c.w = 2) && (isCl c.s.data.toList && decide (widthL c.s.data.toList = c.w ∧ c.s.size ≤ 64)))
def wholeB : List GC → Bool
 | [] => true
 | c :: t => okB c && (if c.w = 1 then wholeB t else match t with
  | [] => false
  | d :: t' => eqC d (GC.tail c.y) && wholeB t')
def wholeTl (y : Sy) : List GC → Bool
 | [] => false
 | d :: t' => eqC d (GC.tail y) && wholeB t'
theorem wholeB_cons (c : GC) (t : List GC) : wholeB (c :: t) = (okB c && (if c.w = 1 then wholeB t else wholeTl c.y t)) := by
 cases t with
 | nil => simp [wholeB, wholeTl]
 | cons d t' => rw [wholeB]; rfl
end Go.Proofs.YtjkajojjehgmdaaGreat
