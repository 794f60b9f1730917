/- Wrap: the page that is filled; program. No condition. -/
import Derived.Test.YtmdpmjabjijjiaaWrapM
import Derived.Test.YtmdpmjabjijjiaaRegP
namespace Go.Proofs.Ytmdpmjabjijjiaa
set_option linter.unusedVariables false
set_option linter.unusedSimpArgs false
open Go.RowKit Go.Shelf Go.Maps
theorem grown_freeze (W : World) (g n : Nat) : W.grownBy (W.freeze ⟨g, 0, none⟩ n) (some g) := by
  unfold World.freeze
  split
  · exact ⟨rfl, rfl, rfl, Nat.le_refl _, fun _ _ _ => rfl⟩
  · refine ⟨rfl, rfl, rfl, by simp, fun k _ hk => ?_⟩
    simp only [Array.getElem?_modify]
    rw [if_neg (fun e => hk (by rw [← e]))]
theorem grown_drew {W W' : World} {row : Option Nat} (h : W.drew.grownBy W' row) : W.grownBy W' row := ⟨h.os, h.tape, h.output, h.size, h.block⟩
def StrRet2 (v : Value) (W : World) (l : List UInt8) (e : Ending) (w' : World) : Prop := e = .returned (.string (S l)) ∧ W.grownBy w' v.ownBlock
set_option maxRecDepth 100000 in
set_option maxHeartbeats 2000000 in
theorem string_some {n₀ b o : Nat} {T : TypeId} {W : World} {cs : Array Value} {p v : Value} {bs : List UInt8} (h : SB n₀ b o T W cs p v bs) (h0 : bs ≠ []) :
    Calls Try.prog 93 #[.pointer (some ⟨b, o, none⟩)] W (StrRet2 v W bs) := by
  obtain ⟨g, c, cur, rfl, hbg, hg, hnc, hcm, hcs, htake⟩ : ∃ g cap cur, v = .slice (some ⟨g, 0, none⟩) bs.length cap ∧ n₀ ≤ g ∧ W.heap[g]? = some (.cells cur 5 (0, 0)) ∧ bs.length ≤ cap ∧ cap ≤ maxLen ∧ cur.size = cap * 1 ∧ cur.toList.take (bs.length * 1) = u8v bs := by
    rcases h.own.2 with ⟨_, hz⟩ | ⟨g, cap, cur, hv, r⟩
    · exact absurd (List.length_eq_zero_iff.1 hz) h0
    · exact ⟨g, cap, cur, hv, r⟩
  have hl0 : bs.length ≠ 0 := by simpa using h0
  have c1 : W.drew.cell? ⟨b, o + 1, none⟩ = some (.slice (some ⟨g, 0, none⟩) bs.length c) := h.cells.2.1
  have hSD : (Builtin.unsafeSliceData_ #[83] 143 #[.slice (some ⟨g, 0, none⟩) bs.length c]).run Try.prog W.drew = .ok (.pointer (some ⟨g, 0, none⟩)) W.drew := Lib.run_unsafeSliceData_row _ _ _ _ _ _ (by omega)
  have hUS : (Builtin.unsafeString_ #[143, 3] 9 #[.pointer (some ⟨g, 0, none⟩), .int .i64 bs.length]).run Try.prog W.drew = .ok (.string (S bs)) (W.drew.freeze ⟨g, 0, none⟩ bs.length) := by
    refine Lib.run_unsafeString_row W.drew 143 3 9 5 Try.underlying143 cellsU8 g cur.size (by have hg' : W.drew.heap[g]? = some (.cells cur 5 (0, 0)) := hg; simp [World.shape?, hg']) bs h0 (by omega) (by unfold maxLen at hcm; omega) ?_
    intro j x hx
    exact h.own.cells (g := g) rfl j (.int .u8 x.toNat) (by simp [u8v, hx])
  have hfin : W.grownBy (W.drew.freeze ⟨g, 0, none⟩ bs.length) (Value.slice (some ⟨g, 0, none⟩) bs.length c).ownBlock := grown_drew (grown_freeze W.drew g bs.length)
  have HF := Lib.hid hfin
  clear hfin hl0 h0 hg hcs htake hcm hnc hbg
  go_enter Try.func93, Try.ntmps93
  go_wp2
  go_region
  all_goals (go_wp2; go_ret; exact ⟨rfl, HF.out⟩)
theorem resetB_any {W : World} {b o : Nat} (h0 : (W.cell? ⟨b, o, none⟩).isSome = true) (h1 : (W.cell? ⟨b, o + 1, none⟩).isSome = true) (f0 : W.frozen? ⟨b, o, none⟩ = false) (f1 : W.frozen? ⟨b, o + 1, none⟩ = false) :
    Calls Try.prog 133 #[.pointer (some ⟨b, o, none⟩)] W fun e w' => e = .returned (.tuple #[]) ∧ (W.setCell ⟨b, o, none⟩ (.pointer none)).setCell ⟨b, o + 1, none⟩ (.slice none 0 0) = w' := by
  obtain ⟨x0, h0⟩ := Option.isSome_iff_exists.1 h0
  obtain ⟨x1, h1⟩ := Option.isSome_iff_exists.1 h1
  go_enter Try.func133, Try.ntmps133
  go_wp2
  go_end0
  exact ⟨rfl, rfl⟩
theorem own_two3 {W : World} {n₀ s s' : Nat} {e e' : TypeId} {v v' : Value} {n k : Nat} {xs ys : List Value} (h : W.ownsRow n₀ e s v n xs) (h' : W.ownsRow n₀ e' s' v' k ys) (hne : e ≠ e') : v.ownBlock = none ∨ v.ownBlock ≠ v'.ownBlock := by
  cases hv : v.ownBlock with
  | none => exact .inl rfl
  | some g =>
    refine .inr (fun e1 => ?_)
    obtain ⟨_, cur, h2⟩ := own_cells h g hv
    obtain ⟨_, cur', h3⟩ := own_cells h' g e1.symm
    rw [h2] at h3
    injection h3 with h3
    injection h3 with _ h4
    exact hne h4
theorem one_at' (W : World) (v : Value) (t : TypeId) : ∀ (j : Nat) (u : Value), [v][j]? = some u → (W.alloc (.cells #[v] t)).cell? ((⟨W.heap.size, 0, none⟩ : Addr).add j) = some u := one_at W v t
/-- The page at block B: its cells, the builder's row and the row of lines. -/
structure PgAt (n₀ B : Nat) (W : World) (w : Int) (st : Pg) (cs : Array Value) (lines p v : Value) : Prop where
  lay : cs = #[.int .i64 w, lines, p, v, .int .i64 st.2.2]
  sb : SB n₀ B 2 125 W cs p v st.2.1
  own : W.ownsRow n₀ 9 1 lines st.1.length (strV st.1)
/-- Blocks that are no rows of bytes and no rows of strings, but for B, are as they were. -/
def KeepU (B : Nat) (W W' : World) : Prop := ∀ k o, W.heap[k]? = some o → k ≠ B → (∀ cur fr, o ≠ .cells cur 5 fr) → (∀ cur fr, o ≠ .cells cur 9 fr) → W'.heap[k]? = some o
theorem KeepU.refl (B : Nat) (W : World) : KeepU B W W := fun _ _ h _ _ _ => h
theorem KeepU.trans {B : Nat} {X Y Z : World} (h : KeepU B X Y) (k : KeepU B Y Z) : KeepU B X Z := fun j o h1 h2 h3 h4 => k j o (h j o h1 h2 h3 h4) h2 h3 h4
theorem KeepU.setCell {B : Nat} {X W : World} (h : KeepU B X W) (o : Nat) (v : Value) : KeepU B X (W.setCell ⟨B, o, none⟩ v) := fun j q h1 h2 h3 h4 => (Below.heap_setCell _ _ _ _ (by exact h2)).trans (h j q h1 h2 h3 h4)
theorem KeepU.below {B : Nat} {X W W' : World} (h : KeepU B X W) (hb : Below W.heap.size W W') : KeepU B X W' := fun k o h1 h2 h3 h4 => by
  have := h k o h1 h2 h3 h4
  exact (hb.block k (Array.getElem?_eq_some_iff.1 this).1).trans this
theorem KeepU.drew {B : Nat} {X W : World} (h : KeepU B X W) : KeepU B X W.drew := h
theorem KeepU.keepT {B : Nat} {X W W' : World} (h : KeepU B X W) (hk : KeepT B W W') : KeepU B X W' := fun k o h1 h2 h3 h4 => hk k o (h k o h1 h2 h3 h4) h2 h3
theorem KeepU.grown {B n₀ : Nat} {X W W' : World} {e : TypeId} {s : Nat} {v : Value} {n : Nat} {xs : List Value} (h : KeepU B X W) (he : e = 5 ∨ e = 9) (ho : W.ownsRow n₀ e s v n xs) (hg : W.grownBy W' v.ownBlock) : KeepU B X W' := fun k o h1 h2 h3 h4 => by
  have h5 := h k o h1 h2 h3 h4
  refine (hg.block k (Array.getElem?_eq_some_iff.1 h5).1 (fun e1 => ?_)).trans h5
  obtain ⟨_, cur, h6⟩ := own_cells ho k e1.symm
  rw [h5] at h6
  rcases he with rfl | rfl
  · exact h3 cur (0, 0) (by injection h6)
  · exact h4 cur (0, 0) (by injection h6)
theorem own_keepT {b n₀ : Nat} {W W' : World} {e : TypeId} {s : Nat} {v : Value} {n : Nat} {xs : List Value} (h : W.ownsRow n₀ e s v n xs) (he : e ≠ 5) (hk : KeepT b W W') (hb : b < n₀) : W'.ownsRow n₀ e s v n xs := by
  rcases h with ⟨h0, h1 | ⟨g, cap, cur, h1, h2, h3, h4⟩⟩
  · exact ⟨h0, .inl h1⟩
  · exact ⟨h0, .inr ⟨g, cap, cur, h1, h2, hk g _ h3 (by omega) (fun cur' fr e1 => by injection e1 with _ e2; exact he e2), h4⟩⟩
def PgPost (n₀ B : Nat) (W : World) (w : Int) (st : Pg) (e : Ending) (w' : World) : Prop :=
  e = .returned (.tuple #[]) ∧ (∃ cs lines p v, PgAt n₀ B w' w st cs lines p v) ∧ But n₀ B W w' ∧ KeepU B W w'
theorem PgAt.cells {n₀ B : Nat} {W : World} {w : Int} {st : Pg} {cs : Array Value} {lines p v : Value} (h : PgAt n₀ B W w st cs lines p v) :
    (W.cell? ⟨B, 0, none⟩ = some (.int .i64 w) ∧ W.cell? ⟨B, 1, none⟩ = some lines ∧ W.cell? ⟨B, 2, none⟩ = some p ∧ W.cell? ⟨B, 3, none⟩ = some v ∧ W.cell? ⟨B, 4, none⟩ = some (.int .i64 st.2.2)) ∧
    (W.frozen? ⟨B, 0, none⟩ = false ∧ W.frozen? ⟨B, 1, none⟩ = false ∧ W.frozen? ⟨B, 2, none⟩ = false ∧ W.frozen? ⟨B, 3, none⟩ = false ∧ W.frozen? ⟨B, 4, none⟩ = false) := by
  have hb := h.sb.blk
  rw [h.lay] at hb
  exact ⟨⟨(blk_at hb rfl).1, (blk_at hb rfl).1, (blk_at hb rfl).1, (blk_at hb rfl).1, (blk_at hb rfl).1⟩, (blk_at (x := .int .i64 w) hb rfl).2, (blk_at (x := lines) hb rfl).2, (blk_at (x := p) hb rfl).2, (blk_at (x := v) hb rfl).2, (blk_at (x := .int .i64 st.2.2) hb rfl).2⟩
theorem PgAt.make {n₀ B : Nat} {W : World} {w : Int} {d : List (List UInt8)} {l : List UInt8} {u : Int} {lines p v : Value} (hb : W.heap[B]? = some (.cells #[.int .i64 w, lines, p, v, .int .i64 u] 125 (0, 0)))
    (hp : p = .pointer none ∨ p = .pointer (some ⟨B, 2, none⟩)) (hlt : B < n₀) (hle : n₀ ≤ W.heap.size) (ho : W.ownsRow n₀ 5 1 v l.length (u8v l)) (hl : W.ownsRow n₀ 9 1 lines d.length (strV d)) :
    PgAt n₀ B W w (d, l, u) #[.int .i64 w, lines, p, v, .int .i64 u] lines p v :=
  ⟨rfl, ⟨hb, rfl, rfl, hp, hlt, hle, ho⟩, hl⟩
theorem PgAt.below {n₀ B : Nat} {W W' : World} {w : Int} {st : Pg} {cs : Array Value} {lines p v : Value} (h : PgAt n₀ B W w st cs lines p v) (hb : Below W.heap.size W W') : PgAt n₀ B W' w st cs lines p v := by
  have hg := grown_of_below hb
  have hlt := h.sb.lt
  have hle := h.sb.le
  exact ⟨h.lay, ⟨(hb.block B (by omega)).trans h.sb.blk, h.sb.hp, h.sb.hv, h.sb.pn, hlt, Nat.le_trans hle hb.size, h.sb.own.kept hg (by cases hv : v.ownBlock <;> simp)⟩, h.own.kept hg (by cases hv : lines.ownBlock <;> simp)⟩
set_option maxRecDepth 100000 in
set_option maxHeartbeats 4000000 in
theorem pgend_any {n₀ B : Nat} {W : World} {w : Int} {st : Pg} {cs : Array Value} {lines p v : Value} (h : PgAt n₀ B W w st cs lines p v) (hu : 0 ≤ st.2.2) (hl : 0 < st.2.2 → st.2.1 ≠ []) (hd : st.1.length ≤ 1000000) :
    Calls Try.prog 107 #[.pointer (some ⟨B, 0, none⟩)] W (PgPost n₀ B W w (endG st)) := by
  obtain ⟨i0, hi, hz0, hz1, hz2⟩ := info_parts infoStrc
  obtain ⟨⟨c0, c1, c2, c3, c4⟩, f0, f1, f2, f3, f4⟩ := h.cells
  have hlt := h.sb.lt
  have hle := h.sb.le
  obtain ⟨d, l, u⟩ := st
  dsimp only at c4 hu hl hd
  have hne : (9 : TypeId) ≠ 5 := by decide
  have hcs := h.lay
  subst hcs
  have hblk := h.sb.blk
  have hnB : ∀ k, v.ownBlock = some k → B ≠ k := fun k e1 => by have := (own_cells h.sb.own k e1).1; omega
  have hnL : ∀ k, lines.ownBlock = some k → B ≠ k := fun k e1 => by have := (own_cells h.own k e1).1; omega
  have CR := Lib.hid (fun W h0 h1 f0 f1 => @resetB_any W B 2 h0 h1 f0 f1)
  by_cases h0 : 0 < u
  · have hen : endG (d, l, u) = (d ++ [l], [], 0) := by unfold endG; rw [if_pos h0]
    have CS := Lib.hid (string_some h.sb.drew (hl h0))
    rw [hen]
    clear hen
    have hlto := World.block_lt_of_cell? _ _ c1
    go_enter Try.func107, Try.ntmps107
    go_wp2
    refine wp_region_mix [(true, 0), (true, 1), (true, 2), (true, 3), (true, 4), (true, 5), (true, 6), (true, 7), (false, 8), (false, 9), (false, 10), (false, 11), (false, 12), (false, 13)] (fun w' => w'.cell? ⟨B, 1, none⟩ = some lines) (by kernel_rfl) (by kernel_rfl) (by rfl) (by kernel_rfl) (by kernel_rfl) (fun _ _ d _ _ h => by cases d <;> exact h) c1 ?_
    simp only [mixL, List.getElem?_cons_succ, List.getElem?_cons_zero]
    repeat (refine' wpMix_read (v := _) rfl ?_ ?_; rotate_left 1; (intro w' hw'; go_simp; try with_reducible rfl); try simp only [Act.put, List.setIfInBounds_toArray, List.set_cons_zero, List.set_cons_succ])
    refine wpMix_act (fun K hK => ?_)
    go_wp2_with (go_at_call 93; refine (CS.out).mono ?_; rintro e w2 ⟨rfl, hg2⟩)
    have hblk2 : w2.heap[B]? = some (.cells #[.int .i64 w, lines, p, v, .int .i64 u] 125 (0, 0)) := (hg2.block B (by show B < W.heap.size; omega) (fun e1 => hnB B e1.symm rfl)).trans hblk
    have ho2 : w2.ownsRow n₀ 9 1 lines d.length (strV d) := h.own.drew.kept hg2 (own_two3 h.own h.sb.own hne)
    have hbut2 : But n₀ B W w2 := (But.refl n₀ B W).drew.grown (by show n₀ ≤ W.heap.size; exact hle) hg2 (fun k e1 => by obtain ⟨h1, cur, h2⟩ := own_cells h.sb.own k e1; exact ⟨h1, _, h2, rfl⟩)
    have hs2 : n₀ ≤ w2.heap.size := Nat.le_trans hle hbut2.size
    have hku2 : KeepU B W w2 := (KeepU.refl B W).drew.grown (.inl rfl) h.sb.own.drew hg2
    have hc2 := (blk_at (o := 1) (x := lines) hblk2 rfl).1
    refine hK _ _ (fun _ => hc2) ?_
    clear hK K hg2
    refine wpMix_act (fun K hK => ?_)
    go_wp2
    refine hK _ _ (fun _ => (cell_alloc_l _ hc2 : (w2.alloc _).cell? _ = _)) ?_
    clear hK K
    refine wpMix_act (fun K hK => ?_)
    refine wpList_append_own _ rfl _ _ 23 rfl n₀ 9 i0 (.string ⟨#[]⟩) 1 16 Try.underlying23 hi hz0 hz1 hz2 rfl (by decide) lines d.length (strV d) rfl (ho2.alloc _) ⟨w2.heap.size, 0, none⟩ 1 1 [.string (S l)] rfl rfl (one_at' w2 (.string (S l)) 9) (by intro u hu; rw [List.mem_singleton.1 hu]; rfl) (by unfold maxLen; omega) (by omega) (by simp; omega) ?_
    intro v4 w4 ho4 hg4 _
    have hlt2 : B < (w2.alloc (.cells #[.string (S l)] 9)).heap.size := by simp; omega
    have hblk4 : w4.heap[B]? = some (.cells #[.int .i64 w, lines, p, v, .int .i64 u] 125 (0, 0)) := (hg4.block B hlt2 (fun e1 => hnL B e1.symm rfl)).trans (((World.grownBy_alloc w2 (.cells #[.string (S l)] 9) none).block B (by omega) (by simp)).trans hblk2)
    have hbut4 : But n₀ B W w4 := (hbut2.alloc hs2 _).grown (by simp; omega) hg4 (fun k e1 => by obtain ⟨h1, cur, h2⟩ := own_cells (ho2.alloc _) k e1; exact ⟨h1, _, h2, rfl⟩)
    have hku4 : KeepU B W w4 := (hku2.below ((Below.refl _ w2).alloc (Nat.le_refl _) (.cells #[.string (S l)] 9))).grown (.inr rfl) (ho2.alloc _) hg4
    have hc4 := (blk_at (o := 1) (x := lines) hblk4 rfl).1
    have hf4 := (blk_at (o := 1) (x := lines) hblk4 rfl).2
    obtain ⟨g4, c4', rfl⟩ := own_ne ho4 (by omega)
    refine hK _ _ (fun _ => hc4) ?_
    clear hK K hg4
    refine wpMix_act (fun K hK => ?_)
    go_wp2
    refine hK _ _ (fun _ => hc4) ?_
    clear hK K
    refine wpMix_act (fun K hK => ?_)
    go_wp2
    refine hK _ _ (fun _ => hc4) ?_
    clear hK K
    refine wpMix_act (fun K hK => ?_)
    go_wp2
    refine hK _ _ (fun h => absurd rfl h) ?_
    clear hK K
    refine wpMix_nil ?_
    obtain ⟨w5, hw5⟩ : ∃ w5, w4.setCell ⟨B, 1, none⟩ (.slice (some ⟨g4, 0, none⟩) (d.length + 1) c4') = w5 := ⟨_, rfl⟩
    have hblk5 : w5.heap[B]? = some (.cells #[.int .i64 w, .slice (some ⟨g4, 0, none⟩) (d.length + 1) c4', p, v, .int .i64 u] 125 (0, 0)) := hw5 ▸ (heap_setCell_same _ _ _ _ _ _ hblk4).trans rfl
    have hbut5 : But n₀ B W w5 := hw5 ▸ hbut4.setCell _ _
    have hku5 : KeepU B W w5 := hw5 ▸ hku4.setCell _ _
    have ho5 : w5.ownsRow n₀ 9 1 (.slice (some ⟨g4, 0, none⟩) (d.length + 1) c4') (d.length + 1) (strV d ++ [.string (S l)]) := hw5 ▸ own_set ho4 hlt _
    have k2 := blk_at (o := 2) (x := p) hblk5 rfl
    have k3 := blk_at (o := 3) (x := v) hblk5 rfl
    obtain ⟨w6, hw6⟩ : ∃ w6, (w5.setCell ⟨B, 2, none⟩ (.pointer none)).setCell ⟨B, 2 + 1, none⟩ (.slice none 0 0) = w6 := ⟨_, rfl⟩
    have hblk6 : w6.heap[B]? = some (.cells #[.int .i64 w, .slice (some ⟨g4, 0, none⟩) (d.length + 1) c4', .pointer none, .slice none 0 0, .int .i64 u] 125 (0, 0)) := hw6 ▸ (heap_setCell_same _ _ _ _ _ _ ((heap_setCell_same _ _ _ _ _ _ hblk5).trans rfl)).trans rfl
    have hbut6 : But n₀ B W w6 := hw6 ▸ (hbut5.setCell _ _).setCell _ _
    have hku6 : KeepU B W w6 := hw6 ▸ (hku5.setCell _ _).setCell _ _
    have ho6 : w6.ownsRow n₀ 9 1 (.slice (some ⟨g4, 0, none⟩) (d.length + 1) c4') (d.length + 1) (strV d ++ [.string (S l)]) := hw6 ▸ own_set (own_set ho5 hlt _) hlt _
    have k4 := blk_at (o := 4) (x := .int .i64 u) hblk6 rfl
    obtain ⟨k4a, k4b⟩ := k4
    have hs6 : n₀ ≤ w6.heap.size := Nat.le_trans hle hbut6.size
    go_wp2_with (go_at_call 133; refine (CR.out _ (by rw [k2.1]; rfl) (by rw [k3.1]; rfl) k2.2 k3.2).mono ?_; rintro e w7 ⟨rfl, hw7⟩; obtain rfl := hw6.symm.trans hw7)
    go_end0
    refine ⟨rfl, ⟨_, .slice (some ⟨g4, 0, none⟩) (d.length + 1) c4', .pointer none, .slice none 0 0, PgAt.make ((heap_setCell_same _ _ _ _ _ _ hblk6).trans rfl) (.inl rfl) hlt (by simp [World.setCell]; exact hs6) (own_set (World.ownsRow_nil _ _ _ _) hlt _) ?_⟩, hbut6.setCell _ _, hku6.setCell _ _⟩
    have := own_set (off := 4) ho6 hlt (.int .i64 0)
    rw [strV_snoc, List.length_append]
    exact this
  · have hen : endG (d, l, u) = (d, [], 0) := by unfold endG; rw [if_neg h0]
    have h0' : u ≤ 0 := by omega
    rw [hen]
    clear hen h0
    obtain ⟨w6, hw6⟩ : ∃ w6, (W.setCell ⟨B, 2, none⟩ (.pointer none)).setCell ⟨B, 2 + 1, none⟩ (.slice none 0 0) = w6 := ⟨_, rfl⟩
    have hblk6 : w6.heap[B]? = some (.cells #[.int .i64 w, lines, .pointer none, .slice none 0 0, .int .i64 u] 125 (0, 0)) := hw6 ▸ (heap_setCell_same _ _ _ _ _ _ ((heap_setCell_same _ _ _ _ _ _ hblk).trans rfl)).trans rfl
    have hbut6 : But n₀ B W w6 := hw6 ▸ ((But.refl n₀ B W).setCell _ _).setCell _ _
    have hku6 : KeepU B W w6 := hw6 ▸ ((KeepU.refl B W).setCell _ _).setCell _ _
    have ho6 : w6.ownsRow n₀ 9 1 lines d.length (strV d) := hw6 ▸ own_set (own_set h.own hlt _) hlt _
    have k4 := blk_at (o := 4) (x := .int .i64 u) hblk6 rfl
    obtain ⟨k4a, k4b⟩ := k4
    have hs6 : n₀ ≤ w6.heap.size := Nat.le_trans hle hbut6.size
    go_enter Try.func107, Try.ntmps107
    go_wp2_with (go_at_call 133; refine (CR.out _ (by rw [c2]; rfl) (by rw [c3]; rfl) f2 f3).mono ?_; rintro e w7 ⟨rfl, hw7⟩; obtain rfl := hw6.symm.trans hw7)
    go_end0
    exact ⟨rfl, ⟨_, lines, .pointer none, .slice none 0 0, PgAt.make ((heap_setCell_same _ _ _ _ _ _ hblk6).trans rfl) (.inl rfl) hlt (by simp [World.setCell]; exact hs6) (own_set (World.ownsRow_nil _ _ _ _) hlt _) (own_set ho6 hlt _)⟩, hbut6.setCell _ _, hku6.setCell _ _⟩
end Go.Proofs.Ytmdpmjabjijjiaa
