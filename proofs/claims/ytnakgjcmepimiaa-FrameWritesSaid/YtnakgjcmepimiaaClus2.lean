/- The contract of the builder's add. -/
import Derived.Test.YtnakgjcmepimiaaClus1
namespace Go.Proofs.Ytnakgjcmepimiaa
set_option linter.unusedVariables false
set_option linter.unusedSimpArgs false
open Go.RowKit Go.Shelf Go.Maps
theorem Bld.appNow {n₀ B : Nat} {W w3 : World} {d n : Value} {done : List (List UInt8)} {now : List UInt8} {o : Bool} (h : Bld n₀ B W d n done now o) (hne : (5 : TypeId) ≠ 9) (hg : W.grownBy w3 n.ownBlock) :
    But n₀ B W w3 ∧ w3.heap[B]? = some (.cells #[d, n, .bool o] 137 (0, 0)) ∧ n₀ ≤ w3.heap.size ∧ w3.ownsRow n₀ 9 1 d done.length (strV done) := by
  obtain ⟨h1, h2, h3⟩ := h.app (Below.refl _ _) hg (own_row h.on)
  exact ⟨h1, h2, h3, own_other h.od h.on hne hg⟩
theorem row_at (W : World) (vs : List Value) (t : TypeId) : ∀ (j : Nat) (u : Value), vs[j]? = some u → (W.alloc (.cells vs.toArray t)).cell? ((⟨W.heap.size, 0, none⟩ : Addr).add j) = some u := fun j u h => by
  have h0 : (W.alloc (.cells vs.toArray t)).heap[W.heap.size]? = some (.cells vs.toArray t) := World.alloc_heap_new W _
  have hj : j < vs.length := by
    rcases Nat.lt_or_ge j vs.length with h' | h'
    · exact h'
    · rw [List.getElem?_eq_none h'] at h; cases h
  by_cases e : j = 0
  · subst e
    show (W.alloc (.cells vs.toArray t)).cell? ⟨W.heap.size, 0, none⟩ = some u
    unfold World.cell?
    dsimp only
    rw [h0]
    simpa using h
  · have ea : (⟨W.heap.size, 0, none⟩ : Addr).add j = ⟨W.heap.size, 0 + j, none⟩ := by unfold Addr.add; simp [e]
    rw [ea]
    unfold World.cell?
    dsimp only
    rw [h0]
    simpa using h
theorem u8v_one (l : List UInt8) : ∀ u ∈ u8v l, u.oneCell' = true := fun u hu => by
  obtain ⟨b, _, rfl⟩ := List.mem_map.1 hu
  rfl
theorem end_any (n₀ B : Nat) (W : World) (d n : Value) (done : List (List UInt8)) (now : List UInt8) (o : Bool) (D : List (List UInt8)) (h : Bld n₀ B W d n done now o) (hd : done.length ≤ 2000000) (hD : (if o then done ++ [now] else done) = D) :
    Calls Try.prog 107 #[.pointer (some ⟨B, 0, none⟩)] W (BldPost n₀ B W D [] false) := by
  cases o with
  | false => rw [← hD]; exact end_no n₀ B W d n done now h
  | true => rw [← hD]; exact end_yes n₀ B W d n done now h hd
/-- The builder holds the clusters G. -/
def BG (n₀ B : Nat) (W : World) (G : List (List Nat)) : Prop :=
  ∃ d n done now o, Bld n₀ B W d n done now o ∧ (o = true ∧ done ++ [now] = G.map encL ∨ o = false ∧ done = [] ∧ now = [] ∧ G = [])
def AddPost (n₀ B : Nat) (W : World) (G : List (List Nat)) (e : Ending) (w' : World) : Prop := e = .returned (.tuple #[]) ∧ BG n₀ B w' G ∧ But n₀ B W w'
theorem own_slice {W : World} {n₀ : Nat} {e : TypeId} {v : Value} {n : Nat} {xs : List Value} (h : W.ownsRow n₀ e 1 v n xs) : ∃ a c, v = .slice a n c := by
  rcases own_shape h with ⟨rfl, rfl⟩ | ⟨g, c, rfl, _⟩
  · exact ⟨_, _, rfl⟩
  · exact ⟨_, _, rfl⟩
set_option maxRecDepth 100000 in
set_option maxHeartbeats 2000000 in
theorem add_base (n₀ B : Nat) (W : World) (G : List (List Nat)) (r : Nat) (hr : isR r = true) (hc : 0 < colsB r) (h : BG n₀ B W G) (hG : G.length ≤ 1100000) :
    Calls Try.prog 106 #[.pointer (some ⟨B, 0, none⟩), .int .i32 r] W (AddPost n₀ B W (stepG G r)) := by
  obtain ⟨i0, hi, hz0, hz1, hz2⟩ := info_parts infoU8c
  obtain ⟨d, n, done, now, o, hb, ho⟩ := h
  have hlt := hb.lt
  have hdl : done.length ≤ 2000000 := by
    rcases ho with ⟨_, e⟩ | ⟨_, rfl, _⟩
    · have := congrArg List.length e; simp at this; omega
    · simp
  have hD : (if o then done ++ [now] else done) = G.map encL := by
    rcases ho with ⟨rfl, e⟩ | ⟨rfl, rfl, _, rfl⟩
    · exact e
    · rfl
  have CE := Lib.hid (fun W' (h' : Below W.heap.size W W') => end_any n₀ B W' d n done now o _ (hb.below h') hdl hD)
  have hle := hb.le
  have hfin : (G.map encL) ++ [bytesN r] = (stepG G r).map encL := by rw [stepG_base _ _ hc]; simp [encL_one]
  have HF := Lib.hid hfin
  have CB := Lib.hid (fun W' => isBase_any r W')
  have hdec : decide (0 < colsB r) = true := decide_eq_true hc
  have CR := Lib.hid (fun W' => rbytes_any r W')
  have hbr : bytesR r = bytesN r := by unfold bytesR runeN; rw [if_pos hr]; simp
  have hlen := bytesN_len r
  obtain ⟨L, hL⟩ : ∃ L, L = bytesN r := ⟨_, rfl⟩
  rw [hbr, ← hL] at CR
  rw [hdec] at CB
  rw [← hL] at HF hlen
  have hne : (5 : TypeId) ≠ 9 := by decide
  have HLEN := Lib.hid hlen
  clear hfin hdec hbr hL hb ho hdl hD hc hr hlen
  go_enter Try.func106, Try.ntmps106
  go_wp2_with (first
    | (go_at_call 124; refine (CB.out _).mono ?_; rintro e w1 ⟨rfl, hb1⟩)
    | (go_at_call 107; refine (CE.out _ hb1).mono ?_; rintro e w2 ⟨rfl, d1, n1, hb2, hbut2⟩; obtain ⟨⟨c0, c1, c2⟩, f0, f1, f2⟩ := hb2.cells; obtain ⟨a, c, rfl⟩ := own_slice hb2.on))
  have hle2 := hb2.le
  refine wp_region_reads 6 (fun w' => w'.cell? ⟨B, 1, none⟩ = some (.slice a 0 c)) (by kernel_rfl) (by kernel_rfl) (by kernel_rfl) (by kernel_rfl) (fun _ _ d _ _ h => by cases d <;> exact h) c1 ?_
  simp only [List.take_succ_cons, List.take_zero, List.drop_succ_cons, List.drop_zero]
  repeat (refine' wpRead_step (v := _) rfl ?_ ?_; rotate_left 1; (intro w' hw'; go_simp; try with_reducible rfl); try simp only [Act.put, List.setIfInBounds_toArray, List.set_cons_zero, List.set_cons_succ])
  refine wpRead_nil ?_
  refine wpActs_step (fun K hK => ?_)
  go_wp2_with (go_at_call 116; refine (CR.out _).mono ?_; rintro e w3 ⟨k, hk, rfl, hw3⟩)
  have b3 : Bld n₀ B w3 d1 (.slice a 0 c) (G.map encL) [] false := hw3 ▸ hb2.drew.below ((Below.refl _ _).alloc (Nat.le_refl _) _)
  have bw3 : Below w2.heap.size w2 w3 := hw3 ▸ ((Below.refl _ w2).drew).alloc (Nat.le_refl _) _
  refine hK _ _ b3.cells.1.2.1 ?_
  clear hK K
  refine wpActs_step (fun K hK => ?_)
  refine wpList_append_own _ rfl (.tmp 13) (.tmp 15) 64 rfl n₀ 5 i0 (.int .u8 0) 1 1 Try.underlying64 hi hz0 hz1 hz2 rfl (by decide) (.slice a 0 c) 0 [] rfl b3.on ⟨w2.heap.size, 0, none⟩ L.length L.length (u8v L) rfl (by rw [u8v_len]; omega) (by rw [← hw3]; exact row_at w2.drew _ _) (u8v_one L) (by have := HLEN.out; unfold maxLen; omega) (by have := HLEN.out; omega) (by have := b3.le; omega) ?_
  intro n' w4 ho4 hg4 _
  rw [Nat.zero_add, List.nil_append] at ho4
  obtain ⟨hbut4, hblk4, hle4, hod4⟩ := b3.appNow hne hg4
  obtain ⟨⟨d40, d41, d42⟩, e40, e41, e42⟩ := blk_cells hblk4
  obtain ⟨g', c', rfl⟩ := own_ne ho4 (by have := HLEN.out; omega)
  refine hK _ _ d41 ?_
  clear hK K hg4
  refine wpActs_step (fun K hK => ?_)
  go_wp2
  refine hK _ _ d41 ?_
  clear hK K
  refine wpActs_step (fun K hK => ?_)
  go_wp2
  refine hK _ _ d41 ?_
  clear hK K
  refine wpActs_last ?_
  go_wp2
  have hB4 : Bld n₀ B (w4.setCell ⟨B, 1, none⟩ (.slice (some ⟨g', 0, none⟩) L.length c')) d1 (.slice (some ⟨g', 0, none⟩) L.length c') (G.map encL) L false := ⟨(heap_setCell_same _ _ _ _ _ _ hblk4).trans rfl, hlt, by simp [World.setCell]; exact hle4, own_set hod4 hlt _, own_set ho4 hlt _⟩
  refine bodyPost_ret (results_none rfl _ _ _) rfl ?_
  exact ⟨rfl, ⟨d1, _, G.map encL, L, true, hB4.set2 true, .inl ⟨rfl, HF.out⟩⟩, ((((But.of_below hle hb1).trans hbut2).trans (But.of_below hle2 bw3)).trans hbut4 |>.setCell _ _).setCell _ _⟩
theorem snoc_map {done : List (List UInt8)} {now : List UInt8} {G : List (List Nat)} (h : done ++ [now] = G.map encL) : ∃ O C, G = O ++ [C] ∧ done = O.map encL ∧ now = encL C := by
  have hne : G ≠ [] := by intro e; subst e; simp at h
  refine ⟨G.dropLast, G.getLast hne, (List.dropLast_concat_getLast hne).symm, ?_⟩
  rw [← List.dropLast_concat_getLast hne, List.map_append] at h
  have h1 := List.append_inj h (by have := congrArg List.length h; simp at this; simpa using this)
  exact ⟨h1.1, by simpa using h1.2⟩
theorem stepG_no (G : List (List Nat)) (r : Nat) (h : ¬ 0 < colsB r) (hj : joinB r = false) : stepG G r = G := by unfold stepG; rw [if_neg h, hj]; rfl
theorem stepG_nil (r : Nat) (h : ¬ 0 < colsB r) : stepG [] r = [] := by unfold stepG; rw [if_neg h]; simp
theorem stepG_full (O : List (List Nat)) (C : List Nat) (r : Nat) (h : ¬ 0 < colsB r) (hl : 64 < (encL C).length + (bytesN r).length) : stepG (O ++ [C]) r = O ++ [C] := by
  unfold stepG; rw [if_neg h, if_neg]
  simp; omega
theorem stepG_join (O : List (List Nat)) (C : List Nat) (r : Nat) (h : ¬ 0 < colsB r) (hj : joinB r = true) (hl : (encL C).length + (bytesN r).length ≤ 64) : stepG (O ++ [C]) r = O ++ [C ++ [r]] := by
  unfold stepG; rw [if_neg h, if_pos]
  · simp
  · rw [hj]; simp; omega
set_option maxRecDepth 100000 in
set_option maxHeartbeats 2000000 in
theorem add_no (n₀ B : Nat) (W : World) (G : List (List Nat)) (r : Nat) (hc : ¬ 0 < colsB r) (hj : joinB r = false) (h : BG n₀ B W G) :
    Calls Try.prog 106 #[.pointer (some ⟨B, 0, none⟩), .int .i32 r] W (AddPost n₀ B W (stepG G r)) := by
  rw [stepG_no G r hc hj]
  have CB := Lib.hid (fun W' => (decide_eq_false hc : decide (0 < colsB r) = false) ▸ isBase_any r W')
  have CM := Lib.hid (fun W' => hj ▸ isMark_any r W')
  have HH := Lib.hid h
  obtain ⟨d, n, done, now, o, hb, ho⟩ := h
  have hle := hb.le
  obtain ⟨⟨c0, c1, c2⟩, f0, f1, f2⟩ := hb.cells
  clear hc hj ho
  cases o with
  | false =>
    go_enter Try.func106, Try.ntmps106
    go_wp2_with (go_at_call 124; refine (CB.out _).mono ?_; rintro e w1 ⟨rfl, hb1⟩; obtain ⟨⟨c0', c1', c2'⟩, f0', f1', f2'⟩ := (hb.below hb1).cells)
    refine bodyPost_ret (results_none rfl _ _ _) rfl ?_
    obtain ⟨d, n, done, now, o, hb, ho⟩ := HH.out
    exact ⟨rfl, ⟨d, n, done, now, o, hb.below hb1, ho⟩, But.of_below hle hb1⟩
  | true =>
    go_enter Try.func106, Try.ntmps106
    go_wp2_with (first
      | (go_at_call 124; refine (CB.out _).mono ?_; rintro e w1 ⟨rfl, hb1⟩; obtain ⟨⟨c0', c1', c2'⟩, f0', f1', f2'⟩ := (hb.below hb1).cells)
      | (go_at_call 125; refine (CM.out _).mono ?_; rintro e w2 ⟨rfl, hb2⟩))
    refine bodyPost_ret (results_none rfl _ _ _) rfl ?_
    obtain ⟨d, n, done, now, o, hb, ho⟩ := HH.out
    exact ⟨rfl, ⟨d, n, done, now, o, (hb.below hb1).below hb2, ho⟩, But.of_below hle (bnext hb1 hb2)⟩
set_option maxRecDepth 100000 in
set_option maxHeartbeats 2000000 in
theorem add_nil (n₀ B : Nat) (W : World) (r : Nat) (hc : ¬ 0 < colsB r) (h : BG n₀ B W []) :
    Calls Try.prog 106 #[.pointer (some ⟨B, 0, none⟩), .int .i32 r] W (AddPost n₀ B W (stepG [] r)) := by
  rw [stepG_nil r hc]
  have CB := Lib.hid (fun W' => (decide_eq_false hc : decide (0 < colsB r) = false) ▸ isBase_any r W')
  obtain ⟨d, n, done, now, o, hb, ho⟩ := h
  have hle := hb.le
  obtain rfl : o = false := by
    rcases ho with ⟨_, e⟩ | ⟨h, _⟩
    · simp at e
    · exact h
  have HO := Lib.hid ho
  obtain ⟨⟨c0, c1, c2⟩, f0, f1, f2⟩ := hb.cells
  clear hc ho
  go_enter Try.func106, Try.ntmps106
  go_wp2_with (go_at_call 124; refine (CB.out _).mono ?_; rintro e w1 ⟨rfl, hb1⟩; obtain ⟨⟨c0', c1', c2'⟩, f0', f1', f2'⟩ := (hb.below hb1).cells)
  refine bodyPost_ret (results_none rfl _ _ _) rfl ?_
  exact ⟨rfl, ⟨d, n, done, now, false, hb.below hb1, by simpa using HO.out⟩, But.of_below hle hb1⟩
set_option maxRecDepth 100000 in
set_option maxHeartbeats 2000000 in
theorem add_mark (n₀ B : Nat) (W : World) (O : List (List Nat)) (C : List Nat) (r : Nat) (hr : isR r = true) (hc : ¬ 0 < colsB r) (hj : joinB r = true) (hC : (encL C).length ≤ 64) (h : BG n₀ B W (O ++ [C])) :
    Calls Try.prog 106 #[.pointer (some ⟨B, 0, none⟩), .int .i32 r] W (AddPost n₀ B W (stepG (O ++ [C]) r)) := by
  obtain ⟨i0, hi, hz0, hz1, hz2⟩ := info_parts infoU8c
  have CB := Lib.hid (fun W' => (decide_eq_false hc : decide (0 < colsB r) = false) ▸ isBase_any r W')
  have CM := Lib.hid (fun W' => hj ▸ isMark_any r W')
  have CR := Lib.hid (fun W' => rbytes_any r W')
  have hbr : bytesR r = bytesN r := by unfold bytesR runeN; rw [if_pos hr]; simp
  have hlen := bytesN_len r
  obtain ⟨L, hL⟩ : ∃ L, L = bytesN r := ⟨_, rfl⟩
  rw [hbr, ← hL] at CR
  obtain ⟨d, n, done, now, o, hb, ho⟩ := h
  have hlt := hb.lt
  have hle := hb.le
  have ho : o = true ∧ done = O.map encL ∧ now = encL C := by
    rcases ho with ⟨h1, e⟩ | ⟨_, _, _, e⟩
    · obtain ⟨O', C', e1, e2, e3⟩ := snoc_map e
      have := List.append_inj e1 (by have := congrArg List.length e1; simpa using this)
      obtain ⟨rfl, e5⟩ := this
      simp only [List.cons.injEq, and_true] at e5
      subst e5
      exact ⟨h1, e2, e3⟩
    · simp at e
  obtain ⟨rfl, hdone, hnow⟩ := ho
  rw [← hnow] at hC
  rw [← hL] at hlen
  obtain ⟨⟨c0, c1, c2⟩, f0, f1, f2⟩ := hb.cells
  obtain ⟨a, c, rfl⟩ := own_slice hb.on
  have hne : (5 : TypeId) ≠ 9 := by decide
  by_cases hfit : now.length + L.length ≤ 64
  · have hst := stepG_join O C r hc hj (by rw [← hnow, ← hL]; exact hfit)
    have HF := Lib.hid (show done ++ [now ++ L] = (stepG (O ++ [C]) r).map encL by rw [hst, hdone, hnow, hL]; simp [encL_append, encL_one])
    have hfi : (now.length : Int) + (L.length : Int) ≤ 64 := by omega
    clear hst hdone hnow hL hbr hj hc hr
    go_enter Try.func106, Try.ntmps106
    go_wp2_with (first
      | (go_at_call 124; refine (CB.out _).mono ?_; rintro e w1 ⟨rfl, hb1⟩; obtain ⟨⟨c0', c1', c2'⟩, f0', f1', f2'⟩ := (hb.below hb1).cells)
      | (go_at_call 125; refine (CM.out _).mono ?_; rintro e w2 ⟨rfl, hb2⟩)
      | (go_at_call 116; refine (CR.out _).mono ?_; rintro e w3 ⟨k, hk, rfl, hw3⟩; have b3 : Bld n₀ B w3 d (.slice a now.length c) done now true := hw3 ▸ ((hb.below hb1).below hb2).below ((Below.refl _ _).alloc (Nat.le_refl _) _); have bw3 : Below w2.heap.size w2 w3 := hw3 ▸ (Below.refl _ w2).alloc (Nat.le_refl _) _; obtain ⟨⟨c03, c13, c23⟩, f03, f13, f23⟩ := b3.cells)
      | (at_builtin; refine wpList_append_own _ rfl (.tmp 47) (.tmp 48) 64 rfl n₀ 5 i0 (.int .u8 0) 1 1 Try.underlying64 hi hz0 hz1 hz2 rfl (by decide) (.slice a now.length c) now.length (u8v now) rfl b3.on ⟨w2.heap.size, 0, none⟩ L.length L.length (u8v L) rfl (by rw [u8v_len]; omega) (by rw [← hw3]; exact row_at w2 _ _) (u8v_one L) (by unfold maxLen; omega) (by omega) b3.le ?_; intro n' w4 ho4 hg4 hx4; rw [← u8v_append] at ho4; obtain ⟨hbut4, hblk4, hle4, hod4⟩ := b3.appNow hne hg4; obtain ⟨⟨d40, d41, d42⟩, e40, e41, e42⟩ := blk_cells hblk4; obtain ⟨g', c', rfl⟩ := own_ne ho4 (by omega)))
    go_end0
    have hB4 : Bld n₀ B (w4.setCell ⟨B, 1, none⟩ (.slice (some ⟨g', 0, none⟩) (now.length + L.length) c')) d (.slice (some ⟨g', 0, none⟩) (now.length + L.length) c') done (now ++ L) true := ⟨(heap_setCell_same _ _ _ _ _ _ hblk4).trans rfl, hlt, by simp [World.setCell]; exact hle4, own_set hod4 hlt _, by rw [List.length_append]; exact own_set ho4 hlt _⟩
    exact ⟨rfl, ⟨d, _, done, now ++ L, true, hB4, .inl ⟨rfl, HF.out⟩⟩, (((But.of_below hle (bnext hb1 hb2)).trans (But.of_below ((hb.below hb1).below hb2).le bw3)).trans hbut4).setCell _ _⟩
  · have hst := stepG_full O C r hc (by rw [← hnow, ← hL]; omega)
    have HF := Lib.hid (show done ++ [now] = (stepG (O ++ [C]) r).map encL by rw [hst, hdone, hnow]; simp)
    have hfi : 64 < (now.length : Int) + (L.length : Int) := by omega
    clear hst hdone hnow hL hbr hj hc hr
    go_enter Try.func106, Try.ntmps106
    go_wp2_with (first
      | (go_at_call 124; refine (CB.out _).mono ?_; rintro e w1 ⟨rfl, hb1⟩; obtain ⟨⟨c0', c1', c2'⟩, f0', f1', f2'⟩ := (hb.below hb1).cells)
      | (go_at_call 125; refine (CM.out _).mono ?_; rintro e w2 ⟨rfl, hb2⟩)
      | (go_at_call 116; refine (CR.out _).mono ?_; rintro e w3 ⟨k, hk, rfl, hw3⟩; have b3 : Bld n₀ B w3 d (.slice a now.length c) done now true := hw3 ▸ ((hb.below hb1).below hb2).below ((Below.refl _ _).alloc (Nat.le_refl _) _); have bw3 : Below w2.heap.size w2 w3 := hw3 ▸ (Below.refl _ w2).alloc (Nat.le_refl _) _; obtain ⟨⟨c03, c13, c23⟩, f03, f13, f23⟩ := b3.cells))
    go_end0
    exact ⟨rfl, ⟨d, _, done, now, true, b3, .inl ⟨rfl, HF.out⟩⟩, (But.of_below hle (bnext hb1 hb2)).trans (But.of_below ((hb.below hb1).below hb2).le bw3)⟩
theorem joinB_cols {r : Int} (h : joinB r = true) : ¬ 0 < colsB r := by
  unfold joinB at h
  rw [Bool.and_eq_true, decide_eq_true_eq] at h
  omega
theorem add_any (n₀ B : Nat) (W : World) (G : List (List Nat)) (r : Nat) (hr : isR r = true) (h : BG n₀ B W G) (hG : G.length ≤ 1100000) (hC : ∀ c ∈ G, (encL c).length ≤ 64) :
    Calls Try.prog 106 #[.pointer (some ⟨B, 0, none⟩), .int .i32 r] W (AddPost n₀ B W (stepG G r)) := by
  by_cases hc : 0 < colsB r
  · exact add_base n₀ B W G r hr hc h hG
  · cases hj : joinB r with
    | false => exact add_no n₀ B W G r hc hj h
    | true =>
      rcases List.eq_nil_or_concat G with rfl | ⟨O, C, rfl⟩
      · exact add_nil n₀ B W r hc h
      · rw [List.concat_eq_append] at h hC ⊢
        exact add_mark n₀ B W O C r hr hc hj (hC C (by simp)) h
end Go.Proofs.Ytnakgjcmepimiaa
