/- The contract of Cut: a text's clusters. -/
import Derived.Test.YtnakgjcmepimiaaClus2
namespace Go.Proofs.Ytnakgjcmepimiaa
set_option linter.unusedVariables false
set_option linter.unusedSimpArgs false
open Go.RowKit Go.Shelf Go.Maps
attribute [local go_sem] Oper.semAt_some
/-- A slice of these strings, and nothing that was there has turned. -/
def StrsPost (L : List (List UInt8)) (w : World) (e : Ending) (w' : World) : Prop :=
  ∃ a n c, n = L.length ∧ n ≤ c ∧ c ≤ maxLen ∧ e = .returned (.slice a n c) ∧ RowAt w'.heap.size w' a (strV L) ∧ Below w.heap.size w w' ∧ ∃ g, w.heap.size ≤ g ∧ (0 < n → a = some ⟨g, 0, none⟩ ∧ ∃ cur, w'.heap[g]? = some (.cells cur 9 (0, 0)))
theorem own_row_at {W : World} {n₀ : Nat} {e : TypeId} {a : Option Addr} {n c : Nat} {vs : List Value} (h : W.ownsRow n₀ e 1 (.slice a n c) n vs) : RowAt W.heap.size W a vs ∧ n ≤ c ∧ c ≤ maxLen := by
  rcases h with ⟨hl, ⟨h1, h0⟩ | ⟨g, cap, cur, h1, hg, hc, h2, h3, h4, h5⟩⟩
  · simp only [Value.slice.injEq] at h1
    obtain ⟨rfl, rfl, rfl⟩ := h1
    have : vs = [] := List.length_eq_zero_iff.1 (by omega)
    subst this
    exact ⟨RowAt.nil _ _ _, Nat.le_refl _, by unfold maxLen; omega⟩
  · simp only [Value.slice.injEq] at h1
    obtain ⟨rfl, _, rfl⟩ := h1
    refine ⟨fun j hj => ⟨g, 0, rfl, (Array.getElem?_eq_some_iff.1 hc).1, ?_⟩, h2, h3⟩
    unfold World.cell?
    dsimp only
    rw [hc, Nat.zero_add]
    have h6 : (cur.toList.take (n * 1))[j]? = vs[j]? := by rw [h5]
    rw [List.getElem?_take_of_lt (by omega), Array.getElem?_toList] at h6
    simp only [Option.isSome_none, Bool.false_eq_true, if_false]
    rw [h6]
    simp [nth, hj]
theorem ctrl_step {G : List (List Nat)} {r : Nat} (h : ctrlB r = true) : stepG G r = G := by
  refine stepG_no G r ?_ ?_
  · unfold colsB
    rw [if_pos (by simp [h])]
    omega
  · unfold joinB; rw [h]; simp
def CutI (w w2 : World) (n₀ B : Nat) (pre : List RP) (W : World) : Prop := BG n₀ B W (cutG (pre.map RP.r)) ∧ Below w.heap.size w W
theorem BG.kept {n₀ B : Nat} {W W' : World} {G : List (List Nat)} (h : BG n₀ B W G) {row : Option Nat} (hg : W.grownBy W' row) (hr : ∀ k, row = some k → n₀ ≤ k ∧ ∃ o : Obj, W.heap[k]? = some o ∧ o.isCells = false) : BG n₀ B W' G := by
  obtain ⟨d, n, done, now, o, hb, ho⟩ := h
  exact ⟨d, n, done, now, o, hb.kept hg (fun k e _ => (hr k e).2) (fun e => by have := (hr B e).1; have := hb.lt; omega), ho⟩
theorem BG.new {n₀ B : Nat} {W : World} (hb : W.heap[B]? = some (.cells #[.slice none 0 0, .slice none 0 0, .bool false] 137 (0, 0))) (hlt : B < n₀) (hle : n₀ ≤ W.heap.size) : BG n₀ B W [] :=
  ⟨_, _, [], [], false, ⟨hb, hlt, hle, World.ownsRow_nil _ _ _ _, World.ownsRow_nil _ _ _ _⟩, .inr ⟨rfl, rfl, rfl, rfl⟩⟩
set_option maxRecDepth 100000 in
set_option maxHeartbeats 4000000 in
theorem cut_any (l : List UInt8) (hl : l.length ≤ 1100000) (w : World) : Calls Try.prog 77 #[.string (S l)] w (StrsPost (cutL l) w) := by
  have CA := Lib.hid (fun W => rall_any l W)
  refine (callsIn_wide (n := 9)).1 ?_
  have h1 : 1 ≤ 9 := by omega
  refine callsIn_of_wp_marks Try.func77 rfl trivial ?_ rfl
  simp only [Try.ntmps77, List.size_toArray, List.length_cons, List.length_nil, Nat.reduceAdd, Nat.reduceSub, Array.replicate_succ, Array.replicate_zero, List.push_toArray, List.append_toArray, List.nil_append, List.cons_append]
  gi_wp2
  refine wpIn_wide.2 (wp_scope_straight ((wpIn_wide (n := 9)).1 ?_))
  gi_wp2
  refine wpIn_label ?_
  gi_wp2_with (refine ⟨trivial, ?_⟩; gi_at_call 104; refine (callsIn_wide.2 (CA.out _)).mono ?_; rintro e w2 ⟨Bx, b, cap, rfl, hbx, hbl, hcell, hcap, hbys, hbel⟩)
  have hblk : (w.alloc (.cells #[.slice none 0 0, .slice none 0 0, .bool false] 137)).heap[w.heap.size]? = some (.cells #[.slice none 0 0, .slice none 0 0, .bool false] 137 (0, 0)) := World.alloc_heap_new w _
  have hsz : (w.alloc (.cells #[.slice none 0 0, .slice none 0 0, .bool false] 137)).heap.size = w.heap.size + 1 := by simp
  have hbw : Below w.heap.size w (w.alloc (.cells #[.slice none 0 0, .slice none 0 0, .bool false] 137)) := (Below.refl _ _).alloc (Nat.le_refl _) _
  generalize w.alloc (.cells #[.slice none 0 0, .slice none 0 0, .bool false] 137) = w1 at hblk hsz hbw hbx hbl hbel
  have hblk2 := (hbel.block w.heap.size (by omega)).trans hblk
  have hle1 := hbel.size
  have hw2 : Below w.heap.size w w2 := bto hbw hbel (by omega)
  have hbB := hbx.2
  have hbl2 := hbys.lt
  have HE := Lib.hid (eachL_runes l)
  have hxB : Bx ≠ w.heap.size := by omega
  have hyB : b ≠ w.heap.size := by omega
  have hz1 : w.heap.size ≤ w2.heap.size := by omega
  refine wpIn_rangeFunc_ownG rfl h1 (gf := 138) (lb := #[.pointer (some ⟨Bx, 0, none⟩)]) rfl trivial (enters_of Try.func138 (by kernel_rfl) rfl)
    (each1_stops l Bx b cap w2 hbB hcell hcap hbys (by omega) _ (by omega)) KB.trans (KB.put hbB hbl2) (Below.refl _ _) (fun _ => rfl)
    (CutI w w2 w2.heap.size w.heap.size) (fun _ _ _ => False)
    (fun s W W' row hs hg hr => ⟨hs.1.kept hg hr, ownFrom_below (β := List RP) (n₀ := w.heap.size) (w₀ := w) (Nat.le_refl _) (by omega) s W W' row hs.2 hg hr⟩)
    (fun c _ _ _ _ hs _ _ => hs.elim)
    ⟨BG.new hblk2 (by omega) (Nat.le_refl _), hw2⟩
    ?_ ?_ ?_ ?_ ?_
  rotate_left 1
  · intro L x W K hK
    gi_wp2
    exact hK
  · rintro L pre x W ⟨hG, hBel⟩ hpl
    have hpl2 : (pre.map RP.r).length ≤ 1100000 := by rw [List.length_map]; omega
    have hGl : (cutG (pre.map RP.r)).length ≤ 1100000 := Nat.le_trans (cutG_len _) hpl2
    have hGc : ∀ c ∈ cutG (pre.map RP.r), (encL c).length ≤ 64 := fun c hc => (cutG_clus _ (by
      intro r hr
      obtain ⟨y, _, rfl⟩ := List.mem_map.1 hr
      exact y.ok) c hc).len
    have hst : cutG ((pre ++ [x]).map RP.r) = stepG (cutG (pre.map RP.r)) x.r := by rw [List.map_append, List.map_cons, List.map_nil, cutG_snoc]
    have HST := Lib.hid hst
    have CA := Lib.hid (add_any w2.heap.size w.heap.size W _ x.r x.ok hG hGl hGc)
    have CC := fun W => control_any (x.r : Int) W
    cases hk : ctrlB (x.r : Int) with
    | true =>
      rw [hk] at CC
      have CC := Lib.hid CC
      have HK := Lib.hid hk
      clear hk hst hGl hGc hpl2
      gi_wp2_with (refine ⟨trivial, ?_⟩; gi_at_call 105; refine (callsIn_wide.2 (CC.out _)).mono ?_; rintro e w3 ⟨rfl, rfl⟩)
      exact ⟨KeepsFrom.refl _ _, KB.refl _ _ _, by rw [HST.out, ctrl_step HK.out]; exact hG, hBel⟩
    | false =>
      rw [hk] at CC
      have CC := Lib.hid CC
      clear hk hst hGl hGc hpl2
      gi_wp2_with (first
        | (refine ⟨trivial, ?_⟩; gi_at_call 105; refine (callsIn_wide.2 (CC.out _)).mono ?_; rintro e w3 ⟨rfl, rfl⟩)
        | (refine ⟨trivial, ?_⟩; gi_at_call 106; refine (callsIn_wide.2 CA.out).mono ?_; rintro e w4' ⟨rfl, hG4, hbut4⟩))
      have hfr : KeepsFrom w2.heap.size W w4' := hbut4.from
      have hI : CutI w w2 w2.heap.size w.heap.size (pre ++ [x]) w4' := ⟨by rw [HST.out]; exact hG4, hBel.trans (hbut4.below hz1 (Nat.le_refl _))⟩
      exact ⟨hfr, hbut4.kb hbB hxB hbl2 hyB, hI⟩
  · rintro D ys W hD rfl ⟨hG, hBel⟩ hK
    rw [HE.out] at hG
    have hGl : (cutG (runesL l)).length ≤ 1100000 := Nat.le_trans (cutG_len _) (Nat.le_trans (runesL_len l) hl)
    obtain ⟨d, n, done, now, o, hb, ho⟩ := hG
    have hdl : done.length ≤ 2000000 := by
      rcases ho with ⟨_, e⟩ | ⟨_, rfl, _⟩
      · have := congrArg List.length e; simp at this; omega
      · simp
    have hD2 : (if o then done ++ [now] else done) = cutL l := by
      rcases ho with ⟨rfl, e⟩ | ⟨rfl, rfl, _, e⟩
      · exact e
      · unfold cutL; rw [e]; rfl
    have CE := Lib.hid (end_any _ _ W d n done now o _ hb hdl hD2)
    clear hGl ho hdl hD2 hb
    gi_wp2_with (refine ⟨trivial, ?_⟩; gi_at_call 107; refine (callsIn_wide.2 CE.out).mono ?_; rintro e w5 ⟨rfl, d5, n5, hb5, hbut5⟩; obtain ⟨⟨c0, c1, c2⟩, f0, f1, f2⟩ := hb5.cells; obtain ⟨a5, cap5, rfl⟩ := own_slice hb5.od)
    have hK5 : w5.heap[D]? = some (.deferred (some [])) := hbut5.others.same D _ hK rfl
    rw [Exit.noGoto_ret]
    refine ⟨by simp, .inl ⟨_, _, rfl, run_takeDeferred hK5, ?_⟩⟩
    refine ⟨_, results_tmp rfl _ _ _, ?_⟩
    have hod := ownsRow_putObj hb5.od (.deferred none) hK5 rfl
    obtain ⟨hr, hnc, hcm⟩ := own_row_at hod
    have hsh := own_shape hod
    refine ⟨a5, (cutL l).length, cap5, rfl, hnc, hcm, rfl, hr, ?_, ?_⟩
    · exact (hBel.trans (hbut5.below hz1 (Nat.le_refl _))).trans (belowK_b (w := w) (Nat.le_refl _) w5 D _ _ (by omega) hK5 rfl rfl)
    · rcases hsh with ⟨_, h0⟩ | ⟨g, c', e, _, hg, _⟩
      · exact ⟨w.heap.size, Nat.le_refl _, fun h => by omega⟩
      · have hcur := (own_cells hod g (by rw [e]; rfl)).2
        simp only [Value.slice.injEq] at e
        exact ⟨g, by omega, fun _ => ⟨e.1, hcur⟩⟩
  · rintro D c pre W hD hpre hf hK
    exact hf.elim
end Go.Proofs.Ytnakgjcmepimiaa
