/- The contract of Style. -/
import Derived.Test.YtjkajojjehgmdaaGreatRE22
set_option linter.unusedVariables false
set_option linter.unusedSimpArgs false
namespace Go.Proofs.YtjkajojjehgmdaaGreat
open Go.RowKit Go.Maps
structure Stp (w : World) (N F T : Nat) (L : List Int) (b u i : Bool) (f g : Int) (b' u' i' : Bool) (f' g' : Int) (v : Value) (W : World) : Prop where
 own : W.ownsRow N 3 1 v L.length (i64s L)
 from_ : StyBox W F b u i f g
 to_ : StyBox W T b' u' i' f' g'
 below : Below w.heap.size w W
 size : N ≤ W.heap.size
def Nxt (w : World) (N F T : Nat) (L : List Int) (c : Bool) (x : Int) (b u i : Bool) (f g : Int) (b' u' i' : Bool) (f' g' : Int) (v : Value) (W : World) : Prop :=
 ∃ L', L' = L ++ (if c then [x] else []) ∧ Stp w N F T L' b u i f g b' u' i' f' g' v W
theorem Nxt.no {w : World} {N F T : Nat} {L : List Int} {x : Int} {b u i : Bool} {f g : Int} {b' u' i' : Bool} {f' g' : Int} {v : Value} {W : World} (h : Stp w N F T L b u i f g b' u' i' f' g' v W) : Nxt w N F T L false x b u i f g b' u' i' f' g' v W := ⟨L, by simp, h⟩
theorem Nxt.yes {w : World} {N F T : Nat} {L : List Int} {x : Int} {b u i : Bool} {f g : Int} {b' u' i' : Bool} {f' g' : Int} {v : Value} {W : World} (h : Stp w N F T L b u i f g b' u' i' f' g' v W) {v' : Value} {w1 : World} {o : Obj}
    (hown : w1.ownsRow N 3 1 v' (L.length + 1) (i64s L ++ [.int .i64 x])) (hg : (W.alloc o).grownBy w1 v.ownBlock) (hF : F < N) (hT : T < N) (hN : w.heap.size ≤ N) : Nxt w N F T L true x b u i f g b' u' i' f' g' v' w1 := by
 have hb := below_append h.own h.size hg
 exact ⟨L ++ [x], by simp, ⟨by simpa [i64s] using hown, styBox_old h.from_ hb hF, styBox_old h.to_ hb hT, h.below.trans (hb.mono hN), by have := hb.size; have := h.size; omega⟩⟩
theorem Stp.zeroed {w : World} {N F T : Nat} {L : List Int} {b u i : Bool} {f g : Int} {b' u' i' : Bool} {f' g' : Int} {v : Value} {W : World} (h : Stp w N F T L b u i f g b' u' i' f' g' v W) (hFT : T ≠ F) (hF : F < N) (hw : w.heap.size ≤ F) :
    Stp w N F T L false false false 0 0 b' u' i' f' g' v (((((W.setCell ⟨F, 0, none⟩ (.bool false)).setCell ⟨F, 1, none⟩ (.bool false)).setCell ⟨F, 2, none⟩ (.bool false)).setCell ⟨F, 3, none⟩ (.int .i64 0)).setCell ⟨F, 4, none⟩ (.int .i64 0)) := by
 have hf := h.from_
 unfold StyBox at hf
 refine ⟨⟨h.own.1, ?_⟩, ?_, ?_, ?_, by simp only [set_size]; exact h.size⟩
 ·rcases h.own.2 with hn | ⟨g, cap, cur, rfl, hb, hgg, rest⟩
  ·exact .inl hn
  ·refine .inr ⟨g, cap, cur, rfl, hb, ?_, rest⟩
   have hg : g ≠ F := by omega
   rw [set_other _ _ _ _ _ hg, set_other _ _ _ _ _ hg, set_other _ _ _ _ _ hg, set_other _ _ _ _ _ hg, set_other _ _ _ _ _ hg]
   exact hgg
 ·unfold StyBox
  rw [set_at (set_at (set_at (set_at (set_at hf _ _) _ _) _ _) _ _) _ _]
  rfl
 ·unfold StyBox
  rw [set_other _ _ _ _ _ hFT, set_other _ _ _ _ _ hFT, set_other _ _ _ _ _ hFT, set_other _ _ _ _ _ hFT, set_other _ _ _ _ _ hFT]
  exact h.to_
 ·exact ((((h.below.setCell hw _).setCell hw _).setCell hw _).setCell hw _).setCell hw _
theorem Nxt.zeroed {w : World} {N F T : Nat} {L : List Int} {c : Bool} {x : Int} {b u i : Bool} {f g : Int} {b' u' i' : Bool} {f' g' : Int} {v : Value} {W : World} (h : Nxt w N F T L c x b u i f g b' u' i' f' g' v W) (hFT : T ≠ F) (hF : F < N) (hw : w.heap.size ≤ F) :
    Nxt w N F T L c x false false false 0 0 b' u' i' f' g' v (((((W.setCell ⟨F, 0, none⟩ (.bool false)).setCell ⟨F, 1, none⟩ (.bool false)).setCell ⟨F, 2, none⟩ (.bool false)).setCell ⟨F, 3, none⟩ (.int .i64 0)).setCell ⟨F, 4, none⟩ (.int .i64 0)) :=
 h.elim fun L' h => ⟨L', h.1, h.2.zeroed hFT hF hw⟩
theorem Nxt.box {w : World} {N F T : Nat} {L : List Int} {c : Bool} {x : Int} {b u i : Bool} {f g : Int} {b' u' i' : Bool} {f' g' : Int} {v : Value} {W : World} (h : Nxt w N F T L c x b u i f g b' u' i' f' g' v W) : StyBox W F b u i f g := h.elim fun _ h => h.2.from_
theorem rowAt_own {W : World} {N : Nat} {e : TypeId} {n c : Nat} {a : Option Addr} {vs : List Value} (h : W.ownsRow N e 1 (.slice a n c) n vs) (hn : vs.length = n) : RowAt W.heap.size W a vs := by
 rcases h.2 with ⟨e1, h0⟩ | ⟨g, cap, cur, e1, _, hg, hle, _, hcs, ht⟩
 ·intro j hj; omega
 ·intro j hj
  have ea : a = some ⟨g, 0, none⟩ := by injection e1
  refine ⟨g, 0, ea, (Array.getElem?_eq_some_iff.1 hg).1, ?_⟩
  unfold World.cell?
  dsimp only
  rw [hg]
  have hj2 : j < cur.size := by omega
  have hx : vs[j]? = cur[j]? := by
   rw [← ht, List.getElem?_take_of_lt (by omega), Array.getElem?_toList]
  simp only [Nat.zero_add]
  rw [nth_eq _ _ _ hj]
  simpa [hj] using hx.symm
theorem nn_app {L : List Int} {c : Bool} {x : Int} (h : ∀ y ∈ L, 0 ≤ y) (hx : 0 ≤ x) : ∀ y ∈ L ++ (if c then [x] else []), 0 ≤ y := by
 intro y hy
 cases c
 ·exact h y (by simpa using hy)
 ·rcases List.mem_append.1 hy with h1 | h1
  ·exact h y h1
  ·rw [show y = x by simpa using h1]; exact hx
theorem nn_nth {L : List Int} (h : ∀ y ∈ L, 0 ≤ y) : ∀ k, k < L.length → 0 ≤ nth 0 L k := fun k hk => by rw [nth_eq _ _ _ hk]; exact h _ (List.getElem_mem hk)
theorem colourI_nn (c base : Int) (h : 0 ≤ c) (hb : 1 ≤ base) : 0 ≤ colourI c base := by unfold colourI; split <;> omega
set_option maxRecDepth 100000 in
set_option maxHeartbeats 4000000 in
theorem style_any (b u i : Bool) (f g : Int) (b' u' i' : Bool) (f' g' : Int) (w : World) :
    Calls Tryz.prog 133 #[.agg #[.bool b, .bool u, .bool i, .int .i64 f, .int .i64 g], .agg #[.bool b', .bool u', .bool i', .int .i64 f', .int .i64 g']] w fun e w' => e = .returned (.string (S (styleL b u i f g b' u' i' f' g'))) ∧ Below w.heap.size w w' := by
 have heq := eql_sty b u i f g b' u' i' f' g'
 obtain ⟨T, hT⟩ : ∃ T, styleL b u i f g b' u' i' f' g' = T := ⟨_, rfl⟩
 rw [hT]
 unfold styleL at hT
 rcases Bool.eq_false_or_eq_true (eqS b u i f g b' u' i' f' g') with h1 | h1
 ·rw [h1] at heq hT
  have HT := Lib.hid hT
  clear hT h1
  go_enter Tryz.func133, Tryz.ntmps133
  go_wp2
  go_ret
  exact ⟨ret_str (by rw [← HT.out]; rfl), ((Below.refl _ _).alloc (Nat.le_refl _) _).alloc (by simp) _⟩
 ·rw [h1] at heq hT
  clear h1
  rcases Bool.eq_false_or_eq_true (mayB f g) with h2 | h2
  ·rw [h2] at hT
   rcases Bool.eq_false_or_eq_true (mayB f' g') with h3 | h3
   ·rw [h3] at hT
    have HT := Lib.hid hT
    clear hT
    have m1 := may_any b u i f g
    have m2 := may_any b' u' i' f' g'
    rw [h2] at m1
    rw [h3] at m2
    have M1 := Lib.hid m1
    have M2 := Lib.hid m2
    have hf : 0 ≤ f' ∧ f' ≤ 8 ∧ 0 ≤ g' ∧ g' ≤ 8 := of_decide_eq_true h3
    clear m1 m2 h2 h3
    go_enter Tryz.func133, Tryz.ntmps133
    go_wp2_with fail
    refine (M1.out _).mono ?_
    rintro e w1 ⟨rfl, hb1⟩
    obtain ⟨hc1, hf1⟩ := bcell hb1
    go_wp2_with fail
    refine (M2.out _).mono ?_
    rintro e w2 ⟨rfl, hb2⟩
    have B0 : StyBox ((w.alloc (.cells #[.bool b, .bool u, .bool i, .int .i64 f, .int .i64 g] 32)).alloc (.cells #[.bool b', .bool u', .bool i', .int .i64 f', .int .i64 g'] 32)) w.heap.size b u i f g := styBox_old (styBox_new _ _ _ _ _ _) ((Below.refl _ _).alloc (Nat.le_refl _) _) (by simp only [World.size_alloc]; omega)
    have B1 : StyBox ((w.alloc (.cells #[.bool b, .bool u, .bool i, .int .i64 f, .int .i64 g] 32)).alloc (.cells #[.bool b', .bool u', .bool i', .int .i64 f', .int .i64 g'] 32)) (w.heap.size + 1) b' u' i' f' g' := by
     have := styBox_new (w.alloc (.cells #[.bool b, .bool u, .bool i, .int .i64 f, .int .i64 g] 32)) b' u' i' f' g'
     rw [World.size_alloc] at this; exact this
    have hb := bnext hb1 hb2
    have D0 := styBox_old B0 hb (by simp only [World.size_alloc]; omega)
    have D1 := styBox_old B1 hb (by simp only [World.size_alloc]; omega)
    have hB2 : Below w.heap.size w w2 := bnext (((Below.refl _ _).alloc (Nat.le_refl _) _).alloc (by simp) _) hb
    have hF : w.heap.size < w2.heap.size := by have := hB2.size; have := hb.size; simp only [World.size_alloc] at this; omega
    have hT1 : w.heap.size + 1 < w2.heap.size := by have := hB2.size; have := hb.size; simp only [World.size_alloc] at this; omega
    obtain ⟨i0, hi, hz0, hz1, hz2⟩ := info_parts infoInt04
    clear B0 B1 hb hb1 hb2 hc1 hf1 M1 M2
    obtain ⟨q0, q1, q2, q3, q4, q5⟩ := D0.cells
    obtain ⟨r0, r1, r2, r3, r4, r5⟩ := D1.cells
    obtain ⟨z, hz⟩ : ∃ z, z = (b && !b' || u && !u' || i && !i') := ⟨_, rfl⟩
    go_upto_region 4 with fail
    generalize Value.agg #[.bool b, .bool u, .bool i, .int .i64 f, .int .i64 g] = V0
    generalize Value.agg #[.bool b', .bool u', .bool i', .int .i64 f', .int .i64 g'] = V1
    go_cut [43] (fun s wx => s = .bool z ∧ wx = w2)
    case first =>
     have Hz := Lib.hid hz
     clear hz
     go_wp2
     all_goals (go_meet; exact ⟨congrArg Value.bool (by rw [Hz.out]; simp_all), rfl⟩)
    case rest =>
     obtain ⟨rfl, rfl⟩ := hcut
     have Hz := Lib.hid hz
     clear hz
     go_upto_if 43 with fail
     obtain ⟨N, hN⟩ : ∃ N, N = wc.heap.size := ⟨_, rfl⟩
     have hS : Stp w N w.heap.size (w.heap.size + 1) [] b u i f g b' u' i' f' g' (.slice none 0 0) wc := ⟨World.ownsRow_nil _ _ _ _, D0, D1, hB2, by omega⟩
     have hNF : w.heap.size < N := by omega
     have hNT : w.heap.size + 1 < N := by omega
     go_cut [5] (fun v wx => ∃ f0 g0, f0 = (if z then 0 else f) ∧ g0 = (if z then 0 else g) ∧ Nxt w N w.heap.size (w.heap.size + 1) [] z 0 (!z && b) (!z && u) (!z && i) f0 g0 b' u' i' f' g' v wx)
     case first =>
      cases z with
      | false =>
       go_wp2
       go_meet
       exact ⟨f, g, rfl, rfl, Nxt.no hS⟩
      | true =>
       go_wp2_with first
        | (at_builtin; refine wpList_append_own _ rfl _ _ 180 rfl N 3 i0 (.int .i64 0) 1 8 Tryz.underlying180 hi hz0 hz1 hz2 rfl (by decide) _ _ _ rfl (hS.own.alloc _) ⟨wc.heap.size, 0, none⟩ 1 1 [.int .i64 0] rfl rfl (cell_one_new _ _ _) (by simp [Value.oneCell']) (by unfold maxLen; simp) (by simp) (by have := hS.size; simp; omega) ?_; intro v' w1 hown' hgrow _; have hS' := Nxt.yes hS hown' hgrow hNF hNT (by omega); obtain ⟨p0, p1, p2, p3, p4, p5⟩ := hS'.box.cells)
       go_meet
       exact ⟨0, 0, rfl, rfl, hS'.zeroed (by omega) hNF (by omega)⟩
     case rest =>
      obtain ⟨f0, g0, hf0, hg0, L1, hL1, hS1⟩ := hcut
      obtain ⟨B, hB⟩ : ∃ B, B = (!z && b) := ⟨_, rfl⟩
      obtain ⟨U, hU⟩ : ∃ U, U = (!z && u) := ⟨_, rfl⟩
      obtain ⟨I, hI⟩ : ∃ I, I = (!z && i) := ⟨_, rfl⟩
      rw [← hB, ← hU, ← hI] at hS1
      have HB := Lib.hid hB
      have HU := Lib.hid hU
      have HI := Lib.hid hI
      have Hf0 := Lib.hid hf0
      have Hg0 := Lib.hid hg0
      have HL1 := Lib.hid hL1
      have hl1 : L1.length ≤ 1 := by rw [hL1]; cases z <;> simp
      clear hB hU hI hf0 hg0 hL1 q0 q1 q2 q3 q4 q5 r0 r1 r2 r3 r4 r5 D0 D1 hB2 hS heq
      obtain ⟨q0, q1, q2, q3, q4, q5⟩ := hS1.from_.cells
      obtain ⟨r0, r1, r2, r3, r4, r5⟩ := hS1.to_.cells
      refine (‹∀ (a : Act) (w : World), Code.wp Tryz.prog _ _ a w → _›) _ _ ?_
      refine wp_seq_k ?_
      intro K2 hK2
      go_cut [5] (fun v wx => Nxt w N w.heap.size (w.heap.size + 1) L1 (b' && !B) 1 B U I f0 g0 b' u' i' f' g' v wx)
      case first =>
       cases b' with
       | false =>
        go_wp2
        go_meet
        exact Nxt.no hS1
       | true =>
        cases B with
        | true =>
         go_wp2
         go_meet
         exact Nxt.no hS1
        | false =>
         go_wp2_with (at_builtin; refine wpList_append_own _ rfl _ _ 180 rfl N 3 i0 (.int .i64 0) 1 8 Tryz.underlying180 hi hz0 hz1 hz2 rfl (by decide) _ _ _ rfl (hS1.own.alloc _) ⟨wc.heap.size, 0, none⟩ 1 1 [.int .i64 1] rfl rfl (cell_one_new _ _ _) (by simp [Value.oneCell']) (by unfold maxLen; omega) (by omega) (by have := hS1.size; simp; omega) ?_; intro v' w1 hown' hgrow _)
         go_meet
         exact Nxt.yes hS1 hown' hgrow hNF hNT (by omega)
      case rest =>
       obtain ⟨L2, hL2, hS2⟩ := hcut
       have HL2 := Lib.hid hL2
       have hl2 : L2.length ≤ 2 := by (rw [hL2, List.length_append];  split <;> simp <;> omega)
       clear hL2 q0 q1 q2 q3 q4 q5 r0 r1 r2 r3 r4 r5
       obtain ⟨q0, q1, q2, q3, q4, q5⟩ := hS2.from_.cells
       obtain ⟨r0, r1, r2, r3, r4, r5⟩ := hS2.to_.cells
       refine hK2 _ _ ?_
       refine wp_seq_k ?_
       intro K3 hK3
       go_cut [5] (fun v wx => Nxt w N w.heap.size (w.heap.size + 1) L2 (u' && !U) 4 B U I f0 g0 b' u' i' f' g' v wx)
       case first =>
        cases u' with
        | false =>
         go_wp2
         go_meet
         exact Nxt.no hS2
        | true =>
         cases U with
         | true =>
          go_wp2
          go_meet
          exact Nxt.no hS2
         | false =>
          go_wp2_with (at_builtin; refine wpList_append_own _ rfl _ _ 180 rfl N 3 i0 (.int .i64 0) 1 8 Tryz.underlying180 hi hz0 hz1 hz2 rfl (by decide) _ _ _ rfl (hS2.own.alloc _) ⟨wc.heap.size, 0, none⟩ 1 1 [.int .i64 4] rfl rfl (cell_one_new _ _ _) (by simp [Value.oneCell']) (by unfold maxLen; omega) (by omega) (by have := hS2.size; simp; omega) ?_; intro v' w1 hown' hgrow _)
          go_meet
          exact Nxt.yes hS2 hown' hgrow hNF hNT (by omega)
       case rest =>
        obtain ⟨L3, hL3, hS3⟩ := hcut
        have HL3 := Lib.hid hL3
        have hl3 : L3.length ≤ 3 := by (rw [hL3, List.length_append];  split <;> simp <;> omega)
        clear hL3 q0 q1 q2 q3 q4 q5 r0 r1 r2 r3 r4 r5
        obtain ⟨q0, q1, q2, q3, q4, q5⟩ := hS3.from_.cells
        obtain ⟨r0, r1, r2, r3, r4, r5⟩ := hS3.to_.cells
        refine hK3 _ _ ?_
        refine wp_seq_k ?_
        intro K4 hK4
        go_cut [5] (fun v wx => Nxt w N w.heap.size (w.heap.size + 1) L3 (i' && !I) 7 B U I f0 g0 b' u' i' f' g' v wx)
        case first =>
         cases i' with
         | false =>
          go_wp2
          go_meet
          exact Nxt.no hS3
         | true =>
          cases I with
          | true =>
           go_wp2
           go_meet
           exact Nxt.no hS3
          | false =>
           go_wp2_with (at_builtin; refine wpList_append_own _ rfl _ _ 180 rfl N 3 i0 (.int .i64 0) 1 8 Tryz.underlying180 hi hz0 hz1 hz2 rfl (by decide) _ _ _ rfl (hS3.own.alloc _) ⟨wc.heap.size, 0, none⟩ 1 1 [.int .i64 7] rfl rfl (cell_one_new _ _ _) (by simp [Value.oneCell']) (by unfold maxLen; omega) (by omega) (by have := hS3.size; simp; omega) ?_; intro v' w1 hown' hgrow _)
           go_meet
           exact Nxt.yes hS3 hown' hgrow hNF hNT (by omega)
        case rest =>
         obtain ⟨L4, hL4, hS4⟩ := hcut
         have HL4 := Lib.hid hL4
         have hl4 : L4.length ≤ 4 := by (rw [hL4, List.length_append];  split <;> simp <;> omega)
         clear hL4 q0 q1 q2 q3 q4 q5 r0 r1 r2 r3 r4 r5
         obtain ⟨q0, q1, q2, q3, q4, q5⟩ := hS4.from_.cells
         obtain ⟨r0, r1, r2, r3, r4, r5⟩ := hS4.to_.cells
         obtain ⟨c4, hc4⟩ : ∃ c, c = decide (f' ≠ f0) := ⟨_, rfl⟩
         have Hc4 := Lib.hid hc4
         clear hc4
         refine hK4 _ _ ?_
         refine wp_seq_k ?_
         intro K5 hK5
         go_cut [5] (fun v wx => Nxt w N w.heap.size (w.heap.size + 1) L4 c4 (colourI f' 30) B U I f0 g0 b' u' i' f' g' v wx)
         case first =>
          go_wp2_with first | (go_at_call 167; refine (colour_any _ _ _ (by omega) (by omega)).mono ?_; rintro e wy ⟨rfl, rfl⟩) | (at_builtin; refine wpList_append_own _ rfl _ _ 180 rfl N 3 i0 (.int .i64 0) 1 8 Tryz.underlying180 hi hz0 hz1 hz2 rfl (by decide) _ _ _ rfl (hS4.own.alloc _) ⟨wc.heap.size, 0, none⟩ 1 1 [.int .i64 (colourI f' 30)] rfl rfl (cell_one_new _ _ _) (by simp [Value.oneCell']) (by unfold maxLen; omega) (by omega) (by have := hS4.size; simp; omega) ?_; intro v' w1 hown' hgrow _)
          all_goals
           go_meet
           first
            | (have e : c4 = true := (by rw [Hc4.out]; simp_all); rw [e]; exact Nxt.yes hS4 hown' hgrow hNF hNT (by omega))
            | (have e : c4 = false := (by rw [Hc4.out]; simp_all); rw [e]; exact Nxt.no hS4)
         case rest =>
          obtain ⟨L5, hL5, hS5⟩ := hcut
          have HL5 := Lib.hid hL5
          have hl5 : L5.length ≤ 5 := by (rw [hL5, List.length_append];  split <;> simp <;> omega)
          clear hL5 q0 q1 q2 q3 q4 q5 r0 r1 r2 r3 r4 r5
          obtain ⟨q0, q1, q2, q3, q4, q5⟩ := hS5.from_.cells
          obtain ⟨r0, r1, r2, r3, r4, r5⟩ := hS5.to_.cells
          obtain ⟨c5, hc5⟩ : ∃ c, c = decide (g' ≠ g0) := ⟨_, rfl⟩
          have Hc5 := Lib.hid hc5
          clear hc5
          refine hK5 _ _ ?_
          refine wp_seq_k ?_
          intro K6 hK6
          go_cut [5] (fun v wx => Nxt w N w.heap.size (w.heap.size + 1) L5 c5 (colourI g' 40) B U I f0 g0 b' u' i' f' g' v wx)
          case first =>
           go_wp2_with first | (go_at_call 167; refine (colour_any _ _ _ (by omega) (by omega)).mono ?_; rintro e wy ⟨rfl, rfl⟩) | (at_builtin; refine wpList_append_own _ rfl _ _ 180 rfl N 3 i0 (.int .i64 0) 1 8 Tryz.underlying180 hi hz0 hz1 hz2 rfl (by decide) _ _ _ rfl (hS5.own.alloc _) ⟨wc.heap.size, 0, none⟩ 1 1 [.int .i64 (colourI g' 40)] rfl rfl (cell_one_new _ _ _) (by simp [Value.oneCell']) (by unfold maxLen; omega) (by omega) (by have := hS5.size; simp; omega) ?_; intro v' w1 hown' hgrow _)
           all_goals
            go_meet
            first
             | (have e : c5 = true := (by rw [Hc5.out]; simp_all); rw [e]; exact Nxt.yes hS5 hown' hgrow hNF hNT (by omega))
             | (have e : c5 = false := (by rw [Hc5.out]; simp_all); rw [e]; exact Nxt.no hS5)
          case rest =>
           obtain ⟨L6, hL6, hS6⟩ := hcut
           have HL6 := Lib.hid hL6
           have hl6 : L6.length ≤ 6 := by (rw [hL6, List.length_append];  split <;> simp <;> omega)
           clear hL6 q0 q1 q2 q3 q4 q5 r0 r1 r2 r3 r4 r5
           obtain ⟨q0, q1, q2, q3, q4, q5⟩ := hS6.from_.cells
           obtain ⟨r0, r1, r2, r3, r4, r5⟩ := hS6.to_.cells
           refine hK6 _ _ ?_
           have hown := hS6.own
           generalize hn : L6.length = n at hown
           obtain ⟨a, c, rfl⟩ := ownsRow_slice hown
           have Hrow := Lib.hid (rowAt_own hown (by rw [i64s_length]; exact hn))
           have Hn := Lib.hid hn
           have Hl : Hid (L6.length ≤ 20) := Lib.hid (by omega)
           have Hm : Hid (∀ k, k < L6.length → 0 ≤ nth 0 L6 k) := Lib.hid (by
            rw [HL6.out, HL5.out, HL4.out, HL3.out, HL2.out, HL1.out]
            exact nn_nth (nn_app (nn_app (nn_app (nn_app (nn_app (nn_app (by simp) (by omega)) (by omega)) (by omega)) (by omega)) (colourI_nn _ _ (by omega) (by omega))) (colourI_nn _ _ (by omega) (by omega))))
           have Hfin : Hid (seqL L6 [109] = T) := Lib.hid (by
            rw [HL6.out, HL5.out, HL4.out, HL3.out, HL2.out, HL1.out, Hc5.out, Hc4.out, HB.out, HU.out, HI.out, Hf0.out, Hg0.out, ← HT.out, Hz.out]
            simp [numsL])
           have hb6 := hS6.below
           clear hn hl6 hl5 hl4 hl3 hl2 hl1 hown q0 q1 q2 q3 q4 q5 r0 r1 r2 r3 r4 r5
           go_wp2_with (go_at_call 114; refine (sequence_any [109] L6 _ _ _ _ (by simp) Hn.out.symm Hl.out Hrow.out Hm.out).mono ?_; rintro e wy ⟨rfl, hby⟩)
           go_ret
           exact ⟨ret_str (by rw [Hfin.out]), bnext hb6 hby⟩
   ·rw [h3] at hT
    have HT := Lib.hid hT
    clear hT
    have m1 := may_any b u i f g
    have m2 := may_any b' u' i' f' g'
    rw [h2] at m1
    rw [h3] at m2
    have M1 := Lib.hid m1
    have M2 := Lib.hid m2
    clear m1 m2 h2 h3
    go_enter Tryz.func133, Tryz.ntmps133
    go_wp2_with fail
    refine (M1.out _).mono ?_
    rintro e w1 ⟨rfl, hb1⟩
    obtain ⟨hc1, hf1⟩ := bcell hb1
    go_wp2_with fail
    refine (M2.out _).mono ?_
    rintro e w2 ⟨rfl, hb2⟩
    go_wp2
    go_ret
    exact ⟨ret_str (by rw [← HT.out]; rfl), bnext (bnext (((Below.refl _ _).alloc (Nat.le_refl _) _).alloc (by simp) _) hb1) hb2⟩
  ·rw [h2] at hT
   have HT := Lib.hid hT
   clear hT
   have m1 := may_any b u i f g
   rw [h2] at m1
   have M1 := Lib.hid m1
   clear m1 h2
   go_enter Tryz.func133, Tryz.ntmps133
   go_wp2_with fail
   refine (M1.out _).mono ?_
   rintro e w1 ⟨rfl, hb1⟩
   go_wp2
   go_ret
   exact ⟨ret_str (by rw [← HT.out]; rfl), bnext (((Below.refl _ _).alloc (Nat.le_refl _) _).alloc (by simp) _) hb1⟩
end Go.Proofs.YtjkajojjehgmdaaGreat
