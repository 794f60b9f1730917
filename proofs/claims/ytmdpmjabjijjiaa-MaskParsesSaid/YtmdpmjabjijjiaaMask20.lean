/- The law's told: the first pieces of a mask. No condition. A pattern's pieces: program. No condition. Parse: program. No condition. The law's same: the same pieces in the law's form and in the reference's. No condition. The law's example: awake. No condition. What Parse makes is whole; the law's example. No condition. Plain laws of masks: what is flat, what a push and a feed make. No condition. Plain laws of masks: what is printed is parsed again; what is shown whole is read and fed. No condition. -/
import Derived.Test.YtmdpmjabjijjiaaMask12
import Derived.RangeFuncBox
import Derived.Maps.OwnIn
import Derived.Test.YtmdpmjabjijjiaaRClus6
namespace Go.Proofs.Ytmdpmjabjijjiaa
set_option linter.unusedVariables false
set_option linter.unusedSimpArgs false
open Go.RowKit Go.Shelf Go.Maps
attribute [local go_sem] Oper.semAt_some
def lawP (p : Nat × List UInt8) : List Value := [.string (S p.2), .bool (!decide (p.1 = 0))]
def LV (L : PL) : List Value := L.flatMap lawP
theorem LV_snoc (L : PL) (p : Nat × List UInt8) : LV (L ++ [p]) = LV L ++ lawP p := by simp [LV]
theorem infoLaw : (Try.prog.info? 114).map (fun i => (i.zero, i.size, i.bytes)) = some (some (.agg #[.string ⟨#[]⟩, .bool false]), 2, 24) := by kernel_rfl
theorem two_new34 (w : World) (x y : Value) (t : TypeId) : ∀ j u, [x, y][j]? = some u → (w.alloc (.cells #[x, y] t)).cell? ((⟨w.heap.size, 0, none⟩ : Addr).add j) = some u := row_at w [x, y] t
def Told34 (L : PL) (w : World) (e : Ending) (w' : World) : Prop :=
  ∃ a n c, n = L.length ∧ n ≤ c ∧ c ≤ maxLen ∧ e = .returned (.tuple #[.slice a n c, .bool true]) ∧ RowAt w'.heap.size w' a (LV L) ∧ Below w.heap.size w w'
def VI (w : World) (n₀ most : Nat) (pre : PL) (W : World) : Prop :=
  (∃ v, Boxed W (w.heap.size + 1 + 1) 48 v ∧ W.ownsRow n₀ 114 2 v pre.length (LV pre) ∧ True) ∧ (pre.length ≤ most ∧ pre.length ≤ 300 ∧ Boxed W w.heap.size 3 (.int .i64 most)) ∧ Below w.heap.size w W
theorem VI.own {w : World} {n₀ most B : Nat} (hB : w.heap.size ≤ B) : OwnFrom B (VI w n₀ most) := fun s X Y row ⟨⟨v, h1, h2, h3⟩, ⟨h4, h4', h5⟩, h9⟩ hg hr =>
  have hr' := fun k e => (hr k e).2
  ⟨⟨v, boxed_own h1 hg hr', own_far h2 hg hr', h3⟩, ⟨h4, h4', boxed_own h5 hg hr'⟩, ownFrom_below (β := PL) (n₀ := w.heap.size) (w₀ := w) (Nat.le_refl _) hB s X Y row h9 hg hr⟩
theorem own_slice2 {W : World} {n₀ : Nat} {e : TypeId} {s : Nat} {v : Value} {n : Nat} {xs : List Value} (h : W.ownsRow n₀ e s v n xs) : ∃ a c, v = .slice a n c := by
  rcases h.2 with ⟨rfl, rfl⟩ | ⟨g, cap, _, rfl, _⟩
  · exact ⟨_, _, rfl⟩
  · exact ⟨_, _, rfl⟩
theorem own2_row_at {W : World} {n₀ : Nat} {e : TypeId} {a : Option Addr} {n c : Nat} {vs : List Value} (h : W.ownsRow n₀ e 2 (.slice a n c) n vs) : RowAt W.heap.size W a vs ∧ n ≤ c ∧ c ≤ maxLen := by
  rcases h with ⟨hl, ⟨h1, h0⟩ | ⟨g, cap, cur, h1, hg, hc, h2, h3, h4, h5⟩⟩
  · simp only [Value.slice.injEq] at h1
    obtain ⟨rfl, rfl, rfl⟩ := h1
    have : vs = [] := List.length_eq_zero_iff.1 (by omega)
    subst this
    exact ⟨RowAt.nil _ _ _, Nat.le_refl _, by unfold maxLen; omega⟩
  · simp only [Value.slice.injEq] at h1
    obtain ⟨rfl, _, rfl⟩ := h1
    refine ⟨fun j hj => ⟨g, 0, rfl, (Array.getElem?_eq_some_iff.1 hc).1, ?_⟩, h2, h3⟩
    unfold World.cell?
    dsimp only
    rw [hc, Nat.zero_add]
    have h6 : (cur.toList.take (n * 2))[j]? = vs[j]? := by rw [h5]
    rw [List.getElem?_take_of_lt (by omega), Array.getElem?_toList] at h6
    simp only [Option.isSome_none, Bool.false_eq_true, if_false]
    rw [h6]
    simp [nth, hj]
theorem told34_fin {w W : World} {n₀ D most : Nat} {L ys : PL} {a1 : Option Addr} {c1 : Nat} (hall : ys = L.take most) (hown : W.ownsRow n₀ 114 2 (.slice a1 ys.length c1) ys.length (LV ys)) (hB : Below w.heap.size w W) (hD : w.heap.size ≤ D) (hK : W.heap[D]? = some (.deferred (some []))) :
    Told34 (L.take most) w (.returned (.tuple #[.slice a1 ys.length c1, .bool true])) (W.putObj D (.deferred none)) := by
  have ho3 := ownsRow_putObj hown (.deferred none) hK rfl
  obtain ⟨hr, hnc, hcm⟩ := own2_row_at ho3
  exact ⟨a1, _, c1, by rw [hall], hnc, hcm, rfl, by rw [← hall]; exact hr, hB.trans (belowK_b (w := w) (Nat.le_refl _) W D _ _ hD hK rfl rfl)⟩
set_option maxRecDepth 100000 in
set_option maxHeartbeats 8000000 in
theorem told34_any {w : World} {p a : Option Addr} {n c : Nat} {L : PL} (h : MaskAt w p a n c L) (hL : L.length ≤ 300) (most : Nat) (hmost : most ≤ 1100000) : Calls Try.prog 40 #[.pointer p, .int .i64 most] w (Told34 (L.take most) w) := by
  have CA := Lib.hid (fun W => mallq_any p W)
  obtain ⟨i0, hi, hz0, hz1, hz2⟩ := info_parts infoLaw
  have hfn : ∀ (fn : Fn) (a b : Array Value) (w : World), (binOp .eql 111 (.func fn a b) .nilFunc).run Try.prog w = .ok (.bool false) w := fun _ _ _ _ => by kernel_rfl
  refine (callsIn_wide (n := 9)).1 ?_
  have h1 : 1 ≤ 9 := by omega
  refine callsIn_of_wp_marks Try.func40 rfl trivial ?_ rfl
  simp only [Try.ntmps40, List.size_toArray, List.length_cons, List.length_nil, Nat.reduceAdd, Nat.reduceSub, Array.replicate_succ, Array.replicate_zero, List.push_toArray, List.append_toArray, List.nil_append, List.cons_append]
  gi_wp2_with (refine ⟨trivial, ?_⟩; gi_at_call 96; refine (callsIn_wide.2 (CA.out _)).mono ?_; rintro e w1 ⟨rfl, hw1⟩)
  have p0 : Boxed w1 w.heap.size 3 (.int .i64 most) := hw1 ▸ (Boxed.new w _ _).alloc _
  have hcx : w1.cell? ⟨w.heap.size + 1, 0, none⟩ = some (.pointer p) := by
    have := (Boxed.new (w.alloc (.cells #[.int .i64 most] 3)) 39 (.pointer p)).cell
    rw [World.size_alloc, hw1] at this; exact this
  have hs1 : w1.heap.size = w.heap.size + 1 + 1 := by rw [← hw1]; simp
  have hb1 : Below w.heap.size w w1 := hw1 ▸ ((Below.refl _ _).alloc (Nat.le_refl _) _).alloc (by simp) _
  clear hw1
  obtain ⟨w2, hw2⟩ : ∃ w2, w1.alloc (.cells #[.slice none 0 0] 48) = w2 := ⟨_, rfl⟩
  have p2 : Boxed w2 (w.heap.size + 1 + 1) 48 (.slice none 0 0) := by
    have := Boxed.new w1 48 (.slice none 0 0)
    rw [hw2, hs1] at this; exact this
  replace p0 : Boxed w2 w.heap.size 3 (.int .i64 most) := hw2 ▸ p0.alloc _
  replace hcx : w2.cell? ⟨w.heap.size + 1, 0, none⟩ = some (.pointer p) := hw2 ▸ cell_alloc_l _ hcx
  have hs2 : w2.heap.size = w.heap.size + 1 + 1 + 1 := by rw [← hw2]; simp [hs1]
  have hb2 : Below w.heap.size w w2 := hw2 ▸ hb1.alloc (by omega) _
  rw [hw2, hs1]
  clear hw2 hb1 hs1
  have hM2 := h.below hb2
  obtain ⟨b, off, hb, hrow⟩ := row_blk hM2.row (by omega)
  obtain ⟨b, off, hb, hrow, hbw⟩ : ∃ b off, b < w2.heap.size ∧ (∀ k, k < L.length → a = some ⟨b, off, none⟩ ∧ w2.cell? ⟨b, off + k * 2, none⟩ = some (.int .i64 (nth pd L k).1) ∧ w2.cell? ⟨b, off + k * 2 + 1, none⟩ = some (.string (S (nth pd L k).2))) ∧ b ≠ w.heap.size + 1 + 1 := by
    by_cases h0 : 0 < L.length
    · obtain ⟨b', off', e', hb', _⟩ := mp_at h.row 0 h0
      have := (hrow 0 h0).1
      rw [this] at e'
      simp only [Option.some.injEq, Addr.mk.injEq] at e'
      exact ⟨b, off, hb, hrow, by omega⟩
    · exact ⟨w.heap.size + 1, 0, by omega, fun k hk => by omega, by omega⟩
  refine wpIn_rangeFunc_ownG rfl h1 (gf := 131) (lb := #[.pointer (some ⟨w.heap.size + 1, 0, none⟩)]) rfl trivial (enters_of Try.func131 (by kernel_rfl) rfl)
    (mseq_any h hL (w.heap.size + 1) w2 hb2 (by omega) hcx b off hb hrow _ (by omega)) KB.trans (KB.put (by omega) hb) (Below.refl _ _) (fun _ => rfl)
    (VI w w2.heap.size most)
    (fun c pre W => ∃ q x, c = .exit 0 ∧ pre = q ++ [x] ∧ q.length = most ∧ VI w w2.heap.size most q W)
    (VI.own (by omega))
    (fun c s X Y row hs hg hr => by obtain ⟨q, x, e1, e2, e3, h⟩ := hs; exact ⟨q, x, e1, e2, e3, VI.own (by omega) q X Y row h hg hr⟩)
    ⟨⟨_, p2, World.ownsRow_nil _ _ _ _, trivial⟩, ⟨by simp, by simp, p0⟩, hb2⟩
    ?_ ?_ ?_ ?_ ?_
  rotate_left 1
  · intro Lq x W K hK
    dsimp only [encP]
    gi_wp2
    exact hK
  · rintro Lq pre x W ⟨⟨v, q2, hown, _⟩, ⟨hpm, hp3, q0⟩, hB⟩ hpl
    obtain ⟨a1, c1, rfl⟩ := own_slice2 hown
    have hc0 := q0.cell
    have hc2 := q2.cell
    by_cases hge : pre.length = most
    · have hd : (most : Int) ≤ (pre.length : Int) := by omega
      have Hge := Lib.hid hge
      clear hge
      gi_wp2
      exact ⟨KeepsFrom.refl _ _, pre, x, rfl, rfl, Hge.out, ⟨⟨_, q2, hown, trivial⟩, ⟨hpm, hp3, q0⟩, hB⟩⟩
    · have hd : (pre.length : Int) < (most : Int) := by omega
      have hB0 := q2.lt
      obtain ⟨z, hz⟩ : ∃ z, z = !decide (x.1 = 0) := ⟨_, rfl⟩
      obtain ⟨s, hs⟩ : ∃ s, s = x.2 := ⟨_, rfl⟩
      have hlv : LV (pre ++ [x]) = LV pre ++ [.string (S s), .bool z] := by rw [LV_snoc, hs, hz]; rfl
      rw [← hz, ← hs]
      have HLV := Lib.hid hlv
      have HG := Lib.hid hge
      clear hz hs hlv hge
      have hzc : (Value.agg #[.string ⟨#[]⟩, .bool false]).cells.size = 2 := by first | kernel_rfl | rfl | simp [Value.cells]
      have h1c : ∀ u ∈ [Value.string (S s), Value.bool z], u.oneCell' = true := by
        intro u hu
        simp only [List.mem_cons, List.not_mem_nil, or_false] at hu
        rcases hu with rfl | rfl <;> rfl
      gi_wp2_with (gi_at_builtin; refine wpListIn_append_own_at _ rfl _ _ 48 rfl w2.heap.size 114 i0 (.agg #[.string ⟨#[]⟩, .bool false]) 2 24 Try.underlying48 hi hz0 hz1 hz2 hzc (by decide) _ _ _ rfl (hown.alloc _) ⟨W.heap.size, 0, none⟩ 1 1 [.string (S s), .bool z] rfl rfl (two_new34 W _ _ _) h1c (by unfold maxLen; omega) (by omega) (by simp; omega) ?_; intro v' w5 hown' hgrow _ hob; obtain ⟨g', cap', rfl⟩ := ownsRow_succ hown'; have q2' := (q2.alloc _).kept hgrow (q2.not_row (by decide) hown); have hc2' := q2'.cell; have hf2' := q2'.frozen)
      have hwl : w2.heap.size ≤ W.heap.size := by omega
      have hbut : But w2.heap.size (w.heap.size + 1 + 1) W (w5.setCell ⟨w.heap.size + 1 + 1, 0, none⟩ (.slice (some ⟨g', 0, none⟩) (pre.length + 1) cap')) :=
        (((But.refl _ _ W).alloc hwl _).grown (by simp; omega) hgrow (fun k e => by obtain ⟨h1, cur', h2⟩ := own_cells (hown.alloc _) k e; exact ⟨h1, _, h2, rfl⟩)).setCell 0 _
      refine ⟨hbut.from, hbut.kb (by omega) (by omega) hb hbw, ⟨_, q2'.set _, ?_, trivial⟩, ⟨?_, ?_, boxed_put ((q0.alloc _).kept hgrow (q0.not_row (by decide) hown)) (by omega) _⟩, hB.trans (hbut.below (by omega) (by omega))⟩
      · rw [HLV.out, List.length_append]
        exact own_set (off := 0) hown' (by omega) _
      · have := HG.out; rw [List.length_append]; simp; omega
      · rw [List.length_append]; simp; omega
  · rintro D ys W hD rfl ⟨⟨v, q2, hown, _⟩, ⟨hpm, hp3, q0⟩, hB⟩ hK
    obtain ⟨a1, c1, rfl⟩ := own_slice2 hown
    have hc2 := q2.cell
    have hall : ys = ys.take most := (List.take_of_length_le hpm).symm
    have hfin := told34_fin (most := most) hall hown hB (by omega) hK
    have HF := Lib.hid hfin
    clear hall hfin
    gi_wp2
    refine ⟨by simp, .inl ⟨_, _, rfl, run_takeDeferred hK, ?_⟩⟩
    refine ⟨_, results_tmp2 rfl _ _ _, ?_⟩
    exact HF.out
  · rintro D cd pre W hD hpre ⟨ys, x, rfl, rfl, hym, ⟨v, q2, hown, _⟩, ⟨hpm, hp3, q0⟩, hB⟩ hK
    obtain ⟨a1, c1, rfl⟩ := own_slice2 hown
    have hc2 := q2.cell
    have hall : ys = L.take most := by
      have h2 : ys <+: L := (List.prefix_append ys [x]).trans hpre
      rw [← hym]
      exact List.prefix_iff_eq_take.1 h2
    have hfin := told34_fin (most := most) hall hown hB (by omega) hK
    have HF := Lib.hid hfin
    have HY := Lib.hid hym
    clear hall hfin hpre hym
    gi_wp2
    refine ⟨by simp, .inl ⟨_, _, rfl, run_takeDeferred hK, ?_⟩⟩
    refine ⟨_, results_tmp2 rfl _ _ _, ?_⟩
    exact HF.out
end Go.Proofs.Ytmdpmjabjijjiaa
namespace Go.Proofs.Ytmdpmjabjijjiaa
set_option linter.unusedVariables false
set_option linter.unusedSimpArgs false
open Go.RowKit Go.Shelf Go.Maps
theorem MP_snoc (L : PL) (p : Nat × List UInt8) : MP (L ++ [p]) = MP L ++ pieceV p := by simp [MP]
theorem infoPiece : (Try.prog.info? 118).map (fun i => (i.zero, i.size, i.bytes)) = some (some (.agg #[.int .i64 0, .string ⟨#[]⟩]), 2, 24) := by kernel_rfl
theorem stepP_len (st : PL × Bool) (c : List UInt8) : (stepP st c).1.length ≤ st.1.length + 1 := by
  unfold stepP
  repeat' split
  all_goals simp
theorem foldP_len : ∀ (D : List (List UInt8)) (st : PL × Bool), (D.foldl stepP st).1.length ≤ st.1.length + D.length
  | [], _ => Nat.le_refl _
  | c :: D, st => by
    have h1 := foldP_len D (stepP st c)
    have h2 := stepP_len st c
    rw [List.foldl_cons, List.length_cons]; omega
theorem foldP_take (D : List (List UInt8)) (k : Nat) (h : k < D.length) (st : PL × Bool) : (D.take (k + 1)).foldl stepP st = stepP ((D.take k).foldl stepP st) (nth [] D k) := by
  rw [take_snoc' D k h, List.foldl_append]; rfl
def PiecesPost (st : PL × Bool) (w : World) (e : Ending) (w' : World) : Prop :=
  ∃ a n c, n = st.1.length ∧ n ≤ c ∧ c ≤ maxLen ∧ e = .returned (.tuple #[.slice a n c, .bool (!st.2)]) ∧ RowAt w'.heap.size w' a (MP st.1) ∧ Below w.heap.size w w'
set_option maxRecDepth 100000 in
set_option maxHeartbeats 4000000 in
theorem pieces_any (f : List UInt8) (hf : f.length ≤ 1100000) (w : World) : Calls Try.prog 94 #[.string (S f)] w (PiecesPost (piecesL f) w) := by
  obtain ⟨i0, hi, hz0, hz1, hz2⟩ := info_parts infoPiece
  have CC := Lib.hid (fun W => cut_any f hf W)
  have hzl := cutL_len f
  unfold piecesL
  obtain ⟨D, hD⟩ : ∃ D, D = cutL f := ⟨_, rfl⟩
  rw [← hD] at CC hzl ⊢
  clear hD
  have hDl : D.length ≤ 1100000 := by omega
  have hzc : (Value.agg #[.int .i64 0, .string ⟨#[]⟩]).cells.size = 2 := by first | kernel_rfl | rfl | simp [Value.cells]
  go_enter Try.func94, Try.ntmps94
  go_wp2_with (go_at_call 17; refine (CC.out _).mono ?_; rintro e w1 ⟨a1, n1, c1, hn1, hnc1, hcm1, rfl, hrow1, hb1, _⟩)
  have hB1 := hb1.size
  go_loopw [11, 4, 5] (fun i v m wr => ∃ (k : Nat) (st : PL × Bool), k ≤ D.length ∧ i = .int .i64 (k : Int) ∧ m = .bool st.2 ∧ Hid ((D.take k).foldl stepP ([], false) = st) ∧ wr.ownsRow w1.heap.size 118 2 v st.1.length (MP st.1) ∧ st.1.length ≤ k ∧ Below w1.heap.size w1 wr)
    (fun i _ _ _ => D.length - (intOf i).toNat)
  case atStart => exact ⟨0, ([], false), Nat.zero_le _, rfl, rfl, Lib.hid rfl, World.ownsRow_nil _ _ _ _, Nat.le_refl _, Below.refl _ _⟩
  case round =>
    obtain ⟨k, ⟨X, m⟩, hk, rfl, rfl, hst, ho, hXk, hbr⟩ := hrel
    dsimp only at ho hXk ⊢
    have hbs := hbr.size
    obtain ⟨a2, c2, rfl⟩ := own_slice2 ho
    by_cases hlt : k < D.length
    · obtain ⟨b, off, rfl, hb, hc0⟩ := strs_at hrow1 k hlt
      have hd0 := (hbr.cell (p := ⟨b, off + k, none⟩) hb).trans hc0
      have hst2 := foldP_take D k hlt ([], false)
      rw [hst.out] at hst2
      unfold stepP at hst2
      dsimp only at hst2
      obtain ⟨s, hs⟩ : ∃ s, s = nth [] D k := ⟨_, rfl⟩
      rw [← hs] at hd0 hst2
      have CS := Lib.hid (fun W => slot_any s W)
      have hse := S_const s [92]
      have h1c : ∀ q : Nat, ∀ u ∈ [Value.int .i64 (q : Int), Value.string (S s)], u.oneCell' = true := by
        intro q u hu
        simp only [List.mem_cons, List.not_mem_nil, or_false] at hu
        rcases hu with rfl | rfl <;> rfl
      clear hs hc0
      cases m with
      | true =>
        rw [if_pos rfl] at hst2
        have HST := Lib.hid hst2
        clear hst2
        go_wp2_with (at_builtin; refine wpList_append_own _ rfl _ _ 69 rfl w1.heap.size 118 i0 (.agg #[.int .i64 0, .string ⟨#[]⟩]) 2 24 Try.underlying69 hi hz0 hz1 hz2 hzc (by decide) _ _ _ rfl (ho.alloc _) ⟨wr.heap.size, 0, none⟩ 1 1 [.int .i64 0, .string (S s)] rfl rfl (two_new34 wr _ _ _) (h1c 0) (by unfold maxLen; omega) (by omega) (by simp; omega) ?_; intro v4 w4 ho4 hg4 _; obtain ⟨g4, c4, rfl⟩ := ownsRow_succ ho4)
        have hb4 : Below w1.heap.size w1 w4 := (hbr.alloc hbs _).grown hg4 (by simp; omega) (fun k e => (own_cells ho k e).1)
        go_roundw
        case rel => exact ⟨k + 1, (X ++ [(0, s)], false), hlt, by go_num, rfl, HST, by rw [MP_snoc, List.length_append]; exact ho4, by rw [List.length_append]; exact Nat.succ_le_succ hXk, hb4⟩
        case measure => simp [intOf]; omega
      | false =>
        rw [if_neg (by simp)] at hst2
        by_cases h92 : s = [92]
        · rw [decide_eq_true h92] at hse
          rw [if_pos h92] at hst2
          have HST := Lib.hid hst2
          clear hst2 h92
          go_wp2
          go_roundw
          case rel => exact ⟨k + 1, (X, true), hlt, by go_num, rfl, HST, ho, Nat.le_succ_of_le hXk, hbr⟩
          case measure => simp [intOf]; omega
        · rw [decide_eq_false h92] at hse
          rw [if_neg h92] at hst2
          obtain ⟨q, hq⟩ : ∃ q, q = sortB s := ⟨_, rfl⟩
          rw [← hq] at hst2 CS
          have HST := Lib.hid hst2
          clear hst2 h92 hq
          go_wp2_with (first
            | (go_at_call 98; refine (CS.out _).mono ?_; rintro e w3 ⟨rfl, rfl⟩)
            | (at_builtin; refine wpList_append_own _ rfl _ _ 69 rfl w1.heap.size 118 i0 (.agg #[.int .i64 0, .string ⟨#[]⟩]) 2 24 Try.underlying69 hi hz0 hz1 hz2 hzc (by decide) _ _ _ rfl (ho.alloc _) ⟨wr.heap.size, 0, none⟩ 1 1 [.int .i64 q, .string (S s)] rfl rfl (two_new34 wr _ _ _) (h1c q) (by unfold maxLen; omega) (by omega) (by simp; omega) ?_; intro v4 w4 ho4 hg4 _; obtain ⟨g4, c4, rfl⟩ := ownsRow_succ ho4))
          have hb4 : Below w1.heap.size w1 w4 := (hbr.alloc hbs _).grown hg4 (by simp; omega) (fun k e => (own_cells ho k e).1)
          go_roundw
          case rel => exact ⟨k + 1, (X ++ [(q, s)], false), hlt, by go_num, rfl, HST, by rw [MP_snoc, List.length_append]; exact ho4, by rw [List.length_append]; exact Nat.succ_le_succ hXk, hb4⟩
          case measure => simp [intOf]; omega
    · obtain rfl : k = D.length := by omega
      have hT : D.foldl stepP ([], false) = (X, m) := by
        rw [← hst.out, List.take_of_length_le (Nat.le_refl _)]
      have HT := Lib.hid hT
      clear hT
      go_wp2
      refine bodyPost_ret (results_tmp2 rfl _ _ _) rfl ?_
      rw [HT.out]
      obtain ⟨hr, hnc, hcm⟩ := own2_row_at ho
      exact ⟨a2, _, c2, rfl, hnc, hcm, rfl, hr, bnext hb1 hbr⟩
end Go.Proofs.Ytmdpmjabjijjiaa
namespace Go.Proofs.Ytmdpmjabjijjiaa
set_option linter.unusedVariables false
set_option linter.unusedSimpArgs false
open Go.RowKit Go.Shelf Go.Maps
/-- What Parse hands back. -/
def ParsePost (f : List UInt8) (w : World) (e : Ending) (w' : World) : Prop :=
  (∃ p, e = .returned (.tuple #[.pointer p, .int .i64 (parseC f)]) ∧ ((parseC f ≠ 0 ∧ p = none) ∨ (parseC f = 0 ∧ p.isSome = true ∧ ∃ a n c, MaskAt w' p a n c (parseL f)))) ∧ Below w.heap.size w w'
theorem maskAt_new {w : World} {a : Option Addr} {n c : Nat} {L : PL} (hn : n = L.length) (hnc : n ≤ c) (hcm : c ≤ maxLen) (hr : RowAt w.heap.size w a (MP L)) : MaskAt (w.alloc (.cells #[.slice a n c] 71)) (some ⟨w.heap.size, 0, none⟩) a n c L :=
  ⟨.inr ⟨_, rfl, by simp, (cell_new_l w _ _).1⟩, hn, hnc, hcm, (hr.below ((Below.refl _ _).alloc (Nat.le_refl _) _)).more (by simp)⟩
set_option maxRecDepth 100000 in
set_option maxHeartbeats 4000000 in
theorem mparse_any (f : List UInt8) (hf : f.length ≤ 1100000) (w : World) : Calls Try.prog 37 #[.string (S f)] w (ParsePost f w) := by
  have hsf := S_size f
  have CF := Lib.hid (fun W => flat_any f hf W)
  have CP := Lib.hid (fun W => pieces_any f hf W)
  by_cases h1 : 256 < f.length
  · have hc : parseC f = 2 := by unfold parseC; rw [if_pos h1]
    have HC := Lib.hid hc
    have h1' : (256 : Int) < (f.length : Int) := by omega
    clear hc
    go_enter Try.func37, Try.ntmps37
    go_wp2
    refine bodyPost_ret (results_tmp2 rfl _ _ _) rfl ?_
    exact ⟨⟨none, by rw [HC.out]; rfl, .inl ⟨by rw [HC.out]; decide, rfl⟩⟩, Below.refl _ _⟩
  have h1' : (f.length : Int) ≤ 256 := by omega
  have hse := S_eq (flatL f) f
  by_cases h2 : flatL f = f
  · rw [decide_eq_true h2] at hse
    have hse2 : ((S (flatL f)).toList != (S f).toList) = false := by simp [bne, hse]
    have hpc : parseC f = if (piecesL f).2 = true then 340 else if 64 < (piecesL f).1.length then 3 else if slotsL (piecesL f).1 = [] then 6 else 0 := by
      unfold parseC; rw [if_neg h1, if_neg (by simp [h2])]
    have hpl : parseL f = (piecesL f).1 := rfl
    obtain ⟨st, hst⟩ : ∃ st, st = piecesL f := ⟨_, rfl⟩
    rw [← hst] at hpc hpl CP
    obtain ⟨X, m⟩ := st
    dsimp only at hpc hpl
    clear hst h2
    have HPL := Lib.hid hpl
    clear hpl
    cases m with
    | true =>
      rw [if_pos rfl] at hpc
      have HC := Lib.hid hpc
      clear hpc
      go_enter Try.func37, Try.ntmps37
      go_wp2_with (first
        | (go_at_call 19; refine (CF.out _).mono ?_; rintro e w1 ⟨rfl, hb1⟩)
        | (go_at_call 94; refine (CP.out _).mono ?_; rintro e w2 ⟨a, n, c, hn, hnc, hcm, rfl, hrow, hb2⟩))
      refine bodyPost_ret (results_tmp2 rfl _ _ _) rfl ?_
      exact ⟨⟨none, by rw [HC.out]; rfl, .inl ⟨by rw [HC.out]; decide, rfl⟩⟩, bnext hb1 hb2⟩
    | false =>
      rw [if_neg (by simp)] at hpc
      by_cases h3 : 64 < X.length
      · rw [if_pos h3] at hpc
        have h3' : (64 : Int) < (List.length X : Int) := by omega
        have HC := Lib.hid hpc
        clear hpc
        go_enter Try.func37, Try.ntmps37
        go_wp2_with (first
          | (go_at_call 19; refine (CF.out _).mono ?_; rintro e w1 ⟨rfl, hb1⟩)
          | (go_at_call 94; refine (CP.out _).mono ?_; rintro e w2 ⟨a, n, c, hn, hnc, hcm, rfl, hrow, hb2⟩; replace hn : n = List.length X := hn))
        refine bodyPost_ret (results_tmp2 rfl _ _ _) rfl ?_
        exact ⟨⟨none, by rw [HC.out]; rfl, .inl ⟨by rw [HC.out]; decide, rfl⟩⟩, bnext hb1 hb2⟩
      · rw [if_neg h3] at hpc
        have h3' : (List.length X : Int) ≤ 64 := by omega
        have h3n : List.length X ≤ 300 := by omega
        have CS := Lib.hid (fun W p a n c (h : MaskAt W p a n c X) => mSlots_any h h3n)
        by_cases h4 : slotsL X = []
        · rw [if_pos h4] at hpc
          have h4' : (slotsL X).length = 0 := by rw [h4]; rfl
          have HC := Lib.hid hpc
          clear hpc h4 h3
          go_enter Try.func37, Try.ntmps37
          go_wp2_with (first
            | (go_at_call 19; refine (CF.out _).mono ?_; rintro e w1 ⟨rfl, hb1⟩)
            | (go_at_call 94; refine (CP.out _).mono ?_; rintro e w2 ⟨a, n, c, hn, hnc, hcm, rfl, hrow, hb2⟩; obtain rfl : n = List.length X := hn; have hM := maskAt_new (L := X) rfl hnc hcm hrow)
            | (go_at_call 44; refine (CS.out _ _ _ _ _ hM).mono ?_; rintro e w3 ⟨rfl, hb3⟩))
          refine bodyPost_ret (results_tmp2 rfl _ _ _) rfl ?_
          exact ⟨⟨none, by rw [HC.out]; rfl, .inl ⟨by rw [HC.out]; decide, rfl⟩⟩, bnext ((bnext hb1 hb2).alloc (bnext hb1 hb2).size _) hb3⟩
        · rw [if_neg h4] at hpc
          have h4' : (((slotsL X).length : Int) == 0) = false := by simp [h4]
          have HC := Lib.hid hpc
          clear hpc h4 h3
          go_enter Try.func37, Try.ntmps37
          go_wp2_with (first
            | (go_at_call 19; refine (CF.out _).mono ?_; rintro e w1 ⟨rfl, hb1⟩)
            | (go_at_call 94; refine (CP.out _).mono ?_; rintro e w2 ⟨a, n, c, hn, hnc, hcm, rfl, hrow, hb2⟩; obtain rfl : n = List.length X := hn; have hM := maskAt_new (L := X) rfl hnc hcm hrow)
            | (go_at_call 44; refine (CS.out _ _ _ _ _ hM).mono ?_; rintro e w3 ⟨rfl, hb3⟩))
          refine bodyPost_ret (results_tmp2 rfl _ _ _) rfl ?_
          exact ⟨⟨_, by rw [HC.out]; rfl, .inr ⟨HC.out, rfl, _, _, _, by rw [HPL.out]; exact hM.below hb3⟩⟩, bnext ((bnext hb1 hb2).alloc (bnext hb1 hb2).size _) hb3⟩
  · have hc : parseC f = 7 := by unfold parseC; rw [if_neg h1, if_pos h2]
    have HC := Lib.hid hc
    rw [decide_eq_false h2] at hse
    have hse2 : ((S (flatL f)).toList != (S f).toList) = true := by simp [bne, hse]
    clear hc h2
    go_enter Try.func37, Try.ntmps37
    go_wp2_with (go_at_call 19; refine (CF.out _).mono ?_; rintro e w1 ⟨rfl, hb1⟩)
    refine bodyPost_ret (results_tmp2 rfl _ _ _) rfl ?_
    exact ⟨⟨none, by rw [HC.out]; rfl, .inl ⟨by rw [HC.out]; decide, rfl⟩⟩, hb1⟩
end Go.Proofs.Ytmdpmjabjijjiaa
namespace Go.Proofs.Ytmdpmjabjijjiaa
set_option linter.unusedVariables false
set_option linter.unusedSimpArgs false
open Go.RowKit Go.Shelf Go.Maps
def refP (p : Nat × List UInt8) : List Value := [.bool (!decide (p.1 = 0)), .string (S p.2)]
def RV (L : PL) : List Value := L.flatMap refP
theorem pair_nth (f : Nat × List UInt8 → Value) (g : Nat × List UInt8 → Value) (L : PL) (k : Nat) (h : k < L.length) :
    nth undef (L.flatMap fun p => [f p, g p]) (k * 2) = f (nth pd L k) ∧ nth undef (L.flatMap fun p => [f p, g p]) (k * 2 + 1) = g (nth pd L k) := by
  induction L generalizing k with
  | nil => simp at h
  | cons p t ih =>
    cases k with
    | zero => exact ⟨rfl, rfl⟩
    | succ k =>
      have h' : k < t.length := by simpa using h
      obtain ⟨h1, h2⟩ := ih k h'
      refine ⟨?_, ?_⟩
      · rw [show (k + 1) * 2 = k * 2 + 1 + 1 by omega]; exact h1
      · rw [show (k + 1) * 2 + 1 = k * 2 + 1 + 1 + 1 by omega]; exact h2
theorem pair_len (f : Nat × List UInt8 → Value) (g : Nat × List UInt8 → Value) (L : PL) : (L.flatMap fun p => [f p, g p]).length = L.length * 2 := by
  induction L with
  | nil => rfl
  | cons p t ih => rw [List.flatMap_cons, List.length_append, ih]; simp; omega
theorem pair_at (f : Nat × List UInt8 → Value) (g : Nat × List UInt8 → Value) {B : Nat} {w : World} {a : Option Addr} {L : PL} (h : RowAt B w a (L.flatMap fun p => [f p, g p])) (k : Nat) (hk : k < L.length) :
    ∃ b off, a = some ⟨b, off, none⟩ ∧ b < B ∧ w.cell? ⟨b, off + k * 2, none⟩ = some (f (nth pd L k)) ∧ w.cell? ⟨b, off + k * 2 + 1, none⟩ = some (g (nth pd L k)) := by
  have hl := pair_len f g L
  obtain ⟨b, off, e, hb, hc⟩ := h (k * 2) (by omega)
  obtain ⟨b', off', e', hb', hc'⟩ := h (k * 2 + 1) (by omega)
  rw [e] at e'
  simp only [Option.some.injEq, Addr.mk.injEq] at e'
  obtain ⟨rfl, rfl, _⟩ := e'
  obtain ⟨h1, h2⟩ := pair_nth f g L k hk
  exact ⟨b, off, e, hb, by rw [hc, h1], by rw [Nat.add_assoc, hc', h2]⟩
theorem lv_at {B : Nat} {w : World} {a : Option Addr} {L : PL} (h : RowAt B w a (LV L)) (k : Nat) (hk : k < L.length) :
    ∃ b off, a = some ⟨b, off, none⟩ ∧ b < B ∧ w.cell? ⟨b, off + k * 2, none⟩ = some (.string (S (nth pd L k).2)) ∧ w.cell? ⟨b, off + k * 2 + 1, none⟩ = some (.bool (!decide ((nth pd L k).1 = 0))) :=
  pair_at (fun p => .string (S p.2)) (fun p => .bool (!decide (p.1 = 0))) h k hk
theorem rv_at {B : Nat} {w : World} {a : Option Addr} {L : PL} (h : RowAt B w a (RV L)) (k : Nat) (hk : k < L.length) :
    ∃ b off, a = some ⟨b, off, none⟩ ∧ b < B ∧ w.cell? ⟨b, off + k * 2, none⟩ = some (.bool (!decide ((nth pd L k).1 = 0))) ∧ w.cell? ⟨b, off + k * 2 + 1, none⟩ = some (.string (S (nth pd L k).2)) :=
  pair_at (fun p => .bool (!decide (p.1 = 0))) (fun p => .string (S p.2)) h k hk
set_option maxRecDepth 100000 in
set_option maxHeartbeats 4000000 in
theorem same34_any (L : PL) (a b : Option Addr) (n c m d : Nat) (w : World) (hn : (n == L.length) = true) (hm : (m == L.length) = true) (hl : L.length ≤ 1100000) (ha : RowAt w.heap.size w a (LV L)) (hb : RowAt w.heap.size w b (RV L)) :
    Calls Try.prog 42 #[.slice a n c, .slice b m d] w fun e w' => e = .returned (.bool true) ∧ Below w.heap.size w w' := by
  obtain rfl : n = L.length := by simpa using hn
  obtain rfl : m = L.length := by simpa using hm
  clear hn hm
  go_enter Try.func42, Try.ntmps42
  go_wp2
  go_loopw [5] (fun i wr => ∃ k : Nat, k ≤ L.length ∧ i = .int .i64 (k : Int) ∧ Below w.heap.size w wr) (fun i _ => L.length - (intOf i).toNat)
  case atStart => exact ⟨0, Nat.zero_le _, rfl, Below.refl _ _⟩
  case round =>
    obtain ⟨k, hk, rfl, hbr⟩ := hrel
    by_cases hlt : k < L.length
    · obtain ⟨b1, o1, rfl, hb1, hc1, hc1'⟩ := lv_at ha k hlt
      obtain ⟨b2, o2, rfl, hb2, hc2, hc2'⟩ := rv_at hb k hlt
      have hd1 := (hbr.cell (p := ⟨b1, o1 + k * 2, none⟩) hb1).trans hc1
      have hd1' := (hbr.cell (p := ⟨b1, o1 + k * 2 + 1, none⟩) hb1).trans hc1'
      have hd2 := (hbr.cell (p := ⟨b2, o2 + k * 2, none⟩) hb2).trans hc2
      have hd2' := (hbr.cell (p := ⟨b2, o2 + k * 2 + 1, none⟩) hb2).trans hc2'
      obtain ⟨z, hz⟩ : ∃ z, z = !decide ((nth pd L k).1 = 0) := ⟨_, rfl⟩
      obtain ⟨s, hs⟩ : ∃ s, s = (nth pd L k).2 := ⟨_, rfl⟩
      rw [← hz] at hd1' hd2
      rw [← hs] at hd1 hd2'
      have hse : ((S s).toList == (S s).toList) = true := by rw [S_eq]; simp
      have hse2 : ((S s).toList != (S s).toList) = false := by simp [bne, hse]
      clear hz hs hc1 hc1' hc2 hc2'
      go_wp2
      go_quiet (fail)
      go_wp2
      go_roundw
      case rel => exact ⟨k + 1, hlt, by go_num, below_drewN hbr nq⟩
      case measure => simp [intOf]; omega
    · obtain rfl : k = L.length := by omega
      go_wp2
      go_ret
      exact ⟨rfl, hbr⟩
end Go.Proofs.Ytmdpmjabjijjiaa
namespace Go.Proofs.Ytmdpmjabjijjiaa
set_option linter.unusedVariables false
set_option linter.unusedSimpArgs false
open Go.RowKit Go.Shelf Go.Maps
def awL : PL := [(1, [57]), (1, [57]), (0, [45]), (3, [65])]
theorem awm_code : parseC [57, 57, 45, 65] = 0 := by decide +kernel
theorem awm_list : parseL [57, 57, 45, 65] = awL := by decide +kernel
theorem awm_read : readL awL [49, 50, 45, 88] = ([49, 50, 88], true) := by decide +kernel
theorem awm_feed : feedL awL [] [49, 50, 120] = [49, 50, 88] := by decide +kernel
theorem awm_show : showL awL [49] = [49, 95, 45, 95] := by decide +kernel
theorem awm_whole : wholeL awL [49, 50, 88] = true := by decide +kernel
theorem awm_print : printL awL = [57, 57, 45, 65] := by decide +kernel
end Go.Proofs.Ytmdpmjabjijjiaa
namespace Go.Proofs.Ytmdpmjabjijjiaa
set_option linter.unusedVariables false
set_option linter.unusedSimpArgs false
open Go.RowKit Go.Shelf Go.Maps
theorem foldP_ok (D : List (List UInt8)) (hD : ∀ c ∈ D, Clu c) (st : PL × Bool) (h : ∀ p ∈ st.1, Clu p.2 ∧ (p.1 = 0 ∨ p.1 = sortB p.2)) : ∀ p ∈ (D.foldl stepP st).1, Clu p.2 ∧ (p.1 = 0 ∨ p.1 = sortB p.2) := by
  induction D generalizing st with
  | nil => exact h
  | cons c t ih =>
    rw [List.foldl_cons]
    refine ih (fun x hx => hD x (List.mem_cons_of_mem _ hx)) _ ?_
    have hc := hD c (List.mem_cons_self ..)
    intro p hp
    unfold stepP at hp
    split at hp
    · simp only [List.mem_append, List.mem_singleton] at hp
      rcases hp with hp | rfl
      · exact h p hp
      · exact ⟨hc, .inl rfl⟩
    · split at hp
      · exact h p hp
      · simp only [List.mem_append, List.mem_singleton] at hp
        rcases hp with hp | rfl
        · exact h p hp
        · exact ⟨hc, .inr rfl⟩
theorem parse_len {f : List UInt8} (h : parseC f = 0) : (parseL f).length ≤ 64 := by
  unfold parseC at h
  split at h
  · simp at h
  split at h
  · simp at h
  split at h
  · simp at h
  split at h
  · simp at h
  · rename_i h1
    exact Nat.le_of_not_lt h1
theorem parse_flat {f : List UInt8} (h : parseC f = 0) : f.length ≤ 256 ∧ flatL f = f ∧ (piecesL f).2 = false ∧ slotsL (parseL f) ≠ [] := by
  unfold parseC at h
  split at h
  · simp at h
  rename_i h0
  split at h
  · simp at h
  rename_i h1
  split at h
  · simp at h
  rename_i h2
  split at h
  · simp at h
  split at h
  · simp at h
  rename_i h3
  exact ⟨by omega, by simpa using h1, by simpa using h2, h3⟩
theorem parse_ok {f : List UInt8} (h : parseC f = 0) : PLok (parseL f) := by
  have h1 := foldP_ok (cutL f) (fun c hc => clu_mem hc) ([], false) (by simp)
  have h2 := parse_len h
  exact ⟨by omega, fun p hp => (h1 p hp).1, fun p hp => (h1 p hp).2⟩
def PNew (L : PL) (w : World) (e : Ending) (w' : World) : Prop :=
  ∃ b a n c, e = .returned (.tuple #[.pointer (some ⟨b, 0, none⟩), .int .i64 0]) ∧ MaskAt w' (some ⟨b, 0, none⟩) a n c L ∧ Below w.heap.size w w'
theorem parse_new {f : List UInt8} (hf : f.length ≤ 1100000) (h : parseC f = 0) (w : World) : Calls Try.prog 37 #[.string (S f)] w (PNew (parseL f) w) := by
  refine (mparse_any f hf w).mono ?_
  rintro e w' ⟨⟨p, rfl, h1⟩, hb⟩
  rcases h1 with ⟨h1, _⟩ | ⟨_, h2, a, n, c, hM⟩
  · exact absurd h h1
  · rcases hM.at_ with ⟨rfl, _⟩ | ⟨b, rfl, _⟩
    · simp at h2
    · exact ⟨b, a, n, c, by rw [h], hM, hb⟩
theorem parse_bad {f : List UInt8} (hf : f.length ≤ 1100000) (h : parseC f ≠ 0) (w : World) : Calls Try.prog 37 #[.string (S f)] w fun e w' => e = .returned (.tuple #[.pointer none, .int .i64 (parseC f)]) ∧ Below w.heap.size w w' := by
  refine (mparse_any f hf w).mono ?_
  rintro e w' ⟨⟨p, rfl, h1⟩, hb⟩
  rcases h1 with ⟨_, rfl⟩ | ⟨h1, _⟩
  · exact ⟨rfl, hb⟩
  · exact absurd h1 h
theorem awL_ok : PLok awL := by rw [← awm_list]; exact parse_ok awm_code
set_option maxRecDepth 100000 in
set_option maxHeartbeats 4000000 in
theorem awake34_any (w : World) : Calls Try.prog 39 #[] w fun e w' => e = .returned (.bool true) ∧ Below w.heap.size w w' := by
  have C1 : ∀ W, Calls Try.prog 37 #[.string ⟨#[57, 57, 45, 65]⟩] W (PNew awL W) := fun W => awm_list ▸ parse_new (f := [57, 57, 45, 65]) (by decide) awm_code W
  have C2 : ∀ W b a n c, MaskAt W (some ⟨b, 0, none⟩) a n c awL → Calls Try.prog 52 #[.pointer (some ⟨b, 0, none⟩), .string ⟨#[49, 50, 45, 88]⟩] W fun e w' => e = .returned (.tuple #[.string (S [49, 50, 88]), .bool true]) ∧ Below W.heap.size W w' := by
    intro W b a n c h
    have := mread_any h awL_ok [49, 50, 45, 88] (by decide)
    rw [awm_read] at this
    exact this
  have C3 : ∀ W b a n c, MaskAt W (some ⟨b, 0, none⟩) a n c awL → Calls Try.prog 44 #[.pointer (some ⟨b, 0, none⟩)] W fun e w' => e = .returned (.int .i64 3) ∧ Below W.heap.size W w' := fun W b a n c h => mSlots_any h (by decide)
  have C4 : ∀ W b a n c, MaskAt W (some ⟨b, 0, none⟩) a n c awL → Calls Try.prog 46 #[.pointer (some ⟨b, 0, none⟩), .string ⟨#[]⟩, .string ⟨#[49, 50, 120]⟩] W fun e w' => e = .returned (.string (S [49, 50, 88])) ∧ Below W.heap.size W w' := by
    intro W b a n c h
    have := mfeed_any h awL_ok [] [49, 50, 120] (by decide) (by decide) (by decide +kernel)
    rw [awm_feed] at this
    exact this
  have C5 : ∀ W b a n c, MaskAt W (some ⟨b, 0, none⟩) a n c awL → Calls Try.prog 53 #[.pointer (some ⟨b, 0, none⟩), .string ⟨#[49]⟩] W fun e w' => e = .returned (.string (S [49, 95, 45, 95])) ∧ Below W.heap.size W w' := by
    intro W b a n c h
    have := mshow_any h awL_ok [49] (by decide)
    rw [awm_show] at this
    exact this
  have C6 : ∀ W b a n c, MaskAt W (some ⟨b, 0, none⟩) a n c awL → Calls Try.prog 54 #[.pointer (some ⟨b, 0, none⟩), .string ⟨#[49, 50, 88]⟩] W fun e w' => e = .returned (.bool true) ∧ Below W.heap.size W w' := by
    intro W b a n c h
    have := mwhole_any h awL_ok [49, 50, 88] (by decide)
    rw [awm_whole] at this
    exact this
  have C7 : ∀ W b a n c, MaskAt W (some ⟨b, 0, none⟩) a n c awL → Calls Try.prog 41 #[.pointer (some ⟨b, 0, none⟩)] W fun e w' => e = .returned (.string (S [57, 57, 45, 65])) ∧ Below W.heap.size W w' := by
    intro W b a n c h
    have := mprint_any h awL_ok
    rw [awm_print] at this
    exact this
  have C1 := Lib.hid C1
  have C2 := Lib.hid C2
  have C3 := Lib.hid C3
  have C4 := Lib.hid C4
  have C5 := Lib.hid C5
  have C6 := Lib.hid C6
  have C7 := Lib.hid C7
  have q1 : ((S [49, 50, 88]).toList == [49, 50, 88]) = true := by rw [S_toList]; rfl
  have q2 : ((S [49, 95, 45, 95]).toList == [49, 95, 45, 95]) = true := by rw [S_toList]; rfl
  have q3 : ((S [57, 57, 45, 65]).toList == [57, 57, 45, 65]) = true := by rw [S_toList]; rfl
  go_enter Try.func39, Try.ntmps39
  go_wp2_with (first
    | (go_at_call 37; refine (C1.out _).mono ?_; rintro e w1 ⟨b, a, n, c, rfl, hM1, hb1⟩; have hM1 := Lib.hid hM1)
    | (go_at_call 52; refine (C2.out _ _ _ _ _ hM1.out).mono ?_; rintro e w2 ⟨rfl, hb2⟩; have hM2 := Lib.hid (hM1.out.below hb2))
    | (go_at_call 44; refine (C3.out _ _ _ _ _ hM2.out).mono ?_; rintro e w3 ⟨rfl, hb3⟩; have hM3 := Lib.hid (hM2.out.below hb3))
    | (go_at_call 46; refine (C4.out _ _ _ _ _ hM3.out).mono ?_; rintro e w4 ⟨rfl, hb4⟩; have hM4 := Lib.hid (hM3.out.below hb4))
    | (go_at_call 53; refine (C5.out _ _ _ _ _ hM4.out).mono ?_; rintro e w5 ⟨rfl, hb5⟩; have hM5 := Lib.hid (hM4.out.below hb5))
    | (go_at_call 54; refine (C6.out _ _ _ _ _ hM5.out).mono ?_; rintro e w6 ⟨rfl, hb6⟩; have hM6 := Lib.hid (hM5.out.below hb6))
    | (go_at_call 41; refine (C7.out _ _ _ _ _ hM6.out).mono ?_; rintro e w7 ⟨rfl, hb7⟩))
  go_ret
  exact ⟨rfl, bnext (bnext (bnext (bnext (bnext (bnext hb1 hb2) hb3) hb4) hb5) hb6) hb7⟩
end Go.Proofs.Ytmdpmjabjijjiaa
namespace Go.Proofs.Ytmdpmjabjijjiaa
set_option linter.unusedVariables false
set_option linter.unusedSimpArgs false
open Go.RowKit Go.Shelf Go.Maps
theorem foldl_noctrl : ∀ (rs : List Nat) (out : List (List Nat)), (∀ c ∈ out, ∀ r ∈ c, ctrlB r = false) → ∀ c ∈ rs.foldl stepG out, ∀ r ∈ c, ctrlB r = false
  | [], out, h => h
  | r :: t, out, h => by
    rw [List.foldl_cons]
    refine foldl_noctrl t _ ?_
    rcases stepG_two out r with e | ⟨e, hc⟩ | ⟨o, c, eo, e, hj, _⟩
    · rw [e]; exact h
    · rw [e]; intro c hc' x hx
      rcases List.mem_append.1 hc' with h1 | h1
      · exact h c h1 x hx
      · rw [List.mem_singleton.1 h1, List.mem_singleton] at hx
        subst hx
        unfold colsB at hc
        split at hc
        · omega
        · rename_i hz
          simp only [Bool.or_eq_true, not_or, Bool.not_eq_true] at hz
          exact hz.1.2
    · rw [e]; intro c' hc' x hx
      rcases List.mem_append.1 hc' with h1 | h1
      · exact h c' (by rw [eo]; exact List.mem_append_left _ h1) x hx
      · rw [List.mem_singleton.1 h1] at hx
        rcases List.mem_append.1 hx with h2 | h2
        · exact h c (by rw [eo]; simp) x h2
        · rw [List.mem_singleton] at h2
          subst h2
          unfold joinB at hj
          simp at hj
          exact hj.2.2
theorem cl_noctrl {g : List Nat} (h : Cl g) : ∀ r ∈ g, ctrlB r = false := by
  have := foldl_noctrl g [] (by simp)
  have e := h.one
  unfold cutG at e
  rw [e] at this
  exact this g (by simp)
theorem byte_low {n : Nat} (hn : isR n = true) {b : UInt8} (hb : b ∈ bytesN n) (h : b.toNat < 128) : n = b.toNat := by
  have hr := (isR_iff n).1 hn
  unfold bytesN at hb
  split at hb
  · rw [List.mem_singleton] at hb
    subst hb
    rw [byteB_nat' n (by omega)]
  · exfalso
    split at hb
    · simp only [List.mem_cons, List.not_mem_nil, or_false] at hb
      rcases hb with rfl | rfl <;> rw [byteB_nat' _ (by omega)] at h <;> omega
    · split at hb
      · simp only [List.mem_cons, List.not_mem_nil, or_false] at hb
        rcases hb with rfl | rfl | rfl <;> rw [byteB_nat' _ (by omega)] at h <;> omega
      · simp only [List.mem_cons, List.not_mem_nil, or_false] at hb
        rcases hb with rfl | rfl | rfl | rfl <;> rw [byteB_nat' _ (by omega)] at h <;> omega
theorem clu_blank {c : List UInt8} (h : Clu c) : blanksL c = c := by
  obtain ⟨g, hg, rfl⟩ := h
  unfold blanksL
  conv => rhs; rw [← List.map_id (encL g)]
  apply List.map_congr_left
  intro b hb
  unfold encL at hb
  obtain ⟨r, hr, hbr⟩ := List.mem_flatMap.1 hb
  refine blankB_no b fun hc => ?_
  have e := byte_low (hg.rune r hr) hbr (by omega)
  have := cl_noctrl hg r hr
  unfold ctrlB at this
  rw [decide_eq_false_iff_not] at this
  omega
theorem flat_clus {D : List (List UInt8)} (h : ∀ c ∈ D, Clu c) : flatL D.flatten = D.flatten := by
  have e : blanksL D.flatten = D.flatten := by
    induction D with
    | nil => rfl
    | cons c t ih =>
      have e1 := clu_blank (h c (List.mem_cons_self ..))
      have e2 := ih (fun x hx => h x (List.mem_cons_of_mem _ hx))
      unfold blanksL at e1 e2 ⊢
      rw [List.flatten_cons, List.map_append, e1, e2]
  unfold flatL cleanL
  rw [e, cutL_flat h]
theorem big_clu : ∀ n : Fin 26, cutL [byteB (65 + n.1)] = [[byteB (65 + n.1)]] := by decide +kernel
theorem lowB_sp {c : List UInt8} (h : lowB c = true) : ∃ n : Fin 26, byteB (b0 c - 32).toNat = byteB (65 + n.1) := by
  unfold lowB at h
  simp only [Bool.and_eq_true, decide_eq_true_eq] at h
  exact ⟨⟨(b0 c - 97).toNat, by omega⟩, by congr 1; simp only; omega⟩
theorem taken_clu {k : Nat} {c : List UInt8} (h : Clu c) : Clu (takenB k c) := by
  unfold takenB
  split
  · rename_i h1
    obtain ⟨n, hn⟩ := lowB_sp h1.2
    rw [hn]
    exact clu_mem (l := [byteB (65 + n.1)]) (by rw [big_clu]; simp)
  · exact h
theorem allFit_snoc : ∀ (K : List Nat) (D : List (List UInt8)) (c : List UInt8), D.length < K.length → allFit K (D ++ [c]) = (allFit K D && fitsB (nth 0 K D.length) c)
  | [], D, c, h => by simp at h
  | k :: K, [], c, _ => by
    show (fitsB k c && allFit K []) = _
    cases K <;> simp [allFit, nth]
  | k :: K, d :: D, c, h => by
    show (fitsB k d && allFit K (D ++ [c])) = (fitsB k d && allFit K D && fitsB (nth 0 K D.length) c)
    rw [allFit_snoc K D c (by simpa using h), Bool.and_assoc]
theorem fits_iff (L : PL) (f : List UInt8) : fitsL L f = true ↔ slotsL L ≠ [] ∧ (cutL f).length ≤ (slotsL L).length ∧ flatL f = f ∧ allFit (slotsL L) (cutL f) = true := by
  unfold fitsL
  simp
/-- What a push that is taken makes. -/
theorem push_yes {L : PL} {f s : List UInt8} (h : (pushL L f s).2 = true) : ∃ x, Clu x ∧ fitsB (nth 0 (slotsL L) (cutL f).length) x = true ∧ (pushL L f s).1 = f ++ x ∧ cutL (f ++ x) = cutL f ++ [x] ∧ fitsL L (f ++ x) = true ∧ backL L (f ++ x) = f ∧ (cutL f).length < (slotsL L).length ∧ fitsL L f = true := by
  unfold pushL at h ⊢
  split
  · rename_i h1
    rw [if_pos h1] at h
    split
    · rename_i h2
      obtain ⟨hf, hl, hi⟩ := h1
      have hx := taken_clu (k := nth 0 (slotsL L) (cutL f).length) (isCl_clu hi)
      obtain ⟨x, ex⟩ : ∃ x, x = takenB (nth 0 (slotsL L) (cutL f).length) s := ⟨_, rfl⟩
      rw [← ex] at h2 hx ⊢
      have hfl := flat_cut (fits_flat hf)
      have hall : ∀ c ∈ cutL f ++ [x], Clu c := by
        intro c hc
        rcases List.mem_append.1 hc with h3 | h3
        · exact clu_mem h3
        · rw [List.mem_singleton.1 h3]; exact hx
      have hfx : f ++ x = (cutL f ++ [x]).flatten := by rw [List.flatten_append, hfl]; simp
      have hcut : cutL (f ++ x) = cutL f ++ [x] := by rw [hfx]; exact cutL_flat hall
      have hfit : fitsL L (f ++ x) = true := by
        obtain ⟨q1, q2, q3, q4⟩ := (fits_iff L f).1 hf
        refine (fits_iff L _).2 ⟨q1, by rw [hcut, List.length_append]; exact hl, by rw [hfx]; exact flat_clus hall, ?_⟩
        rw [hcut, allFit_snoc _ _ _ hl, q4, h2]; rfl
      refine ⟨x, hx, h2, rfl, hcut, hfit, ?_, hl, hf⟩
      unfold backL
      rw [if_pos ⟨hfit, by rw [hcut]; simp⟩, hcut]
      have e1 : nth [] (cutL f ++ [x]) ((cutL f ++ [x]).length - 1) = x := by
        rw [nth_eq _ _ _ (by simp)]; simp
      rw [e1]
      simp
    · rename_i h2
      rw [if_neg h2] at h
      exact absurd h (by simp)
  · rename_i h1
    rw [if_neg h1] at h
    exact absurd h (by simp)
theorem push_no {L : PL} {f s : List UInt8} (hn : L ≠ []) (h : (pushL L f s).2 ≠ true) : (pushL L f s).1 = f := by
  unfold pushL at h ⊢
  split
  · rename_i h1
    rw [if_pos h1] at h
    split
    · rename_i h2
      rw [if_pos h2] at h
      exact absurd rfl h
    · rfl
  · unfold sameL; rw [if_neg hn]
/-- A feed keeps what was filled ahead, and what it makes fits. -/
theorem feedR_fits {L : PL} : ∀ (D : List (List UInt8)) (f : List UInt8) (a : Nat), fitsL L f = true → fitsL L (feedR L D f a) = true ∧ f <+: feedR L D f a
  | [], f, a, h => ⟨h, List.prefix_refl _⟩
  | c :: t, f, a, h => by
    rw [feedR_at rfl]
    split
    · exact ⟨h, List.prefix_refl _⟩
    split
    · exact feedR_fits t f _ h
    split
    · rename_i hp
      obtain ⟨x, _, _, e, _, hf, _⟩ := push_yes hp
      rw [e]
      obtain ⟨h1, h2⟩ := feedR_fits t (f ++ x) (a + skipF (L.drop a) c + 1) hf
      exact ⟨h1, (List.prefix_append f x).trans h2⟩
    · exact feedR_fits t f _ h
theorem feed_fits {L : PL} {f : List UInt8} (t : List UInt8) (h : fitsL L f = true) : fitsL L (feedL L f t) = true ∧ f <+: feedL L f t := by
  unfold feedL
  rw [if_pos h]
  exact feedR_fits _ _ _ h
theorem fits_nil {L : PL} (h : slotsL L ≠ []) : fitsL L [] = true := by
  refine (fits_iff L []).2 ⟨h, by simp [cutL_nil], by rfl, ?_⟩
  rw [cutL_nil]
  cases slotsL L <;> rfl
end Go.Proofs.Ytmdpmjabjijjiaa
namespace Go.Proofs.Ytmdpmjabjijjiaa
set_option linter.unusedVariables false
set_option linter.unusedSimpArgs false
open Go.RowKit Go.Shelf Go.Maps
/-! ### print and parse -/
def printC (p : Nat × List UInt8) : List (List UInt8) := if p.1 = 0 ∧ (p.2 = [92] ∨ sortB p.2 ≠ 0) then [[92], p.2] else [p.2]
theorem printP_C (p : Nat × List UInt8) : printP p = (printC p).flatten := by
  unfold printP printC
  split <;> simp
theorem printL_C (L : PL) : printL L = (L.flatMap printC).flatten := by
  induction L with
  | nil => rfl
  | cons p t ih =>
    have h1 : printL (p :: t) = printP p ++ printL t := by simp [printL]
    rw [h1, ih, List.flatMap_cons, List.flatten_append, printP_C]
theorem printC_clu {L : PL} (h : PLok L) : ∀ c ∈ L.flatMap printC, Clu c := by
  intro c hc
  obtain ⟨p, hp, hcp⟩ := List.mem_flatMap.1 hc
  have h92 : Clu [92] := clu_mem (l := [92]) (by rw [show cutL [92] = [[92]] by decide +kernel]; simp)
  unfold printC at hcp
  split at hcp
  · simp only [List.mem_cons, List.not_mem_nil, or_false] at hcp
    rcases hcp with rfl | rfl
    · exact h92
    · exact h.clu p hp
  · rw [List.mem_singleton] at hcp
    subst hcp
    exact h.clu p hp
theorem step_print (p : Nat × List UInt8) (st : PL) (h : p.1 = 0 ∨ p.1 = sortB p.2) : (printC p).foldl stepP (st, false) = (st ++ [p], false) := by
  obtain ⟨k, c⟩ := p
  dsimp only at h
  unfold printC
  dsimp only
  split
  · rename_i h1
    obtain ⟨rfl, _⟩ := h1
    simp [stepP]
  · rename_i h1
    have hk : k = sortB c := by
      rcases h with h | h
      · subst h
        by_cases h2 : sortB c = 0
        · exact h2.symm
        · exact absurd ⟨rfl, .inr h2⟩ h1
      · exact h
    have hc : c ≠ [92] := by
      rintro rfl
      have : sortB [92] = 0 := by decide
      exact h1 ⟨hk.trans this, .inl rfl⟩
    simp [stepP, hc, hk]
theorem fold_print : ∀ (T : PL) (st : PL), (∀ p ∈ T, p.1 = 0 ∨ p.1 = sortB p.2) → (T.flatMap printC).foldl stepP (st, false) = (st ++ T, false)
  | [], st, _ => by simp
  | p :: T, st, h => by
    rw [List.flatMap_cons, List.foldl_append, step_print p st (h p (List.mem_cons_self ..)), fold_print T _ (fun q hq => h q (List.mem_cons_of_mem _ hq)), List.append_assoc]; rfl
theorem pieces_print {L : PL} (h : PLok L) : piecesL (printL L) = (L, false) := by
  unfold piecesL
  rw [printL_C, cutL_flat (printC_clu h), fold_print L [] h.sort]; rfl
theorem printL_snoc1 (L : PL) (p : Nat × List UInt8) : printL (L ++ [p]) = printL L ++ printP p := by simp [printL]
theorem print_len : ∀ (D : List (List UInt8)) (st : PL × Bool), (printL (D.foldl stepP st).1).length + (if (D.foldl stepP st).2 = true then 1 else 0) ≤ (printL st.1).length + (if st.2 = true then 1 else 0) + D.flatten.length
  | [], st => Nat.le_refl _
  | c :: t, st => by
    rw [List.foldl_cons, List.flatten_cons, List.length_append]
    have h1 := print_len t (stepP st c)
    have h2 : (printL (stepP st c).1).length + (if (stepP st c).2 = true then 1 else 0) ≤ (printL st.1).length + (if st.2 = true then 1 else 0) + c.length := by
      unfold stepP
      split
      · rename_i hs
        simp only [printL_snoc1, List.length_append]
        have : (printP (0, c)).length ≤ 1 + c.length := by unfold printP; split <;> simp; omega
        simp; omega
      · rename_i hs
        split
        · rename_i hc
          subst hc
          simp
        · rename_i hc
          simp only [printL_snoc1, List.length_append]
          have : printP (sortB c, c) = c := by
            unfold printP
            rw [if_neg]
            rintro ⟨h3, h4 | h4⟩
            · exact hc h4
            · exact h4 h3
          rw [this]
          simp
    omega
theorem parse_print {f : List UInt8} (h : parseC f = 0) : parseC (printL (parseL f)) = 0 ∧ parseL (printL (parseL f)) = parseL f ∧ (printL (parseL f)).length ≤ 256 := by
  have hok := parse_ok h
  have hlen := parse_len h
  obtain ⟨h1, h2, h3, h4⟩ := parse_flat h
  have hp := pieces_print hok
  have hl : (printL (parseL f)).length ≤ 256 := by
    have := print_len (cutL f) ([], false)
    rw [flat_cut h2] at this
    have e : (printL (([] : PL), false).1).length = 0 := rfl
    rw [e] at this
    have e2 : ((cutL f).foldl stepP ([], false)).1 = parseL f := rfl
    rw [e2] at this
    simp at this
    omega
  have hf : flatL (printL (parseL f)) = printL (parseL f) := by rw [printL_C]; exact flat_clus (printC_clu hok)
  refine ⟨?_, by unfold parseL at hp ⊢; rw [hp], hl⟩
  unfold parseC
  rw [if_neg (by omega), if_neg (by simp [hf]), hp, if_neg (by simp), if_neg (by simp only; omega), if_neg (by simpa using h4)]
/-! ### whole -/
def otherB (s : List UInt8) : List UInt8 := if s = [57] then [55] else if s = [97] ∨ s = [65] then [81] else [120]
theorem slots_ne {L : PL} {j : Nat} (hj : j < (slotsL L).length) : nth 0 (slotsL L) j ≠ 0 := by
  rw [nth_eq _ _ _ hj]
  have := List.getElem_mem hj
  obtain ⟨p, _, hp⟩ := List.mem_flatMap.1 this
  split at hp
  · simp at hp
  · rename_i h0
    rw [List.mem_singleton] at hp
    rw [hp]; exact h0
theorem slots_sort {L : PL} (h : PLok L) {j : Nat} (hj : j < (slotsL L).length) : nth 0 (slotsL L) j = sortB (nth [] (slotStrs L) j) := by
  have e := slot_sort h
  have hl := slotStrs_len L
  have e2 : nth 0 ((slotStrs L).map sortB) j = sortB (nth [] (slotStrs L) j) := by
    rw [nth_eq _ _ _ (by rw [List.length_map]; omega), nth_eq _ _ _ (by omega), List.getElem_map]
  rw [e]; exact e2
theorem other_fits (s : List UInt8) (h : sortB s ≠ 0) : fitsB (sortB s) (takenB (sortB s) (otherB s)) = true := by
  unfold otherB
  by_cases h1 : s = [57]
  · subst h1; decide
  rw [if_neg h1]
  by_cases h2 : s = [97]
  · subst h2; decide
  by_cases h3 : s = [65]
  · subst h3; decide
  rw [if_neg (by simp [h2, h3])]
  by_cases h4 : s = [42]
  · subst h4; decide
  · exfalso; apply h; unfold sortB; simp [h1, h2, h3, h4]
theorem other_cl (s : List UInt8) : isCl (otherB s) = true := by
  unfold otherB
  split
  · decide +kernel
  split
  · decide +kernel
  · decide +kernel
theorem push_other {L : PL} (h : PLok L) {f : List UInt8} (hf : fitsL L f = true) (hl : (cutL f).length < (slotsL L).length) : (pushL L f (otherB (nth [] (slotStrs L) (cutL f).length))).2 = true := by
  unfold pushL
  rw [if_pos ⟨hf, hl, other_cl _⟩, slots_sort h hl, if_pos (other_fits _ (by rw [← slots_sort h hl]; exact slots_ne hl))]
theorem whole_of {L : PL} {f : List UInt8} (hf : fitsL L f = true) (h : (cutL f).length = (slotsL L).length) : wholeL L f = true := by
  unfold wholeL
  rw [hf, h]; simp
/-- The pieces filled. -/
def fillC : PL → List (List UInt8) → List (List UInt8)
  | [], _ => []
  | p :: t, cs => if p.1 = 0 then p.2 :: fillC t cs else match cs with
    | [] => [95] :: fillC t []
    | x :: u => x :: fillC t u
theorem fillC_len : ∀ (L : PL) (cs : List (List UInt8)), (fillC L cs).length = L.length
  | [], _ => rfl
  | p :: t, cs => by
    unfold fillC
    split
    · simp [fillC_len t]
    · cases cs <;> simp [fillC_len t]
theorem fold_show : ∀ (L : PL) (cs : List (List UInt8)) (s : List UInt8), (L.foldl showS (cs, s)).2 = s ++ (fillC L cs).flatten
  | [], cs, s => by simp [fillC]
  | p :: t, cs, s => by
    rw [List.foldl_cons]
    by_cases hp : p.1 = 0
    · have e1 : showS (cs, s) p = (cs, s ++ p.2) := by unfold showS; rw [if_pos hp]
      have e2 : fillC (p :: t) cs = p.2 :: fillC t cs := by rw [fillC.eq_def]; dsimp only; rw [if_pos hp]
      rw [e1, e2, fold_show t]; simp
    · cases cs with
      | nil =>
        have e1 : showS ([], s) p = ([], s ++ [95]) := by unfold showS; rw [if_neg hp]
        have e2 : fillC (p :: t) [] = [95] :: fillC t [] := by rw [fillC.eq_def]; dsimp only; rw [if_neg hp]
        rw [e1, e2, fold_show t]; simp
      | cons x u =>
        have e1 : showS (x :: u, s) p = (u, s ++ x) := by unfold showS; rw [if_neg hp]
        have e2 : fillC (p :: t) (x :: u) = x :: fillC t u := by rw [fillC.eq_def]; dsimp only; rw [if_neg hp]
        rw [e1, e2, fold_show t]; simp
theorem slotsL_cons (p : Nat × List UInt8) (t : PL) : slotsL (p :: t) = (if p.1 = 0 then [] else [p.1]) ++ slotsL t := by simp [slotsL]
theorem slotsL_append (A B : PL) : slotsL (A ++ B) = slotsL A ++ slotsL B := by simp [slotsL]
theorem fillC_clu : ∀ (L : PL) (cs : List (List UInt8)), (∀ p ∈ L, Clu p.2) → (∀ c ∈ cs, Clu c) → ∀ c ∈ fillC L cs, Clu c
  | [], _, _, _ => by simp [fillC]
  | p :: t, cs, hL, hc => by
    have hp := hL p (List.mem_cons_self ..)
    have ht : ∀ q ∈ t, Clu q.2 := fun q hq => hL q (List.mem_cons_of_mem _ hq)
    have h95 : Clu [95] := clu_mem (l := [95]) (by rw [show cutL [95] = [[95]] by decide +kernel]; simp)
    unfold fillC
    intro c hcm
    split at hcm
    · rcases List.mem_cons.1 hcm with rfl | h
      · exact hp
      · exact fillC_clu t cs ht hc c h
    · cases cs with
      | nil =>
        rcases List.mem_cons.1 hcm with rfl | h
        · exact h95
        · exact fillC_clu t [] ht hc c h
      | cons x u =>
        rcases List.mem_cons.1 hcm with rfl | h
        · exact hc _ (List.mem_cons_self ..)
        · exact fillC_clu t u ht (fun y hy => hc y (List.mem_cons_of_mem _ hy)) c h
theorem read_fill : ∀ (L : PL) (cs : List (List UInt8)), cs.length = (slotsL L).length → readT L (fillC L cs) = cs.flatten
  | [], cs, h => by
    have : cs = [] := List.length_eq_zero_iff.1 h
    subst this; rfl
  | p :: t, cs, h => by
    rw [slotsL_cons] at h
    unfold fillC
    by_cases hp : p.1 = 0
    · rw [if_pos hp, List.nil_append] at h
      rw [if_pos hp]
      have : readT (p :: t) (p.2 :: fillC t cs) = readT t (fillC t cs) := by unfold readT; simp [hp]
      rw [this, read_fill t cs h]
    · rw [if_neg hp, List.length_append] at h
      rw [if_neg hp]
      cases cs with
      | nil => exfalso; simp at h; omega
      | cons x u =>
        dsimp only
        have : readT (p :: t) (x :: fillC t u) = x ++ readT t (fillC t u) := by unfold readT; simp [hp]
        rw [this, read_fill t u (by simp at h; omega)]; rfl
theorem show_cut {L : PL} (h : PLok L) {f : List UInt8} (hf : fitsL L f = true) : cutL (showL L f) = fillC L (cutL f) ∧ showL L f = (fillC L (cutL f)).flatten := by
  have hc := fillC_clu L (cutL f) h.clu (fun c hc => clu_mem hc)
  have e : showL L f = (fillC L (cutL f)).flatten := by
    unfold showL
    rw [if_pos hf, fold_show, List.nil_append]
  exact ⟨by rw [e]; exact cutL_flat hc, e⟩
theorem whole_iff (L : PL) (f : List UInt8) : wholeL L f = true ↔ fitsL L f = true ∧ (cutL f).length = (slotsL L).length := by
  unfold wholeL; simp
/-- What is whole, shown, is read as itself. -/
theorem read_show {L : PL} (h : PLok L) (hn : L ≠ []) {f : List UInt8} (hw : wholeL L f = true) : readL L (showL L f) = (f, true) := by
  obtain ⟨hf, hl⟩ := (whole_iff L f).1 hw
  obtain ⟨e1, e2⟩ := show_cut h hf
  have hr : readT L (cutL (showL L f)) = f := by
    rw [e1, read_fill L _ hl, flat_cut (fits_flat hf)]
  unfold readL
  rw [hr, if_pos ⟨List.length_pos_iff.2 hn, by rw [e1, fillC_len], hw, rfl⟩]
theorem fits_taken {k : Nat} {c : List UInt8} (h : fitsB k c = true) : takenB k c = c := by
  unfold takenB
  rw [if_neg]
  rintro ⟨rfl, h1⟩
  unfold lowB at h1
  unfold fitsB at h
  simp at h h1
  omega
theorem allFit_at {K : List Nat} {A B : List (List UInt8)} {c : List UInt8} (h : allFit K (A ++ c :: B) = true) (hl : A.length < K.length) : fitsB (nth 0 K A.length) c = true := by
  have : ∀ (B' A' : List (List UInt8)) (K' : List Nat), allFit K' (A' ++ B') = true → allFit K' A' = true := by
    intro B' A'
    induction A' with
    | nil => intro K' _; cases K' <;> rfl
    | cons a t ih =>
      intro K' h
      cases K' with
      | nil => simp [allFit] at h
      | cons k K' =>
        have h' : (fitsB k a && allFit K' (t ++ B')) = true := h
        rw [Bool.and_eq_true] at h'
        show (fitsB k a && allFit K' t) = true
        rw [Bool.and_eq_true]
        exact ⟨h'.1, ih K' h'.2⟩
  have h2 := this B (A ++ [c]) K (by rw [List.append_assoc]; exact h)
  rw [allFit_snoc K A c hl, Bool.and_eq_true] at h2
  exact h2.2
theorem nth_mid {α : Type} (d : α) (A : List α) (p : α) (T : List α) : nth d (A ++ p :: T) A.length = p := by
  rw [nth_eq _ _ _ (by simp)]; simp
theorem push_go {L : PL} {f c : List UInt8} (hf : fitsL L f = true) (hl : (cutL f).length < (slotsL L).length) (hc : Clu c) (hb : fitsB (nth 0 (slotsL L) (cutL f).length) c = true) : pushL L f c = (f ++ c, true) := by
  unfold pushL
  rw [if_pos ⟨hf, hl, isCl_of hc⟩, fits_taken hb, if_pos hb]
theorem feed_fill : ∀ (T A : PL) (cs : List (List UInt8)) (f : List UInt8), fitsL (A ++ T) f = true → (slotsL A).length = (cutL f).length → cs.length = (slotsL T).length → (∀ c ∈ cs, Clu c) →
    allFit (slotsL (A ++ T)) (cutL f ++ cs) = true → feedR (A ++ T) (fillC T cs) f A.length = f ++ cs.flatten
  | [], A, cs, f, _, _, hl, _, _ => by
    have : cs = [] := List.length_eq_zero_iff.1 hl
    subst this; simp [fillC, feedR]
  | p :: T, A, cs, f, hf, ha, hl, hc, hall => by
    have hd : (A ++ p :: T).drop A.length = p :: T := by simp
    have hA : A ++ p :: T = (A ++ [p]) ++ T := by simp
    rw [slotsL_cons] at hl
    unfold fillC
    by_cases hp : p.1 = 0
    · rw [if_pos hp, List.nil_append] at hl
      rw [if_pos hp]
      have hs : A.length + skipF ((A ++ p :: T).drop A.length) p.2 = A.length := by
        rw [hd]; show _ + (if p.1 = 0 ∧ p.2 ≠ p.2 then _ else 0) = _
        rw [if_neg (by simp)]; rfl
      rw [feedR_at hs, if_neg (by simp), nth_mid, if_pos hp]
      have hr := feed_fill T (A ++ [p]) cs f (by rw [← hA]; exact hf) (by rw [slotsL_append, slotsL_cons, if_pos hp]; simpa [slotsL_nil] using ha) hl hc (by rw [← hA]; exact hall)
      rw [← hA, List.length_append] at hr
      exact hr
    · rw [if_neg hp, List.length_append] at hl
      rw [if_neg hp]
      cases cs with
      | nil => exfalso; simp at hl; omega
      | cons x u =>
        dsimp only
        have hs : A.length + skipF ((A ++ p :: T).drop A.length) x = A.length := by
          rw [hd]; show _ + (if p.1 = 0 ∧ p.2 ≠ x then _ else 0) = _
          rw [if_neg (by simp [hp])]; rfl
        have hlt : (cutL f).length < (slotsL (A ++ p :: T)).length := by
          rw [slotsL_append, slotsL_cons, if_neg hp, List.length_append, List.length_append, ← ha]; simp; omega
        have hx := hc x (List.mem_cons_self ..)
        have hpu := push_go hf hlt hx (allFit_at hall hlt)
        rw [feedR_at hs, if_neg (by simp), nth_mid, if_neg hp, hpu, if_pos rfl]
        obtain ⟨y, _, _, e1, e2, e3, _⟩ := push_yes (L := A ++ p :: T) (f := f) (s := x) (by rw [hpu])
        rw [hpu] at e1
        have e4 : x = y := by simpa using e1
        subst e4
        have hr := feed_fill T (A ++ [p]) u (f ++ x) (by rw [← hA]; exact e3) (by rw [slotsL_append, slotsL_cons, if_neg hp, e2, List.length_append, List.length_append, ha]; simp [slotsL_nil]) (by simp at hl; omega)
          (fun c hcm => hc c (List.mem_cons_of_mem _ hcm)) (by rw [← hA, e2, List.append_assoc]; exact hall)
        rw [← hA, List.length_append] at hr
        rw [List.flatten_cons, ← List.append_assoc]
        exact hr
/-- What is whole, shown and fed to what is empty, makes itself. -/
theorem feed_show {L : PL} (h : PLok L) {f : List UInt8} (hw : wholeL L f = true) : feedL L [] (showL L f) = f := by
  obtain ⟨hf, hl⟩ := (whole_iff L f).1 hw
  obtain ⟨e1, e2⟩ := show_cut h hf
  obtain ⟨q1, q2, q3, q4⟩ := (fits_iff L f).1 hf
  have hc := fillC_clu L (cutL f) h.clu (fun c hc => clu_mem hc)
  unfold feedL
  have hfl : flatL (showL L f) = showL L f := by rw [e2]; exact flat_clus hc
  rw [if_pos (fits_nil q1), hfl, e1, cutL_nil, List.length_nil, behN_zero]
  have := feed_fill L [] (cutL f) [] (fits_nil q1) (by simp [slotsL_nil, cutL_nil]) hl (fun c hc => clu_mem hc) (by simpa [cutL_nil] using q4)
  rw [flat_cut q3] at this
  exact this
theorem atN_all : ∀ (L : PL) (n : Nat), (slotsL L).length ≤ n → atN L n = L.length
  | [], _, _ => rfl
  | p :: t, n, h => by
    rw [slotsL_cons, List.length_append] at h
    unfold atN
    split
    · rename_i hp
      rw [if_pos hp] at h
      rw [atN_all t n (by simpa using h), List.length_cons]; omega
    · rename_i hp
      rw [if_neg hp] at h
      have h' : 1 + (slotsL t).length ≤ n := h
      rw [if_neg (by omega), atN_all t (n - 1) (by omega), List.length_cons]; omega
theorem at_whole {L : PL} {f : List UInt8} (hw : wholeL L f = true) : atL L f = L.length := by
  obtain ⟨hf, hl⟩ := (whole_iff L f).1 hw
  unfold atL
  rw [if_pos hf, hl, atN_all L _ (Nat.le_refl _)]
theorem flatL_len (l : List UInt8) : (flatL l).length ≤ 64 * l.length := by
  have := clean_len (blanksL l)
  unfold flatL
  unfold blanksL at this ⊢
  simpa using this
end Go.Proofs.Ytmdpmjabjijjiaa
