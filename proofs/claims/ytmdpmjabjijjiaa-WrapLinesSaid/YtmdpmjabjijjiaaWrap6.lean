/- Wrap: words; program. No condition. -/
import Derived.Test.YtmdpmjabjijjiaaWrap5
namespace Go.Proofs.Ytmdpmjabjijjiaa
set_option linter.unusedVariables false
set_option linter.unusedSimpArgs false
open Go.RowKit Go.Shelf Go.Maps
attribute [local go_sem] Oper.semAt_some
theorem infoWord : (Try.prog.info? 129).map (fun i => (i.zero, i.size, i.bytes)) = some (some (.agg #[.slice none 0 0, .int .i64 0]), 2, 32) := by kernel_rfl
/-- The blocks x and g, and those below m, are as they were. -/
structure Fr (m x g : Nat) (W W' : World) : Prop where
  oth : KeepsOthers W W'
  bx : W'.heap[x]? = W.heap[x]?
  bg : W'.heap[g]? = W.heap[g]?
  bel : Below m W W'
theorem Fr.refl (m x g : Nat) (W : World) : Fr m x g W W := ⟨KeepsOthers.refl _, rfl, rfl, Below.refl _ _⟩
theorem Fr.drew {m x g : Nat} {W A : World} (h : Fr m x g W A) : Fr m x g W A.drew := ⟨h.oth.trans (KeepsOthers.drew A), h.bx, h.bg, h.bel.drew⟩
theorem Fr.grown {m x g : Nat} {W A B : World} (h : Fr m x g W A) (hx : x < A.heap.size) (hg : g < A.heap.size) (hm : m ≤ A.heap.size) {row : Option Nat} (hgr : A.grownBy B row) (hr : ∀ k, row = some k → m ≤ k ∧ k ≠ x ∧ k ≠ g ∧ ∃ o, A.heap[k]? = some o ∧ o.isCells = true) : Fr m x g W B :=
  ⟨h.oth.trans (KeepsOthers.of_grownBy hgr (fun j o e ho => by
      obtain ⟨o', h1, h2⟩ := (hr j e).2.2.2
      rw [ho] at h1; cases h1; exact h2)), (hgr.block x hx (fun e => (hr x e.symm).2.1 rfl)).trans h.bx, (hgr.block g hg (fun e => (hr g e.symm).2.2.1 rfl)).trans h.bg, h.bel.grown hgr hm (fun k e => (hr k e).1)⟩
theorem Fr.alloc {m x g : Nat} {W A : World} (h : Fr m x g W A) (hx : x < A.heap.size) (hg : g < A.heap.size) (hm : m ≤ A.heap.size) (o : Obj) : Fr m x g W (A.alloc o) :=
  h.grown hx hg hm (World.grownBy_alloc A o none) (fun k e => by cases e)
theorem Fr.below {m x g : Nat} {W A B : World} (h : Fr m x g W A) (hx : x < A.heap.size) (hg : g < A.heap.size) (hm : m ≤ A.heap.size) (hb : Below A.heap.size A B) : Fr m x g W B :=
  h.grown hx hg hm (grown_of_below hb) (fun k e => by cases e)
theorem Fr.set {m x g : Nat} {W A : World} (h : Fr m x g W A) (b off : Nat) (u : Value) (hb : x ≠ b) (hb' : g ≠ b) (hm : m ≤ b) : Fr m x g W (A.setCell ⟨b, off, none⟩ u) :=
  ⟨h.oth.trans (KeepsOthers.setCell _ _ _), (Below.heap_setCell _ _ _ _ (by exact hb)).trans h.bx, (Below.heap_setCell _ _ _ _ (by exact hb')).trans h.bg, h.bel.setCell (p := ⟨b, off, none⟩) hm _⟩
/-- What abides while the clusters come. -/
def UW (w : World) (n₀ : Nat) (L : List (List UInt8)) (g : Nat) (pre : List Nat) (W : World) : Prop :=
  (∃ v T op, Boxed W w.heap.size 126 v ∧ Boxed W (w.heap.size + 1) 4 (.bool op) ∧ WR n₀ W v T ∧ (L.take pre.length).foldl wordS ([], false) = (T.map (·.2.2), op) ∧
    (∀ e ∈ T, e.2.1 = sumC e.2.2 ∧ e.1.ownBlock ≠ none ∧ e.1.ownBlock ≠ some g ∧ e.2.2.length ≤ pre.length) ∧ T.length ≤ pre.length ∧ (op = true → T ≠ [])) ∧
  pre.length ≤ L.length ∧ Below w.heap.size w W
theorem UW.own {w : World} {n₀ : Nat} {L : List (List UInt8)} {g B : Nat} (hB : w.heap.size ≤ B) : OwnFrom B (UW w n₀ L g) := fun s X Y row ⟨⟨v, T, op, h1, h2, h3, h4, h5⟩, h6, h9⟩ hg hr =>
  have hr' := fun k e => (hr k e).2
  ⟨⟨v, T, op, boxed_own h1 hg hr', boxed_own h2 hg hr', h3.far hg hr', h4, h5⟩, h6, ownFrom_below (β := List Nat) (n₀ := w.heap.size) (w₀ := w) (Nat.le_refl _) hB s X Y row h9 hg hr⟩
theorem own_slice2w {W : World} {n₀ : Nat} {e : TypeId} {s : Nat} {v : Value} {n : Nat} {xs : List Value} (h : W.ownsRow n₀ e s v n xs) : ∃ a c, v = .slice a n c := by
  rcases h.2 with ⟨rfl, rfl⟩ | ⟨g, cap, _, rfl, _⟩
  · exact ⟨_, _, rfl⟩
  · exact ⟨_, _, rfl⟩
def WordsPost (ws : Ws) (w : World) (e : Ending) (w' : World) : Prop :=
  ∃ v T n₀, e = .returned v ∧ T.map (·.2.2) = ws ∧ (∀ e ∈ T, e.2.1 = sumC e.2.2) ∧ w.heap.size ≤ n₀ ∧ WR n₀ w' v T ∧ Below w.heap.size w w'
theorem WR.not_g {n₀ : Nat} {W : World} {g g5 c m : Nat} {T : List WE} {cur : Array Value} (h : WR n₀ W (.slice (some ⟨g5, 0, none⟩) m c) T) (hc : W.heap[g]? = some (.cells cur 9 (0, 0))) : g5 ≠ g := fun e1 => by
  obtain ⟨_, cur2, h2⟩ := own_cells h.out g5 rfl
  rw [e1, hc] at h2
  injection h2 with h2
  injection h2 with _ h3
  exact wne.symm h3
theorem wvb {v v' : Value} {W : World} {g : Nat} {n₀ : Nat} {k : Nat} {xs : List Value} {W6 : World} (ho : W6.ownsRow n₀ 9 1 v' (k + 1) xs) (hob : v'.ownBlock = v.ownBlock ∨ v'.ownBlock = some W.heap.size) (hv : v.ownBlock ≠ some g) (hg : g < W.heap.size) : v'.ownBlock ≠ none ∧ v'.ownBlock ≠ some g := by
  refine ⟨?_, ?_⟩
  · obtain ⟨g', c', rfl⟩ := ownsRow_succ ho
    simp [Value.ownBlock]
  · rcases hob with h1 | h1
    · rw [h1]; exact hv
    · rw [h1]; intro e1; injection e1 with e1; omega
theorem words_new {w W w5 : World} {n₀ x g : Nat} {cur : Array Value} {v0 v1 : Value} {T : List WE} (hWR : WR n₀ W v0 T) (hs : ∀ e ∈ T, e.1.ownBlock ≠ none) (q0 : Boxed W w.heap.size 126 v0) (q1 : Boxed W (w.heap.size + 1) 4 (.bool false))
    (hgrow : (W.alloc (.cells #[.slice none 0 0, .int .i64 0] 129)).grownBy w5 v0.ownBlock) (hown : w5.ownsRow n₀ 129 2 v1 (T.length + 1) (WV T ++ [.slice none 0 0, .int .i64 0])) (hcur : W.heap[g]? = some (.cells cur 9 (0, 0))) (hgl : g < W.heap.size)
    (h1 : x < W.heap.size) (h2 : w.heap.size + 1 < x) (h3 : x < n₀) (h4 : w.heap.size + 1 < g) :
    Boxed w5 w.heap.size 126 v0 ∧ Boxed w5 (w.heap.size + 1) 4 (.bool false) ∧ ∃ W5, (w5.setCell ⟨w.heap.size, 0, none⟩ v1).setCell ⟨w.heap.size + 1, 0, none⟩ (.bool true) = W5 ∧ Boxed W5 w.heap.size 126 v1 ∧ Boxed W5 (w.heap.size + 1) 4 (.bool true) ∧ WR n₀ W5 v1 (T ++ [(.slice none 0 0, 0, [])]) ∧ Fr w.heap.size x g W W5 := by
  have r0 := (q0.alloc (.cells #[.slice none 0 0, .int .i64 0] 129)).kept hgrow (q0.not_row (by decide) hWR.out)
  have r1 := (q1.alloc (.cells #[.slice none 0 0, .int .i64 0] 129)).kept hgrow (q1.not_row (by decide) hWR.out)
  refine ⟨r0, r1, _, rfl, boxed_put (r0.set v1) (by omega) _, (boxed_put r1 (by omega) v1).set _, (((hWR.alloc _).new hs hgrow hown).set (by omega) _).set (by omega) _, ?_⟩
  refine ((((Fr.refl w.heap.size x g W).alloc h1 hgl (by omega) _).grown (by simp; omega) (by simp; omega) (by simp; omega) hgrow (fun k e1 => ?_)).set _ _ _ (by omega) (by omega) (Nat.le_refl _)).set _ _ _ (by omega) (by omega) (by omega)
  obtain ⟨h5, cur2, h6⟩ := own_cells (hWR.out.alloc (.cells #[.slice none 0 0, .int .i64 0] 129)) k e1
  refine ⟨by omega, by omega, fun e2 => ?_, _, h6, rfl⟩
  obtain ⟨_, cur3, h7⟩ := own_cells hWR.out k e1
  rw [e2, hcur] at h7
  injection h7 with h7
  injection h7 with _ h8
  exact wne.symm h8
theorem own_one_some {W : World} {n₀ : Nat} {e : TypeId} {v : Value} {xs : List Value} (h : W.ownsRow n₀ e 1 v (([] : List (List UInt8)).length + 1) xs) : ∃ g c, v = .slice (some ⟨g, 0, none⟩) 1 c := ownsRow_succ h
theorem boxed_putO {X : World} {b : Nat} {t : TypeId} {v : Value} (h : Boxed X b t v) {k off : Nat} (hk : b ≠ k) (u : Value) : Boxed (X.setCell ⟨k, off, none⟩ u) b t v := (Below.heap_setCell _ _ _ _ (by exact hk)).trans h
theorem snoc_of {T : List WE} (h : T ≠ []) : ∃ A e, T = A ++ [e] := ⟨T.dropLast, T.getLast h, (List.dropLast_concat_getLast h).symm⟩
theorem byte_get (C : List UInt8) (h : 0 < C.length) : (S C)[0]'(by rw [S_size]; exact h) = nth 0 C 0 := by
  rw [nth_eq _ _ _ h]; rfl
set_option maxRecDepth 100000 in
set_option maxHeartbeats 16000000 in
theorem words_any (s : List UInt8) (hs : s.length ≤ 10000) (w : World) : Calls Try.prog 105 #[.string (S s)] w (WordsPost (wordsL (cutL (flatL s))) w) := by
  have hfl := flat_len64 s
  have CF := Lib.hid (fun W => flat_any s (by omega) W)
  have CA := Lib.hid (fun W => call_any (flatL s) W)
  obtain ⟨l, hl⟩ : ∃ l, l = flatL s := ⟨_, rfl⟩
  rw [← hl] at hfl CF CA ⊢
  have hll : l.length ≤ 1100000 := by omega
  clear hl hfl
  obtain ⟨i0, hi, hz0, hz1, hz2⟩ := info_parts infoStrc
  obtain ⟨j0, hj, hy0, hy1, hy2⟩ := info_parts infoWord
  have hzc : (Value.agg #[.slice none 0 0, .int .i64 0]).cells.size = 2 := by first | kernel_rfl | rfl | simp [Value.cells]
  obtain ⟨W1, hW1⟩ : ∃ W1, w.alloc (.cells #[.slice none 0 0] 126) = W1 := ⟨_, rfl⟩
  have hs1 : W1.heap.size = w.heap.size + 1 := by rw [← hW1]; simp
  have hb1 : Below w.heap.size w W1 := by rw [← hW1]; exact (Below.refl _ _).alloc (Nat.le_refl _) _
  have k0 : Boxed W1 w.heap.size 126 (.slice none 0 0) := by rw [← hW1]; exact Boxed.new _ _ _
  obtain ⟨W2, hW2⟩ : ∃ W2, W1.alloc (.cells #[.bool false] 4) = W2 := ⟨_, rfl⟩
  have hs2 : W2.heap.size = w.heap.size + 1 + 1 := by rw [← hW2]; simp [hs1]
  have hb2 : Below w.heap.size w W2 := by rw [← hW2]; exact hb1.alloc (by omega) _
  replace k0 : Boxed W2 w.heap.size 126 (.slice none 0 0) := by rw [← hW2]; exact k0.alloc _
  have k1 : Boxed W2 (w.heap.size + 1) 4 (.bool false) := by have := Boxed.new W1 4 (.bool false); rw [hW2, hs1] at this; exact this
  have HW2 := Lib.hid hW2
  clear hW2
  refine (callsIn_wide (n := 9)).1 ?_
  have h1 : 1 ≤ 9 := by omega
  refine callsIn_of_wp_marks Try.func105 rfl trivial ?_ rfl
  simp only [Try.ntmps105, List.size_toArray, List.length_cons, List.length_nil, Nat.reduceAdd, Nat.reduceSub, Array.replicate_succ, Array.replicate_zero, List.push_toArray, List.append_toArray, List.nil_append, List.cons_append]
  gi_wp2_with (first
    | (refine ⟨trivial, ?_⟩; gi_at_call 19; refine (callsIn_wide.2 (CF.out _)).mono ?_; rintro e w3 ⟨rfl, hb3⟩)
    | (refine ⟨trivial, ?_⟩; gi_at_call 88; refine (callsIn_wide.2 (CA.out _)).mono ?_; rintro e w4 ⟨rfl, hw4⟩))
  rw [HW2.out] at hb3
  have hsz3 := hb3.size
  replace k0 := (k0.kept (grown_of_below hb3) (by simp)).alloc (.cells #[.string (S l)] 9)
  replace k1 := (k1.kept (grown_of_below hb3) (by simp)).alloc (.cells #[.string (S l)] 9)
  have hcx := Boxed.new w3 9 (.string (S l))
  have hb4 : Below w.heap.size w w4 := by rw [← hw4]; exact (bto hb2 hb3 (by omega)).alloc (by omega) _
  have hs4 : w4.heap.size = w3.heap.size + 1 := by rw [← hw4]; simp
  rw [hw4] at k0 k1 hcx
  clear hw4 hW1 HW2 hb1 hb2 hb3
  have hzl := cutL_len l
  refine wpIn_rangeFunc_GH rfl h1 (gf := 126) (lb := #[.pointer (some ⟨w3.heap.size, 0, none⟩)]) rfl trivial (enters_of Try.func126 (by kernel_rfl) rfl)
    (call1_seq l hll w3.heap.size w4 (by omega) hcx.cell _ (by omega)) KB.trans (KB.put (by omega) (by omega)) (Below.refl _ _) (fun _ => rfl)
    (fun g => UW w w4.heap.size (cutL l) g)
    (fun g c pre W => False)
    (fun g => UW.own (by omega))
    (fun g c s X Y row hs hg hr => hs)
    (fun g x => ghost_own _ g x)
    (fun g hg => ⟨⟨_, [], false, k0, k1, WR.nil _ _, rfl, by simp, Nat.le_refl _, by simp⟩, Nat.zero_le _, hb4⟩)
    ?_ ?_ ?_ ?_ ?_
  rotate_left 1
  · intro L x W K hK
    dsimp only [encC]
    gi_wp2
    exact hK
  · rintro L g pre x W hL1 hL2 hg ⟨⟨v, T, op, q0, q1, hWR, hst, hT, hTl, hop⟩, hpL, hB⟩ ⟨⟨rfl, hxl⟩, cur, hcur⟩ hpl
    have hplb : pre.length ≤ 1100000 := by omega
    have hgl := (Array.getElem?_eq_some_iff.1 hcur).1
    have hclu := nth_clu hxl
    have hcl := hclu.len
    have hcols := hclu.cols
    have hst2 : ((cutL l).take (pre.length + 1)).foldl wordS ([], false) = wordS (T.map (·.2.2), op) (nth [] (cutL l) pre.length) := by
      rw [List.take_succ_eq_append_getElem hxl, nth_eq _ _ _ hxl, List.foldl_append, hst]; rfl
    obtain ⟨C, hC⟩ : ∃ C, C = nth [] (cutL l) pre.length := ⟨_, rfl⟩
    rw [← hC] at hst2 hcl hclu hcols
    rw [← hC]
    have hget := byte_get C (by omega)
    have hszC := S_size C
    have hc0 := q0.cell
    have hc1 := q1.cell
    have hf1 := q1.frozen
    have HX := Lib.hid hxl
    obtain ⟨z0, hz00⟩ : ∃ z0, z0 = nth 0 C 0 := ⟨_, rfl⟩
    rw [← hz00] at hget
    have hposC : (0 : Int) < (C.length : Int) := by omega
    by_cases hsp : z0.toNat = 32
    · have hbs : b32 C = true := by unfold b32; rw [← hz00]; simp [hsp]
      have hsz32 : ((z0.toNat : Int) == 32) = true := by simp [hsp]
      rw [show wordS (T.map (·.2.2), op) C = (T.map (·.2.2), false) by unfold wordS; rw [hbs]; rfl] at hst2
      have HST := Lib.hid hst2
      have HT := Lib.hid hT
      clear hst2 hst hbs hC hT hsp hclu hz00
      gi_wp2
      refine ⟨((KeepsOthers.refl W).trans (KeepsOthers.setCell _ _ _)).from _, ⟨KB.setCell _ _ _ _ (by omega) (by omega), Below.heap_setCell _ _ _ _ (by show g ≠ w.heap.size + 1; omega)⟩, ?_⟩
      unfold UW
      rw [List.length_append, show ([pre.length] : List Nat).length = 1 from rfl, HST.out]
      exact ⟨⟨v, T, false, boxed_put q0 (by omega) _, q1.set _, hWR.set (by omega) _, rfl, fun e he => (by obtain ⟨a1, a2, a3, a4⟩ := HT.out e he; exact ⟨a1, a2, a3, by omega⟩), by omega, fun h => by cases h⟩, HX.out, hB.setCell (p := ⟨w.heap.size + 1, 0, none⟩) (by show w.heap.size ≤ w.heap.size + 1; omega) _⟩
    · have hbs : b32 C = false := by unfold b32; rw [← hz00]; simp [hsp]
      have hsz32 : ((z0.toNat : Int) == 32) = false := by simp; omega
      have CW := (fun W => cwidth_any C (by omega) W)
      rw [show widthL C = colsL C by unfold widthL; rw [hclu.cut]] at CW
      obtain ⟨z, hz⟩ : ∃ z, z = colsL C := ⟨_, rfl⟩
      rw [← hz] at CW hcols
      have HZ := Lib.hid hz
      have CW := Lib.hid CW
      cases op with
      | false =>
        rw [show wordS (T.map (·.2.2), false) C = (T.map (·.2.2) ++ [[C]], true) by unfold wordS; rw [hbs]; rfl] at hst2
        obtain ⟨a0, c0', rfl⟩ := own_slice2w hWR.out
        have h1c : ∀ u ∈ [Value.slice none 0 0, Value.int .i64 0], u.oneCell' = true := by
          intro u hu
          simp only [List.mem_cons, List.not_mem_nil, or_false] at hu
          rcases hu with rfl | rfl <;> rfl
        have hsom : ∀ e ∈ T, e.1.ownBlock ≠ none := fun e he => (hT e he).2.1
        have hf0 := q0.frozen
        clear hst hbs hC hsp hclu hz00 hz
        have HST := Lib.hid hst2
        have hA : ∀ e ∈ T, e.2.1 = sumC e.2.2 ∧ e.1.ownBlock ≠ none ∧ e.1.ownBlock ≠ some g ∧ e.2.2.length ≤ pre.length := hT
        have hvn : (Value.slice none 0 0).ownBlock = none → ([] : List (List UInt8)) = [] := fun _ => rfl
        have hvg : (Value.slice none 0 0).ownBlock ≠ some g := by simp [Value.ownBlock]
        have hA' := Lib.hid hA
        clear hst2 hT hop
        gi_wp2_with (first
          | (gi_at_builtin; refine wpListIn_append_own_at _ rfl _ _ 126 rfl w4.heap.size 129 j0 (.agg #[.slice none 0 0, .int .i64 0]) 2 32 Try.underlying126 hj hy0 hy1 hy2 hzc (by decide) _ _ _ rfl (hWR.out.alloc _) ⟨W.heap.size, 0, none⟩ 1 1 [.slice none 0 0, .int .i64 0] rfl rfl (row_at W [.slice none 0 0, .int .i64 0] _) h1c (by unfold maxLen; omega) (by omega) (by simp; omega) ?_; intro v1 w5 hown1 hgrow1 _ _; obtain ⟨g5, c5, rfl⟩ := ownsRow_succ hown1; obtain ⟨r0, r1, W5, hW5, k0, k1, hR5, hFr⟩ := words_new (x := w3.heap.size) hWR hsom q0 q1 hgrow1 hown1 hcur hgl (by omega) (by omega) (by omega) (by omega); have r0c := r0.cell; have r0f := r0.frozen; have r1c := (boxed_put r1 (by omega) (.slice (some ⟨g5, 0, none⟩) (T.length + 1) c5) : Boxed (w5.setCell ⟨w.heap.size, 0, none⟩ _) (w.heap.size + 1) _ _).cell; have r1f := (boxed_put r1 (by omega) (.slice (some ⟨g5, 0, none⟩) (T.length + 1) c5) : Boxed (w5.setCell ⟨w.heap.size, 0, none⟩ _) (w.heap.size + 1) _ _).frozen; obtain ⟨_, hge5, ca, cb, fa, fb⟩ := hR5.last; have hgg := hR5.not_g (hFr.bg.trans hcur); have hs5 := hFr.bel.size; have hrl := hR5.rows (.slice none 0 0, 0, []) (by simp); have hcb0 := k0.cell; have hcnC := cell_one_new W5 (.string (S C)) 9)
          | (gi_at_builtin; refine wpListIn_append_own_at _ rfl _ _ 23 rfl w4.heap.size 9 i0 (.string ⟨#[]⟩) 1 16 Try.underlying23 hi hz0 hz1 hz2 rfl (by decide) _ _ _ rfl (hrl.alloc _) ⟨W5.heap.size, 0, none⟩ 1 1 [.string (S C)] rfl rfl hcnC (by simp [Value.oneCell']) (by unfold maxLen; first | omega | (simp; done) | (simp; omega)) (by first | omega | (simp; done) | (simp; omega)) (by first | omega | (simp; done) | (simp; omega)) ?_; intro v' w6 hown' hgrow _ hob; obtain ⟨g6, c6, rfl⟩ := own_one_some hown'; obtain ⟨⟨cd, fd⟩, hR7⟩ := (hR5.alloc (.cells #[.string (S C)] 9)).grow hgrow hown' hob (fun e1 => ⟨hvn e1, fun e he => (hA e he).2.1⟩)))
        have hF6 : Fr w.heap.size w3.heap.size g W w6 := (hFr.alloc (by omega) (by omega) (by omega) _).grown (by simp; omega) (by simp; omega) (by simp; omega) hgrow (fun k e1 => by
          obtain ⟨h1, cur2, h2⟩ := own_cells (hrl.alloc (.cells #[.string (S C)] 9)) k e1
          exact ⟨by omega, by omega, fun e2 => hvg (by rw [← e2]; exact e1), _, h2, rfl⟩)
        have hF7 : Fr w.heap.size w3.heap.size g W (w6.setCell ⟨g5, T.length * 2, none⟩ (.slice (some ⟨g6, 0, none⟩) 1 c6)) := hF6.set g5 _ _ (by omega) (fun e1 => hgg e1.symm) (by omega)
        have hvo := wvb (W := W5.alloc (.cells #[.string (S C)] 9)) hown' hob hvg (by simp; omega)
        have kb : ∀ {b : Nat} {t : TypeId} {u : Value}, Boxed W5 b t u → t ≠ 9 → b < w4.heap.size → Boxed (w6.setCell ⟨g5, T.length * 2, none⟩ (.slice (some ⟨g6, 0, none⟩) 1 c6)) b t u := fun h ht hb => boxed_putO (k := g5) ((h.alloc _).kept hgrow (h.not_row ht hrl)) (by omega) _
        have k0' := kb k0 (by decide) (by omega)
        have k1' := kb k1 (by decide) (by omega)
        generalize w6.setCell ⟨g5, T.length * 2, none⟩ (.slice (some ⟨g6, 0, none⟩) 1 c6) = W7 at hR7 hF7 k0' k1' ⊢
        obtain ⟨_, _, _, cb7, _, fb7⟩ := hR7.last
        clear hgrow hown' hob kb hcnC ca cb fa fb cd fd hF6 k0 k1 hrl hcb0
        have hwz : IntKind.i64.wrap z = z := IntWalk.i64_in _ (by omega)
        refine wpIn_region_reads (l₀ := some L) 5 (fun w' => w'.cell? ⟨g5, T.length * 2 + 1, none⟩ = some (.int .i64 0)) (by kernel_rfl) (by kernel_rfl) (by kernel_rfl) (by kernel_rfl) (by kernel_rfl) (fun _ _ h => h) (fun _ _ d _ _ h => by cases d <;> exact h) cb7 ?_
        simp only [List.take_succ_cons, List.take_zero, List.drop_succ_cons, List.drop_zero]
        repeat (refine' wpRead_step (v := _) rfl ?_ ?_; rotate_left 1; (intro w' hw'; go_simp; try with_reducible rfl); try simp only [Act.put, List.setIfInBounds_toArray, List.set_cons_zero, List.set_cons_succ])
        refine wpRead_nil ?_
        refine wpActs_step (fun K hK => ?_)
        go_wp2_with (go_at_call 28; refine (CW.out _).mono ?_; rintro e w8 ⟨rfl, hb8⟩)
        have hb8' : Below W7.heap.size W7 w8 := ⟨hb8.os, hb8.tape, hb8.output, hb8.size, hb8.block⟩
        have hR8 := hR7.below hb8'
        have hsz7 := hF7.bel.size
        have hF8 := hF7.below (by omega) (by omega) (by omega) hb8'
        have k0'' := k0'.kept (grown_of_below hb8') (by simp)
        have k1'' := k1'.kept (grown_of_below hb8') (by simp)
        obtain ⟨_, _, _, cb8, _, fb8⟩ := hR8.last
        refine hK _ _ cb8 ?_
        clear hK K
        refine wpActs_step (fun K hK => ?_)
        go_wp2
        refine hK _ _ cb8 ?_
        clear hK K
        refine wpActs_step (fun K hK => ?_)
        go_wp2
        refine hK _ _ cb8 ?_
        clear hK K
        refine wpActs_step (fun K hK => ?_)
        go_wp2
        refine hK _ _ cb8 ?_
        clear hK K
        refine wpActs_last ?_
        go_wp2
        have hF9 : Fr w.heap.size w3.heap.size g W (w8.setCell ⟨g5, T.length * 2 + 1, none⟩ (.int .i64 z)) := hF8.set g5 _ _ (by omega) (fun e1 => hgg e1.symm) (by omega)
        have hR9 := hR8.cols z
        refine ⟨hF9.oth.from _, ⟨⟨hF9.bx, hF9.bx, hF9.bel.size⟩, hF9.bg⟩, ?_⟩
        unfold UW
        rw [List.length_append, show ([pre.length] : List Nat).length = 1 from rfl, HST.out]
        refine ⟨⟨_, T ++ [((.slice (some ⟨g6, 0, none⟩) 1 c6), z, ([] : List (List UInt8)) ++ [C])], true, boxed_putO (k := g5) k0'' (by omega) _, boxed_putO (k := g5) k1'' (by omega) _, hR9, by simp, ?_, by simp; omega, fun _ => by simp⟩, HX.out, hB.trans hF9.bel⟩
        intro e he
        rcases List.mem_append.1 he with h1 | h1
        · obtain ⟨a1, a2, a3, a4⟩ := hA e h1
          exact ⟨a1, a2, a3, by omega⟩
        · rw [List.mem_singleton.1 h1]
          refine ⟨?_, hvo.1, hvo.2, by first | (rw [List.length_append]; simp; done) | (rw [List.length_append]; simp; omega)⟩
          show z = sumC (([] : List (List UInt8)) ++ [C])
          rw [sumC_append]
          simp [sumC, HZ.out]
      | true =>
        obtain ⟨A, ⟨vl, i, x⟩, rfl⟩ := snoc_of (hop rfl)
        rw [show wordS ((A ++ [(vl, i, x)]).map (·.2.2), true) C = (A.map (·.2.2) ++ [x ++ [C]], true) by unfold wordS; rw [hbs]; simp [snocW_eq]] at hst2
        have HST := Lib.hid hst2
        obtain ⟨g5, c5, rfl⟩ : ∃ g c, v = .slice (some ⟨g, 0, none⟩) (A ++ [(vl, i, x)]).length c := by
          rcases hWR.out.2 with ⟨_, h0⟩ | ⟨g', c', cur', h0, _⟩
          · simp at h0
          · exact ⟨g', c', h0⟩
        obtain ⟨hi', hvn', hvg, hxl'⟩ := hT (vl, i, x) (by simp)
        dsimp only at hi' hvn' hvg hxl'
        have hvn : vl.ownBlock = none → x = [] := fun e1 => absurd e1 hvn'
        have hA : ∀ e ∈ A, e.2.1 = sumC e.2.2 ∧ e.1.ownBlock ≠ none ∧ e.1.ownBlock ≠ some g ∧ e.2.2.length ≤ pre.length := fun e he => hT e (List.mem_append_left _ he)
        have hAl : A.length ≤ pre.length := by simp at hTl; omega
        have hFr := Fr.refl w.heap.size w3.heap.size g W
        have hR5 := hWR
        have k0 := q0
        have k1 := q1
        obtain ⟨_, hge5, ca, cb, fa, fb⟩ := hR5.last
        have hgg := hR5.not_g hcur
        have hs5 := hFr.bel.size
        have hrl := hR5.rows (vl, i, x) (by simp)
        have hib := sumC_bd x
        rw [← hi'] at hib
        have HI := Lib.hid hi'
        clear hi'
        have hcnC := cell_one_new W (.string (S C)) 9
        have hcb0 := k0.cell
        clear hst hst2 hbs hC hsp hclu hz00 hz hT hop hvn' hWR hTl
        gi_wp2_with (gi_at_builtin; refine wpListIn_append_own_at _ rfl _ _ 23 rfl w4.heap.size 9 i0 (.string ⟨#[]⟩) 1 16 Try.underlying23 hi hz0 hz1 hz2 rfl (by decide) _ _ _ rfl (hrl.alloc _) ⟨W.heap.size, 0, none⟩ 1 1 [.string (S C)] rfl rfl hcnC (by simp [Value.oneCell']) (by unfold maxLen; first | omega | (simp; done) | (simp; omega)) (by first | omega | (simp; done) | (simp; omega)) (by first | omega | (simp; done) | (simp; omega)) ?_; intro v' w6 hown' hgrow _ hob; obtain ⟨g6, c6, rfl⟩ := ownsRow_succ hown'; obtain ⟨⟨cd, fd⟩, hR7⟩ := (hR5.alloc (.cells #[.string (S C)] 9)).grow hgrow hown' hob (fun e1 => ⟨hvn e1, fun e he => (hA e he).2.1⟩))
        have hF6 : Fr w.heap.size w3.heap.size g W w6 := (hFr.alloc (by omega) (by omega) (by omega) _).grown (by simp; omega) (by simp; omega) (by simp; omega) hgrow (fun k e1 => by
          obtain ⟨h1, cur2, h2⟩ := own_cells (hrl.alloc (.cells #[.string (S C)] 9)) k e1
          exact ⟨by omega, by omega, fun e2 => hvg (by rw [← e2]; exact e1), _, h2, rfl⟩)
        have hF7 : Fr w.heap.size w3.heap.size g W (w6.setCell ⟨g5, A.length * 2, none⟩ (.slice (some ⟨g6, 0, none⟩) (x.length + 1) c6)) := hF6.set g5 _ _ (by omega) (fun e1 => hgg e1.symm) (by omega)
        have hvo := wvb (W := W.alloc (.cells #[.string (S C)] 9)) hown' hob hvg (by simp; omega)
        have kb : ∀ {b : Nat} {t : TypeId} {u : Value}, Boxed W b t u → t ≠ 9 → b < w4.heap.size → Boxed (w6.setCell ⟨g5, A.length * 2, none⟩ (.slice (some ⟨g6, 0, none⟩) (x.length + 1) c6)) b t u := fun h ht hb => boxed_putO (k := g5) ((h.alloc _).kept hgrow (h.not_row ht hrl)) (by omega) _
        have k0' := kb k0 (by decide) (by omega)
        have k1' := kb k1 (by decide) (by omega)
        generalize w6.setCell ⟨g5, A.length * 2, none⟩ (.slice (some ⟨g6, 0, none⟩) (x.length + 1) c6) = W7 at hR7 hF7 k0' k1' ⊢
        obtain ⟨_, _, _, cb7, _, fb7⟩ := hR7.last
        clear hgrow hown' hob kb hcnC ca cb fa fb cd fd hF6 k0 k1 hrl hcb0
        have hwz : IntKind.i64.wrap (i + z) = (i + z) := IntWalk.i64_in _ (by omega)
        refine wpIn_region_reads (l₀ := some L) 5 (fun w' => w'.cell? ⟨g5, A.length * 2 + 1, none⟩ = some (.int .i64 i)) (by kernel_rfl) (by kernel_rfl) (by kernel_rfl) (by kernel_rfl) (by kernel_rfl) (fun _ _ h => h) (fun _ _ d _ _ h => by cases d <;> exact h) cb7 ?_
        simp only [List.take_succ_cons, List.take_zero, List.drop_succ_cons, List.drop_zero]
        repeat (refine' wpRead_step (v := _) rfl ?_ ?_; rotate_left 1; (intro w' hw'; go_simp; try with_reducible rfl); try simp only [Act.put, List.setIfInBounds_toArray, List.set_cons_zero, List.set_cons_succ])
        refine wpRead_nil ?_
        refine wpActs_step (fun K hK => ?_)
        go_wp2_with (go_at_call 28; refine (CW.out _).mono ?_; rintro e w8 ⟨rfl, hb8⟩)
        have hb8' : Below W7.heap.size W7 w8 := ⟨hb8.os, hb8.tape, hb8.output, hb8.size, hb8.block⟩
        have hR8 := hR7.below hb8'
        have hsz7 := hF7.bel.size
        have hF8 := hF7.below (by omega) (by omega) (by omega) hb8'
        have k0'' := k0'.kept (grown_of_below hb8') (by simp)
        have k1'' := k1'.kept (grown_of_below hb8') (by simp)
        obtain ⟨_, _, _, cb8, _, fb8⟩ := hR8.last
        refine hK _ _ cb8 ?_
        clear hK K
        refine wpActs_step (fun K hK => ?_)
        go_wp2
        refine hK _ _ cb8 ?_
        clear hK K
        refine wpActs_step (fun K hK => ?_)
        go_wp2
        refine hK _ _ cb8 ?_
        clear hK K
        refine wpActs_step (fun K hK => ?_)
        go_wp2
        refine hK _ _ cb8 ?_
        clear hK K
        refine wpActs_last ?_
        go_wp2
        have hF9 : Fr w.heap.size w3.heap.size g W (w8.setCell ⟨g5, A.length * 2 + 1, none⟩ (.int .i64 (i + z))) := hF8.set g5 _ _ (by omega) (fun e1 => hgg e1.symm) (by omega)
        have hR9 := hR8.cols (i + z)
        refine ⟨hF9.oth.from _, ⟨⟨hF9.bx, hF9.bx, hF9.bel.size⟩, hF9.bg⟩, ?_⟩
        unfold UW
        rw [List.length_append, show ([pre.length] : List Nat).length = 1 from rfl, HST.out]
        refine ⟨⟨_, A ++ [((.slice (some ⟨g6, 0, none⟩) (x.length + 1) c6), (i + z), x ++ [C])], true, boxed_putO (k := g5) k0'' (by omega) _, boxed_putO (k := g5) k1'' (by omega) _, hR9, by simp, ?_, by simp; omega, fun _ => by simp⟩, HX.out, hB.trans hF9.bel⟩
        intro e he
        rcases List.mem_append.1 he with h1 | h1
        · obtain ⟨a1, a2, a3, a4⟩ := hA e h1
          exact ⟨a1, a2, a3, by omega⟩
        · rw [List.mem_singleton.1 h1]
          refine ⟨?_, hvo.1, hvo.2, by first | (rw [List.length_append]; simp; done) | (rw [List.length_append]; simp; omega)⟩
          show (i + z) = sumC (x ++ [C])
          rw [sumC_append, ← HI.out]
          simp [sumC, HZ.out]
  · rintro D g ys W hD hys ⟨⟨v, T, op, q0, q1, hWR, hst, hT, hTl, hop⟩, hpL, hB⟩ hK
    have hall : (cutL l).take ys.length = cutL l := by
      have h2 := congrArg List.length hys
      rw [List.length_range] at h2
      rw [List.take_of_length_le (by omega)]
    rw [hall] at hst
    have hc0 := q0.cell
    have hfin : WordsPost (wordsL (cutL l)) w (.returned v) (W.putObj D (.deferred none)) := by
      refine ⟨v, T, w4.heap.size, rfl, by unfold wordsL; rw [hst], fun e he => (hT e he).1, hb4.size, hWR.far (grownBy_putObj' _ D (.deferred none)) (fun r e => by cases e; exact ⟨_, hK, rfl⟩), hB.trans (belowK_b (w := w) (Nat.le_refl _) W D _ _ (by have := hb4.size; omega) hK rfl rfl)⟩
    have HF := Lib.hid hfin
    clear hfin hall hst hys hT
    gi_wp2
    refine ⟨by simp, .inl ⟨_, _, rfl, run_takeDeferred hK, ?_⟩⟩
    refine ⟨_, results_tmp rfl _ _ _, ?_⟩
    exact HF.out
  · rintro D g c pre W hD hpre h hK
    exact absurd h id
end Go.Proofs.Ytmdpmjabjijjiaa
