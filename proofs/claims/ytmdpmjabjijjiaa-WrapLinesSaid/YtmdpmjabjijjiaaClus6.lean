/- The contract of Fit: the first clusters that have room. -/
import Derived.Test.YtmdpmjabjijjiaaClus5
import Derived.Test.YtmdpmjabjijjiaaSBld
import Derived.Deep.RegionHeld3
namespace Go.Proofs.Ytmdpmjabjijjiaa
set_option linter.unusedVariables false
set_option linter.unusedSimpArgs false
open Go.RowKit Go.Shelf Go.Maps
attribute [local go_sem] Oper.semAt_some
theorem fitK_end : ∀ (L : List (List UInt8)) (n : Int), (∀ i, i < L.length → ¬ n - sumC (L.take i) < colsL (nth [] L i)) → fitK L n = L.length
  | [], _, _ => rfl
  | c :: L, n, h => by
    have h0 := h 0 (by simp)
    simp only [List.take_zero, nth, List.getD_cons_zero, sumC, List.foldr_nil, Int.sub_zero] at h0
    have ih := fitK_end L (n - colsL c) (by
      intro i hi
      have := h (i + 1) (by simp; omega)
      rw [List.take_succ_cons, sumC_cons] at this
      have e : nth [] (c :: L) (i + 1) = nth [] L i := rfl
      rw [e] at this
      omega)
    unfold fitK
    rw [if_neg h0, ih, List.length_cons]
theorem fitK_stop : ∀ (L : List (List UInt8)) (n : Int) (k : Nat), k < L.length → (∀ i, i < k → ¬ n - sumC (L.take i) < colsL (nth [] L i)) → n - sumC (L.take k) < colsL (nth [] L k) → fitK L n = k
  | [], _, k, hk, _, _ => by simp at hk
  | c :: L, n, 0, _, _, h2 => by
    simp only [List.take_zero, nth, List.getD_cons_zero, sumC, List.foldr_nil, Int.sub_zero] at h2
    unfold fitK
    rw [if_pos h2]
  | c :: L, n, k + 1, hk, h, h2 => by
    have h0 := h 0 (by omega)
    simp only [List.take_zero, nth, List.getD_cons_zero, sumC, List.foldr_nil, Int.sub_zero] at h0
    have ih := fitK_stop L (n - colsL c) k (by simpa using hk) (by
      intro i hi
      have := h (i + 1) (by omega)
      rw [List.take_succ_cons, sumC_cons] at this
      have e : nth [] (c :: L) (i + 1) = nth [] L i := rfl
      rw [e] at this
      omega) (by
      rw [List.take_succ_cons, sumC_cons] at h2
      have e : nth [] (c :: L) (k + 1) = nth [] L k := rfl
      rw [e] at h2
      omega)
    unfold fitK
    rw [if_neg h0, ih]
/-- The first clusters that have room, as a text; their columns. -/
def fitT (l : List UInt8) (n : Int) : List UInt8 := ((cutL l).take (fitK (cutL l) n)).flatten
def fitN (l : List UInt8) (n : Int) : Int := sumC ((cutL l).take (fitK (cutL l) n))
theorem SB.drew {n₀ b o : Nat} {T : TypeId} {W : World} {cs : Array Value} {p v : Value} {bs : List UInt8} (h : SB n₀ b o T W cs p v bs) : SB n₀ b o T W.drew cs p v bs := ⟨h.blk, h.hp, h.hv, h.pn, h.lt, h.le, h.own⟩
theorem SB.kept {n₀ b o : Nat} {T : TypeId} {W W' : World} {cs : Array Value} {p v : Value} {bs : List UInt8} (h : SB n₀ b o T W cs p v bs) {row : Option Nat} (hg : W.grownBy W' row) (hr : ∀ k, row = some k → ∃ o : Obj, W.heap[k]? = some o ∧ o.isCells = false) : SB n₀ b o T W' cs p v bs := by
  refine ⟨(grownBy_keeps_cells hg hr h.blk rfl).trans h.blk, h.hp, h.hv, h.pn, h.lt, Nat.le_trans h.le hg.size, h.own.kept hg ?_⟩
  cases hv : v.ownBlock with
  | none => exact .inl rfl
  | some q =>
    refine .inr (fun e' => ?_)
    obtain ⟨_, cur, h2⟩ := own_cells h.own q hv
    obtain ⟨o', h3, h4⟩ := hr q e'.symm
    rw [h2] at h3; cases h3; cases h4
theorem SB.below {n₀ b o : Nat} {T : TypeId} {W W' : World} {cs : Array Value} {p v : Value} {bs : List UInt8} (h : SB n₀ b o T W cs p v bs) (hb : Below W.heap.size W W') : SB n₀ b o T W' cs p v bs :=
  h.kept (grown_of_below hb) (fun k e => by cases e)
/-- The builder of a call's own. -/
def SBx (n₀ b : Nat) (W : World) (bs : List UInt8) : Prop := ∃ cs p v, SB n₀ b 0 101 W cs p v bs ∧ cs.size = 2
theorem liesBld {cs : Array Value} (h : cs.size = 2) : liesAt Try.prog Try.prog.depth 101 (cs.size / Try.prog.cellsOf 101) 0 101 1 = true := by
  rw [h]; kernel_rfl
theorem SBx.kept {n₀ b : Nat} {W W' : World} {bs : List UInt8} (h : SBx n₀ b W bs) {row : Option Nat} (hg : W.grownBy W' row) (hr : ∀ k, row = some k → ∃ o : Obj, W.heap[k]? = some o ∧ o.isCells = false) : SBx n₀ b W' bs := by
  obtain ⟨cs, p, v, h, hs⟩ := h
  exact ⟨cs, p, v, h.kept hg hr, hs⟩
theorem SBx.below {n₀ b : Nat} {W W' : World} {bs : List UInt8} (h : SBx n₀ b W bs) (hb : Below W.heap.size W W') : SBx n₀ b W' bs := h.kept (grown_of_below hb) (fun k e => by cases e)
theorem SBx.new {n₀ b : Nat} {W : World} (hb : W.heap[b]? = some (.cells #[.pointer none, .slice none 0 0] 101 (0, 0))) (hlt : b < n₀) (hle : n₀ ≤ W.heap.size) : SBx n₀ b W [] :=
  ⟨_, _, _, ⟨hb, rfl, rfl, .inl rfl, hlt, hle, World.ownsRow_nil _ _ _ _⟩, rfl⟩
/-- WriteString to the builder of a call's own. -/
theorem SBx.write {n₀ b : Nat} {W : World} {bs : List UInt8} (h : SBx n₀ b W bs) (l : List UInt8) (hlen : bs.length + l.length ≤ 100000000) :
    Calls Try.prog 92 #[.pointer (some ⟨b, 0, none⟩), .string (S l)] W fun e w' => e = .returned (.tuple #[.int .i64 l.length, .nilIface]) ∧ (SBx n₀ b w' (bs ++ l) ∧ But n₀ b W w' ∧ KeepT b W w') := by
  obtain ⟨cs, p, v, h, hs⟩ := h
  exact (write_any h l (liesBld hs) hlen).mono fun e w' ⟨h1, v', h2, h3, h4⟩ => ⟨h1, ⟨_, _, v', h2, by simpa using hs⟩, h3, h4⟩
theorem SBx.string {n₀ b : Nat} {W : World} {bs : List UInt8} (h : SBx n₀ b W bs) : Calls Try.prog 93 #[.pointer (some ⟨b, 0, none⟩)] W (StrRet n₀ W bs) := by
  obtain ⟨cs, p, v, h, hs⟩ := h
  exact string_any h
theorem SBx.set {n₀ b : Nat} {W : World} {bs : List UInt8} (h : SBx n₀ b W bs) {k : Nat} (off : Nat) (v : Value) (hk : k < n₀) (hne : k ≠ b) : SBx n₀ b (W.setCell ⟨k, off, none⟩ v) bs := by
  obtain ⟨cs, p, u, h, hs⟩ := h
  exact ⟨cs, p, u, ⟨(Below.heap_setCell _ _ _ _ (by exact Ne.symm hne)).trans h.blk, h.hp, h.hv, h.pn, h.lt, by simp [World.setCell]; exact h.le, own_set h.own hk v⟩, hs⟩
theorem SBx.drew {n₀ b : Nat} {W : World} {bs : List UInt8} (h : SBx n₀ b W bs) : SBx n₀ b W.drew bs := by
  obtain ⟨cs, p, u, h, hs⟩ := h
  exact ⟨cs, p, u, h.drew, hs⟩
theorem take_flat (L : List (List UInt8)) (k : Nat) (h : k < L.length) : (L.take (k + 1)).flatten = (L.take k).flatten ++ nth [] L k := by
  rw [List.take_succ_eq_append_getElem h, List.flatten_append, nth_eq _ _ _ h]; simp
theorem four_allocs (w : World) (v1 v3 v4 : Value) (vs : Array Value) (t1 t2 t3 t4 : TypeId) (W : World) (hW : (((w.alloc (.cells #[v1] t1)).alloc (.cells vs t2)).alloc (.cells #[v3] t3)).alloc (.cells #[v4] t4) = W) :
    W.cell? ⟨w.heap.size, 0, none⟩ = some v1 ∧ W.heap[w.heap.size + 1]? = some (.cells vs t2 (0, 0)) ∧ (W.cell? ⟨w.heap.size + 1 + 1, 0, none⟩ = some v3 ∧ W.frozen? ⟨w.heap.size + 1 + 1, 0, none⟩ = false) ∧ W.cell? ⟨w.heap.size + 1 + 1 + 1, 0, none⟩ = some v4 ∧ Below w.heap.size w W ∧ W.heap.size = w.heap.size + 1 + 1 + 1 + 1 := by
  obtain ⟨X1, h1⟩ : ∃ X1, w.alloc (.cells #[v1] t1) = X1 := ⟨_, rfl⟩
  obtain ⟨X2, h2⟩ : ∃ X2, X1.alloc (.cells vs t2) = X2 := ⟨_, rfl⟩
  obtain ⟨X3, h3⟩ : ∃ X3, X2.alloc (.cells #[v3] t3) = X3 := ⟨_, rfl⟩
  rw [h1, h2, h3] at hW
  have s1 : X1.heap.size = w.heap.size + 1 := by rw [← h1]; simp
  have s2 : X2.heap.size = w.heap.size + 1 + 1 := by rw [← h2]; simp [s1]
  have s3 : X3.heap.size = w.heap.size + 1 + 1 + 1 := by rw [← h3]; simp [s2]
  have c0 := cell_new_l w v1 t1
  have c1 : X2.heap[w.heap.size + 1]? = some (.cells vs t2 (0, 0)) := by rw [← s1, ← h2]; exact World.alloc_heap_new X1 _
  have c2 := cell_new_l X2 v3 t3
  have c3 := cell_new_l X3 v4 t4
  rw [h1] at c0
  rw [h3, s2] at c2
  rw [hW, s3] at c3
  have l0 := h3 ▸ cell_alloc_l (.cells #[v3] t3) (h2 ▸ cell_alloc_l (.cells vs t2) c0.1)
  refine ⟨hW ▸ cell_alloc_l _ l0, ?_, ⟨hW ▸ cell_alloc_l _ c2.1, hW ▸ frozen_alloc_l _ c2.1 c2.2⟩, c3.1, ?_, by rw [← hW]; simp [s3]⟩
  · rw [← hW, Below.heap_alloc _ _ _ (by omega), ← h3, Below.heap_alloc _ _ _ (by omega)]; exact c1
  · rw [← hW, ← h3, ← h2, ← h1]
    exact ((((Below.refl _ _).alloc (Nat.le_refl _) _).alloc (by simp) _).alloc (by simp; omega) _).alloc (by simp; omega) _
def FitI (w : World) (n₀ : Nat) (L : List (List UInt8)) (most : Int) (pre : List Nat) (W : World) : Prop :=
  SBx n₀ (w.heap.size + 1) W ((L.take pre.length).flatten) ∧ (W.cell? ⟨w.heap.size, 0, none⟩ = some (.int .i64 most) ∧ W.cell? ⟨w.heap.size + 1 + 1, 0, none⟩ = some (.int .i64 (sumC (L.take pre.length))) ∧ W.frozen? ⟨w.heap.size + 1 + 1, 0, none⟩ = false) ∧
  ((pre = [] ∨ sumC (L.take pre.length) ≤ most) ∧ (∀ i, i < pre.length → colsL (nth [] L i) ≤ most - sumC (L.take i))) ∧ Below w.heap.size w W
theorem FitI.own {w : World} {n₀ : Nat} {L : List (List UInt8)} {most : Int} {B : Nat} (hB : w.heap.size ≤ B) : OwnFrom B (FitI w n₀ L most) := fun s X Y row ⟨h1, ⟨h2, h3, h4⟩, h5, h6⟩ hg hr =>
  ⟨h1.kept hg (fun k e => (hr k e).2), ⟨cell_kept h2 hg (fun k e => (hr k e).2), cell_kept h3 hg (fun k e => (hr k e).2), (frozen_kept h3 hg (fun k e => (hr k e).2)).trans h4⟩, h5, ownFrom_below (β := List Nat) (n₀ := w.heap.size) (w₀ := w) (Nat.le_refl _) hB s X Y row h6 hg hr⟩
set_option maxRecDepth 100000 in
set_option maxHeartbeats 8000000 in
theorem fitc_any (l : List UInt8) (most : Int) (hl : l.length ≤ 1100000) (hm : -9223372036854775808 ≤ most ∧ most ≤ 9223372036854775807) (w : World) : Calls Try.prog 34 #[.string (S l), .int .i64 most] w fun e w' => e = .returned (.tuple #[.string (S (fitT l most)), .int .i64 (fitN l most)]) ∧ Below w.heap.size w w' := by
  have CA := Lib.hid (fun W => call_any l W)
  have hzl := cutL_len l
  obtain ⟨T, hT⟩ : ∃ T, T = fitT l most := ⟨_, rfl⟩
  obtain ⟨N, hN⟩ : ∃ N, N = fitN l most := ⟨_, rfl⟩
  rw [← hT, ← hN]
  have HT := Lib.hid hT
  have HN := Lib.hid hN
  clear hT hN
  refine (callsIn_wide (n := 9)).1 ?_
  have h1 : 1 ≤ 9 := by omega
  refine callsIn_of_wp_marks Try.func34 rfl trivial ?_ rfl
  simp only [Try.ntmps34, List.size_toArray, List.length_cons, List.length_nil, Nat.reduceAdd, Nat.reduceSub, Array.replicate_succ, Array.replicate_zero, List.push_toArray, List.append_toArray, List.nil_append, List.cons_append]
  gi_wp2_with (refine ⟨trivial, ?_⟩; gi_at_call 88; refine (callsIn_wide.2 (CA.out _)).mono ?_; rintro e w2 ⟨rfl, hw2⟩)
  obtain ⟨hc0, hblk, ⟨hc2, hf2⟩, hcx, hb2, hs2⟩ := four_allocs w _ _ _ _ _ _ _ _ w2 hw2
  clear hw2
  refine wpIn_rangeFunc_GH rfl h1 (gf := 126) (lb := #[.pointer (some ⟨w.heap.size + 1 + 1 + 1, 0, none⟩)]) rfl trivial (enters_of Try.func126 (by kernel_rfl) rfl)
    (call1_seq l hl (w.heap.size + 1 + 1 + 1) w2 (by omega) hcx _ (by omega)) KB.trans (KB.put (by omega) (by omega)) (Below.refl _ _) (fun _ => rfl)
    (fun _ => FitI w w2.heap.size (cutL l) most)
    (fun _ c pre W => ∃ q, c = .exit 0 ∧ pre = q ++ [q.length] ∧ q.length < (cutL l).length ∧ most - sumC ((cutL l).take q.length) < colsL (nth [] (cutL l) q.length) ∧ FitI w w2.heap.size (cutL l) most q W)
    (fun g => FitI.own (by omega))
    (fun g c s X Y row hs hg hr => by obtain ⟨q, e1, e2, e3, e4, h⟩ := hs; exact ⟨q, e1, e2, e3, e4, FitI.own (by omega) q X Y row h hg hr⟩)
    (fun g x => ghost_own _ g x)
    (fun g hg => ⟨SBx.new hblk (by omega) (Nat.le_refl _), ⟨hc0, by simpa [sumC] using hc2, hf2⟩, ⟨.inl rfl, fun i hi => by simp at hi⟩, hb2⟩)
    ?_ ?_ ?_ ?_ ?_
  rotate_left 1
  · intro L x W K hK
    dsimp only [encC]
    gi_wp2
    exact hK
  · rintro L g pre x W hL1 hL2 hg ⟨hsb, ⟨hcm, hcn, hfn⟩, ⟨hle, hall⟩, hB⟩ ⟨⟨rfl, hxl⟩, cur, hcur⟩ hpl
    have hclu := nth_clu hxl
    have hcl := hclu.len
    have hcb := hclu.cols
    have hbd := sumC_take_bd (cutL l) pre.length
    have HST := Lib.hid (sumC_take (cutL l) pre.length hxl)
    have HTF := Lib.hid (take_flat (cutL l) pre.length hxl)
    have hbl : ((cutL l).take pre.length).flatten.length ≤ 64 * l.length := by
      refine Nat.le_trans (flat_len _ 64 (fun c hc => (clu_mem (List.mem_of_mem_take hc)).len.2)) ?_
      have : ((cutL l).take pre.length).length ≤ l.length := by rw [List.length_take]; omega
      exact Nat.mul_le_mul (Nat.le_refl _) this
    obtain ⟨s, hs⟩ : ∃ s, s = sumC ((cutL l).take pre.length) := ⟨_, rfl⟩
    obtain ⟨C, hC⟩ : ∃ C, C = nth [] (cutL l) pre.length := ⟨_, rfl⟩
    have CO := Lib.hid (fun W => colsOf_any C (by rw [hC]; omega) W)
    have CW := Lib.hid (fun W (h : SBx w2.heap.size (w.heap.size + 1) W ((cutL l).take pre.length).flatten) => h.write C (by rw [hC]; omega))
    obtain ⟨q, hq⟩ : ∃ q, q = colsL C := ⟨_, rfl⟩
    rw [← hC, ← hq] at HST hcb
    rw [← hC] at HTF ⊢
    rw [← hq] at CO
    rw [← hs] at HST hbd hcn hle ⊢
    have hsb0 : 0 ≤ s ∧ s ≤ 2200000 := by omega
    have hle2 : s = 0 ∨ s ≤ most := by
      rcases hle with h | h
      · left; rw [hs, h]; rfl
      · exact .inr h
    have hlt0 := World.block_lt_of_cell? _ _ hcm
    have hlt2 := World.block_lt_of_cell? _ _ hcn
    have hglt := (Array.getElem?_eq_some_iff.1 hcur).1
    have hx0 : w.heap.size + 1 + 1 + 1 < W.heap.size := by omega
    have HALL := Lib.hid hall
    have HS := Lib.hid hs
    have HQ := Lib.hid (show colsL (nth [] (cutL l) pre.length) = q by rw [hq, hC])
    have HX := Lib.hid hxl
    have HLE := Lib.hid hle
    have hwr : IntKind.i64.wrap (most - s) = most - s := IntWalk.i64_in _ (by omega)
    clear hall hs hq hC hclu hcl hbl hbd hpl hxl hle
    have y0 : w.heap.size < w2.heap.size := by omega
    have y1 : w.heap.size ≠ w.heap.size + 1 := by omega
    have y2 : w.heap.size + 1 + 1 < w2.heap.size := by omega
    have y3 : w.heap.size + 1 + 1 ≠ w.heap.size + 1 := by omega
    by_cases hc : most - s < q
    · gi_wp2_with (refine ⟨trivial, ?_⟩; gi_at_call 89; refine (callsIn_wide.2 (CO.out _)).mono ?_; rintro e w3 ⟨rfl, hb3⟩; have hcm3 := (hb3.cell (p := ⟨w.heap.size, 0, none⟩) hlt0).trans hcm; have hcn3 := (hb3.cell (p := ⟨w.heap.size + 1 + 1, 0, none⟩) hlt2).trans hcn; have hfn3 := (hb3.frozen (p := ⟨w.heap.size + 1 + 1, 0, none⟩) hlt2).trans hfn)
      exact ⟨(others_of_below hb3).from _, pre, rfl, rfl, HX.out, by rw [HQ.out, ← HS.out]; exact hc, hsb.below hb3, ⟨hcm3, by rw [← HS.out]; exact hcn3, hfn3⟩, ⟨by rw [← HS.out]; exact HLE.out, HALL.out⟩, bto hB hb3 hB.size⟩
    · have hc' : q ≤ most - s := by omega
      gi_wp2_with (first
        | (refine ⟨trivial, ?_⟩; gi_at_call 89; refine (callsIn_wide.2 (CO.out _)).mono ?_; rintro e w3 ⟨rfl, hb3⟩; have hcm3 := (hb3.cell (p := ⟨w.heap.size, 0, none⟩) hlt0).trans hcm; have hcn3 := (hb3.cell (p := ⟨w.heap.size + 1 + 1, 0, none⟩) hlt2).trans hcn; have hfn3 := (hb3.frozen (p := ⟨w.heap.size + 1 + 1, 0, none⟩) hlt2).trans hfn)
        | (refine ⟨trivial, ?_⟩; gi_at_call 92; refine (callsIn_wide.2 (CW.out _ (hsb.below hb3))).mono ?_; rintro e w4 ⟨rfl, hsb4, hbut4, hkt4⟩; have hcm4 := (cell_block (hbut4.block _ y0 y1)).trans hcm3; have hcn4 := (cell_block (hbut4.block _ y2 y3)).trans hcn3; have hfn4 := (frozen_block (hbut4.block _ y2 y3)).trans hfn3))
      have hcur3 := (hb3.block g hglt).trans hcur
      have hcur4 := hkt4 g _ hcur3 (by omega) (fun c f e => by injection e with _ e2; cases e2)
      have hk4 : KB (w.heap.size + 1 + 1 + 1) (w.heap.size + 1 + 1 + 1) W w4 := (KB.of_below hb3 hx0 hx0).trans (hbut4.kb (by omega) (by omega) (by omega) (by omega))
      have hg4 : w4.heap[g]? = W.heap[g]? := hcur4.trans hcur.symm
      have hB4 : Below w.heap.size w w4 := (bto hB hb3 hB.size).trans (hbut4.below (by omega) (by omega))
      refine ⟨(((others_of_below hb3).trans hbut4.others).trans (KeepsOthers.setCell _ _ _)).from _, ⟨hk4.trans (KB.setCell _ _ _ _ (by omega) (by omega)), (Below.heap_setCell _ _ _ _ (by show g ≠ w.heap.size + 1 + 1; omega)).trans hg4⟩, ?_⟩
      unfold FitI
      rw [List.length_append, show ([pre.length] : List Nat).length = 1 from rfl, HST.out, HTF.out]
      refine ⟨hsb4.set _ _ y2 y3, ⟨?_, ?_, ?_⟩, ⟨.inr (by omega), fun i hi => ?_⟩, hB4.setCell (p := ⟨w.heap.size + 1 + 1, 0, none⟩) (by show _ ≤ w.heap.size + 1 + 1; omega) _⟩
      · rw [cell_block (Below.heap_setCell _ _ _ _ (by show w.heap.size ≠ w.heap.size + 1 + 1; omega))]; exact hcm4
      · exact World.cell?_setCell_same' _ _ _ (by rw [hcn4]; rfl)
      · rw [World.frozen?_setCell]; exact hfn4
      · by_cases e : i = pre.length
        · rw [e, HQ.out, ← HS.out]; exact hc'
        · exact HALL.out i (by omega)
  · rintro D g ys W hD hys ⟨hsb, ⟨hcm, hcn, hfn⟩, ⟨hle, hall⟩, hB⟩ hK
    have hyl : ys.length = (cutL l).length := by rw [hys, List.length_range]
    have hk : fitK (cutL l) most = (cutL l).length := fitK_end _ _ (fun i hi => by have := hall i (by omega); omega)
    have hsT : ((cutL l).take ys.length).flatten = T := by rw [HT.out, hyl]; unfold fitT; rw [hk]
    have hsN : sumC ((cutL l).take ys.length) = N := by rw [HN.out, hyl]; unfold fitN; rw [hk]
    rw [hsT] at hsb
    rw [hsN] at hcn
    have CS := Lib.hid hsb.drew.string
    have y2 : w.heap.size + 1 + 1 < w2.heap.size := by omega
    clear hys hyl hk hsT hsN hle hall
    gi_wp2
    refine wpIn_wide.2 ?_
    go_region_held3 (fun w' => w'.cell? ⟨w.heap.size + 1 + 1, 0, none⟩ = some (.int .i64 N)) (first | assumption | go_keep) ((go_at_call 93; refine (CS.out).mono ?_; rintro e w5 ⟨rfl, hb5, ho5⟩; have hcn5 := (hb5.cell (p := ⟨w.heap.size + 1 + 1, 0, none⟩) y2).trans hcn))
    have hK5 : w5.heap[D]? = some (.deferred (some [])) := ho5.same D _ (by exact hK) rfl
    gi_wp2
    refine ⟨by simp, .inl ⟨_, _, rfl, run_takeDeferred hK5, ?_⟩⟩
    refine ⟨_, results_tmp2 rfl _ _ _, rfl, ?_⟩
    have hb5' : Below w.heap.size W w5 := (show Below w2.heap.size W w5 from ⟨hb5.os, hb5.tape, hb5.output, hb5.size, hb5.block⟩).mono (by omega)
    exact (hB.trans hb5').trans (belowK_b (w := w) (Nat.le_refl _) w5 D _ _ (by omega) hK5 rfl rfl)
  · rintro D g c pre W hD hpre ⟨q, rfl, rfl, hql, hlt, hsb, ⟨hcm, hcn, hfn⟩, ⟨hle, hall⟩, hB⟩ hK
    have hk : fitK (cutL l) most = q.length := fitK_stop _ _ _ hql (fun i hi => by have := hall i hi; omega) hlt
    have hsT : ((cutL l).take q.length).flatten = T := by rw [HT.out]; unfold fitT; rw [hk]
    have hsN : sumC ((cutL l).take q.length) = N := by rw [HN.out]; unfold fitN; rw [hk]
    rw [hsT] at hsb
    rw [hsN] at hcn
    have CS := Lib.hid hsb.drew.string
    have y2 : w.heap.size + 1 + 1 < w2.heap.size := by omega
    clear hpre hql hlt hk hsT hsN hle hall
    gi_wp2
    refine wpIn_wide.2 ?_
    go_region_held3 (fun w' => w'.cell? ⟨w.heap.size + 1 + 1, 0, none⟩ = some (.int .i64 N)) (first | assumption | go_keep) ((go_at_call 93; refine (CS.out).mono ?_; rintro e w5 ⟨rfl, hb5, ho5⟩; have hcn5 := (hb5.cell (p := ⟨w.heap.size + 1 + 1, 0, none⟩) y2).trans hcn))
    have hK5 : w5.heap[D]? = some (.deferred (some [])) := ho5.same D _ (by exact hK) rfl
    gi_wp2
    refine ⟨by simp, .inl ⟨_, _, rfl, run_takeDeferred hK5, ?_⟩⟩
    refine ⟨_, results_tmp2 rfl _ _ _, rfl, ?_⟩
    have hb5' : Below w.heap.size W w5 := (show Below w2.heap.size W w5 from ⟨hb5.os, hb5.tape, hb5.output, hb5.size, hb5.block⟩).mono (by omega)
    exact (hB.trans hb5').trans (belowK_b (w := w) (Nat.le_refl _) w5 D _ _ (by omega) hK5 rfl rfl)
end Go.Proofs.Ytmdpmjabjijjiaa
