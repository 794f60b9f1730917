/- The columns of a cluster; the iterator over a text's clusters. The contracts of Count, Is, Width, Columns, Join, Clean and Flat. The contract of Fit: the first clusters that have room. -/
import Derived.Deep.RegionHeld3
import Derived.Shelf.Strings.Builder1
import Derived.Shelf.Strings.Builder2
import Derived.Shelf.Strings.OnBuilder
import Derived.Shelf.Strings.BuilderF
import Derived.Shelf.Strings.BuilderK
import Derived.Shelf.Strings.Builder2Cap
import Derived.Shelf.Strings.Prefix
import Derived.Shelf.Bits.Mul64
import Derived.Shelf.Strings.Repeat
import Derived.Shelf.Strings.BuilderCap
import Derived.Test.YtekodpcedjpnjaaGreatProg
import Derived.Test.YtekodpcedjpnjaaGreatBs01
import Derived.Test.YtekodpcedjpnjaaGreatBs03
import Derived.Test.YtekodpcedjpnjaaGreatBs05
import Derived.Test.YtekodpcedjpnjaaGreatBs06
set_option linter.unusedVariables false
set_option linter.unusedSimpArgs false
namespace Go.Proofs.YtekodpcedjpnjaaGreat
open Go.RowKit Go.Shelf Go.Maps
attribute [local go_sem] Oper.semAt_some
set_option maxRecDepth 100000 in
set_option maxHeartbeats 4000000 in
theorem colsOf_any (l : List UInt8) (hl : l.length ≤ 1100000) (w : World) : Calls Tryz.prog 153 #[.string (S l)] w fun e w' => e = .returned (.int .i64 (colsL l)) ∧ Below w.heap.size w w' := by
  have CA := Lib.hid (fun W => rall_any l W)
  have HE := Lib.hid (eachL_runes l)
  obtain ⟨z, hz⟩ : ∃ z, z = colsL l := ⟨_, rfl⟩
  rw [← hz]
  have HZ := Lib.hid hz
  clear hz
  refine (callsIn_wide (n := 9)).1 ?_
  have h1 : 1 ≤ 9 := by omega
  refine callsIn_of_wp_marks Tryz.func153 rfl trivial ?_ rfl
  simp only [Tryz.ntmps153, List.size_toArray, List.length_cons, List.length_nil, Nat.reduceAdd, Nat.reduceSub, Array.replicate_succ, Array.replicate_zero, List.push_toArray, List.append_toArray, List.nil_append, List.cons_append]
  gi_wp2_with (refine ⟨trivial, ?_⟩; gi_at_call 199; refine (callsIn_wide.2 (CA.out _)).mono ?_; rintro e w2 ⟨Bx, b, cap, rfl, hbx, hbl, hcell, hcap, hbys, hbel⟩)
  have hc0 := cell_new_l w (.int .i64 0) 3
  have hsz : (w.alloc (.cells #[.int .i64 0] 3)).heap.size = w.heap.size + 1 := by simp
  have hbw : Below w.heap.size w (w.alloc (.cells #[.int .i64 0] 3)) := (Below.refl _ _).alloc (Nat.le_refl _) _
  generalize w.alloc (.cells #[.int .i64 0] 3) = w1 at hc0 hsz hbw hbx hbl hbel
  have hlt0 : w.heap.size < w1.heap.size := by omega
  have hc2 := (hbel.cell (p := ⟨w.heap.size, 0, none⟩) hlt0).trans hc0.1
  have hf2 := (hbel.frozen (p := ⟨w.heap.size, 0, none⟩) hlt0).trans hc0.2
  have hle1 := hbel.size
  have hw2 : Below w.heap.size w w2 := bto hbw hbel (by omega)
  have hbB := hbx.2
  have hbl2 := hbys.lt
  refine wpIn_rangeFunc_ownG rfl h1 (gf := 267) (lb := #[.pointer (some ⟨Bx, 0, none⟩)]) rfl trivial (enters_of Tryz.func267 (by kernel_rfl) rfl)
    (each1_stops l Bx b cap w2 hbB hcell hcap hbys (by omega) _ (by omega)) KB.trans (KB.put hbB hbl2) (Below.refl _ _) (fun _ => rfl)
    (fun pre W => (pre = [] ∧ W.cell? ⟨w.heap.size, 0, none⟩ = some (.int .i64 0) ∧ W.frozen? ⟨w.heap.size, 0, none⟩ = false) ∧ Below w.heap.size w W)
    (fun c pre W => (c = .ret ∧ ∃ x, pre = [x] ∧ W.cell? ⟨w.heap.size, 0, none⟩ = some (.int .i64 (colsB (x.r : Int)))) ∧ Below w.heap.size w W)
    (OwnFrom.and (Own.from (fun s A B row hs hg hr => ⟨hs.1, cell_kept hs.2.1 hg hr, (frozen_kept hs.2.1 hg hr).trans hs.2.2⟩) _) (ownFrom_below (Nat.le_refl _) (by omega)))
    (fun c => OwnFrom.and (Own.from (fun s A B row hs hg hr => ⟨hs.1, by obtain ⟨x, h1, h2⟩ := hs.2; exact ⟨x, h1, cell_kept h2 hg hr⟩⟩) _) (ownFrom_below (Nat.le_refl _) (by omega)))
    ⟨⟨rfl, hc2, hf2⟩, hw2⟩
    ?_ ?_ ?_ ?_ ?_
  rotate_left 1
  · intro L x W K hK
    gi_wp2
    exact hK
  · rintro L pre x W ⟨⟨rfl, hcw, hfw⟩, hB⟩ hpl
    have CO := Lib.hid (fun W => of_any (x.r : Int) W)
    obtain ⟨q, hq⟩ : ∃ q, q = colsB (x.r : Int) := ⟨_, rfl⟩
    rw [← hq] at CO
    have HQ := Lib.hid hq
    clear hq
    gi_wp2_with (refine ⟨trivial, ?_⟩; gi_at_call 203; refine (callsIn_wide.2 (CO.out _)).mono ?_; rintro e w3 ⟨rfl, hb3⟩; have hc3 := (hb3.cell (p := ⟨w.heap.size, 0, none⟩) (World.block_lt_of_cell? _ _ hcw)).trans hcw; have hf3 := (hb3.frozen (p := ⟨w.heap.size, 0, none⟩) (World.block_lt_of_cell? _ _ hcw)).trans hfw)
    exact ⟨((others_of_below hb3).trans (KeepsOthers.setCell _ _ _)).from _, ⟨rfl, x, rfl, by rw [← HQ.out]; exact World.cell?_setCell_same' _ _ _ (by rw [hc3]; rfl)⟩, (bto hB hb3 hB.size).setCell (p := ⟨w.heap.size, 0, none⟩) (Nat.le_refl _) _⟩
  · rintro D ys W hD rfl ⟨⟨hne, hcw, hfw⟩, hB⟩ hK
    gi_wp2
    have hK' := (KeepsOthers.setCell W ⟨w.heap.size, 0, none⟩ (.int .i64 0)).same D _ hK rfl
    refine ⟨by simp, .inl ⟨_, _, rfl, run_takeDeferred hK', ?_⟩⟩
    have hc5 := cell_kept (World.cell?_setCell_same' W ⟨w.heap.size, 0, none⟩ (.int .i64 0) (by rw [hcw]; rfl)) (grownBy_putObj' _ D (.deferred none)) (fun r e => by cases e; exact ⟨_, hK', rfl⟩)
    have hz0 : z = 0 := by
      rw [HZ.out]
      have := HE.out
      rw [hne, List.map_nil] at this
      unfold colsL
      rw [← this]
    refine ⟨.int .i64 0, ?_, by rw [hz0], (hB.setCell (p := ⟨w.heap.size, 0, none⟩) (Nat.le_refl _) _).trans (belowK_b (w := w) (Nat.le_refl _) _ D _ _ (by omega) hK' rfl rfl)⟩
    simp [results, Tryz.f153, go_sem, hc5]
  · rintro D c pre W hD hpre ⟨⟨rfl, x, rfl, hcw⟩, hB⟩ hK
    gi_wp2
    refine ⟨by simp, .inl ⟨_, _, rfl, run_takeDeferred hK, ?_⟩⟩
    have hc5 := cell_kept hcw (grownBy_putObj' _ D (.deferred none)) (fun r e => by cases e; exact ⟨_, hK, rfl⟩)
    have hz0 : z = colsB (x.r : Int) := by
      rw [HZ.out]
      have h2 := HE.out
      obtain ⟨t, ht⟩ := hpre
      rw [← ht] at h2
      unfold colsL
      rw [← h2]
      rfl
    refine ⟨.int .i64 (colsB (x.r : Int)), ?_, by rw [hz0], hB.trans (belowK_b (w := w) (Nat.le_refl _) W D _ _ (by omega) hK rfl rfl)⟩
    simp [results, Tryz.f153, go_sem, hc5]
theorem call_any (l : List UInt8) (w : World) : Calls Tryz.prog 88 #[.string (S l)] w fun e w' => e = .returned (.func (.func 151) #[] #[.pointer (some ⟨w.heap.size, 0, none⟩)]) ∧ w.alloc (.cells #[.string (S l)] 9) = w' := by
  go_enter Tryz.func88, Tryz.ntmps88
  go_wp2
  go_ret
  exact ⟨rfl, rfl⟩
def encC (L : List (List UInt8)) (i : Nat) : Array Value := #[.int .i64 (sumC (L.take i)), .string (S (nth [] L i))]
theorem sumC_take (L : List (List UInt8)) (k : Nat) (h : k < L.length) : sumC (L.take (k + 1)) = sumC (L.take k) + colsL (nth [] L k) := by
  rw [List.take_succ_eq_append_getElem h, sumC_append, nth_eq _ _ _ h]
  simp [sumC]
theorem sumC_take_bd (L : List (List UInt8)) (k : Nat) : 0 ≤ sumC (L.take k) ∧ sumC (L.take k) ≤ 2 * L.length := by
  have := sumC_bd (L.take k)
  have := List.length_take_le k L
  have : (L.take k).length ≤ L.length := by rw [List.length_take]; omega
  omega
theorem strV_nth (L : List (List UInt8)) (j : Nat) (h : j < L.length) : nth undef (strV L) j = .string (S (nth [] L j)) := nth_map _ _ _ _ h
theorem nth_clu {l : List UInt8} {k : Nat} (h : k < (cutL l).length) : Clu (nth [] (cutL l) k) := by
  rw [nth_eq _ _ _ h]; exact clu_mem (List.getElem_mem h)
theorem range_prefix {k n : Nat} (h : k ≤ n) : List.range k <+: List.range n := by
  rw [List.prefix_iff_eq_take]
  apply List.ext_getElem
  · simp; omega
  · intro i h1 h2; simp
set_option maxRecDepth 100000 in
set_option maxHeartbeats 4000000 in
theorem call1_seq (l : List UInt8) (hl : l.length ≤ 1100000) (Bx : Nat) (w : World) (hbx : Bx < w.heap.size) (hcx : w.cell? ⟨Bx, 0, none⟩ = some (.string (S l))) (mm : Nat) (hm : 1 ≤ mm) :
    SeqG Fence.wide mm Tryz.prog 151 #[.pointer (some ⟨Bx, 0, none⟩)] (encC (cutL l)) (KB Bx Bx) (fun g pre x W => (x = pre.length ∧ x < (cutL l).length) ∧ ∃ cur, W.heap[g]? = some (.cells cur 9 (0, 0))) (fun ys => ys = List.range (cutL l).length) (fun pre => pre <+: List.range (cutL l).length) (cutL l).length w := by
  intro L J Jx W hW0 hJ hJx hY h0
  have hW := KB.of_below hW0 hbx hbx
  have hxW := (cell_block hW.a).trans hcx
  have hbxW : Bx < W.heap.size := by have := hW.size; omega
  clear hW0
  have CC := Lib.hid (fun W => cut_any l hl W)
  have hzl := cutL_len l
  refine callsIn_of_wp Tryz.func151 rfl trivial ?_ rfl
  simp only [Tryz.ntmps151, List.size_toArray, List.length_cons, List.length_nil, Nat.reduceAdd, Nat.reduceSub, Array.replicate_succ, Array.replicate_zero, List.push_toArray, List.append_toArray, List.nil_append, List.cons_append]
  gi_wp2_with (refine ⟨trivial, ?_⟩; gi_at_call 152; refine (callsIn_wide.2 (CC.out _)).mono ?_; rintro e w1 ⟨a, n, c, hn, hnc, hcm, rfl, hrow, hb1, g, hg, ha⟩)
  rw [← hn] at hzl hY ⊢
  have HN := Lib.hid hn
  clear hn
  have hb1k := KB.of_below hb1 hbxW hbxW
  have hJ0 := hJ g [] W w1 none (h0 g hg) (grown_of_below hb1) (fun r e => by cases e)
  clear h0
  gi_loopw [9, 3] (fun i s wr => ∃ k : Nat, k ≤ n ∧ i = .int .i64 (k : Int) ∧ s = .int .i64 (sumC ((cutL l).take k)) ∧ J g (List.range k) wr ∧ KB Bx Bx W wr ∧ w1.heap.size ≤ wr.heap.size ∧ (0 < n → wr.heap[g]? = w1.heap[g]?))
    (fun i _ _ => n - (intOf i).toNat)
  case atStart => exact ⟨0, Nat.zero_le _, rfl, by simp [sumC], hJ0, hb1k, Nat.le_refl _, fun _ => rfl⟩
  case round =>
    obtain ⟨k, hk, rfl, rfl, hJs, hnx, hsz, hgb⟩ := hrel
    by_cases hlt : k < n
    · have hgb := hgb (by omega)
      obtain ⟨ha, cur, hcur⟩ := ha (by omega)
      subst ha
      have hkL : k < (cutL l).length := by rw [← HN.out]; exact hlt
      obtain ⟨b', off', eb, hbl, hck⟩ := hrow k (by rw [strV_len]; exact hkL)
      simp only [Option.some.injEq, Addr.mk.injEq] at eb
      obtain ⟨rfl, rfl, _⟩ := eb
      rw [strV_nth _ _ hkL] at hck
      rw [Nat.zero_add] at hck
      have hckr := (cell_block hgb).trans hck
      have HST := Lib.hid (sumC_take (cutL l) k hkL)
      have hclu := nth_clu hkL
      have hcl := hclu.len
      have hbd := sumC_take_bd (cutL l) k
      have hcb := hclu.cols
      obtain ⟨fn, tmps, assign, body, hy, hR⟩ := hY g (List.range k) k wr hg hJs ⟨⟨by simp, hlt⟩, cur, hgb.trans hcur⟩ (by rw [List.length_range]; exact hlt)
      dsimp only [encC] at hy
      obtain ⟨C, hC⟩ : ∃ C, C = nth [] (cutL l) k := ⟨_, rfl⟩
      obtain ⟨s, hs⟩ : ∃ s, s = sumC ((cutL l).take k) := ⟨_, rfl⟩
      rw [← hC] at hckr hy hcl hcb HST
      rw [← hs] at hbd hy HST ⊢
      have CO := Lib.hid (fun W => colsOf_any C (by omega) W)
      obtain ⟨q, hq⟩ : ∃ q, q = colsL C := ⟨_, rfl⟩
      rw [← hq] at CO hcb HST
      have hzl2 : 2 * (cutL l).length ≤ 2200000 := by rw [← HN.out]; omega
      have hsb : 0 ≤ s ∧ s ≤ 2200000 := by omega
      have hcap0 : 0 < c := by omega
      clear hC hs hq hclu hcl hbd hrow hck hkL hzl2
      gi_wp2
      refine hR.mono ?_
      rintro e W3 (⟨rfl, hJ3, hk3, hg3⟩ | ⟨rfl, hJx3⟩)
      · gi_wp2_with (refine ⟨trivial, ?_⟩; gi_at_call 153; refine (callsIn_wide.2 (CO.out _)).mono ?_; rintro e w4 ⟨rfl, hb4⟩)
        have hs3 := hk3.size
        have hs0 := hnx.size
        go_roundw
        case rel => exact ⟨k + 1, by omega, by go_num, by rw [HST.out], by rw [List.range_succ]; exact hJ g _ _ _ none hJ3 (grown_of_below hb4) (fun r e => by cases e), (hnx.trans hk3).trans (KB.of_below hb4 (by omega) (by omega)), by have := hb4.size; omega, fun _ => (hb4.block g (by omega)).trans (hg3.trans hgb)⟩
        case measure => simp [intOf]; omega
      · gi_wp2
        refine bodyPost_ret (results_none rfl _ _ _) rfl ?_
        exact ⟨⟨_, rfl⟩, g, .inr ⟨List.range (k + 1), by rw [← HN.out]; exact range_prefix (by omega), by rw [List.range_succ]; exact hJx3⟩⟩
    · obtain rfl : k = n := by omega
      gi_wp2
      go_end0
      exact ⟨⟨_, rfl⟩, g, .inl ⟨_, by rw [HN.out], hJs⟩⟩
end Go.Proofs.YtekodpcedjpnjaaGreat
namespace Go.Proofs.YtekodpcedjpnjaaGreat
open Go.RowKit Go.Shelf Go.Maps
attribute [local go_sem] Oper.semAt_some
def isCl (l : List UInt8) : Bool := decide (cutL l = [l])
theorem isCl_clu {l : List UInt8} (h : isCl l = true) : Clu l := by
  have := of_decide_eq_true h
  exact clu_mem (l := l) (by rw [this]; simp)
set_option maxRecDepth 100000 in
set_option maxHeartbeats 1000000 in
theorem is_any' (l : List UInt8) (hl : l.length ≤ 1100000) (w : World) : Calls Tryz.prog 169 #[.string (S l)] w fun e w' => e = .returned (.bool (isCl l)) ∧ Below w.heap.size w w' := by
  have CC := Lib.hid (fun W => cut_any l hl W)
  obtain ⟨z, hz⟩ : ∃ z, z = isCl l := ⟨_, rfl⟩
  rw [← hz]
  unfold isCl at hz
  by_cases h1 : (cutL l).length = 1
  · obtain ⟨x, hx⟩ := List.length_eq_one_iff.1 h1
    rw [hx] at hz CC
    have HZ := Lib.hid hz
    clear hz h1 hx
    go_enter Tryz.func169, Tryz.ntmps169
    go_wp2_with (go_at_call 152; refine (CC.out _).mono ?_; rintro e w1 ⟨a, n, c, hn, hnc, hcm, rfl, hrow, hb1, _⟩; obtain ⟨b0, o0, rfl, hb0, hc0⟩ := hrow 0 (by simp [strV]); rw [Nat.add_zero] at hc0; obtain rfl : n = 1 := hn; replace hc0 : w1.cell? ⟨b0, o0, none⟩ = some (.string (S x)) := hc0)
    go_ret
    refine ⟨ret_bool ?_, hb1⟩
    rw [HZ.out, S_eq]
    simp
  · have hz0 : z = false := by
      rw [hz]
      refine decide_eq_false (fun e => h1 (by rw [e]; rfl))
    subst hz0
    obtain ⟨m, hm⟩ : ∃ m, m = (cutL l).length := ⟨_, rfl⟩
    have hne : ((m : Int) == 1) = false := by simp; omega
    have HM := Lib.hid hm
    clear hz h1 hm
    go_enter Tryz.func169, Tryz.ntmps169
    go_wp2_with (go_at_call 152; refine (CC.out _).mono ?_; rintro e w1 ⟨a, n, c, hn, hnc, hcm, rfl, hrow, hb1, _⟩; rw [← HM.out] at hn; subst hn)
    go_ret
    exact ⟨rfl, hb1⟩
def widthL (l : List UInt8) : Int := match cutL l with | c :: _ => colsL c | [] => 0
theorem widthL_0 {l : List UInt8} (h : cutL l = []) : widthL l = 0 := by unfold widthL; rw [h]
theorem widthL_1 {l : List UInt8} (h : 0 < (cutL l).length) : widthL l = colsL (nth [] (cutL l) 0) := by
  unfold widthL
  match hc : cutL l with
  | [] => rw [hc] at h; simp at h
  | c :: t => rfl
theorem two_allocs (w : World) (v1 v2 : Value) (t1 t2 : TypeId) (W : World) (hW : (w.alloc (.cells #[v1] t1)).alloc (.cells #[v2] t2) = W) :
    W.cell? ⟨w.heap.size, 0, none⟩ = some v1 ∧ W.frozen? ⟨w.heap.size, 0, none⟩ = false ∧ W.cell? ⟨w.heap.size + 1, 0, none⟩ = some v2 ∧ Below w.heap.size w W ∧ W.heap.size = w.heap.size + 1 + 1 := by
  have c1 := cell_new_l w v1 t1
  have c2 := cell_new_l (w.alloc (.cells #[v1] t1)) v2 t2
  rw [World.size_alloc] at c2
  subst hW
  exact ⟨cell_alloc_l _ c1.1, frozen_alloc_l _ c1.1 c1.2, c2.1, ((Below.refl _ _).alloc (Nat.le_refl _) _).alloc (by simp) _, by simp⟩
theorem ghost_own {B : Nat} (n : Nat) (g x : Nat) : OwnFrom B (fun (p : List Nat) W => (x = p.length ∧ x < n) ∧ ∃ cur, W.heap[g]? = some (.cells cur 9 (0, 0))) := fun s W W' row hs hg hr => ⟨hs.1, by
  obtain ⟨cur, h⟩ := hs.2
  exact ⟨cur, (grownBy_keeps_cells hg (fun r e => (hr r e).2) h rfl).trans h⟩⟩
set_option maxRecDepth 100000 in
set_option maxHeartbeats 4000000 in
theorem cwidth_any (l : List UInt8) (hl : l.length ≤ 1100000) (w : World) : Calls Tryz.prog 90 #[.string (S l)] w fun e w' => e = .returned (.int .i64 (widthL l)) ∧ Below w.heap.size w w' := by
  have CA := Lib.hid (fun W => call_any l W)
  have HW0 := Lib.hid (@widthL_0 l)
  have HW1 := Lib.hid (@widthL_1 l)
  obtain ⟨z, hz⟩ : ∃ z, z = widthL l := ⟨_, rfl⟩
  rw [← hz] at HW0 HW1 ⊢
  clear hz
  refine (callsIn_wide (n := 9)).1 ?_
  have h1 : 1 ≤ 9 := by omega
  refine callsIn_of_wp_marks Tryz.func90 rfl trivial ?_ rfl
  simp only [Tryz.ntmps90, List.size_toArray, List.length_cons, List.length_nil, Nat.reduceAdd, Nat.reduceSub, Array.replicate_succ, Array.replicate_zero, List.push_toArray, List.append_toArray, List.nil_append, List.cons_append]
  gi_wp2_with (refine ⟨trivial, ?_⟩; gi_at_call 88; refine (callsIn_wide.2 (CA.out _)).mono ?_; rintro e w2 ⟨rfl, hw2⟩)
  obtain ⟨hc0, hf0, hcx, hb2, hs2⟩ := two_allocs w _ _ _ _ w2 hw2
  clear hw2
  refine wpIn_rangeFunc_GH rfl h1 (gf := 151) (lb := #[.pointer (some ⟨w.heap.size + 1, 0, none⟩)]) rfl trivial (enters_of Tryz.func151 (by kernel_rfl) rfl)
    (call1_seq l hl (w.heap.size + 1) w2 (by omega) hcx _ (by omega)) KB.trans (KB.put (by omega) (by omega)) (Below.refl _ _) (fun _ => rfl)
    (fun _ pre W => (pre = [] ∧ W.cell? ⟨w.heap.size, 0, none⟩ = some (.int .i64 0) ∧ W.frozen? ⟨w.heap.size, 0, none⟩ = false) ∧ Below w.heap.size w W)
    (fun _ c pre W => (c = .ret ∧ pre = [0] ∧ 0 < (cutL l).length ∧ W.cell? ⟨w.heap.size, 0, none⟩ = some (.int .i64 (colsL (nth [] (cutL l) 0)))) ∧ Below w.heap.size w W)
    (fun g => OwnFrom.and (Own.from (fun s A B row hs hg hr => ⟨hs.1, cell_kept hs.2.1 hg hr, (frozen_kept hs.2.1 hg hr).trans hs.2.2⟩) _) (ownFrom_below (Nat.le_refl _) (by omega)))
    (fun g c => OwnFrom.and (Own.from (fun s A B row hs hg hr => ⟨hs.1, hs.2.1, hs.2.2.1, cell_kept hs.2.2.2 hg hr⟩) _) (ownFrom_below (Nat.le_refl _) (by omega)))
    (fun g x => ghost_own _ g x)
    (fun g hg => ⟨⟨rfl, hc0, hf0⟩, hb2⟩)
    ?_ ?_ ?_ ?_ ?_
  rotate_left 1
  · intro L x W K hK
    dsimp only [encC]
    gi_wp2
    exact hK
  · rintro L g pre x W hL1 hL2 hg ⟨⟨rfl, hcw, hfw⟩, hB⟩ ⟨⟨hx, hxl⟩, cur, hcur⟩ hpl
    obtain rfl : x = 0 := hx
    have hclu := nth_clu hxl
    have hcl := hclu.len
    have CO := Lib.hid (fun W => colsOf_any (nth [] (cutL l) 0) (by omega) W)
    obtain ⟨q, hq⟩ : ∃ q, q = colsL (nth [] (cutL l) 0) := ⟨_, rfl⟩
    rw [← hq] at CO
    have HQ := Lib.hid hq
    have HX := Lib.hid hxl
    clear hq hclu hcl hxl hpl
    gi_wp2_with (refine ⟨trivial, ?_⟩; gi_at_call 153; refine (callsIn_wide.2 (CO.out _)).mono ?_; rintro e w3 ⟨rfl, hb3⟩; have hc3 := (hb3.cell (p := ⟨w.heap.size, 0, none⟩) (World.block_lt_of_cell? _ _ hcw)).trans hcw; have hf3 := (hb3.frozen (p := ⟨w.heap.size, 0, none⟩) (World.block_lt_of_cell? _ _ hcw)).trans hfw)
    exact ⟨((others_of_below hb3).trans (KeepsOthers.setCell _ _ _)).from _, ⟨rfl, rfl, HX.out, by rw [← HQ.out]; exact World.cell?_setCell_same' _ _ _ (by rw [hc3]; rfl)⟩, (bto hB hb3 hB.size).setCell (p := ⟨w.heap.size, 0, none⟩) (Nat.le_refl _) _⟩
  · rintro D g ys W hD hys ⟨⟨rfl, hcw, hfw⟩, hB⟩ hK
    have hL0 : cutL l = [] := by
      have := congrArg List.length hys
      rw [List.length_range] at this
      exact List.length_eq_zero_iff.1 this.symm
    have hz0 := HW0.out hL0
    clear hys hL0
    gi_wp2
    have hK' := (KeepsOthers.setCell W ⟨w.heap.size, 0, none⟩ (.int .i64 0)).same D _ hK rfl
    refine ⟨by simp, .inl ⟨_, _, rfl, run_takeDeferred hK', ?_⟩⟩
    have hc5 := cell_kept (World.cell?_setCell_same' W ⟨w.heap.size, 0, none⟩ (.int .i64 0) (by rw [hcw]; rfl)) (grownBy_putObj' _ D (.deferred none)) (fun r e => by cases e; exact ⟨_, hK', rfl⟩)
    refine ⟨.int .i64 0, ?_, by rw [hz0], (hB.setCell (p := ⟨w.heap.size, 0, none⟩) (Nat.le_refl _) _).trans (belowK_b (w := w) (Nat.le_refl _) _ D _ _ (by omega) hK' rfl rfl)⟩
    simp [results, Tryz.f90, go_sem, hc5]
  · rintro D g c pre W hD hpre ⟨⟨rfl, rfl, hl0, hcw⟩, hB⟩ hK
    have hz0 := HW1.out hl0
    gi_wp2
    refine ⟨by simp, .inl ⟨_, _, rfl, run_takeDeferred hK, ?_⟩⟩
    have hc5 := cell_kept hcw (grownBy_putObj' _ D (.deferred none)) (fun r e => by cases e; exact ⟨_, hK, rfl⟩)
    refine ⟨.int .i64 (colsL (nth [] (cutL l) 0)), ?_, by rw [hz0], hB.trans (belowK_b (w := w) (Nat.le_refl _) W D _ _ (by omega) hK rfl rfl)⟩
    simp [results, Tryz.f90, go_sem, hc5]
theorem conv_newB (W : World) (l : List UInt8) : (convert 61 9 (.slice (some ⟨W.heap.size, 0, none⟩) l.length l.length)).run Tryz.prog (W.alloc (.cells (u8v l).toArray 5)) = .ok (.string (S l)) (W.alloc (.cells (u8v l).toArray 5)) := by
  have := run_convert_bytes_arg (P := Tryz.prog) (W.alloc (.cells (u8v l).toArray 5)) 61 5 Tryz.underlying61 Tryz.underlying5 W.heap.size 0 l.length l.length (l.map fun b => (b.toNat : Int)) (by simp)
    (fun i hi => ?_) 9 Tryz.underlying9
  · rw [strOfNums_Sc] at this; exact this
  · have h0 : (W.alloc (.cells (u8v l).toArray 5)).heap[W.heap.size]? = some (.cells (u8v l).toArray 5) := World.alloc_heap_new W _
    unfold World.cell?
    dsimp only
    rw [h0]
    simp [u8v, hi]
end Go.Proofs.YtekodpcedjpnjaaGreat
namespace Go.Proofs.YtekodpcedjpnjaaGreat
open Go.RowKit Go.Shelf Go.Maps
attribute [local go_sem] Oper.semAt_some
theorem SB.drew {n₀ b o : Nat} {T : TypeId} {W : World} {cs : Array Value} {p v : Value} {bs : List UInt8} (h : SB n₀ b o T W cs p v bs) : SB n₀ b o T W.drew cs p v bs := ⟨h.blk, h.hp, h.hv, h.pn, h.lt, h.le, h.own⟩
theorem SB.kept {n₀ b o : Nat} {T : TypeId} {W W' : World} {cs : Array Value} {p v : Value} {bs : List UInt8} (h : SB n₀ b o T W cs p v bs) {row : Option Nat} (hg : W.grownBy W' row) (hr : ∀ k, row = some k → ∃ o : Obj, W.heap[k]? = some o ∧ o.isCells = false) : SB n₀ b o T W' cs p v bs := by
  refine ⟨(grownBy_keeps_cells hg hr h.blk rfl).trans h.blk, h.hp, h.hv, h.pn, h.lt, Nat.le_trans h.le hg.size, h.own.kept hg ?_⟩
  cases hv : v.ownBlock with
  | none => exact .inl rfl
  | some q =>
    refine .inr (fun e' => ?_)
    obtain ⟨_, cur, h2⟩ := own_cells h.own q hv
    obtain ⟨o', h3, h4⟩ := hr q e'.symm
    rw [h2] at h3; cases h3; cases h4
theorem SB.below {n₀ b o : Nat} {T : TypeId} {W W' : World} {cs : Array Value} {p v : Value} {bs : List UInt8} (h : SB n₀ b o T W cs p v bs) (hb : Below W.heap.size W W') : SB n₀ b o T W' cs p v bs :=
  h.kept (grown_of_below hb) (fun k e => by cases e)
end Go.Proofs.YtekodpcedjpnjaaGreat
