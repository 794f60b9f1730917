/- Wrap: add; program. No condition. -/
import Derived.Test.YtmdpmjabjijjiaaWrap4
namespace Go.Proofs.Ytmdpmjabjijjiaa
set_option linter.unusedVariables false
set_option linter.unusedSimpArgs false
open Go.RowKit Go.Shelf Go.Maps
/-- A row in blocks below n₀ other than B. -/
def RowB (n₀ B : Nat) (w : World) (a : Option Addr) (vs : List Value) : Prop :=
  ∀ j, j < vs.length → ∃ b off, a = some ⟨b, off, none⟩ ∧ (b < n₀ ∧ b ≠ B) ∧ w.cell? ⟨b, off + j, none⟩ = some (nth undef vs j)
theorem RowB.but {n₀ B : Nat} {w w' : World} {a : Option Addr} {vs : List Value} (h : RowB n₀ B w a vs) (hb : But n₀ B w w') : RowB n₀ B w' a vs := fun j hj => by
  obtain ⟨b, off, e, hbb, hc⟩ := h j hj
  exact ⟨b, off, e, hbb, (cell_block (hb.block b hbb.1 hbb.2)).trans hc⟩
theorem rowB_at {n₀ B : Nat} {w : World} {a : Option Addr} {L : List (List UInt8)} (h : RowB n₀ B w a (strV L)) (k : Nat) (hk : k < L.length) : ∃ b off, a = some ⟨b, off, none⟩ ∧ w.cell? ⟨b, off + k, none⟩ = some (.string (S (nth [] L k))) := by
  obtain ⟨b, off, e, _, hc⟩ := h k (by rw [strV_len]; exact hk)
  exact ⟨b, off, e, by rw [hc, strV_nth _ _ hk]⟩
theorem fold_take34 {α β : Type} (f : β → α → β) (d : α) (L : List α) (k : Nat) (h : k < L.length) (s : β) : (L.take (k + 1)).foldl f s = f ((L.take k).foldl f s) (nth d L k) := by
  rw [List.take_succ_eq_append_getElem h, List.foldl_append, nth_eq _ _ _ h]; rfl
set_option maxRecDepth 100000 in
set_option maxHeartbeats 4000000 in
theorem pgadd_any {n₀ B : Nat} {W : World} {w : Int} {st : Pg} {cs : Array Value} {lines p v : Value} (h : PgAt n₀ B W w st cs lines p v) (x : List (List UInt8)) (hx : ∀ c ∈ x, Clu c) {m : Nat} (hI : PgI w m st) (hm : m + x.length ≤ 900000) (hw : 0 ≤ w ∧ w ≤ 1000)
    (a : Option Addr) (c : Nat) (hnc : x.length ≤ c) (hrow : RowB n₀ B W a (strV x)) :
    Calls Try.prog 106 #[.pointer (some ⟨B, 0, none⟩), .agg #[.slice a x.length c, .int .i64 (sumC x)]] W (PgPost n₀ B W w (addG w st x)) := by
  have hlt := h.sb.lt
  have hle := h.sb.le
  have hu := hI.ok.used
  have hlb := hI.lb
  have hdb := hI.db
  have hsb := sumC_bd x
  have hII := startG_I (x := x) hI
  obtain ⟨W1, hW1⟩ : ∃ W1, W.alloc (.cells #[.slice a x.length c, .int .i64 (sumC x)] 129) = W1 := ⟨_, rfl⟩
  have hs1 : W1.heap.size = W.heap.size + 1 := by rw [← hW1]; simp
  have hb1 : Below W.heap.size W W1 := by rw [← hW1]; exact (Below.refl _ _).alloc (Nat.le_refl _) _
  have hx1 : W1.heap[W.heap.size]? = some (.cells #[.slice a x.length c, .int .i64 (sumC x)] 129 (0, 0)) := by rw [← hW1]; exact World.alloc_heap_new W _
  have h1 := h.below hb1
  obtain ⟨⟨c0, c1, c2, c3, c4⟩, f0, f1, f2, f3, f4⟩ := h1.cells
  obtain ⟨x0, _⟩ := blk_at (o := 0) (x := .slice a x.length c) hx1 rfl
  obtain ⟨x1, _⟩ := blk_at (o := 1) (x := .int .i64 (sumC x)) hx1 rfl
  rw [addG_start]
  have hq := h1.drewN
  have HXX := Lib.hid (fun (V : World) (hk : KeepU B W1 V) => (hk W.heap.size _ hx1 (by omega) (fun _ _ e1 => by injection e1 with _ e2; exact absurd e2 (by decide)) (fun _ _ e1 => by injection e1 with _ e2; exact absurd e2 (by decide)) : V.heap[W.heap.size]? = some (.cells #[.slice a x.length c, .int .i64 (sumC x)] 129 (0, 0))))
  have CE := Lib.hid (fun (X : World) (cs' lines' p' v') (h' : PgAt n₀ B X w st cs' lines' p' v') => pgend_any h' hu.1 hI.ln (by omega))
  have CP := Lib.hid (fun (X : World) (cs' lines' p' v') (h' : PgAt n₀ B X w st cs' lines' p' v') => pgput_any h' [32] clu32 hI.ok hI.ln (by omega) (by omega) hw.2)
  have CQ := Lib.hid (fun (X : World) (st' : Pg) (m' : Nat) (c' : List UInt8) (cs' lines' p' v') (hI' : PgI w m' st') (hm' : m' ≤ 1000000) (hc' : Clu c') (h' : PgAt n₀ B X w st' cs' lines' p' v') => pgput_any h' c' hc' hI'.ok hI'.ln (by have := hI'.db; omega) (by have := hI'.lb; have := hI'.ok.used; omega) hw.2)
  have hrow1 : RowB n₀ B W1 a (strV x) := hrow.but (But.of_below hle hb1)
  have HX := Lib.hid hx
  have hwr1 : IntKind.i64.wrap (w - st.2.2) = w - st.2.2 := IntWalk.i64_in _ (by omega)
  have hwr2 : IntKind.i64.wrap (w - st.2.2 - 1) = w - st.2.2 - 1 := IntWalk.i64_in _ (by omega)
  obtain ⟨u, hu'⟩ : ∃ u, u = st.2.2 := ⟨_, rfl⟩
  obtain ⟨q, hq'⟩ : ∃ q, q = sumC x := ⟨_, rfl⟩
  have hst : startG w st x = if 0 < u ∧ q ≤ w - u - 1 then putG w st [32] else endG st := by rw [hu', hq']; rfl
  rw [← hu'] at c4 hwr1 hwr2
  rw [← hq'] at x1 HXX hW1 ⊢
  obtain ⟨Q, hQ⟩ : ∃ Q, Q = startG w st x := ⟨_, rfl⟩
  rw [← hQ] at hst hII ⊢
  have HQ := Lib.hid hII
  have hu0 : 0 ≤ u := by rw [hu']; exact hu.1
  clear hI
  have HBW := Lib.hid (But.of_below hle hb1 : But n₀ B W W1)
  have HKW := Lib.hid ((KeepU.refl B W).below hb1)
  have hle1 : n₀ ≤ W1.heap.size := by omega
  clear hQ hII hx hb1 hrow h h1 hx1 hu' hq' hsb hlb hdb
  by_cases g1 : 0 < u
  · by_cases g2 : q ≤ w - u - 1
    · rw [if_pos ⟨g1, g2⟩] at hst
      rw [← hst] at CP
      clear hst CE
      go_enter Try.func106, Try.ntmps106
      go_wp2
      go_quiet (fail)
      go_wp2_with (go_at_call 132; refine (CP.out _ _ _ _ _ (hq nq)).mono ?_; rintro e w3 ⟨rfl, ⟨cs3, lines3, p3, v3, h3⟩, hbut3', hku3'⟩; have hku3 : KeepU B W1 w3 := ((KeepU.refl B W1).below (below_drewN (Below.refl _ _) nq)).trans hku3'; obtain ⟨x3, _⟩ := blk_at (o := 0) (x := .slice a x.length c) (HXX.out w3 hku3) rfl)
      have hbut3 : But n₀ B W1 w3 := (But.of_below hle1 (below_drewN (Below.refl _ _) nq)).trans hbut3'
      clear hbut3' hku3'
      go_loopw [33] (fun i wr => ∃ k : Nat, k ≤ x.length ∧ i = .int .i64 (k : Int) ∧ (∃ cs' lines' p' v', PgAt n₀ B wr w ((x.take k).foldl (putG w) Q) cs' lines' p' v') ∧ But n₀ B W1 wr ∧ KeepU B W1 wr) (fun i _ => x.length - (intOf i).toNat)
      case atStart => exact ⟨0, Nat.zero_le _, rfl, ⟨_, _, _, _, h3⟩, hbut3, hku3⟩
      case round =>
        obtain ⟨k, hk, rfl, ⟨cs', lines', p', v', hpg⟩, hbr, hkr⟩ := hrel
        by_cases hlt' : k < x.length
        · obtain ⟨b, off, rfl, hc'⟩ := rowB_at (hrow1.but hbr) k hlt'
          have hmem : nth [] x k ∈ x := by rw [nth_eq _ _ _ hlt']; exact List.getElem_mem hlt'
          have hclu := HX.out _ hmem
          have hIk := foldPut_I (x.take k) _ Q HQ.out (fun y hy => HX.out y (List.mem_of_mem_take hy))
          rw [List.length_take, Nat.min_eq_left hk] at hIk
          have HF := Lib.hid (fold_take34 (putG w) [] x k hlt' Q)
          obtain ⟨y, hy⟩ : ∃ y, y = nth [] x k := ⟨_, rfl⟩
          rw [← hy] at hc' hclu HF
          obtain ⟨Z, hZ⟩ : ∃ Z, Z = (x.take k).foldl (putG w) Q := ⟨_, rfl⟩
          rw [← hZ] at hIk HF hpg
          have CPk := Lib.hid (CQ.out wr Z _ y _ _ _ _ hIk (by omega) hclu hpg)
          clear hy hZ hmem hclu hIk hpg
          go_wp2_with (go_at_call 132; refine (CPk.out).mono ?_; rintro e w5 ⟨rfl, hpg5, hbut5, hku5⟩)
          go_roundw
          case rel => exact ⟨k + 1, hlt', by go_num, by rw [HF.out]; exact hpg5, hbr.trans hbut5, hkr.trans hku5⟩
          case measure => simp [intOf]; omega
        · obtain rfl : k = x.length := by omega
          rw [List.take_length] at hpg
          go_wp2
          go_end0
          exact ⟨rfl, ⟨_, _, _, _, hpg⟩, HBW.out.trans hbr, HKW.out.trans hkr⟩
    · rw [if_neg (fun e => g2 e.2)] at hst
      rw [← hst] at CE
      have g2' : w - u - 1 < q := by omega
      clear hst CP g2
      go_enter Try.func106, Try.ntmps106
      go_wp2
      go_quiet (fail)
      go_wp2_with (go_at_call 107; refine (CE.out _ _ _ _ _ (hq nq)).mono ?_; rintro e w3 ⟨rfl, ⟨cs3, lines3, p3, v3, h3⟩, hbut3', hku3'⟩; have hku3 : KeepU B W1 w3 := ((KeepU.refl B W1).below (below_drewN (Below.refl _ _) nq)).trans hku3'; obtain ⟨x3, _⟩ := blk_at (o := 0) (x := .slice a x.length c) (HXX.out w3 hku3) rfl)
      have hbut3 : But n₀ B W1 w3 := (But.of_below hle1 (below_drewN (Below.refl _ _) nq)).trans hbut3'
      clear hbut3' hku3'
      go_loopw [33] (fun i wr => ∃ k : Nat, k ≤ x.length ∧ i = .int .i64 (k : Int) ∧ (∃ cs' lines' p' v', PgAt n₀ B wr w ((x.take k).foldl (putG w) Q) cs' lines' p' v') ∧ But n₀ B W1 wr ∧ KeepU B W1 wr) (fun i _ => x.length - (intOf i).toNat)
      case atStart => exact ⟨0, Nat.zero_le _, rfl, ⟨_, _, _, _, h3⟩, hbut3, hku3⟩
      case round =>
        obtain ⟨k, hk, rfl, ⟨cs', lines', p', v', hpg⟩, hbr, hkr⟩ := hrel
        by_cases hlt' : k < x.length
        · obtain ⟨b, off, rfl, hc'⟩ := rowB_at (hrow1.but hbr) k hlt'
          have hmem : nth [] x k ∈ x := by rw [nth_eq _ _ _ hlt']; exact List.getElem_mem hlt'
          have hclu := HX.out _ hmem
          have hIk := foldPut_I (x.take k) _ Q HQ.out (fun y hy => HX.out y (List.mem_of_mem_take hy))
          rw [List.length_take, Nat.min_eq_left hk] at hIk
          have HF := Lib.hid (fold_take34 (putG w) [] x k hlt' Q)
          obtain ⟨y, hy⟩ : ∃ y, y = nth [] x k := ⟨_, rfl⟩
          rw [← hy] at hc' hclu HF
          obtain ⟨Z, hZ⟩ : ∃ Z, Z = (x.take k).foldl (putG w) Q := ⟨_, rfl⟩
          rw [← hZ] at hIk HF hpg
          have CPk := Lib.hid (CQ.out wr Z _ y _ _ _ _ hIk (by omega) hclu hpg)
          clear hy hZ hmem hclu hIk hpg
          go_wp2_with (go_at_call 132; refine (CPk.out).mono ?_; rintro e w5 ⟨rfl, hpg5, hbut5, hku5⟩)
          go_roundw
          case rel => exact ⟨k + 1, hlt', by go_num, by rw [HF.out]; exact hpg5, hbr.trans hbut5, hkr.trans hku5⟩
          case measure => simp [intOf]; omega
        · obtain rfl : k = x.length := by omega
          rw [List.take_length] at hpg
          go_wp2
          go_end0
          exact ⟨rfl, ⟨_, _, _, _, hpg⟩, HBW.out.trans hbr, HKW.out.trans hkr⟩
  · rw [if_neg (fun e => g1 e.1)] at hst
    rw [← hst] at CE
    obtain rfl : u = 0 := by omega
    clear hst CP g1
    go_enter Try.func106, Try.ntmps106
    go_wp2
    go_quiet (fail)
    go_wp2_with (go_at_call 107; refine (CE.out _ _ _ _ _ (hq nq)).mono ?_; rintro e w3 ⟨rfl, ⟨cs3, lines3, p3, v3, h3⟩, hbut3', hku3'⟩; have hku3 : KeepU B W1 w3 := ((KeepU.refl B W1).below (below_drewN (Below.refl _ _) nq)).trans hku3'; obtain ⟨x3, _⟩ := blk_at (o := 0) (x := .slice a x.length c) (HXX.out w3 hku3) rfl)
    have hbut3 : But n₀ B W1 w3 := (But.of_below hle1 (below_drewN (Below.refl _ _) nq)).trans hbut3'
    clear hbut3' hku3'
    go_loopw [33] (fun i wr => ∃ k : Nat, k ≤ x.length ∧ i = .int .i64 (k : Int) ∧ (∃ cs' lines' p' v', PgAt n₀ B wr w ((x.take k).foldl (putG w) Q) cs' lines' p' v') ∧ But n₀ B W1 wr ∧ KeepU B W1 wr) (fun i _ => x.length - (intOf i).toNat)
    case atStart => exact ⟨0, Nat.zero_le _, rfl, ⟨_, _, _, _, h3⟩, hbut3, hku3⟩
    case round =>
      obtain ⟨k, hk, rfl, ⟨cs', lines', p', v', hpg⟩, hbr, hkr⟩ := hrel
      by_cases hlt' : k < x.length
      · obtain ⟨b, off, rfl, hc'⟩ := rowB_at (hrow1.but hbr) k hlt'
        have hmem : nth [] x k ∈ x := by rw [nth_eq _ _ _ hlt']; exact List.getElem_mem hlt'
        have hclu := HX.out _ hmem
        have hIk := foldPut_I (x.take k) _ Q HQ.out (fun y hy => HX.out y (List.mem_of_mem_take hy))
        rw [List.length_take, Nat.min_eq_left hk] at hIk
        have HF := Lib.hid (fold_take34 (putG w) [] x k hlt' Q)
        obtain ⟨y, hy⟩ : ∃ y, y = nth [] x k := ⟨_, rfl⟩
        rw [← hy] at hc' hclu HF
        obtain ⟨Z, hZ⟩ : ∃ Z, Z = (x.take k).foldl (putG w) Q := ⟨_, rfl⟩
        rw [← hZ] at hIk HF hpg
        have CPk := Lib.hid (CQ.out wr Z _ y _ _ _ _ hIk (by omega) hclu hpg)
        clear hy hZ hmem hclu hIk hpg
        go_wp2_with (go_at_call 132; refine (CPk.out).mono ?_; rintro e w5 ⟨rfl, hpg5, hbut5, hku5⟩)
        go_roundw
        case rel => exact ⟨k + 1, hlt', by go_num, by rw [HF.out]; exact hpg5, hbr.trans hbut5, hkr.trans hku5⟩
        case measure => simp [intOf]; omega
      · obtain rfl : k = x.length := by omega
        rw [List.take_length] at hpg
        go_wp2
        go_end0
        exact ⟨rfl, ⟨_, _, _, _, hpg⟩, HBW.out.trans hbr, HKW.out.trans hkr⟩
end Go.Proofs.Ytmdpmjabjijjiaa
