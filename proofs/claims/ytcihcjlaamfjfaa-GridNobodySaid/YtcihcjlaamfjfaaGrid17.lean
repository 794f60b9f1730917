/- The law GridYields. -/
import Derived.Test.YtcihcjlaamfjfaaGrid16
namespace Go.Proofs.Ytcihcjlaamfjfaa
open Go.RowKit Go.Maps
attribute [local go_sem] Oper.semAt_some
/-- What stands between two rounds of the law's loop. -/
structure YI (w : World) (b3 b5 b7 b8 p q most : Nat) (L : List GC) (n : Nat) (W : World) : Prop where
  m : Boxed W b3 5 (.int .u8 most)
  g5 : Boxed W b5 57 (.pointer (some ⟨p, 0, none⟩))
  n7 : Boxed W b7 3 (.int .i64 n)
  ok : Boxed W b8 4 (.bool true)
  g : GridAt W p q 12 4 L
  b : Below w.heap.size w W
theorem GridAt.own {W W' : World} {p q w h B : Nat} {L : List GC} {row : Option Nat} (g : GridAt W p q w h L) (hg : W.grownBy W' row) (hr : ∀ r, row = some r → B ≤ r ∧ ∃ o : Obj, W.heap[r]? = some o ∧ o.isCells = false) : GridAt W' p q w h L :=
  { g with head := own_heap g.head rfl hg hr, blk := own_heap g.blk rfl hg hr }
theorem boxed_stay {W W' : World} {b B : Nat} {t : TypeId} {v : Value} {row : Option Nat} (h : Boxed W b t v) (hg : W.grownBy W' row) (hr : ∀ r, row = some r → B ≤ r ∧ ∃ o : Obj, W.heap[r]? = some o ∧ o.isCells = false) : Boxed W' b t v := own_heap h rfl hg hr
theorem YI.own {w : World} {b3 b5 b7 b8 p q most : Nat} {L : List GC} {n B : Nat} {W W' : World} {row : Option Nat} (h : YI w b3 b5 b7 b8 p q most L n W) (hB : w.heap.size ≤ B) (hg : W.grownBy W' row) (hr : ∀ r, row = some r → B ≤ r ∧ ∃ o : Obj, W.heap[r]? = some o ∧ o.isCells = false) :
    YI w b3 b5 b7 b8 p q most L n W' :=
  ⟨boxed_stay h.m hg hr, boxed_stay h.g5 hg hr, boxed_stay h.n7 hg hr, boxed_stay h.ok hg hr, h.g.own hg hr, h.b.grown hg h.b.size (fun k e => Nat.le_trans hB (hr k e).1)⟩
theorem keepsFrom_below {B : Nat} {W W' : World} (h : Below W.heap.size W W') : KeepsFrom B W W' := ⟨h.size, fun k o _ hk _ => (h.block k (Array.getElem?_eq_some_iff.1 hk).1).trans hk⟩
theorem boxed_below {W W' : World} {b : Nat} {t : TypeId} {v : Value} (h : Boxed W b t v) (hb : Below W.heap.size W W') : Boxed W' b t v := (hb.block b h.lt).trans h
set_option maxRecDepth 100000 in
set_option maxHeartbeats 4000000 in
theorem gridYields_law {a : Option Addr} {len cap : Nat} {ops : List OpV} (most : Int) (w : World) (hops : OpsAt w a len ops) (hlen : len ≤ maxLen) (hm0 : 0 ≤ most) (hm1 : most ≤ 255) :
    Calls Try.prog 10 #[.slice a len cap, .int .u8 most] w fun e w' => e = .returned (.bool true) ∧ Below w.heap.size w w' := by
  obtain ⟨mo, rfl⟩ := Int.eq_ofNat_of_zero_le hm0
  have hmo : mo ≤ 255 := by omega
  clear hm0 hm1
  have hfn : ∀ (fn : Fn) (a b : Array Value) (w : World), (binOp .eql 60 (.func fn a b) .nilFunc).run Try.prog w = .ok (.bool false) w := fun _ _ _ _ => by kernel_rfl
  have h1 : 1 ≤ 9 := by omega
  have hb0 : Below w.heap.size w (w.alloc (.cells #[.int .u8 mo] 5)) := (Below.refl _ _).alloc (Nat.le_refl _) _
  have hops0 := hops.below hb0
  have m0 : Boxed (w.alloc (.cells #[.int .u8 mo] 5)) w.heap.size 5 (.int .u8 mo) := Boxed.new w _ _
  have s0 : (w.alloc (.cells #[.int .u8 mo] 5)).heap.size = w.heap.size + 1 := by simp
  have CF := Lib.hid (filled_any (cap := cap) hops0 hlen)
  refine (callsIn_wide (n := 9)).1 ?_
  refine callsIn_of_wp_marks Try.func10 rfl trivial ?_ rfl
  simp only [Try.ntmps10, List.size_toArray, List.length_cons, List.length_nil, Nat.reduceAdd, Nat.reduceSub, Array.replicate_succ, Array.replicate_zero, List.push_toArray, List.append_toArray, List.nil_append, List.cons_append]
  gi_wp2_with (first
    | (refine ⟨trivial, ?_⟩; gi_at_call 50; refine (callsIn_wide.2 (CF.out)).mono ?_; rintro e w1 ⟨p, q, rfl, hp, hq, g1, hb1⟩)
    | (refine ⟨trivial, ?_⟩; gi_at_call 51; refine (callsIn_wide.2 (awake04_any _)).mono ?_; rintro e w2 ⟨rfl, hb2⟩; have g5 := boxed_below (Boxed.new w1 57 (.pointer (some ⟨p, 0, none⟩))) hb2; have k5 := g5.cell)
    | (refine ⟨trivial, ?_⟩; gi_at_call 52; refine (callsIn_wide.2 (rows_any _ _)).mono ?_; rintro e w3 ⟨rfl, rfl⟩))
  have g2 := g1.only ((Only.refl [] _).alloc (.cells #[.pointer (some ⟨p, 0, none⟩)] 57)) (by simp) (by simp)
  have g2 := g2.only (Only.of_below (S := []) hb2) (by simp) (by simp)
  have m2 := boxed_below ((boxed_below m0 hb1).alloc (.cells #[.pointer (some ⟨p, 0, none⟩)] 57)) hb2
  have B1 := hb0.trans (hb1.mono (by simp))
  have B2 : Below w.heap.size w w2 := (B1.alloc B1.size (.cells #[.pointer (some ⟨p, 0, none⟩)] 57)).trans (hb2.mono (by have := B1.size; simp; omega))
  have s2 : w1.heap.size < w2.heap.size := by have := hb2.size; simp at this; omega
  have hpl : p < w2.heap.size := (Array.getElem?_eq_some_iff.1 g2.head).1
  have hql : q < w2.heap.size := g2.blk.lt
  clear k5 hb0 hops0 m0 s0 CF hb1 hb2 g1 hp hq B1 hops
  have Y0 : YI w w.heap.size w1.heap.size (w2.heap.size + 1) (w2.heap.size + 1 + 1) p q mo (filledL ops) 0 (((w2.alloc (.cells #[.pointer (some ⟨p, 0, none⟩)] 57)).alloc (.cells #[.int .i64 0] 3)).alloc (.cells #[.bool true] 4)) := by
    refine ⟨((m2.alloc _).alloc _).alloc _, ((g5.alloc _).alloc _).alloc _, ?_, ?_, ?_, ((B2.alloc B2.size _).alloc (by have := B2.size; simp; omega) _).alloc (by have := B2.size; simp; omega) _⟩
    · have := (Boxed.new (w2.alloc (.cells #[.pointer (some ⟨p, 0, none⟩)] 57)) 3 (.int .i64 0)).alloc (.cells #[.bool true] 4)
      simpa using this
    · have := Boxed.new ((w2.alloc (.cells #[.pointer (some ⟨p, 0, none⟩)] 57)).alloc (.cells #[.int .i64 0] 3)) 4 (.bool true)
      simpa using this
    · exact g2.only ((((Only.refl [] w2).alloc _).alloc _).alloc _) (by simp) (by simp)
  have X0 : (((w2.alloc (.cells #[.pointer (some ⟨p, 0, none⟩)] 57)).alloc (.cells #[.int .i64 0] 3)).alloc (.cells #[.bool true] 4)).cell? ⟨w2.heap.size, 0, none⟩ = some (.pointer (some ⟨p, 0, none⟩)) := (((Boxed.new w2 57 (.pointer (some ⟨p, 0, none⟩))).alloc _).alloc _).cell
  have S0 : (((w2.alloc (.cells #[.pointer (some ⟨p, 0, none⟩)] 57)).alloc (.cells #[.int .i64 0] 3)).alloc (.cells #[.bool true] 4)).heap.size = w2.heap.size + 1 + 1 + 1 := by simp
  revert Y0 X0 S0
  generalize ((w2.alloc (.cells #[.pointer (some ⟨p, 0, none⟩)] 57)).alloc (.cells #[.int .i64 0] 3)).alloc (.cells #[.bool true] 4) = W0
  intro Y0 X0 S0
  have hws : w.heap.size ≤ w2.heap.size := B2.size
  have hmw : w.heap.size < w2.heap.size := Y0.m.lt |> fun _ => m2.lt
  obtain ⟨n0, hn0⟩ : ∃ n, n = w2.heap.size + 1 := ⟨_, rfl⟩
  refine wpIn_rangeFunc_X rfl h1 (gf := 95) (lb := #[.pointer (some ⟨w2.heap.size, 0, none⟩)]) rfl trivial (enters_of Try.func95 (by kernel_rfl) rfl)
    (rows1_seq Y0.g w2.heap.size (w2.heap.size + 1) (by omega) (by omega) (by omega) (by omega) X0 _ (by omega)) belowK_t (belowK_b (by omega)) (Below.refl _ _) (fun _ => rfl)
    (fun pre W => YI w w.heap.size w1.heap.size (w2.heap.size + 1) (w2.heap.size + 1 + 1) p q mo (filledL ops) pre.length W ∧ pre.length ≤ mo)
    (fun c pre W => c = .exit 0 ∧ pre.length = mo + 1 ∧ YI w w.heap.size w1.heap.size (w2.heap.size + 1) (w2.heap.size + 1 + 1) p q mo (filledL ops) mo W)
    (fun s A B row hs hg hr => ⟨hs.1.own (by omega) hg hr, hs.2⟩)
    (fun c s A B row hs hg hr => ⟨hs.1, hs.2.1, hs.2.2.own (by omega) hg hr⟩)
    (fun x s A B row hs hg hr => ⟨hs.1, hs.2.1, own_heap hs.2.2 rfl hg hr⟩)
    ⟨Y0, Nat.zero_le _⟩ ?_ ?_ ?_ ?_ ?_
  rotate_left 1
  · intro l x W K hK
    gi_wp2
    exact hK
  · rintro l pre x W hl hlt ⟨Y, hpm⟩ ⟨hx1, hx2, hx3⟩ hlen
    have k3 := Y.m.cell
    have k5 := Y.g5.cell
    have k7 := Y.n7.cell
    have k8 := Y.ok.cell
    have g12 := Y.g
    obtain ⟨i, b⟩ := x
    dsimp only at hx1 hx2 hx3 ⊢
    subst hx1
    obtain ⟨n, hn⟩ : ∃ n, n = pre.length := ⟨_, rfl⟩
    rw [← hn] at Y hpm hlen hx3 k7 ⊢
    have HN := Lib.hid hn
    clear hn
    by_cases hge : n = mo
    · subst hge
      gi_wp2
      exact ⟨KeepsFrom.refl _ _, rfl, by simp; exact HN.out.symm, Y⟩
    · have hlt2 : n < mo := by omega
      have hlt3 : (n : Int) < (mo : Int) := by omega
      have CR := row_ok g12 (n : Int) (by omega) (by omega)
      simp only [Int.toNat_natCast] at CR
      have CR := Lib.hid CR
      gi_wp2_with (first
        | (refine ⟨trivial, ?_⟩; gi_at_call 54; refine (CallsIn.inRound l (callsIn_wide.2 (CR.out))).mono ?_; rintro e W1 ⟨rfl, b1, l1⟩; have c1 := CellsAt.of_blk b1 12 (lineL_length g12.len (by omega)); have c2 := CellsAt.of_blk (hx3.only (Only.of_below (S := []) l1) (by simp)) 12 (lineL_length g12.len (by omega)))
        | (refine ⟨trivial, ?_⟩; gi_at_call 53; refine (CallsIn.inRound l (callsIn_wide.2 (sameCells_any c2 c1 (by omega) (by omega)))).mono ?_; rintro e W2 ⟨rfl, l2⟩; have e1 := eqL_self (lineL (filledL ops) 12 n); have l12 := bnext l1 l2; have y7 := boxed_below Y.n7 l12; have y8 := boxed_below Y.ok l12; have q7 := y7.cell; have q8 := y8.cell; have f7 := y7.frozen; have f8 := y8.frozen))
      have z8 := (y8.set (.bool true)).other (B' := w2.heap.size + 1) (by omega) (.int .i64 ((n : Int) + 1))
      have z7 := (y7.other (B' := w2.heap.size + 1 + 1) (by omega) (.bool true)).set (.int .i64 ((n : Int) + 1))
      have hz : ((pre ++ [(n, b)]).length : Int) = (n : Int) + 1 := by have := HN.out; simp; omega
      have hbb : Below (w2.heap.size + 1) W ((W2.setCell ⟨w2.heap.size + 1 + 1, 0, none⟩ (.bool true)).setCell ⟨w2.heap.size + 1, 0, none⟩ (.int .i64 ((n : Int) + 1))) :=
        ((l12.mono (by omega)).setCell (by simp) _).setCell (by simp) _
      have st := ((Only.of_below (S := [w2.heap.size + 1 + 1, w2.heap.size + 1]) l12).setCell (p := ⟨w2.heap.size + 1 + 1, 0, none⟩) (.inl (by simp)) (.bool true)).setCell (p := ⟨w2.heap.size + 1, 0, none⟩) (.inl (by simp)) (.int .i64 ((n : Int) + 1))
      refine ⟨((keepsFrom_below l12).trans ((KeepsOthers.setCell _ _ _).from _)).trans ((KeepsOthers.setCell _ _ _).from _), hbb, ⟨⟨?_, ?_, ?_, z8, ?_, ?_⟩, by simp; have := HN.out; omega⟩⟩
      · exact st.heap Y.m (by simp; omega)
      · exact st.heap Y.g5 (by simp; omega)
      · unfold Boxed; rw [hz]; exact z7
      · exact Y.g.only st (by simp; omega) (by simp; omega)
      · exact Y.b.trans (hbb.mono (by omega))
  · rintro D xs W hD hxs ⟨Y, hpm⟩ hK
    have k3 := Y.m.cell
    have k7 := Y.n7.cell
    have k8 := Y.ok.cell
    rw [hxs] at k7 hpm
    have h4 : (4 : Int) ≤ (mo : Int) := by omega
    gi_wp2
    refine ⟨by simp, .inl ⟨_, _, rfl, run_takeDeferred hK, ?_⟩⟩
    have hsw := Y0.b.size
    exact ⟨_, results_tmp rfl _ _ _, rfl, Y.b.trans (belowK_b (w := w) (Nat.le_refl _) W D _ _ (by omega) hK rfl rfl)⟩
  · rintro D c pre W hD hpre ⟨rfl, hlen, Y⟩ hK
    have k3 := Y.m.cell
    have k7 := Y.n7.cell
    have k8 := Y.ok.cell
    have h4 : (mo : Int) < 4 := by omega
    gi_wp2
    refine ⟨by simp, .inl ⟨_, _, rfl, run_takeDeferred hK, ?_⟩⟩
    have hsw := Y0.b.size
    exact ⟨_, results_tmp rfl _ _ _, rfl, Y.b.trans (belowK_b (w := w) (Nat.le_refl _) W D _ _ (by omega) hK rfl rfl)⟩
end Go.Proofs.Ytcihcjlaamfjfaa
