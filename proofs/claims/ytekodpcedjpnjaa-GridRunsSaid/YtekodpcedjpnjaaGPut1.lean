/- Same. -/
import Derived.Test.YtekodpcedjpnjaaGrid17
import Derived.Test.YtekodpcedjpnjaaGMathIn
namespace Go.Proofs.Ytekodpcedjpnjaa
set_option linter.unusedVariables false
set_option linter.unusedSimpArgs false
open Go.RowKit Go.Maps
attribute [local go_sem] Oper.semAt_some
theorem lines_eq {L L' : List GC} {w h : Nat} (hw : 1 ≤ w) (h1 : L.length = w * h) (h2 : L'.length = w * h) (he : ∀ i, i < h → lineL L w i = lineL L' w i) : L = L' := by
  apply List.ext_getElem?
  intro j
  by_cases hj : j < w * h
  · have hi : j / w < h := by rw [Nat.div_lt_iff_lt_mul (by omega)]; rw [Nat.mul_comm]; exact hj
    have hc : j % w < w := Nat.mod_lt _ (by omega)
    have hjj : w * (j / w) + j % w = j := Nat.div_add_mod j w
    have e := congrArg (fun l : List GC => l[j % w]?) (he _ hi)
    simp only [lineL] at e
    rw [List.getElem?_take_of_lt hc, List.getElem?_take_of_lt hc, List.getElem?_drop, List.getElem?_drop, hjj] at e
    exact e
  · rw [List.getElem?_eq_none (by omega), List.getElem?_eq_none (by omega)]
theorem GridAt.drewN {W : World} {p q w h : Nat} {L : List GC} (g : GridAt W p q w h L) (m : Nat) : GridAt (W.drewN m) p q w h L := ⟨g.head, g.blk, g.ne, g.len, g.w1, g.w2, g.h1, g.h2⟩
theorem made_quiet {W : World} {p q w h : Nat} {L : List GC} (g : GridAt W p q w h L) (n : Nat) : Calls Try.prog 53 #[.pointer (some ⟨p, 0, none⟩)] (W.drewN n) fun e w'' => e = .returned (.bool true) ∧ ∃ m, w'' = W.drewN m :=
  (made_any (g.drewN n)).mono fun e w' h => ⟨h.1, n, h.2.symm⟩
theorem results_box {fn : Func} {p : Tmp} (h : fn.results = #[.cell p 4]) (tmps : Array Value) (w : World) (B : Nat) (v : Value) (hp : tmps.getD p undef = .pointer (some ⟨B, 0, none⟩)) (hb : Boxed w B 4 v) :
    (results fn tmps).run Try.prog w = .ok v w := by
  have hp' : tmps[p]?.getD undef = .pointer (some ⟨B, 0, none⟩) := by simpa using hp
  have hc := hb.cell
  simp [results, h, hp', asAddr, loadVar, isAgg, run_underlying Try.underlying4, hc]
theorem bodyPostM_ret {F : Fence} {n : Nat} {P : Program} {fn : Func} {R : Ending → World → Prop} {a : Act} {w : World} {v : Value} (hres : (results fn a.tmps).run P w = .ok v w) (hd : a.defers = []) (hR : R (.returned v) w) : bodyPostM F n P fn R .ret a w := by
  show LeavesInM F n P fn a.tmps R a.defers .returning w
  rw [hd]
  exact ⟨v, hres, hR⟩
/-- What stands between two rounds of Same's loop. -/
structure SI (w0 : World) (b3 b4 p q p' q' w h : Nat) (L L' : List GC) (n : Nat) (W : World) : Prop where
  o3 : Boxed W b3 23 (.pointer (some ⟨p', 0, none⟩))
  r4 : Boxed W b4 4 (.bool false)
  g : GridAt W p q w h L
  g' : GridAt W p' q' w h L'
  eq : ∀ i, i < n → lineL L w i = lineL L' w i
  b : Below w0.heap.size w0 W
theorem SI.own {w0 : World} {b3 b4 p q p' q' w h : Nat} {L L' : List GC} {n B : Nat} {W W' : World} {row : Option Nat} (s : SI w0 b3 b4 p q p' q' w h L L' n W) (hB : w0.heap.size ≤ B) (hg : W.grownBy W' row) (hr : ∀ r, row = some r → B ≤ r ∧ ∃ o : Obj, W.heap[r]? = some o ∧ o.isCells = false) :
    SI w0 b3 b4 p q p' q' w h L L' n W' :=
  ⟨boxed_stay s.o3 hg hr, boxed_stay s.r4 hg hr, s.g.own hg hr, s.g'.own hg hr, s.eq, s.b.grown hg s.b.size (fun k e => Nat.le_trans hB (hr k e).1)⟩
set_option maxRecDepth 100000 in
set_option maxHeartbeats 4000000 in
theorem same_any {W : World} {p q w h p' q' : Nat} {L L' : List GC} (g : GridAt W p q w h L) (g' : GridAt W p' q' w h L') :
    Calls Try.prog 12 #[.pointer (some ⟨p, 0, none⟩), .pointer (some ⟨p', 0, none⟩)] W fun e w' => e = .returned (.bool (eqL L L')) ∧ Below W.heap.size W w' := by
  obtain ⟨z, hz⟩ : ∃ z, z = eqL L L' := ⟨_, rfl⟩
  rw [← hz]
  have HZ := Lib.hid hz
  clear hz
  have h1 : 1 ≤ 9 := by omega
  refine (callsIn_wide (n := 9)).1 ?_
  refine callsIn_of_wp_marks Try.func12 rfl trivial ?_ rfl
  simp only [Try.ntmps12, List.size_toArray, List.length_cons, List.length_nil, Nat.reduceAdd, Nat.reduceSub, Array.replicate_succ, Array.replicate_zero, List.push_toArray, List.append_toArray, List.nil_append, List.cons_append]
  have o2 : Only [] W ((W.alloc (.cells #[.pointer (some ⟨p', 0, none⟩)] 23)).alloc (.cells #[.bool false] 4)) := ((Only.refl [] _).alloc _).alloc _
  have b3 : Boxed ((W.alloc (.cells #[.pointer (some ⟨p', 0, none⟩)] 23)).alloc (.cells #[.bool false] 4)) W.heap.size 23 (.pointer (some ⟨p', 0, none⟩)) := (Boxed.new W _ _).alloc _
  have b4 : Boxed ((W.alloc (.cells #[.pointer (some ⟨p', 0, none⟩)] 23)).alloc (.cells #[.bool false] 4)) (W.heap.size + 1) 4 (.bool false) := by
    have := Boxed.new (W.alloc (.cells #[.pointer (some ⟨p', 0, none⟩)] 23)) 4 (.bool false)
    simpa using this
  have s2 : ((W.alloc (.cells #[.pointer (some ⟨p', 0, none⟩)] 23)).alloc (.cells #[.bool false] 4)).heap.size = W.heap.size + 1 + 1 := by simp
  have g2 := g.only o2 (by simp) (by simp)
  have g2' := g'.only o2 (by simp) (by simp)
  have hB := o2.nil
  have hqW := g.blk.lt
  have hpW : p < W.heap.size := (Array.getElem?_eq_some_iff.1 g.head).1
  have hqW' := g'.blk.lt
  have hpW' : p' < W.heap.size := (Array.getElem?_eq_some_iff.1 g'.head).1
  gi_wp2
  generalize (W.alloc (.cells #[.pointer (some ⟨p', 0, none⟩)] 23)).alloc (.cells #[.bool false] 4) = W2 at o2 b3 b4 g2 g2' hB s2 ⊢
  obtain ⟨c0, c1, c2⟩ := g2.cells
  obtain ⟨d0, d1, d2⟩ := g2'.cells
  have k3 := b3.cell
  have M1 := Lib.hid (made_quiet g2)
  have M2 := Lib.hid (made_quiet g2')
  clear g g' o2
  refine wpIn_region_reads04 (l₀ := none) (by kernel_rfl) (by kernel_rfl) (by kernel_rfl) (by intro a w h; cases h.1) ?_
  repeat (quiet_step ((first | (go_at_call_of 53 (Value.pointer (some (⟨p, 0, none⟩ : Addr))); exact M1.out _) | (go_at_call_of 53 (Value.pointer (some (⟨p', 0, none⟩ : Addr))); exact M2.out _))))
  refine wpQuiet_nil ?_
  rintro _ ⟨m, rfl⟩
  have b3m : Boxed (W2.drewN m) W.heap.size 23 (.pointer (some ⟨p', 0, none⟩)) := b3
  have b4m : Boxed (W2.drewN m) (W.heap.size + 1) 4 (.bool false) := b4
  have g3 := g2.drewN m
  have g3' := g2'.drewN m
  have hB3 : Below W.heap.size W (W2.drewN m) := ⟨hB.os, hB.tape, hB.output, hB.size, hB.block⟩
  have s3 : (W2.drewN m).heap.size = W.heap.size + 1 + 1 := s2
  clear M1 M2 c0 c1 c2 d0 d1 d2 k3 b3 b4 g2 g2' hB s2
  gi_wp2_with (refine ⟨trivial, ?_⟩; gi_at_call 54; refine (callsIn_wide.2 (rows_any _ _)).mono ?_; rintro e w3 ⟨rfl, rfl⟩)
  have S0 : SI W W.heap.size (W.heap.size + 1) p q p' q' w h L L' 0 ((W2.drewN m).alloc (.cells #[.pointer (some ⟨p, 0, none⟩)] 23)) :=
    ⟨b3m.alloc _, b4m.alloc _, g3.only ((Only.refl [] _).alloc _) (by simp) (by simp), g3'.only ((Only.refl [] _).alloc _) (by simp) (by simp), fun i hi => absurd hi (Nat.not_lt_zero _), hB3.alloc hB3.size _⟩
  have X0 : ((W2.drewN m).alloc (.cells #[.pointer (some ⟨p, 0, none⟩)] 23)).cell? ⟨W2.heap.size, 0, none⟩ = some (.pointer (some ⟨p, 0, none⟩)) := (Boxed.new (W2.drewN m) 23 (.pointer (some ⟨p, 0, none⟩))).cell
  have N0 : ((W2.drewN m).alloc (.cells #[.pointer (some ⟨p, 0, none⟩)] 23)).heap.size = W2.heap.size + 1 := by rw [World.size_alloc]; rfl
  have s4 : W2.heap.size = W.heap.size + 1 + 1 := s3
  revert S0 X0 N0
  generalize (W2.drewN m).alloc (.cells #[.pointer (some ⟨p, 0, none⟩)] 23) = W3
  intro S0 X0 N0
  have hw1 := S0.g.w1
  have hw2 := S0.g.w2
  have hh2 := S0.g.h2
  have hlen := S0.g.len
  have hlen' := S0.g'.len
  clear b3m b4m g3 g3' hB3 s3
  refine wpIn_rangeFunc_X rfl h1 (gf := 88) (lb := #[.pointer (some ⟨W2.heap.size, 0, none⟩)]) rfl trivial (enters_of Try.func88 (by kernel_rfl) rfl)
    (rows1_seq S0.g W2.heap.size (W2.heap.size + 1) (by omega) (by omega) (by omega) (by omega) X0 _ (by omega)) belowK_t (belowK_b (by omega)) (Below.refl _ _) (fun _ => rfl)
    (fun pre V => SI W W.heap.size (W.heap.size + 1) p q p' q' w h L L' pre.length V)
    (fun c pre V => c = .ret ∧ L ≠ L' ∧ Boxed V (W.heap.size + 1) 4 (.bool false) ∧ Below W.heap.size W V)
    (fun s A B row hs hg hr => hs.own (by omega) hg hr)
    (fun c s A B row hs hg hr => ⟨hs.1, hs.2.1, boxed_stay hs.2.2.1 hg hr, hs.2.2.2.grown hg hs.2.2.2.size (fun k e => by have := (hr k e).1; omega)⟩)
    (fun x s A B row hs hg hr => ⟨hs.1, hs.2.1, own_heap hs.2.2 rfl hg hr⟩)
    S0 ?_ ?_ ?_ ?_ ?_
  rotate_left 1
  · intro l x V K hK
    gi_wp2
    exact hK
  · rintro l pre x V hl hlt S ⟨hx1, hx2, hx3⟩ hpl
    obtain ⟨i, b⟩ := x
    dsimp only at hx1 hx2 hx3 ⊢
    subst hx1
    obtain ⟨n, hn⟩ : ∃ n, n = pre.length := ⟨_, rfl⟩
    rw [← hn] at S hx3 hpl ⊢
    have HN := Lib.hid hn
    clear hn
    have k3 := S.o3.cell
    have CL := line_any S.g' (n : Int) (by omega) (by omega) (w * n) (by simp)
    have CL := Lib.hid CL
    have hsV := S.b.size
    have hkw : w * n + w ≤ L'.length := by rw [hlen']; exact line_le hpl
    obtain ⟨M, hM⟩ : ∃ M, M = lineL L w n := ⟨_, rfl⟩
    obtain ⟨M', hM'⟩ : ∃ M, M = lineL L' w n := ⟨_, rfl⟩
    have hMl : M.length = w := by rw [hM]; exact lineL_length hlen hpl
    have hMl' : M'.length = w := by rw [hM']; exact lineL_length hlen' hpl
    obtain ⟨kk, hkk⟩ : ∃ kk, kk = w * n := ⟨_, rfl⟩
    have hget' : ∀ c C, M'[c]? = some C → L'[kk + c]? = some C := by
      intro c C hc
      rw [hM', lineL, List.getElem?_take] at hc
      split at hc
      · rw [List.getElem?_drop] at hc; rw [hkk]; exact hc
      · cases hc
    rw [← hM] at hx3
    rw [← hkk] at CL hkw
    have HM := Lib.hid hM
    have HM' := Lib.hid hM'
    have HG := Lib.hid hget'
    clear hM hM' hkk hget'
    gi_wp2_with (refine ⟨trivial, ?_⟩; gi_at_call 55; refine (CallsIn.inRound l (callsIn_wide.2 (CL.out))).mono ?_; rintro e V1 ⟨rfl, l1⟩)
    have b1 := hx3.only (Only.of_below (S := []) l1) (by simp)
    have q1 := S.g'.blk.only (Only.of_below (S := []) l1) (by simp)
    have r1 := boxed_below S.r4 l1
    gi_loopw [47] (fun v wr => ∃ c : Nat, c ≤ w ∧ v = .int .i64 c ∧ Hid (eqL M' M = eqL (M'.drop c) (M.drop c)) ∧ Below V1.heap.size V1 wr) (fun v _ => w - (intOf v).toNat)
    case atStart => exact ⟨0, Nat.zero_le _, rfl, rfl, Below.refl _ _⟩
    case round =>
      obtain ⟨c, hc, rfl, hf, hb⟩ := hrel
      by_cases hcw : c < w
      · obtain ⟨C, hC⟩ : ∃ C, C = nth GC.zero M c := ⟨_, rfl⟩
        obtain ⟨C', hC'⟩ : ∃ C, C = nth GC.zero M' c := ⟨_, rfl⟩
        have hCi : M[c]? = some C := by rw [hC, nth_eq _ _ _ (by omega), List.getElem?_eq_getElem (by omega)]
        have hCi' : M'[c]? = some C' := by rw [hC', nth_eq _ _ _ (by omega), List.getElem?_eq_getElem (by omega)]
        have hone := eqL_drop M' M c (by omega) (by omega)
        rw [← hC, ← hC'] at hone
        have HONE := Lib.hid hone
        have bq := (q1.only (Only.of_below (S := []) hb) (by simp)).range1 (HG.out c C' hCi')
        have bb := b1.only (Only.of_below (S := []) hb) (by simp)
        have hlb := bb.lt
        have HCI := Lib.hid hCi
        have hnq := neq_gc C' C
        clear hone hC hC' hCi hCi'
        gi_wp2_with (first
          | (refine wpListIn_gload rfl _ rfl q' _ rfl C' (by rw [show kk * 7 + c * 7 = 7 * (kk + c) by omega]; exact bq) ?_)
          | (refine wpListIn_gstore rfl _ _ rfl wr.heap.size _ rfl C' rfl [GC.zero] (GBlk.made wr [GC.zero]) 0 (by omega) (by simp) ?_; intro V2 z2 o2))
        have oo : Only [wr.heap.size] wr V2 := ((Only.refl _ _).alloc _).trans o2
        have rz : V2.rangeAt wr.heap.size 0 C'.vals := z2.range1 (i := 0) (c := C') rfl
        have rb := (bb.only oo (by simp; omega)).range1 HCI.out
        rw [show 7 * c = c * 7 by omega] at rb
        obtain ⟨x0, x1, x2, x3, x4, x5, x6⟩ : V2.cell? ⟨wr.heap.size, 0, none⟩ = some (.string C'.s) ∧ V2.cell? ⟨wr.heap.size, 1, none⟩ = some (.int .i64 C'.w) ∧ V2.cell? ⟨wr.heap.size, 2, none⟩ = some (.bool C'.y.b) ∧ V2.cell? ⟨wr.heap.size, 3, none⟩ = some (.bool C'.y.u) ∧ V2.cell? ⟨wr.heap.size, 4, none⟩ = some (.bool C'.y.i) ∧ V2.cell? ⟨wr.heap.size, 5, none⟩ = some (.int .i64 C'.y.f) ∧ V2.cell? ⟨wr.heap.size, 6, none⟩ = some (.int .i64 C'.y.g) := vals_at rz
        obtain ⟨y0, y1, y2, y3, y4, y5, y6⟩ := vals_at rb
        have bV : Below V1.heap.size V1 V2 := hb.trans (oo.below (by simp; exact hb.size) hb.size)
        have r2 := boxed_below r1 bV
        dsimp only [Act.put]
        refine wpIn_region_reads04 (l₀ := some l) (by kernel_rfl) (by kernel_rfl) (by kernel_rfl) (by intro a w h; exact h) ?_
        repeat (quiet_step (fail))
        refine wpQuiet_nil ?_
        rintro _ ⟨m2, rfl⟩
        have bVm : Below V1.heap.size V1 (V2.drewN m2) := ⟨bV.os, bV.tape, bV.output, bV.size, bV.block⟩
        have r3 : Boxed (V2.drewN m2) (W.heap.size + 1) 4 (.bool false) := r2
        clear x0 x1 x2 x3 x4 x5 x6 y0 y1 y2 y3 y4 y5 y6 rz rb z2 r2 bq bb
        have k4 := r3.cell
        have f4 := r3.frozen
        cases hcd : eqC C' C with
        | true =>
          have HZ2 : Hid (eqL M' M = eqL (M'.drop (c + 1)) (M.drop (c + 1))) := Lib.hid (by rw [hf.out, HONE.out, hcd]; rfl)
          gi_wp2
          go_roundw
          case rel => exact ⟨c + 1, by omega, by go_num, HZ2, bVm⟩
          case measure => simp [intOf]; omega
        | false =>
          have HZ2 : Hid (eqL M' M = false) := Lib.hid (by rw [hf.out, HONE.out, hcd]; rfl)
          gi_wp2
          have hbl : Below V.heap.size V (V2.drewN m2) := bnext l1 bVm
          refine ⟨(keepsFrom_below hbl).trans ((KeepsOthers.setCell _ _ _).from _), rfl, ?_, r3.set _, (S.b.trans (hbl.mono hsV)).setCell (by simp) _⟩
          intro e
          have h0 := HZ2.out
          rw [HM.out, HM'.out, e, eqL_self] at h0
          cases h0
      · have HZ2 : Hid (eqL M' M = true) := Lib.hid (by rw [hf.out, List.drop_eq_nil_of_le (by omega), List.drop_eq_nil_of_le (by omega)]; rfl)
        gi_wp2
        have hbl : Below V.heap.size V wr := bnext l1 hb
        have hee : lineL L w n = lineL L' w n := by rw [← HM.out, ← HM'.out]; exact ((eqL_iff _ _).1 HZ2.out).symm
        have hl1 : (pre ++ [(n, b)]).length = n + 1 := by simp; exact HN.out.symm
        refine ⟨keepsFrom_below hbl, hbl.mono (by omega), ?_⟩
        show SI W W.heap.size (W.heap.size + 1) p q p' q' w h L L' (pre ++ [(n, b)]).length wr
        rw [hl1]
        refine ⟨boxed_below S.o3 hbl, boxed_below S.r4 hbl, S.g.only (Only.of_below (S := []) hbl) (by simp) (by simp), S.g'.only (Only.of_below (S := []) hbl) (by simp) (by simp), fun i hi => ?_, S.b.trans (hbl.mono hsV)⟩
        by_cases hin : i < n
        · exact S.eq i hin
        · obtain rfl : i = n := by omega
          exact hee
  · rintro D xs V hD hxs S hK
    have k4 := S.r4.cell
    have f4 := S.r4.frozen
    rw [hxs] at S
    have hLL : L = L' := lines_eq hw1 hlen hlen' S.eq
    have HZ2 : Hid (z = true) := Lib.hid (by rw [HZ.out, hLL]; exact eqL_self _)
    gi_wp2
    have bs := S.r4.set (.bool true)
    have hK2 : (V.setCell ⟨W.heap.size + 1, 0, none⟩ (.bool true)).heap[D]? = some (.deferred (some [])) := (Below.heap_setCell _ _ _ _ (by show D ≠ W.heap.size + 1; omega)).trans hK
    refine ⟨by simp, .inl ⟨_, _, rfl, run_takeDeferred hK2, ?_⟩⟩
    exact ⟨_, results_box rfl _ _ (W.heap.size + 1) (.bool true) rfl (bs.kept (grownBy_putObj' _ D _) (fun e => by simp at e; omega)), ret_bool HZ2.out.symm, (S.b.setCell (by simp) _).trans (belowK_b (w := W) (Nat.le_refl _) _ D _ _ (by omega) hK2 rfl rfl)⟩
  · rintro D c pre V hD hpre ⟨rfl, hne, r4, hb⟩ hK
    have HZ2 : Hid (z = false) := Lib.hid (by
      rw [HZ.out]
      cases he : eqL L L' with
      | false => rfl
      | true => exact absurd ((eqL_iff _ _).1 he) hne)
    gi_wp2
    refine ⟨by simp, .inl ⟨_, _, rfl, run_takeDeferred hK, ?_⟩⟩
    exact ⟨_, results_box rfl _ _ (W.heap.size + 1) (.bool false) rfl (r4.kept (grownBy_putObj' _ D _) (fun e => by simp at e; omega)), ret_bool HZ2.out.symm, hb.trans (belowK_b (w := W) (Nat.le_refl _) _ D _ _ (by omega) hK rfl rfl)⟩
end Go.Proofs.Ytekodpcedjpnjaa
