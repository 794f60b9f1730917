/- The law DiffWhole: behind the bytes of Whole a blank band shows the frame. No condition but that the strings are not too long for a cut. The law DiffWhole, as its statement hands it the frame. No condition but that the strings are not too long for a cut. -/
import Derived.Test.YtekodpcedjpnjaaGreatBw49
namespace Go.Proofs.YtekodpcedjpnjaaGreat
set_option linter.unusedVariables false
set_option linter.unusedSimpArgs false
open Go.RowKit Go.Shelf Go.Maps
theorem wpList_tloadD {ops : Array Oper} {rest : List Oper} {op : Oper} {a : Act} {w : World} {Q : Exit → Act → World → Prop} (hgd : Region.wanted op (yielded ops a.tmps) = true) (x : Operand) (ho : op.op = .load 63 x)
    (b : Nat) (hx : a.eval x = .pointer (some ⟨b, 0, none⟩)) (cs : Array Value) (hb : TBx w b cs) (hs : cs.size = 19)
    (h : wpList Tryz.prog ops Q rest (a.put op.dst (.agg cs)) w) : wpList Tryz.prog ops Q (op :: rest) a w :=
  wpList_step fun K hK => by
    rw [if_pos hgd]
    have hl := hb.load hs
    unfold Oper.wp execOp
    simp only [ho, hx, Sem.run_bind, Sem.run_pure, Result.andThen_ok, Instr.loadAt, Instr.sureAddr, asAddr, hl]
    exact hK _ _ h
set_option maxRecDepth 100000 in
set_option maxHeartbeats 16000000 in
theorem diffWhole_any {W : World} {a : Option Addr} {n cap : Nat} {R : List (List GC)} (hR : RowsAt W a n R) (hn : n ≤ maxLen) (hs : ∀ M ∈ R, ∀ c ∈ M, c.s.size ≤ 1100000) (r c : Int) (s : Bool) :
    Calls Tryz.prog 4 #[.agg #[.slice a n cap, .int .i64 r, .int .i64 c, .bool s]] W fun e w' => e = .returned (.bool true) ∧ Below W.heap.size W w' := by
  have z0 : FBI (W.alloc (.cells #[.slice a n cap, .int .i64 r, .int .i64 c, .bool s] 52)) W.heap.size (.slice a n cap) r c s := World.alloc_heap_new W _
  have b0 : Below W.heap.size W (W.alloc (.cells #[.slice a n cap, .int .i64 r, .int .i64 c, .bool s] 52)) := (Below.refl _ _).alloc (Nat.le_refl _) _
  have HR := Lib.hid hR
  have HS := Lib.hid hs
  have hl := hR.len
  clear hR hs
  go_enter Tryz.func4, Tryz.ntmps4
  go_upto_region 1 with (fail)
  obtain ⟨X, hX⟩ : ∃ X, W.alloc (.cells #[.slice a n cap, .int .i64 r, .int .i64 c, .bool s] 52) = X := ⟨_, rfl⟩
  rw [hX] at z0 b0 ⊢
  clear hX
  have RX := Lib.hid (HR.out.below b0)
  have CW := dwhole_any (cap := cap) RX.out hn HS.out r c s
  obtain ⟨u0, u1, u2, u3⟩ := z0.cells
  cases hf : okF R r c with
  | false =>
    rw [hf, show errD false = 100 from rfl, show wholeE R r c s = [] by unfold wholeE; rw [hf]; rfl] at CW
    have CW := Lib.hid CW
    have CI := Lib.hid (fun (Y : World) (hY : Below X.heap.size X Y) => (by
      have := ris_any (cap := cap) (RX.out.below hY) hn HS.out r c s
      rw [hf] at this
      exact this : Calls Tryz.prog 30 #[.agg #[.slice a n cap, .int .i64 r, .int .i64 c, .bool s]] Y fun e w' => e = .returned (.bool false) ∧ Below Y.heap.size Y w'))
    have hS1 : (S []).toList = [] := by kernel_rfl
    have hS2 : (S []).toList.isEmpty = true := by kernel_rfl
    clear hf
    go_wp2_with fail
    refine (CW.out).mono ?_
    rintro e w1 ⟨rfl, hb1⟩
    clear u0 u1 u2 u3
    obtain ⟨u0, u1, u2, u3⟩ := (z0.below hb1).cells
    go_wp2_with fail
    refine (CI.out _ hb1).mono ?_
    rintro e w2 ⟨rfl, hb2⟩
    have b2 := bto (bto b0 hb1 b0.size) hb2 (bto b0 hb1 b0.size).size
    go_wp2_with (go_at_call 31; refine (awake10_any _).mono ?_; rintro e w3 ⟨rfl, hb3⟩)
    go_ret
    exact ⟨rfl, bto b2 hb3 b2.size⟩
  | true =>
    obtain ⟨h1, h2, h3, h4, h5, h6, h7, h8, h9⟩ := okF_pos hf
    have hwh := whole_shw (s := s) hf
    obtain ⟨ra, rfl⟩ := Int.eq_ofNat_of_zero_le h5
    obtain ⟨ca, rfl⟩ := Int.eq_ofNat_of_zero_le h7
    obtain ⟨l1, hl1⟩ : ∃ l, l = wholeE R ra ca s := ⟨_, rfl⟩
    rw [hf, show errD true = 0 from rfl, ← hl1] at CW
    rw [← hl1] at hwh
    have CW := Lib.hid CW
    have CI := Lib.hid (fun (Y : World) (hY : Below X.heap.size X Y) => (by
      have := ris_any (cap := cap) (RX.out.below hY) hn HS.out ra ca s
      rw [hf] at this
      exact this : Calls Tryz.prog 30 #[.agg #[.slice a n cap, .int .i64 ra, .int .i64 ca, .bool s]] Y fun e w' => e = .returned (.bool true) ∧ Below Y.heap.size Y w'))
    obtain ⟨M0, hM0⟩ : ∃ M, M = nth [] R 0 := ⟨_, rfl⟩
    have hM0' : R[0]? = some M0 := by rw [hM0, nth_eq _ _ _ (by omega)]; exact List.getElem?_eq_getElem (by omega)
    obtain ⟨w, hw⟩ : ∃ w, w = M0.length := ⟨_, rfl⟩
    rw [← hM0, ← hw, hl] at hwh
    rw [← hM0, ← hw] at h3 h4 h8 h9
    rw [hl] at h1 h2 h6
    obtain ⟨b, off, a2, c2, rfl, hb, hc0, _, _⟩ := RX.out.at_ 0 M0 hM0'
    rw [Nat.add_zero, ← hw] at hc0
    obtain ⟨u, hu⟩ : ∃ u, u = runT (TS.new w (n + 2)) scrB := ⟨_, rfl⟩
    obtain ⟨es, hsc⟩ := shw_screen (w := w) (n := n) ⟨h3, h4⟩ ⟨h1, h2⟩
    rw [← hu] at hwh es hsc
    obtain ⟨y1, hy1⟩ : ∃ y, y = runT u.1 l1 := ⟨_, rfl⟩
    rw [← hy1] at hwh
    have HBW : Hid (∀ M ∈ R, M.length = w) := Lib.hid (fun M hM => (h9 M hM).1)
    have CSC := Lib.hid (fun X : World => (by
      have := rscreen_any (F := fun _ => True) (W := X) (fun _ _ => trivial) w n ⟨h3, h4⟩ ⟨h1, h2⟩
      rw [← hu] at this
      exact this : Calls Tryz.prog 33 #[.int .i64 w, .int .i64 n] X (WPost (fun _ => True) u X)))
    obtain ⟨es1, hsh, hlen⟩ := hwh
    have HY1 := Lib.hid hy1
    have HES := Lib.hid es
    have HSC := Lib.hid hsc
    have HSH := Lib.hid hsh
    have HE1 := Lib.hid es1
    obtain ⟨K, hK⟩ : ∃ K, K = 100 * (w * n) := ⟨_, rfl⟩
    have hKb : K ≤ 3000000 := by
      have := Nat.mul_le_mul h4 h2
      omega
    have hm1 : (100 * (w : Int)) * (n : Int) = (K : Int) := by rw [hK]; push_cast; rw [Int.mul_assoc]
    have hwr : IntKind.i64.wrap ((100 * (w : Int)) * (n : Int)) = (K : Int) := by rw [hm1, IntKind.wrap_i64]; omega
    rw [← hK] at hlen
    have hsl := S_size l1
    have hle : ((S l1).size : Int) ≤ (K : Int) + 60 := by rw [hsl]; omega
    have hle2 : (l1.length : Int) ≤ (K : Int) + 60 := by omega
    clear hM0 hM0' hw hf hl1 hu hy1 h9 es hsc hsh es1 hK
    go_wp2_with fail
    refine (CW.out).mono ?_
    rintro e w1 ⟨rfl, hb1⟩
    have b1 := bto b0 hb1 b0.size
    clear u0 u1 u2 u3
    obtain ⟨u0, u1, u2, u3⟩ := (z0.below hb1).cells
    go_wp2_with fail
    refine (CI.out _ hb1).mono ?_
    rintro e w2 ⟨rfl, hb2⟩
    have bX2 := bto hb1 hb2 hb1.size
    have z2 := z0.below bX2
    have b2 := bto b1 hb2 b1.size
    clear u0 u1 u2 u3
    obtain ⟨u0, u1, u2, u3⟩ := z2.cells
    have r2 := (bX2.cell (p := ⟨b, _, none⟩) hb).trans hc0
    have h0n : 0 < n := by omega
    have h0i : (0 : Int) < (n : Int) := by omega
    go_wp2_with fail
    refine wp_region_still_lit (by kernel_rfl) (by kernel_rfl) ?_
    repeat still_step
    refine wpStill_nil ?_
    change Exit.then _ _ Exit.normal _ w2.drew
    have dB : Below w2.heap.size w2 w2.drew := (Below.refl _ _).drew
    have b2d := bto b2 dB b2.size
    go_wp2_with fail
    refine (CSC.out _).mono ?_
    rintro e w3 ⟨a3, c3, bv3, rfl, g3, hv3, hb3⟩
    rw [HES.out] at hv3
    have b3 := bto b2d hb3 b2d.size
    obtain ⟨k1, W1, hcv1, hcb1, hha1⟩ := bytes_conv2 w3 l1 (by unfold maxLen; omega)
    have CW1 := rwrite_any (F := fun _ => True) (fun _ _ => trivial) (l := []) (hv3.below hcb1) hha1 HSC.out.k (by simp; omega) (by rw [HSC.out.gone]; omega) (by rw [HSC.out.bells]; omega) (g3.below hcb1)
    rw [List.nil_append, ← HY1.out] at CW1
    have CW1 := Lib.hid CW1
    have bW1 := bto b3 hcb1 b3.size
    have hX3 : Below X.heap.size X W1 := by
      have e1 := bto bX2 dB bX2.size
      have e2 := bto e1 hb3 e1.size
      exact bto e2 hcb1 e2.size
    clear u0 u1 u2 u3 r2
    go_wp2_with fail
    refine (CW1.out).mono ?_
    rintro e w4 ⟨a4, c4, bv4, rfl, g4, hv4, hb4⟩
    rw [HE1.out] at hv4
    have b4 := bto bW1 hb4 bW1.size
    have pn : TBx (w4.alloc (.cells zCells 63)) w4.heap.size zCells := TBx.new _ _
    have bz : Below w4.heap.size w4 (w4.alloc (.cells zCells 63)) := (Below.refl _ _).alloc (Nat.le_refl _) _
    go_upto_region 6 with (refine wpList_tstore rfl _ _ rfl w4.heap.size rfl (tCells a4 c4 y1.1 bv4) rfl zCells ?_ rfl rfl (tCells_one _ _ _ hv4.one) ?_; exact pn; intro w5 p5 o5)
    have b5' : Below w4.heap.size w4 w5 := bz.trans (o5.below (by simp) bz.size)
    have b5 := bto b4 b5' b4.size
    have hX5 : Below X.heap.size X w5 := by
      have e1 := bto hX3 hb4 hX3.size
      exact bto e1 b5' e1.size
    have z5 := z0.below hX5
    obtain ⟨u0, u1, u2, u3⟩ := z5.cells
    have CSH := Lib.hid (rshows_ok (F := fun _ => True) (W := w5) (w := w) (n := n) (cB := cap) (g4.below b5') HSH.out.R (HR.out.below b5) HBW.out ⟨h3, h4⟩ ⟨h1, h2⟩ ra ca s (by omega) (by omega) HSH.out.row HSH.out.col HSH.out.pend HSH.out.y HSH.out.seen HSH.out.marked HSH.out.bells HSH.out.gone (hv4.below b5'))
    clear bz pn o5 hcv1 g4
    go_wp2_with (first
      | (refine wpList_tloadD rfl _ rfl w4.heap.size rfl (tCells a4 c4 y1.1 bv4) ?_ rfl ?_; exact p5)
      | (go_at_call 34; refine (CSH.out).mono ?_; rintro e w6 ⟨rfl, hb6⟩)
      | (go_at_call 31; refine (awake10_any _).mono ?_; rintro e w7 ⟨rfl, hb7⟩))
    go_ret
    have b6 := bto b5 hb6 b5.size
    have b7 := bto b6 hb7 b6.size
    exact ⟨rfl, b7⟩
end Go.Proofs.YtekodpcedjpnjaaGreat
namespace Go.Proofs.YtekodpcedjpnjaaGreat
set_option linter.unusedVariables false
set_option linter.unusedSimpArgs false
open Go.RowKit Go.Shelf Go.Maps
theorem diffWhole_law (a : Option Addr) (n cap : Nat) (r c : Int) (s : Bool) (R : List (List GC)) (W : World) (h : RowsAt W a n R) (hn : n ≤ maxLen) (_ : n ≤ cap) (_ : cap ≤ maxLen) (hs : ∀ M ∈ R, ∀ c ∈ M, c.s.size ≤ 1100000) :
    Calls Tryz.prog 4 #[.agg #[.slice a n cap, .int .i64 r, .int .i64 c, .bool s]] W fun e w' => e = .returned (.bool true) ∧ Below W.heap.size W w' := diffWhole_any h hn hs r c s
end Go.Proofs.YtekodpcedjpnjaaGreat
