/- The reference's grid: fit, Resize. No condition. -/
import Derived.Test.YtekodpcedjpnjaaRG11
import Derived.Test.YtekodpcedjpnjaaTermP
import Derived.Test.YtekodpcedjpnjaaRegM
import Derived.Deep.CutBlock
namespace Go.Proofs.Ytekodpcedjpnjaa
set_option linter.unusedVariables false
set_option linter.unusedSimpArgs false
open Go.RowKit Go.Shelf Go.Maps
def lenS : Value → Nat
  | .slice _ n _ => n
  | _ => 0
theorem CellsAt.pre {W : World} {b o n : Nat} {M : List GC} (h : CellsAt W (some ⟨b, o, none⟩) n M) (m : Nat) : ∀ j u, (flatV (M.take m))[j]? = some u → W.cell? ((⟨b, o, none⟩ : Addr).add j) = some u := fun j u hj => by
  refine h.news j u ?_
  have e : flatV M = flatV (M.take m) ++ flatV (M.drop m) := by rw [← flatV_append, List.take_append_drop]
  have hl := (List.getElem?_eq_some_iff.1 hj).1
  rw [e, List.getElem?_append_left hl]
  exact hj
set_option maxRecDepth 100000 in
set_option maxHeartbeats 8000000 in
theorem rfit_any {W : World} {a : Option Addr} {n cap : Nat} {M : List GC} (hM : CellsAt W a n M) (hn : 1 ≤ n ∧ n ≤ 1000) (hcap : n ≤ cap ∧ cap ≤ maxLen) (w : Nat) (hw : 1 ≤ w ∧ w ≤ 500) :
    Calls Try.prog 94 #[.slice a n cap, .int .i64 w] W (RowPost w (fitL M w) W) := by
  obtain ⟨i0, hi, hz0, hz1, hz2⟩ := info_parts infoCell
  have hl := hM.len
  obtain ⟨b, o, rfl, hbl⟩ := hM.addr hn.1
  obtain ⟨m, hm⟩ : ∃ m, m + 1 = min n w := ⟨min n w - 1, by omega⟩
  obtain ⟨k0, hk0⟩ : ∃ k0, k0 = m + 1 := ⟨_, rfl⟩
  have hmin : (if w < n then (w : Int) else (n : Int)) = (k0 : Int) := by split <;> omega
  obtain ⟨X1, hX1⟩ : ∃ X1, W.alloc (.cells #[] 70) = X1 := ⟨_, rfl⟩
  have b1 : Below W.heap.size W X1 := by rw [← hX1]; exact (Below.refl _ _).alloc (Nat.le_refl _) _
  have s1 : X1.heap.size = W.heap.size + 1 := by rw [← hX1]; simp
  have ho := World.ownsRow_made (base := W.heap.size) (e := 70) (size := 7) W #[] 0 (Nat.le_refl _) (by unfold maxLen; omega) rfl
  rw [hX1] at ho
  have hnews := (hM.below b1).pre k0
  obtain ⟨M1, hM1⟩ : ∃ M1, M1 = M.take k0 := ⟨_, rfl⟩
  have hl1 : M1.length = k0 := by rw [hM1, List.length_take]; omega
  have ht : M.take w = M1 := by
    rw [hM1]
    rcases Nat.le_total n w with h | h
    · rw [List.take_of_length_le (by omega), List.take_of_length_le (by omega)]
    · rw [show k0 = w by omega]
  have hfit : fitL M w = (if (nth GC.zero M1 m).w = 2 then M1.set m GC.blank else M1) ++ List.replicate (w - k0) GC.blank := by
    unfold fitL
    rw [ht, hl1, show k0 - 1 = m by omega]
  rw [← hM1] at hnews
  obtain ⟨C, hC⟩ : ∃ C, C = nth GC.zero M1 m := ⟨_, rfl⟩
  have hCi : M1[m]? = some C := by rw [hC, nth_eq _ _ _ (by omega)]; exact List.getElem?_eq_getElem _
  rw [← hC] at hfit
  have HX1 := Lib.hid hX1
  have S1 := Lib.hid s1
  have HF := Lib.hid hfit
  have HL1 := Lib.hid hl1
  have HCI := Lib.hid hCi
  have hmw : m < w := by omega
  have hmc : (k0 : Int) ≤ (cap : Int) := by omega
  have hmc2 : k0 ≤ cap := by omega
  have hmn : k0 ≤ n := by omega
  have hkm : (k0 : Int) - 1 = (m : Int) := by omega
  have hmk : m < k0 := by omega
  have hk1 : 1 ≤ k0 := by omega
  have hkw0 : k0 ≤ w := by omega
  have hki0 : 0 < (k0 : Int) := by omega
  obtain ⟨hc1, hc2⟩ := hcap
  unfold maxLen at hc2
  clear hX1 s1 hM hl hm ht hfit hl1 hM1 hC hCi hk0
  go_enter Try.func94, Try.ntmps94
  go_upto_region 2 with (at_builtin; rw [HX1.out]; refine wpList_append_own_at _ rfl _ _ 46 rfl W.heap.size 70 i0 GC.zero.v 7 48 Try.underlying46 hi hz0 hz1 hz2 rfl (by decide) _ _ _ rfl ho ⟨b, o, none⟩ k0 cap (flatV M1) rfl (by rw [flatV_length, HL1.out, Nat.mul_comm]) hnews (flatV_one _) (by unfold maxLen; omega) (by omega) (by have := S1.out; omega) ?_; intro v' w1 hown' hgrow _ _; rw [Nat.zero_add, List.nil_append] at hown'; obtain ⟨g, c', rfl, hg, hc1', hc2'⟩ := own_neS hown' (by omega); have hB1 : Below W.heap.size X1 w1 := (Below.refl W.heap.size X1).grown hgrow (by have := S1.out; omega) (fun k e => by cases e; exact Nat.le_refl _))
  have bw1 : Below W.heap.size W w1 := b1.trans hB1
  have HOWN := Lib.hid hown'
  obtain ⟨hcel, _, _⟩ := CellsAt.of_own HL1.out hown'
  obtain ⟨b', o', e', hb', hr'⟩ := hcel.at_ m _ HCI.out
  simp only [Option.some.injEq, Addr.mk.injEq] at e'
  obtain ⟨rfl, rfl, _⟩ := e'
  obtain ⟨_, x1, _⟩ := vals_at hr'
  have hx : w1.cell? ⟨g, m * 7 + 1, none⟩ = some (.int .i64 C.w) := by simpa using x1
  clear hgrow hown' hcel hr' x1 hnews ho hbl
  obtain ⟨T2, hT2⟩ : ∃ T2, T2 = (C.w == 2) := ⟨_, rfl⟩
  have HT2 := Lib.hid hT2
  rw [eq_comm] at hT2
  go_upto_if 26 with (fail)
  go_cut [5] (fun v wx => ∃ g' c2, v = .slice (some ⟨g', 0, none⟩) k0 c2 ∧ W.heap.size ≤ g' ∧ wx.ownsRow W.heap.size 70 7 (.slice (some ⟨g', 0, none⟩) k0 c2) k0 (flatV (if C.w = 2 then M1.set m GC.blank else M1)) ∧ Below W.heap.size W wx)
  case first =>
    by_cases hw2 : C.w = 2
    · have ht2 : T2 = true := by rw [HT2.out]; simpa using hw2
      subst ht2
      have HIF : Hid ((if C.w = 2 then M1.set m GC.blank else M1) = M1.set m GC.blank) := Lib.hid (if_pos hw2)
      clear hw2
      go_wp2_with (refine wpList_ostore rfl _ _ rfl g _ rfl GC.blank rfl W.heap.size k0 c' M1 HOWN.out m (by omega) (by rw [HL1.out]; omega) ?_; intro w2 ho2 o2)
      go_meet
      exact ⟨g, c', rfl, hg, by rw [HIF.out]; exact ho2, bw1.trans (o2.below (by simp; exact hg) bw1.size)⟩
    · have ht2 : T2 = false := by rw [HT2.out]; simpa using hw2
      subst ht2
      have HIF : Hid ((if C.w = 2 then M1.set m GC.blank else M1) = M1) := Lib.hid (if_neg hw2)
      clear hw2
      go_wp2
      go_meet
      exact ⟨g, c', rfl, hg, by rw [HIF.out]; exact HOWN.out, bw1⟩
  case rest =>
    obtain ⟨g', c2, rfl, hg', ho2, b2⟩ := hcut
    obtain ⟨P, hP⟩ : ∃ P, P = (if C.w = 2 then M1.set m GC.blank else M1) := ⟨_, rfl⟩
    rw [← hP] at ho2
    have hF2 := HF.out
    rw [← hP] at hF2
    have HF2 := Lib.hid hF2
    have HO2 := Lib.hid ho2
    have h0 : Hid (wc.ownsRow W.heap.size 70 7 (.slice (some ⟨g', 0, none⟩) k0 c2) k0 (flatV (P ++ List.replicate (k0 - k0) GC.blank))) := Lib.hid (by rw [Nat.sub_self]; simpa using ho2)
    clear hx hP hF2 ho2 HOWN hB1 bw1
    go_wp2_with fail
    go_loopw [5] (fun v wr => ∃ k g' c2, k0 ≤ k ∧ k ≤ w ∧ v = .slice (some ⟨g', 0, none⟩) k c2 ∧ Hid (wr.ownsRow W.heap.size 70 7 (.slice (some ⟨g', 0, none⟩) k c2) k (flatV (P ++ List.replicate (k - k0) GC.blank))) ∧ Below W.heap.size W wr) (fun v _ => w - lenS v)
    case atStart => exact ⟨k0, g', c2, Nat.le_refl _, hkw0, rfl, h0, b2⟩
    case round =>
      obtain ⟨k, gk, ck, hk1, hk2, rfl, hok, hbk⟩ := hrel
      by_cases hlt : k < w
      · have g1 := GBlk.made wr [GC.blank]
        have hsn : flatV (P ++ List.replicate (k + 1 - k0) GC.blank) = flatV (P ++ List.replicate (k - k0) GC.blank) ++ flatV [GC.blank] := by
          rw [show k + 1 - k0 = (k - k0) + 1 by omega, List.replicate_succ', ← List.append_assoc, flatV_append]
        have HSN := Lib.hid hsn
        have hki : (k : Int) < (w : Int) := by omega
        have hsz := hbk.size
        clear hsn h0
        go_wp2_with (at_builtin; refine wpList_append_own_at _ rfl _ _ 46 rfl W.heap.size 70 i0 GC.zero.v 7 48 Try.underlying46 hi hz0 hz1 hz2 rfl (by decide) _ _ _ rfl (hok.out.alloc _) ⟨wr.heap.size, 0, none⟩ 1 1 (flatV [GC.blank]) rfl rfl g1.news (flatV_one _) (by unfold maxLen; omega) (by omega) (by simp; omega) ?_; intro v' w1 hown' hgrow _ _; obtain ⟨g9, c9, rfl, hg9, _, _⟩ := own_neS hown' (by omega))
        have hB1 : Below W.heap.size wr w1 := ((Below.refl W.heap.size wr).alloc (by omega) _).grown hgrow (by simp; omega) (fun k e => (own_cells hok.out k e).1)
        have HO9 : Hid (w1.ownsRow W.heap.size 70 7 (.slice (some ⟨g9, 0, none⟩) (k + 1) c9) (k + 1) (flatV (P ++ List.replicate (k + 1 - k0) GC.blank))) := Lib.hid (by rw [HSN.out]; exact hown')
        clear hown' hgrow
        go_roundw
        case rel => exact ⟨k + 1, g9, c9, by omega, hlt, rfl, HO9, hbk.trans hB1⟩
        case measure => simp [lenS]; omega
      · obtain rfl : k = w := by omega
        go_wp2
        go_ret
        have ho9 := hok.out
        rw [← HF2.out] at ho9
        obtain ⟨h1, h2, h3⟩ := CellsAt.of_own (fitL_length _ _) ho9
        exact ⟨_, _, rfl, h1, ⟨⟨h2, h3⟩, fun b o e => by cases e; obtain ⟨h5, cur, h6⟩ := own_cells ho9 _ rfl; exact ⟨h5, (Array.getElem?_eq_some_iff.1 h6).1⟩⟩, hbk⟩
end Go.Proofs.Ytekodpcedjpnjaa
namespace Go.Proofs.Ytekodpcedjpnjaa
set_option linter.unusedVariables false
set_option linter.unusedSimpArgs false
open Go.RowKit Go.Shelf Go.Maps
def GPostR (F : Nat → Prop) (w h : Nat) (R : List (List GC)) (gone err : Int) (W : World) (e : Ending) (w' : World) : Prop := ∃ a c, e = .returned (.tuple #[.agg #[.int .i64 w, .int .i64 h, .slice a h c], .int .i64 gone, .int .i64 err]) ∧ RG F w' a c w h R ∧ Below W.heap.size W w'
set_option maxRecDepth 100000 in
set_option maxHeartbeats 8000000 in
theorem rresize_bad {F : Nat → Prop} {W : World} {a : Option Addr} {cap W0 H : Nat} {R : List (List GC)} (g : RG F W a cap W0 H R) (w h r : Int) (hd : ¬ (1 ≤ w ∧ w ≤ 500 ∧ 1 ≤ h ∧ h ≤ 500)) :
    Calls Try.prog 64 #[.agg #[.int .i64 W0, .int .i64 H, .slice a H cap], .int .i64 w, .int .i64 h, .int .i64 r] W (GPostR F W0 H R 0 40 W) := by
  have CS := rsize_any w h
  rw [show decide (1 ≤ w ∧ w ≤ 500 ∧ 1 ≤ h ∧ h ≤ 500) = false by simpa using hd] at CS
  replace CS := Lib.hid CS
  obtain ⟨X, hX⟩ : ∃ X, (W.alloc (.cells #[.int .i64 W0, .int .i64 H, .slice a H cap] 29)).alloc (.cells #[.int .i64 W0, .int .i64 H, .slice a H cap] 29) = X := ⟨_, rfl⟩
  have p2 : GBox X (W.heap.size + 1) W0 H a H cap := by
    have := GBox.new (W.alloc (.cells #[.int .i64 W0, .int .i64 H, .slice a H cap] 29)) W0 H H cap a
    rw [hX] at this
    simpa using this
  have bX : Below W.heap.size W X := by rw [← hX]; exact ((Below.refl _ _).alloc (Nat.le_refl _) _).alloc (by simp) _
  have gX := g.below bX
  have HX := Lib.hid hX
  clear hX g hd
  go_enter Try.func64, Try.ntmps64
  go_wp2_with (go_at_call 49; refine (CS.out _).mono ?_; rintro e w1 ⟨rfl, rfl⟩)
  rw [HX.out]
  refine bodyPost_ret (results_row3 rfl _ _ (W.heap.size + 1) _ rfl p2.load) rfl ?_
  exact ⟨a, cap, rfl, gX, bX⟩
set_option maxRecDepth 100000 in
set_option maxHeartbeats 8000000 in
theorem rresize_out {F : Nat → Prop} {W : World} {a : Option Addr} {cap W0 H : Nat} {R : List (List GC)} (g : RG F W a cap W0 H R) (w h r : Int) (hd : 1 ≤ w ∧ w ≤ 500 ∧ 1 ≤ h ∧ h ≤ 500) (hr : ¬ (0 ≤ r ∧ r < H)) :
    Calls Try.prog 64 #[.agg #[.int .i64 W0, .int .i64 H, .slice a H cap], .int .i64 w, .int .i64 h, .int .i64 r] W (GPostR F W0 H R 0 5 W) := by
  have CS := rsize_any w h
  rw [show decide (1 ≤ w ∧ w ≤ 500 ∧ 1 ≤ h ∧ h ≤ 500) = true by simpa using hd] at CS
  replace CS := Lib.hid CS
  obtain ⟨X, hX⟩ : ∃ X, (W.alloc (.cells #[.int .i64 W0, .int .i64 H, .slice a H cap] 29)).alloc (.cells #[.int .i64 W0, .int .i64 H, .slice a H cap] 29) = X := ⟨_, rfl⟩
  have p2 : GBox X (W.heap.size + 1) W0 H a H cap := by
    have := GBox.new (W.alloc (.cells #[.int .i64 W0, .int .i64 H, .slice a H cap] 29)) W0 H H cap a
    rw [hX] at this
    simpa using this
  have bX : Below W.heap.size W X := by rw [← hX]; exact ((Below.refl _ _).alloc (Nat.le_refl _) _).alloc (by simp) _
  have gX := g.below bX
  have HX := Lib.hid hX
  clear hX g hd
  by_cases hr0 : r < 0
  · clear hr
    go_enter Try.func64, Try.ntmps64
    go_wp2_with (go_at_call 49; refine (CS.out _).mono ?_; rintro e w1 ⟨rfl, rfl⟩)
    rw [HX.out]
    refine bodyPost_ret (results_row3 rfl _ _ (W.heap.size + 1) _ rfl p2.load) rfl ?_
    exact ⟨a, cap, rfl, gX, bX⟩
  · have hr1 : (H : Int) ≤ r := by omega
    clear hr
    go_enter Try.func64, Try.ntmps64
    go_wp2_with (go_at_call 49; refine (CS.out _).mono ?_; rintro e w1 ⟨rfl, rfl⟩)
    rw [HX.out]
    refine bodyPost_ret (results_row3 rfl _ _ (W.heap.size + 1) _ rfl p2.load) rfl ?_
    exact ⟨a, cap, rfl, gX, bX⟩
/-- The boxes of Resize: the grid that came, the result's, the one that is made; and the rows laid so far. -/
structure RzSt (F : Nat → Prop) (W : World) (W0 H : Nat) (a : Option Addr) (cap w h : Nat) (k : Nat) (av : Option Addr) (cv : Nat) (L : List (List GC)) (X : World) : Prop where
  p1 : GBox X W.heap.size W0 H a H cap
  p2 : GBox X (W.heap.size + 1) 0 0 none 0 0
  p3 : GBox X (W.heap.size + 1 + 1) w h av k cv
  own : ROwn (fun b => F b ∧ W.heap.size + 1 + 1 < b) (W.heap.size + 1 + 1 + 1) X (.slice av k cv) k L
  b : Below W.heap.size W X
theorem RzSt.below {F : Nat → Prop} {W : World} {W0 H : Nat} {a : Option Addr} {cap w h k : Nat} {av : Option Addr} {cv : Nat} {L : List (List GC)} {X X' : World} (s : RzSt F W W0 H a cap w h k av cv L X) (hb : Below X.heap.size X X') (hF : ∀ b, W.heap.size ≤ b → F b) : RzSt F W W0 H a cap w h k av cv L X' where
  p1 := s.p1.below hb
  p2 := s.p2.below hb
  p3 := s.p3.below hb
  own := s.own.below hb
  b := bto s.b hb s.b.size
/-- One more row is laid: the list of the box is the one that append gave. -/
theorem RzSt.step {F : Nat → Prop} {W : World} {W0 H : Nat} {a : Option Addr} {cap w h k : Nat} {av : Option Addr} {cv : Nat} {L : List (List GC)} {X X5 : World} (s : RzSt F W W0 H a cap w h k av cv L X) {g c' : Nat} {L' : List (List GC)} (h5 : ROwn (fun b => F b ∧ W.heap.size + 1 + 1 < b) (W.heap.size + 1 + 1 + 1) X5 (.slice (some ⟨g, 0, none⟩) (k + 1) c') (k + 1) L') (hb : Below (W.heap.size + 1 + 1 + 1) X X5) : RzSt F W W0 H a cap w h (k + 1) (some ⟨g, 0, none⟩) c' L' (X5.setCell ⟨W.heap.size + 1 + 1, 2, none⟩ (.slice (some ⟨g, 0, none⟩) (k + 1) c')) := by
  have p1 : GBox X5 W.heap.size W0 H a H cap := (hb.block _ (by omega)).trans s.p1
  have p2 : GBox X5 (W.heap.size + 1) 0 0 none 0 0 := (hb.block _ (by omega)).trans s.p2
  have p3 : GBox X5 (W.heap.size + 1 + 1) w h av k cv := (hb.block _ (by omega)).trans s.p3
  obtain ⟨pY, oY⟩ := p3.set2 (k + 1) c' (some ⟨g, 0, none⟩)
  have b5 : Below W.heap.size W X5 := s.b.trans (hb.mono (by omega))
  exact { p1 := p1.only oY (by simp; omega), p2 := p2.only oY (by simp), p3 := pY, own := h5.setCell (b := W.heap.size + 1 + 1) (by omega) (fun h => by omega) 2 _, b := b5.trans (oY.below (by simp; omega) b5.size) }
/-- The length of the list of rows that a grid's box holds. -/
def lenAt (b : Nat) (w : World) : Nat := match w.cell? ⟨b, 2, none⟩ with | some (.slice _ n _) => n | _ => 0
theorem lenAt_of {b n c : Nat} {a : Option Addr} {w : World} (h : w.cell? ⟨b, 2, none⟩ = some (.slice a n c)) : lenAt b w = n := by unfold lenAt; rw [h]
set_option maxRecDepth 100000 in
set_option maxHeartbeats 16000000 in
theorem rresize_ok {F : Nat → Prop} {W : World} (hF : ∀ b, W.heap.size ≤ b → F b) {a : Option Addr} {cap W0 H : Nat} {R : List (List GC)} (g : RG F W a cap W0 H R) (hW0 : 1 ≤ W0 ∧ W0 ≤ 500) (hH : 1 ≤ H ∧ H ≤ 500) (w h r : Nat) (hd : 1 ≤ w ∧ w ≤ 500 ∧ 1 ≤ h ∧ h ≤ 500) (hr : r < H) :
    Calls Try.prog 64 #[.agg #[.int .i64 W0, .int .i64 H, .slice a H cap], .int .i64 w, .int .i64 h, .int .i64 r] W (GPostR F w h (resizeR H R w h r) (goneN H h r : Nat) 0 W) := by
  have CS := rsize_any (w : Int) (h : Int)
  rw [show decide (1 ≤ (w : Int) ∧ (w : Int) ≤ 500 ∧ 1 ≤ (h : Int) ∧ (h : Int) ≤ 500) = true by simp; omega] at CS
  replace CS := Lib.hid CS
  have CB := Lib.hid (fun X => rblanks_any w (by omega) X)
  obtain ⟨X, hX⟩ : ∃ X, (W.alloc (.cells #[.int .i64 W0, .int .i64 H, .slice a H cap] 29)).alloc (.cells #[.int .i64 0, .int .i64 0, .slice none 0 0] 29) = X := ⟨_, rfl⟩
  obtain ⟨p1, p2, bX, sX⟩ := two_grids W W0 H H cap _ X hX
  have HX := Lib.hid hX
  have G := Lib.hid g
  have SX := Lib.hid sX
  obtain ⟨last, hlast⟩ : ∃ last, last = lastN H h r := ⟨_, rfl⟩
  obtain ⟨gone, hgone⟩ : ∃ gone, gone = goneN H h r := ⟨_, rfl⟩
  have hgl : gone = last - h := by rw [hgone, hlast]; rfl
  have hlm : last = H - min (H - h) (H - 1 - r) := by rw [hlast]; rfl
  rw [← hgone]
  obtain ⟨d1, d2, d3, d4⟩ := hd
  have hlh : last ≤ H := by omega
  have hgl1 : gone ≤ last := by omega
  have hgl2 : last - gone ≤ h := by omega
  have HEQ : Hid (last = H - min (H - h) (H - 1 - r) ∧ gone = last - h) := Lib.hid ⟨hlm, hgl⟩
  have HG := Lib.hid hgone
  have HLA := Lib.hid hlast
  have hr0 : ¬ (r : Int) < 0 := by omega
  have hr1 : ¬ (H : Int) ≤ (r : Int) := by omega
  have hr2 : ¬ H ≤ r := by omega
  have hW1 := hW0.1
  have hW5 := hW0.2
  have hH5 := hH.2
  clear hX hlast hgone hgl hlm g sX hW0 hH
  go_enter Try.func64, Try.ntmps64
  go_upto_region 5 with (go_at_call 49; refine (CS.out _).mono ?_; rintro e w1 ⟨rfl, rfl⟩)
  rw [HX.out]
  go_cut [11] (fun u wx => u = .pointer (some ⟨W.heap.size + 1 + 1, 0, none⟩) ∧ RzSt F W W0 H a cap w h 0 none 0 [] wx)
  case first =>
    have FIN : Hid (RzSt F W W0 H a cap w h 0 none 0 [] (X.alloc (.cells #[.int .i64 w, .int .i64 h, .slice none 0 0] 29))) := Lib.hid (by
      have bN : Below X.heap.size X (X.alloc (.cells #[.int .i64 w, .int .i64 h, .slice none 0 0] 29)) := (Below.refl _ _).alloc (Nat.le_refl _) _
      have hn := GBox.new X w h 0 0 none
      rw [SX.out] at hn
      exact { p1 := p1.below bN, p2 := p2.below bN, p3 := hn, own := ROwn.nil _ _ _, b := bto bX bN bX.size })
    have HS : Hid (X.heap.size = W.heap.size + 1 + 1) := SX
    go_wp2
    go_meet
    exact ⟨by rw [SX.out], FIN.out⟩
  case rest =>
    obtain ⟨rfl, st0⟩ := hcut
    obtain ⟨t0, t1, t2, t3⟩ := st0.p1.cells
    have ST0 := Lib.hid st0
    clear p1 p2 bX st0
    go_upto_region 6 with (fail)
    go_cut [12] (fun v wx => v = .int .i64 last ∧ wc = wx)
    case first =>
      go_wp2
      all_goals (go_meet; exact ⟨congrArg (Value.int _) (by have := HEQ.out; omega), rfl⟩)
    case rest =>
    obtain ⟨rfl, rfl⟩ := hcut
    refine (‹∀ (a : Act) (w : World), Code.wp Try.prog _ _ a w → _›) _ _ ?_
    go_upto_region 7 with (fail)
    go_cut [13] (fun v wx => v = .int .i64 gone ∧ wc = wx)
    case first =>
      go_wp2
      all_goals (go_meet; exact ⟨congrArg (Value.int _) (by have := HEQ.out; omega), rfl⟩)
    case rest =>
    obtain ⟨rfl, rfl⟩ := hcut
    refine (‹∀ (a : Act) (w : World), Code.wp Try.prog _ _ a w → _›) _ _ ?_
    clear t0 t1 t2 t3
    go_wp2
    go_loopw [14] (fun i wr => ∃ (k j : Nat) (av : Option Addr) (cv : Nat), k ≤ last - gone ∧ i = .int .i64 j ∧ Hid (j = gone + k) ∧ RzSt F W W0 H a cap w h k av cv (((R.drop gone).take k).map (fitL · w)) wr) (fun i _ => last - (intOf i).toNat)
    case atStart => exact ⟨0, gone, none, 0, Nat.zero_le _, rfl, Lib.hid rfl, ST0.out⟩
    case round =>
      obtain ⟨k, j, av, cv, hk, rfl, hj, st⟩ := hrel
      have hjj := hj.out
      by_cases hlt : k < last - gone
      · have hjH : j < H := by omega
        have hRl := G.out.rows.len
        have hMi : R[j]? = some (nth [] R j) := by rw [nth_eq _ _ _ (by omega)]; exact List.getElem?_eq_getElem _
        have hMl := G.out.ok.at hjH
        obtain ⟨rb, ro, a2, c2, rfl, ⟨hrb, _⟩, hcr, hc2, hcl, _⟩ := G.out.rows.at_ j _ hMi
        rw [hMl] at hcr hc2 hcl
        have hmx := G.out.mx
        have hle := G.out.le
        have HSN : Hid (((R.drop gone).take (k + 1)).map (fitL · w) = ((R.drop gone).take k).map (fitL · w) ++ [fitL (nth [] R j) w]) := Lib.hid (by
          have e1 : (R.drop gone).take (k + 1) = (R.drop gone).take k ++ [nth [] R j] := by
            rw [List.take_succ_eq_append_getElem (by rw [List.length_drop]; omega), List.getElem_drop, nth_eq _ _ _ (by omega)]
            congr 3
            omega
          rw [e1, List.map_append]; rfl)
        obtain ⟨M, hM⟩ : ∃ M, M = nth [] R j := ⟨_, rfl⟩
        rw [← hM] at hcl HSN hMl
        have hclr := hcl.below st.b
        have hcrr : wr.cell? ⟨rb, ro + j, none⟩ = some (.slice a2 W0 c2) := (st.b.cell (p := ⟨rb, ro + j, none⟩) hrb).trans hcr
        obtain ⟨L, hL⟩ : ∃ L, L = ((R.drop gone).take k).map (fitL · w) := ⟨_, rfl⟩
        rw [← hL] at HSN st
        have dB : Below wr.heap.size wr wr.drew := (Below.refl _ _).drew
        have CF := Lib.hid (rfit_any (cap := c2) (hclr.below dB) ⟨hW1, by omega⟩ hc2 w ⟨d1, d2⟩)
        obtain ⟨q0, q1, q2, q3⟩ := st.p3.cells
        obtain ⟨t0, t1, t2, t3⟩ := st.p1.cells
        have hbs := st.b.size
        have hpl := st.p3.lt
        have hji : (j : Int) < (last : Int) := by omega
        have hjH2 : (j : Int) < (H : Int) := by omega
        have hrbl : rb < wr.heap.size := by omega
        have ST := Lib.hid st
        have HLL := Lib.hid hL
        have MX : Hid (rb < W.heap.size) := Lib.hid hrb
        clear hMi hRl hM hcl hL hjj hcr st hMl
        go_wp2_with fail
        refine wp_region_mixT 20 [(true, 0), (true, 1), (true, 2), (true, 3), (true, 4), (true, 5), (true, 6), (true, 7), (true, 8), (false, 9), (true, 10), (false, 11), (false, 12), (true, 13), (false, 14)] (fun X => X.cell? ⟨W.heap.size + 1 + 1, 2, none⟩ = some (.slice av k cv) ∧ X.cell? ⟨W.heap.size, 2, none⟩ = some (.slice (some ⟨rb, ro, none⟩) H cap) ∧ X.cell? ⟨rb, ro + j, none⟩ = some (.slice a2 W0 c2)) (by kernel_rfl) (by kernel_rfl) (by rfl) (by kernel_rfl) (by kernel_rfl) (fun _ _ d _ _ h => by cases d <;> exact h) ⟨q2, t2, hcrr⟩ ?_
        simp only [mixL, List.getElem?_cons_succ, List.getElem?_cons_zero]
        clear q0 q1 q2 q3 t0 t1 t2 t3
        repeat (refine' wpMix_read (v := _) rfl ?_ ?_; rotate_left 1; (intro w' hw'; obtain ⟨s1, s2, s3⟩ := hw'; go_simp; try with_reducible rfl); try simp only [Act.put, List.setIfInBounds_toArray, List.set_cons_zero, List.set_cons_succ])
        refine wpMix_act (fun K hK => ?_)
        go_wp2_with fail
        refine (CF.out).mono ?_
        rintro e w3 ⟨a3, c3, rfl, hM3, hc3, hb3⟩
        have hbw3 : Below wr.heap.size wr w3 := dB.trans hb3
        have ST3 : Hid (RzSt F W W0 H (some ⟨rb, ro, none⟩) cap w h k av cv L w3) := Lib.hid (ST.out.below hbw3 hF)
        have CR3 : Hid (w3.cell? ⟨rb, ro + j, none⟩ = some (.slice a2 W0 c2)) := Lib.hid ((hbw3.cell (p := ⟨rb, ro + j, none⟩) hrbl).trans hcrr)
        go_wp2
        refine hK _ _ (fun _ => ⟨ST3.out.p3.cells.2.2.1, ST3.out.p1.cells.2.2.1, CR3.out⟩) ?_
        clear hK K
        repeat (refine' wpMix_read (v := _) rfl ?_ ?_; rotate_left 1; (intro w' hw'; obtain ⟨s1, s2, s3⟩ := hw'; go_simp; try with_reducible rfl); try simp only [Act.put, List.setIfInBounds_toArray, List.set_cons_zero, List.set_cons_succ])
        refine wpMix_act (fun K hK => ?_)
        have st3 := ST3.out
        have own3 := st3.own
        have stA := st3.below ((Below.refl _ _).alloc (Nat.le_refl _) (.cells #[.slice a3 w c3] 94)) hF
        have crA := (((Below.refl w3.heap.size w3).alloc (Nat.le_refl _) (.cells #[.slice a3 w c3] 94)).cell (p := ⟨rb, ro + j, none⟩) (show rb < w3.heap.size from Nat.lt_of_lt_of_le hrbl hbw3.size)).trans CR3.out
        have STA := Lib.hid stA
        have CRA := Lib.hid crA
        clear stA crA
        go_wp2
        refine hK _ _ (fun _ => ⟨STA.out.p3.cells.2.2.1, STA.out.p1.cells.2.2.1, CRA.out⟩) ?_
        clear hK K
        refine wpMix_act (fun K hK => ?_)
        have ha3 : ∀ b o, a3 = some ⟨b, o, none⟩ → b < w3.heap.size ∧ (F b ∧ W.heap.size + 1 + 1 < b) ∧ (Value.slice av k cv).ownBlock ≠ some b := fun b o e => by
          obtain ⟨h1, h2⟩ := hc3.2 b o e
          have h3 : wr.heap.size ≤ b := h1
          exact ⟨h2, ⟨hF b (by omega), by omega⟩, fun e2 => by have := (ST.out.own.own b e2).2; omega⟩
        have hs3 := hbw3.size
        refine wpList_append_row rfl _ _ rfl (fun b => F b ∧ W.heap.size + 1 + 1 < b) (W.heap.size + 1 + 1 + 1) (.slice av k cv) k L rfl (own3.below ((Below.refl _ _).alloc (Nat.le_refl _) _)) w3.heap.size rfl a3 w c3 (fitL M w) (row_one w3 _ _) (hM3.below ((Below.refl _ _).alloc (Nat.le_refl _) _)) (fitL_length M w) hc3.1 (fun b o e => by obtain ⟨h1, h2⟩ := ha3 b o e; exact ⟨by simp; omega, h2⟩) (by omega) (by simp; omega) ?_
        intro g c' w5 hR5 hg5 hb5
        have hb35 : Below (W.heap.size + 1 + 1 + 1) w3 w5 := ((Below.refl _ _).alloc (by omega) _).trans hb5
        have cr5 : w5.cell? ⟨rb, ro + j, none⟩ = some (.slice a2 W0 c2) := (hb35.cell (p := ⟨rb, ro + j, none⟩) (show rb < W.heap.size + 1 + 1 + 1 from by have := MX.out; omega)).trans CR3.out
        have p15 : GBox w5 W.heap.size W0 H (some ⟨rb, ro, none⟩) H cap := (hb35.block _ (by omega)).trans st3.p1
        have p35 : GBox w5 (W.heap.size + 1 + 1) w h av k cv := (hb35.block _ (by omega)).trans st3.p3
        refine hK _ _ (fun _ => ⟨p35.cells.2.2.1, p15.cells.2.2.1, cr5⟩) ?_
        have STN := Lib.hid (st3.step hR5 hb35)
        clear hK K hg5 st3 own3 hR5
        repeat (refine' wpMix_read (v := _) rfl ?_ ?_; rotate_left 1; (intro w' hw'; obtain ⟨s1, s2, s3⟩ := hw'; go_simp; try with_reducible rfl); try simp only [Act.put, List.setIfInBounds_toArray, List.set_cons_zero, List.set_cons_succ])
        refine wpMix_act (fun K hK => ?_)
        obtain ⟨t0, t1, t2, t3⟩ := p35.cells
        go_wp2
        refine hK _ _ (fun h => absurd rfl h) ?_
        clear hK K
        refine wpMix_nil ?_
        go_wp2
        go_roundw
        case rel => exact ⟨k + 1, j + 1, some ⟨g, 0, none⟩, c', hlt, by go_num, Lib.hid (by have := hj.out; omega), by rw [HSN.out]; exact STN.out⟩
        case measure => simp [intOf]; omega
      · obtain ⟨n0, hn0⟩ : ∃ n0, n0 = last - gone := ⟨_, rfl⟩
        obtain ⟨L1, hL1⟩ : ∃ L1, L1 = ((R.drop gone).take n0).map (fitL · w) := ⟨_, rfl⟩
        have hkn : k = n0 := by omega
        have hL1l : L1.length = n0 := by rw [hL1, List.length_map, List.length_take, List.length_drop, G.out.rows.len]; omega
        have hEND : Hid (resizeR H R w h r = L1 ++ List.replicate (h - n0) (List.replicate w GC.blank)) := Lib.hid (by rw [hL1, hn0, HLA.out, HG.out]; rfl)
        have hn0h : n0 ≤ h := by omega
        have hjl : ¬ (j : Int) < (last : Int) := by omega
        have st' : RzSt F W W0 H a cap w h n0 av cv L1 wr := by rw [hL1, ← hkn]; exact st
        have ST := Lib.hid st'
        have HL1 := Lib.hid hL1
        have HN0 := Lib.hid hn0
        have HKN := Lib.hid hkn
        have L1L := Lib.hid hL1l
        clear hL1 hn0 hkn hjj st st' hj hL1l
        go_wp2
        go_loopw [] (fun wr => ∃ (k : Nat) (av : Option Addr) (cv : Nat), k ≤ h - n0 ∧ RzSt F W W0 H a cap w h (n0 + k) av cv (L1 ++ List.replicate k (List.replicate w GC.blank)) wr) (fun wr => h - lenAt (W.heap.size + 1 + 1) wr)
        case atStart => exact ⟨0, av, cv, Nat.zero_le _, by simpa using ST.out⟩
        case round =>
          clear hk hlt hjl
          obtain ⟨k, av, cv, hk, st⟩ := hrel
          obtain ⟨q0, q1, q2, q3⟩ := st.p3.cells
          have hbs := st.b.size
          have hpl := st.p3.lt
          by_cases hlt : n0 + k < h
          · have HSN : Hid (L1 ++ List.replicate (k + 1) (List.replicate w GC.blank) = (L1 ++ List.replicate k (List.replicate w GC.blank)) ++ [List.replicate w GC.blank]) := Lib.hid (by rw [List.replicate_succ', List.append_assoc])
            obtain ⟨M, hM⟩ : ∃ M, M = List.replicate w GC.blank := ⟨_, rfl⟩
            have hMl : M.length = w := by rw [hM]; simp
            rw [← hM] at CB st HSN
            obtain ⟨L, hL⟩ : ∃ L, L = L1 ++ List.replicate k M := ⟨_, rfl⟩
            rw [← hL] at st HSN
            have HML := Lib.hid hMl
            have HMM := Lib.hid hM
            have HLA := Lib.hid (lenAt_of q2)
            have ST2 := Lib.hid st
            have hlti : ((n0 + k : Nat) : Int) < (h : Int) := by omega
            clear hL hM hMl st
            go_wp2
            refine wp_region_mix [(true, 0), (true, 1), (true, 2), (false, 3), (false, 4), (false, 5), (true, 6), (false, 7)] (fun w' => w'.cell? ⟨W.heap.size + 1 + 1, 2, none⟩ = some (.slice av (n0 + k) cv)) (by kernel_rfl) (by kernel_rfl) (by rfl) (by kernel_rfl) (by kernel_rfl) (fun _ _ d _ _ h => by cases d <;> exact h) q2 ?_
            simp only [mixL, List.getElem?_cons_succ, List.getElem?_cons_zero]
            clear q0 q1 q2 q3
            repeat (refine' wpMix_read (v := _) rfl ?_ ?_; rotate_left 1; (intro w' hw'; go_simp; try with_reducible rfl); try simp only [Act.put, List.setIfInBounds_toArray, List.set_cons_zero, List.set_cons_succ])
            refine wpMix_act (fun K hK => ?_)
            go_wp2_with fail
            refine (CB.out _).mono ?_
            rintro e w3 ⟨a3, c3, rfl, hM3, hc3, hb3⟩
            have hbw3 : Below wr.heap.size wr w3 := (Below.refl _ _).drew.trans hb3
            have ST3 : Hid (RzSt F W W0 H a cap w h (n0 + k) av cv L w3) := Lib.hid (ST2.out.below hbw3 hF)
            go_wp2
            refine hK _ _ (fun _ => ST3.out.p3.cells.2.2.1) ?_
            clear hK K
            refine wpMix_act (fun K hK => ?_)
            have st3 := ST3.out
            have own3 := st3.own
            have stA := st3.below ((Below.refl _ _).alloc (Nat.le_refl _) (.cells #[.slice a3 w c3] 94)) hF
            have STA := Lib.hid stA
            clear stA
            go_wp2
            refine hK _ _ (fun _ => STA.out.p3.cells.2.2.1) ?_
            clear hK K
            refine wpMix_act (fun K hK => ?_)
            have ha3 : ∀ b o, a3 = some ⟨b, o, none⟩ → b < w3.heap.size ∧ (F b ∧ W.heap.size + 1 + 1 < b) ∧ (Value.slice av (n0 + k) cv).ownBlock ≠ some b := fun b o e => by
              obtain ⟨h1, h2⟩ := hc3.2 b o e
              have h3 : wr.heap.size ≤ b := h1
              exact ⟨h2, ⟨hF b (by omega), by omega⟩, fun e2 => by have := (ST2.out.own.own b e2).2; omega⟩
            have hs3 := hbw3.size
            refine wpList_append_row rfl _ _ rfl (fun b => F b ∧ W.heap.size + 1 + 1 < b) (W.heap.size + 1 + 1 + 1) (.slice av (n0 + k) cv) (n0 + k) L rfl (own3.below ((Below.refl _ _).alloc (Nat.le_refl _) _)) w3.heap.size rfl a3 w c3 M (row_one w3 _ _) (hM3.below ((Below.refl _ _).alloc (Nat.le_refl _) _)) HML.out hc3.1 (fun b o e => by obtain ⟨h1, h2⟩ := ha3 b o e; exact ⟨by simp; omega, h2⟩) (by omega) (by simp; omega) ?_
            intro g c' w5 hR5 hg5 hb5
            have hb35 : Below (W.heap.size + 1 + 1 + 1) w3 w5 := ((Below.refl _ _).alloc (by omega) _).trans hb5
            have p35 : GBox w5 (W.heap.size + 1 + 1) w h av (n0 + k) cv := (hb35.block _ (by omega)).trans st3.p3
            refine hK _ _ (fun _ => p35.cells.2.2.1) ?_
            have STN := Lib.hid (st3.step hR5 hb35)
            clear hK K hg5 st3 own3 hR5
            repeat (refine' wpMix_read (v := _) rfl ?_ ?_; rotate_left 1; (intro w' hw'; go_simp; try with_reducible rfl); try simp only [Act.put, List.setIfInBounds_toArray, List.set_cons_zero, List.set_cons_succ])
            refine wpMix_act (fun K hK => ?_)
            obtain ⟨t0, t1, t2, t3⟩ := p35.cells
            go_wp2
            refine hK _ _ (fun h => absurd rfl h) ?_
            clear hK K
            refine wpMix_nil ?_
            have HLB := Lib.hid (lenAt_of STN.out.p3.cells.2.2.1)
            go_wp2
            go_roundw
            case rel => exact ⟨k + 1, some ⟨g, 0, none⟩, c', by omega, by rw [← HMM.out, HSN.out]; exact STN.out⟩
            case measure => rw [HLA.out, HLB.out]; omega
          · have hnk : n0 + k = h := by omega
            have hlti : ¬ ((n0 + k : Nat) : Int) < (h : Int) := by omega
            have hkk : k = h - n0 := by omega
            have st' : RzSt F W W0 H a cap w h h av cv (resizeR H R w h r) wr := by rw [hEND.out, ← hkk]; rw [hnk] at st; exact st
            obtain ⟨Y, hY⟩ : ∃ Y, ((wr.setCell ⟨W.heap.size + 1, 0, none⟩ (.int .i64 w)).setCell ⟨W.heap.size + 1, 1, none⟩ (.int .i64 h)).setCell ⟨W.heap.size + 1, 2, none⟩ (.slice av h cv) = Y := ⟨_, rfl⟩
            obtain ⟨pY, oY⟩ := st'.p2.fill w h h cv av Y hY
            obtain ⟨t0, t1, t2, t3⟩ := st'.p2.cells
            have hRY : ROwn (fun b => F b ∧ W.heap.size + 1 + 1 < b) (W.heap.size + 1 + 1 + 1) Y (.slice av h cv) h (resizeR H R w h r) := by
              rw [← hY]
              exact ((st'.own.setCell (b := W.heap.size + 1) (by omega) (fun h => by omega) 0 _).setCell (b := W.heap.size + 1) (by omega) (fun h => by omega) 1 _).setCell (b := W.heap.size + 1) (by omega) (fun h => by omega) 2 _
            have ROK := G.out.ok.resize w h r
            obtain ⟨h1, h2, h3⟩ := hRY.rows ROK.n (fun b hb => ⟨hF b (by omega), by omega⟩)
            have HY := Lib.hid hY
            have hbY := st'.b.trans (oY.below (by simp) st'.b.size)
            have FIN : Hid (RG F Y av cv w h (resizeR H R w h r) ∧ Below W.heap.size W Y) := Lib.hid ⟨⟨h1.mono (fun b hb _ => hb.1), ROK, h2, h3⟩, hbY⟩
            have pYl := Lib.hid pY.load
            rw [hnk] at q2
            clear hY hRY h1 ROK st st' hnk hkk oY pY hbY hEND
            go_wp2
            rw [HY.out]
            refine bodyPost_ret (results_row3 rfl _ _ (W.heap.size + 1) _ rfl pYl.out) rfl ?_
            exact ⟨av, cv, rfl, FIN.out⟩
end Go.Proofs.Ytekodpcedjpnjaa
