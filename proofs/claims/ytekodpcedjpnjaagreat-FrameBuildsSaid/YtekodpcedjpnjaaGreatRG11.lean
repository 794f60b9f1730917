/- The reference's grid: Erase, Join. No condition. The reference's grid: Join. No condition. The reference's grid: Scroll. No condition. -/
import Derived.Test.YtekodpcedjpnjaaGreatRG8
namespace Go.Proofs.YtekodpcedjpnjaaGreat
set_option linter.unusedVariables false
set_option linter.unusedSimpArgs false
open Go.RowKit Go.Shelf Go.Maps
theorem two_grids (W : World) (w h n cap : Nat) (a : Option Addr) (X : World) (hX : (W.alloc (.cells #[.int .i64 w, .int .i64 h, .slice a n cap] 29)).alloc (.cells #[.int .i64 0, .int .i64 0, .slice none 0 0] 29) = X) :
    GBox X W.heap.size w h a n cap ∧ GBox X (W.heap.size + 1) 0 0 none 0 0 ∧ Below W.heap.size W X ∧ X.heap.size = W.heap.size + 1 + 1 := by
  obtain ⟨X1, h1⟩ : ∃ X1, W.alloc (.cells #[.int .i64 w, .int .i64 h, .slice a n cap] 29) = X1 := ⟨_, rfl⟩
  rw [h1] at hX
  have s1 : X1.heap.size = W.heap.size + 1 := by rw [← h1]; simp
  have b1 : GBox X1 W.heap.size w h a n cap := by rw [← h1]; exact GBox.new W w h n cap a
  have b3 : GBox X (W.heap.size + 1) 0 0 none 0 0 := by rw [← hX, ← s1]; exact GBox.new X1 0 0 0 0 none
  have e2 : Below X1.heap.size X1 X := by rw [← hX]; exact (Below.refl _ _).alloc (Nat.le_refl _) _
  have e0 : Below W.heap.size W X1 := by rw [← h1]; exact (Below.refl _ _).alloc (Nat.le_refl _) _
  exact ⟨b1.below e2, b3, bnext e0 e2, by rw [← hX]; simp [s1]⟩
set_option maxRecDepth 100000 in
set_option maxHeartbeats 4000000 in
theorem rerase_out {F : Nat → Prop} {W : World} {a : Option Addr} {cap w h : Nat} {R : List (List GC)} (g : RG F W a cap w h R) (r x y : Int) (hr : ¬ (0 ≤ r ∧ r < h)) :
    Calls Tryz.prog 98 #[.agg #[.int .i64 w, .int .i64 h, .slice a h cap], .int .i64 r, .int .i64 x, .int .i64 y] W (GPost2 F w h R 5 W) := by
  obtain ⟨X, hX⟩ : ∃ X, (W.alloc (.cells #[.int .i64 w, .int .i64 h, .slice a h cap] 29)).alloc (.cells #[.int .i64 w, .int .i64 h, .slice a h cap] 29) = X := ⟨_, rfl⟩
  have p2 : GBox X (W.heap.size + 1) w h a h cap := by
    have := GBox.new (W.alloc (.cells #[.int .i64 w, .int .i64 h, .slice a h cap] 29)) w h h cap a
    rw [hX] at this
    simpa using this
  have bX : Below W.heap.size W X := by rw [← hX]; exact ((Below.refl _ _).alloc (Nat.le_refl _) _).alloc (by simp) _
  have gX := g.below bX
  have HX := Lib.hid hX
  clear hX g
  go_enter Tryz.func98, Tryz.ntmps98
  go_wp2
  all_goals first | (exfalso; omega) | skip
  all_goals rw [HX.out]
  all_goals refine bodyPost_ret (results_row2 rfl _ _ (W.heap.size + 1) _ rfl p2.load) rfl ?_
  all_goals exact ⟨a, cap, rfl, gX, bX⟩
set_option maxRecDepth 100000 in
set_option maxHeartbeats 8000000 in
theorem rerase_ok {F : Nat → Prop} {W : World} (hF : ∀ b, W.heap.size ≤ b → F b) {a : Option Addr} {cap w h : Nat} {R : List (List GC)} (g : RG F W a cap w h R) (hw5 : 1 ≤ w ∧ w ≤ 1000) (hh5 : h ≤ 1000) (r x y : Int) (hr0 : 0 ≤ r) (hr1 : r < h) :
    Calls Tryz.prog 98 #[.agg #[.int .i64 w, .int .i64 h, .slice a h cap], .int .i64 r, .int .i64 x, .int .i64 y] W (GPost2 F w h (R.set r.toNat (eraseL (nth [] R r.toNat) 0 w x y)) 0 W) := by
  obtain ⟨k, rfl⟩ := Int.eq_ofNat_of_zero_le hr0
  simp only [Int.toNat_natCast]
  have hk : k < h := by omega
  have hRl := g.rows.len
  have hM : R[k]? = some (nth [] R k) := by rw [nth_eq _ _ _ (by omega)]; exact List.getElem?_eq_getElem _
  have hMl := g.ok.at hk
  obtain ⟨M0, hM0⟩ : ∃ M, M = nth [] R k := ⟨_, rfl⟩
  rw [← hM0] at hM hMl ⊢
  obtain ⟨FIN, hFI⟩ : ∃ F, F = eraseL M0 0 w x y := ⟨_, rfl⟩
  obtain ⟨lo, hlo⟩ : ∃ n : Nat, n = (max 0 x).toNat := ⟨_, rfl⟩
  obtain ⟨hi, hhi⟩ : ∃ n : Nat, n = (min y w).toNat := ⟨_, rfl⟩
  have hF0 : FIN = wipes 0 w lo (hi - lo) M0 := by rw [hFI, hlo, hhi]; rfl
  rw [← hFI]
  have hhw : hi ≤ w := by omega
  have HF := Lib.hid hF0
  have HH := Lib.hid hhi
  have HL := Lib.hid hlo
  have HML := Lib.hid hMl
  obtain ⟨X, hX⟩ : ∃ X, (W.alloc (.cells #[.int .i64 w, .int .i64 h, .slice a h cap] 29)).alloc (.cells #[.int .i64 0, .int .i64 0, .slice none 0 0] 29) = X := ⟨_, rfl⟩
  obtain ⟨p1, p2, bX, sX⟩ := two_grids W w h h cap a X hX
  obtain ⟨b, o, a2, c2, rfl, ⟨hb, _⟩, hcell, hc2, hcl, hfa⟩ := g.rows.at_ k _ hM
  rw [hMl] at hcell hc2 hcl
  have hm := g.mx
  have hle := g.le
  have G := Lib.hid (g.mono (F' := fun b => F b ∧ b ≠ W.heap.size + 1) (fun b h1 h2 => ⟨h1, by omega⟩))
  have CB := Lib.hid (fun (X : World) a cap N (h : CellsAt X a w N) i h0 h1 => rblank_any (cap := cap) h (by omega) i h0 h1)
  have HX := Lib.hid hX
  have HCL := Lib.hid hcl
  have HA2 := Lib.hid hfa
  have P1 := Lib.hid p1
  have P2 := Lib.hid p2
  have SX := Lib.hid sX
  obtain ⟨q0, q1, q2, q3⟩ := p1.cells
  have hcases : (0 < x ∧ x = (lo : Int)) ∨ (x ≤ 0 ∧ (0 : Int) = (lo : Int)) := by omega
  obtain ⟨hw1, hw2⟩ := hw5
  clear hFI hF0 hlo hhi hM hMl hM0 hRl hX p1 p2 hcl g hfa sX
  have main : ∀ (i : Int), i = (lo : Int) → (0 < x ∧ i = x ∨ x ≤ 0 ∧ i = 0) → Calls Tryz.prog 98 #[.agg #[.int .i64 w, .int .i64 h, .slice (some ⟨b, o, none⟩) h cap], .int .i64 k, .int .i64 x, .int .i64 y] W (GPost2 F w h (R.set k FIN) 0 W) := by
    intro i hi' hx
    have AA := Lib.hid hi'
    clear hi' hcases
    rcases hx with ⟨hx0, rfl⟩ | ⟨hx0, rfl⟩
    all_goals
      go_enter Tryz.func98, Tryz.ntmps98
      go_wp2
      rw [HX.out]
      go_loopw [11, 10] (fun i lv wr => ∃ (n : Nat) (M : List GC) (av : Option Addr) (cv : Nat), i = .int .i64 n ∧ lv = .slice av w cv ∧ FIN = wipes 0 w n (hi - n) M ∧ CellsAt wr av w M ∧ ((w ≤ cv ∧ cv ≤ maxLen) ∧ ∀ b o, av = some ⟨b, o, none⟩ → b < wr.heap.size ∧ F b ∧ b ≠ W.heap.size + 1) ∧ Below X.heap.size X wr) (fun i _ _ => hi - (intOf i).toNat)
      case atStart => exact ⟨lo, M0, a2, c2, by rw [AA.out], rfl, HF.out, HCL.out.below bX, ⟨hc2, fun b o e => ⟨Nat.lt_of_lt_of_le (HA2.out b o e).1 bX.size, (HA2.out b o e).2, by have := (HA2.out b o e).1; omega⟩⟩, Below.refl _ _⟩
      case round =>
        obtain ⟨n, M, av, cv, rfl, rfl, hf, hMr, ⟨hcv, hav⟩, hbr⟩ := hrel
        have HF2 := Lib.hid hf
        have HAV := Lib.hid hav
        clear hf hav q0 q1 q2 q3
        obtain ⟨q0, q1, q2, q3⟩ := (P1.out.below hbr).cells
        by_cases hn : n < hi
        · have hnw : (n : Int) < (w : Int) := by omega
          have hnb : (n : Int) < y := by have := HH.out; omega
          go_wp2_with (go_at_call 164; refine (CB.out _ _ _ _ hMr _ (by omega) (by omega)).mono ?_; rintro e w3 ⟨a3, c3, rfl, hM3, hc3, hb3⟩)
          all_goals simp only [Int.toNat_natCast] at hM3
          all_goals
            go_roundw
            case rel => exact ⟨n + 1, by omega, _, a3, c3, ⟨rfl, rfl⟩, by rw [HF2.out, show hi - n = (hi - (n + 1)) + 1 by omega]; rfl, hM3, ⟨hc3.1, fun b o e => by obtain ⟨h1, h2⟩ := hc3.2 b o e; have h3 := hbr.size; have h4 := bX.size; have h5 := SX.out; exact ⟨h2, hF b (by omega), by omega⟩⟩, bto hbr hb3 hbr.size⟩
            case measure => simp [intOf]; omega
        · have hnm : y ≤ (n : Int) ∨ (w : Int) ≤ (n : Int) := by have := HH.out; omega
          have hfin : FIN = M := by rw [HF2.out, show hi - n = 0 by omega]; rfl
          have HFIN := Lib.hid hfin
          clear hfin
          have bwr : Below W.heap.size W wr := bto bX hbr bX.size
          have hwr := hbr.size
          have hsx := SX.out
          have CW := Lib.hid (rwith_any (F := fun b => F b ∧ b ≠ W.heap.size + 1) (fun b hb => ⟨hF b (by omega), by omega⟩) (G.out.below bwr) (by omega) (k : Int) (by omega) (by omega) hMr hcv (fun b o e => HAV.out b o e))
          simp only [Int.toNat_natCast] at CW
          have p2r := P2.out.below hbr
          have fin : ∀ w5 a5 c5, RG (fun b => F b ∧ b ≠ W.heap.size + 1) w5 a5 c5 w h (R.set k M) → Below wr.heap.size wr w5 → ∀ Y, ((w5.setCell ⟨W.heap.size + 1, 0, none⟩ (.int .i64 w)).setCell ⟨W.heap.size + 1, 1, none⟩ (.int .i64 h)).setCell ⟨W.heap.size + 1, 2, none⟩ (.slice a5 h c5) = Y → GBox Y (W.heap.size + 1) w h a5 h c5 ∧ RG F Y a5 c5 w h (R.set k FIN) ∧ Below W.heap.size W Y := fun w5 a5 c5 g5 hb5 Y hY => by
            obtain ⟨pY, oY⟩ := (p2r.below hb5).fill w h h c5 a5 Y hY
            have bw5 := bto bwr hb5 bwr.size
            rw [HFIN.out]
            exact ⟨pY, (g5.keep oY.size (fun b hb hlt => oY.block b hlt (by simpa using hb.2))).mono (fun b hb _ => hb.1), bw5.trans (oY.below (by simp) bw5.size)⟩
          have FI := Lib.hid fin
          clear fin
          by_cases hbw : y < (w : Int)
          · have hbn : y ≤ (n : Int) := by omega
            go_wp2_with (go_at_call 166; refine (CW.out).mono ?_; rintro e w5 ⟨a5, c5, rfl, g5, hb5⟩; obtain ⟨t0, t1, t2, t3⟩ := (p2r.below hb5).cells)
            all_goals
              obtain ⟨f1, f2, f3⟩ := FI.out _ _ _ g5 hb5 _ rfl
              refine bodyPost_ret (results_row2 rfl _ _ (W.heap.size + 1) _ rfl f1.load) rfl ?_
              exact ⟨a5, c5, rfl, f2, f3⟩
          · have hwb : (w : Int) ≤ y := by omega
            have hbn : (w : Int) ≤ (n : Int) := by omega
            go_wp2_with (go_at_call 166; refine (CW.out).mono ?_; rintro e w5 ⟨a5, c5, rfl, g5, hb5⟩; obtain ⟨t0, t1, t2, t3⟩ := (p2r.below hb5).cells)
            all_goals
              obtain ⟨f1, f2, f3⟩ := FI.out _ _ _ g5 hb5 _ rfl
              refine bodyPost_ret (results_row2 rfl _ _ (W.heap.size + 1) _ rfl f1.load) rfl ?_
              exact ⟨a5, c5, rfl, f2, f3⟩
  rcases hcases with ⟨h1, h2⟩ | ⟨h1, h2⟩
  · exact main x h2 (.inl ⟨h1, rfl⟩)
  · exact main 0 h2 (.inr ⟨h1, rfl⟩)
theorem rerase_any {F : Nat → Prop} {W : World} (hF : ∀ b, W.heap.size ≤ b → F b) {a : Option Addr} {cap w h : Nat} {R : List (List GC)} (g : RG F W a cap w h R) (hw5 : 1 ≤ w ∧ w ≤ 1000) (hh5 : h ≤ 1000) (r x y : Int) :
    Calls Tryz.prog 98 #[.agg #[.int .i64 w, .int .i64 h, .slice a h cap], .int .i64 r, .int .i64 x, .int .i64 y] W (GPost2 F w h (eraseR w h R r x y) (eraseErr h r) W) := by
  unfold eraseR eraseErr
  by_cases hr : 0 ≤ r ∧ r < h
  · rw [if_pos hr, if_pos hr]; exact rerase_ok hF g hw5 hh5 r x y hr.1 hr.2
  · rw [if_neg hr, if_neg hr]; exact rerase_out g r x y hr
end Go.Proofs.YtekodpcedjpnjaaGreat
namespace Go.Proofs.YtekodpcedjpnjaaGreat
set_option linter.unusedVariables false
set_option linter.unusedSimpArgs false
open Go.RowKit Go.Shelf Go.Maps
/-- A grid, a bool and a number that a call gives. -/
def GPost3 (F : Nat → Prop) (w h : Nat) (R : List (List GC)) (ok : Bool) (err : Int) (W : World) (e : Ending) (w' : World) : Prop := ∃ a c, e = .returned (.tuple #[.agg #[.int .i64 w, .int .i64 h, .slice a h c], .bool ok, .int .i64 err]) ∧ RG F w' a c w h R ∧ Below W.heap.size W w'
def catC (C : GC) (s : ByteArray) : GC := { C with s := C.s ++ s }
theorem catC_set {W : World} {q : Nat} {C : GC} (hb : GBlk W q [C]) (s : ByteArray) : GBlk (W.setCell ⟨q, 0, none⟩ (.string (C.s ++ s))) q [catC C s] ∧ Only [q] W (W.setCell ⟨q, 0, none⟩ (.string (C.s ++ s))) :=
  hb.setS (i := 0) rfl (C.s ++ s) 0 rfl
theorem vals_of {W : World} {q : Nat} {C : GC} (hb : GBlk W q [C]) : (W.cell? ⟨q, 0, none⟩ = some (.string C.s) ∧ W.cell? ⟨q, 1, none⟩ = some (.int .i64 C.w) ∧ W.cell? ⟨q, 2, none⟩ = some (.bool C.y.b) ∧ W.cell? ⟨q, 3, none⟩ = some (.bool C.y.u) ∧ W.cell? ⟨q, 4, none⟩ = some (.bool C.y.i) ∧ W.cell? ⟨q, 5, none⟩ = some (.int .i64 C.y.f) ∧ W.cell? ⟨q, 6, none⟩ = some (.int .i64 C.y.g)) ∧ ∀ j, W.frozen? ⟨q, j, none⟩ = false := by
  have h := hb.range1 (i := 0) (c := C) rfl
  rw [Nat.mul_zero] at h
  exact ⟨vals_at h, hb.frozen⟩
set_option maxRecDepth 100000 in
set_option maxHeartbeats 8000000 in
theorem rjoin_out {F : Nat → Prop} {W : World} {a : Option Addr} {cap w h : Nat} {R : List (List GC)} (g : RG F W a cap w h R) (r c : Int) (s : ByteArray) (hrc : inG w h r c = false) :
    Calls Tryz.prog 222 #[.agg #[.int .i64 w, .int .i64 h, .slice a h cap], .int .i64 r, .int .i64 c, .string s] W (GPost3 F w h R false 5 W) := by
  obtain ⟨X, hX⟩ : ∃ X, (W.alloc (.cells #[.int .i64 w, .int .i64 h, .slice a h cap] 29)).alloc (.cells #[.int .i64 0, .int .i64 0, .slice none 0 0] 29) = X := ⟨_, rfl⟩
  obtain ⟨p1, p2, bX, sX⟩ := two_grids W w h h cap a X hX
  have CT := Lib.hid (fun X => rthere_any w h a h cap r c X)
  rw [hrc] at CT
  have HX := Lib.hid hX
  have G := Lib.hid g
  clear hX g sX
  obtain ⟨q0, q1, q2, q3⟩ := p1.cells
  go_enter Tryz.func222, Tryz.ntmps222
  go_wp2_with fail
  rw [HX.out]
  go_wp2_with fail
  refine (CT.out _).mono ?_
  rintro e w1 ⟨rfl, hb1⟩
  clear q0 q1 q2 q3
  obtain ⟨q0, q1, q2, q3⟩ := (p1.below hb1).cells
  obtain ⟨t0, t1, t2, t3⟩ := (p2.below hb1).cells
  go_wp2
  obtain ⟨Y, hY⟩ : ∃ Y, ((w1.setCell ⟨W.heap.size + 1, 0, none⟩ (.int .i64 w)).setCell ⟨W.heap.size + 1, 1, none⟩ (.int .i64 h)).setCell ⟨W.heap.size + 1, 2, none⟩ (.slice a h cap) = Y := ⟨_, rfl⟩
  obtain ⟨pY, oY⟩ := (p2.below hb1).fill w h h cap a Y hY
  rw [hY]
  have b1 := bto bX hb1 bX.size
  have bY := b1.trans (oY.below (by simp) b1.size)
  refine bodyPost_ret (results_row3 rfl _ _ (W.heap.size + 1) _ rfl pY.load) rfl ?_
  exact ⟨a, cap, rfl, G.out.below bY, bY⟩
set_option maxRecDepth 100000 in
set_option maxHeartbeats 16000000 in
theorem rjoin_in {F : Nat → Prop} {W : World} (hF : ∀ b, W.heap.size ≤ b → F b) {a : Option Addr} {cap w h : Nat} {R : List (List GC)} (g : RG F W a cap w h R) (ro : ROk R) (hw5 : 1 ≤ w ∧ w ≤ 1000) (hh5 : h ≤ 1000) (r c : Int) (s : ByteArray)
    (hr0 : 0 ≤ r) (hr1 : r < h) (hc0 : 0 ≤ c) (hc1 : c < w) :
    Calls Tryz.prog 222 #[.agg #[.int .i64 w, .int .i64 h, .slice a h cap], .int .i64 r, .int .i64 c, .string s] W (GPost3 F w h (joinR w h R r c s) (joinOkR w h R r c s) 0 W) := by
  have e1 : inG w h r c = true := by simp [inG]; omega
  obtain ⟨k, rfl⟩ := Int.eq_ofNat_of_zero_le hr0
  obtain ⟨m0, rfl⟩ := Int.eq_ofNat_of_zero_le hc0
  have hk : k < h := by omega
  have hRl := g.rows.len
  have hM : R[k]? = some (nth [] R k) := by rw [nth_eq _ _ _ (by omega)]; exact List.getElem?_eq_getElem _
  have hMl := g.ok.at hk
  have hS := ro.at k
  obtain ⟨z, hz0⟩ : ∃ z, z = joinOkR w h R (k : Int) (m0 : Int) s := ⟨_, rfl⟩
  unfold joinR
  rw [← hz0]
  simp only [Int.toNat_natCast]
  have hz : z = decide ((s.size : Int) ≤ 64 - ((nth GC.zero (nth [] R k) (joinAt (nth [] R k) 0 m0)).s.size : Int)) := by rw [hz0]; unfold joinOkR; rw [e1, Bool.true_and]; rfl
  clear hz0
  obtain ⟨M, hMM⟩ : ∃ M, M = nth [] R k := ⟨_, rfl⟩
  rw [← hMM] at hM hMl hS hz ⊢
  obtain ⟨m, hm⟩ : ∃ m, m = joinAt M 0 m0 := ⟨_, rfl⟩
  have hml : m ≤ m0 := by rw [hm]; exact joinAt_le _ _ _
  have hmw : m < w := by omega
  obtain ⟨D, hD⟩ : ∃ D, D = nth GC.zero M m0 := ⟨_, rfl⟩
  obtain ⟨C, hC⟩ : ∃ C, C = nth GC.zero M m := ⟨_, rfl⟩
  have hDi : M[m0]? = some D := by rw [hD, nth_eq _ _ _ (by omega)]; exact List.getElem?_eq_getElem _
  have hCi : M[m]? = some C := by rw [hC, nth_eq _ _ _ (by omega)]; exact List.getElem?_eq_getElem _
  have hCs : C.s.size ≤ 64 := hS C (List.mem_of_getElem? hCi)
  have hcond : (D.w = 0 ∧ 0 < m0 ∧ m + 1 = m0) ∨ ((m0 = 0 ∨ ¬ D.w = 0) ∧ m = m0) := by
    unfold joinAt at hm
    rw [Nat.zero_add, ← hD] at hm
    by_cases h1 : D.w = 0 ∧ 0 < m0
    · rw [if_pos h1] at hm; exact .inl ⟨h1.1, h1.2, by omega⟩
    · rw [if_neg h1] at hm; exact .inr ⟨by omega, hm⟩
  have hjl : joinL M 0 m0 s = M.set m (catC C s) := by unfold joinL catC; rw [← hm, Nat.zero_add, ← hC]
  rw [hjl]
  rw [← hm, ← hC] at hz
  obtain ⟨X, hX⟩ : ∃ X, (W.alloc (.cells #[.int .i64 w, .int .i64 h, .slice a h cap] 29)).alloc (.cells #[.int .i64 0, .int .i64 0, .slice none 0 0] 29) = X := ⟨_, rfl⟩
  obtain ⟨p1, p2, bX, sX⟩ := two_grids W w h h cap a X hX
  have CT := Lib.hid (fun X => rthere_any w h a h cap (k : Int) (m0 : Int) X)
  rw [e1] at CT
  obtain ⟨b, o, a2, c2, rfl, ⟨hb, _⟩, hcell, hc2, hcl, hfa⟩ := g.rows.at_ k _ hM
  rw [hMl] at hcell hc2 hcl
  obtain ⟨b2, o2, rfl, hb2, hDr⟩ := hcl.at_ m0 D hDi
  obtain ⟨b2', o2', e2, _, hCr⟩ := hcl.at_ m C hCi
  cases e2
  have hx := hDr 1 _ rfl
  have hle := g.le
  have hmx := g.mx
  have G := Lib.hid g
  have G2 := Lib.hid (g.mono (F' := fun b => F b ∧ b ≠ W.heap.size + 1) (fun b h1 h2 => ⟨h1, by omega⟩))
  have HX := Lib.hid hX
  have SX := Lib.hid sX
  have HCL := Lib.hid hcl
  have HCE := Lib.hid hcell
  have HXX := Lib.hid hx
  have HCR := Lib.hid hCr
  have P1 := Lib.hid p1
  have P2 := Lib.hid p2
  obtain ⟨xw, hxw⟩ : ∃ x, x = D.w := ⟨_, rfl⟩
  rw [← hxw] at HXX hcond
  have HZ := Lib.hid hz
  obtain ⟨hw1, hw2⟩ := hw5
  have hk0 : ¬ (k : Int) < 0 := by omega
  have HA2 := Lib.hid hfa
  clear hX sX hcl hcell hx hCr hDr g p1 p2 hDi hCi hMM hM hMl hRl hD hC hxw hz hjl hm hS e1 ro hr0 hr1 hfa
  have hcond2 : (xw = 0 ∧ 0 < m0 ∧ (m0 : Int) - 1 = (m : Int)) ∨ (xw = 0 ∧ m0 = 0 ∧ m = 0) ∨ ((xw == 0) = false ∧ m = m0) := by
    rcases hcond with ⟨h1, h2, h3⟩ | ⟨h1, h2⟩
    · exact .inl ⟨h1, h2, by omega⟩
    · by_cases h3 : xw = 0
      · exact .inr (.inl ⟨h3, by omega, by omega⟩)
      · exact .inr (.inr ⟨by simpa using h3, h2⟩)
  have pre : ∀ w1, Below X.heap.size X w1 → Below W.heap.size W w1 ∧ w1.cell? ⟨b, o + k, none⟩ = some (.slice (some ⟨b2, o2, none⟩) w c2) ∧ w1.cell? ⟨b2, o2 + m0 * 7 + 1, none⟩ = some (.int .i64 xw) ∧ Hid (w1.rangeAt b2 (o2 + m * 7) C.vals) := fun w1 hb1 => by
    have bw1 : Below W.heap.size W w1 := bto bX hb1 bX.size
    exact ⟨bw1, (bw1.cell (p := ⟨b, o + k, none⟩) hb).trans HCE.out, (bw1.cell (p := ⟨b2, o2 + m0 * 7 + 1, none⟩) hb2).trans HXX.out, Lib.hid (fun j v hv => (bw1.cell (p := ⟨b2, _, none⟩) hb2).trans (HCR.out j v hv))⟩
  have PRE := Lib.hid pre
  have cs : ∀ (X : World) a cap N (h : CellsAt X a w N), Calls Tryz.prog 165 #[.slice a w cap, .int .i64 m, .agg #[.string (C.s ++ s), .int .i64 C.w, .bool C.y.b, .bool C.y.u, .bool C.y.i, .int .i64 C.y.f, .int .i64 C.y.g]] X (RowPost w (N.set m (catC C s)) X) := fun X a cap N h => by
    have := rset_any (cap := cap) h (by omega) (m : Int) (by omega) (by omega) (catC C s)
    simpa [catC] using this
  have CS := Lib.hid cs
  clear hcond pre cs
  cases z with
  | false =>
    rw [if_neg (by decide)]
    have hz2 : (64 : Int) - (C.s.size : Int) < (s.size : Int) := by have := HZ.out; simpa using this.symm
    have hz3 : 64 < s.size ∨ 64 < C.s.size + s.size := by omega
    clear hz2
    rcases hcond2 with ⟨rfl, hc3, hc4⟩ | ⟨rfl, rfl, rfl⟩ | ⟨hc3, rfl⟩
    all_goals
      obtain ⟨q0, q1, q2, q3⟩ := P1.out.cells
      go_enter Tryz.func222, Tryz.ntmps222
      go_wp2_with fail
      rw [HX.out]
      go_wp2_with fail
      refine (CT.out _).mono ?_
      rintro e w1 ⟨rfl, hb1⟩
      clear q0 q1 q2 q3
      obtain ⟨q0, q1, q2, q3⟩ := (P1.out.below hb1).cells
      obtain ⟨bw1, hce1, hx1, HR1⟩ := PRE.out w1 hb1
      have gz := GBlk.made w1 [GC.zero]
      go_wp2_with (first
        | (refine wpList_gload rfl _ rfl b2 _ rfl C HR1.out ?_)
        | (refine wpList_gstore rfl _ _ rfl w1.heap.size _ rfl C rfl _ gz 0 (by omega) (by simp) ?_; intro w2 gz2 oz2; obtain ⟨⟨y0, y1, y2, y3, y4, y5, y6⟩, yf⟩ := vals_of gz2; have hb2w : Below w1.heap.size w1 w2 := ((Below.refl _ _).alloc (Nat.le_refl _) _).trans (oz2.below (by simp) (by simp)); clear q0 q1 q2 q3; obtain ⟨q0, q1, q2, q3⟩ := ((P1.out.below hb1).below hb2w).cells; obtain ⟨t0, t1, t2, t3⟩ := ((P2.out.below hb1).below hb2w).cells))
      all_goals first | (exfalso; omega) | skip
      all_goals
        obtain ⟨Y, hY⟩ : ∃ Y, ((w2.setCell ⟨W.heap.size + 1, 0, none⟩ (.int .i64 w)).setCell ⟨W.heap.size + 1, 1, none⟩ (.int .i64 h)).setCell ⟨W.heap.size + 1, 2, none⟩ (.slice (some ⟨b, o, none⟩) h cap) = Y := ⟨_, rfl⟩
        obtain ⟨pY, oY⟩ := ((P2.out.below hb1).below hb2w).fill w h h cap (some ⟨b, o, none⟩) Y hY
        rw [hY]
        have b1 := bto bw1 hb2w bw1.size
        have bY := b1.trans (oY.below (by simp) b1.size)
        refine bodyPost_ret (results_row3 rfl _ _ (W.heap.size + 1) _ rfl pY.load) rfl ?_
        exact ⟨_, cap, rfl, G.out.below bY, bY⟩
  | true =>
    rw [if_pos rfl]
    have hz2 : (s.size : Int) ≤ (64 : Int) - (C.s.size : Int) := by have := HZ.out; simpa using this.symm
    have hz3 : s.size ≤ 64 ∧ C.s.size + s.size ≤ 64 := by omega
    obtain ⟨hz4, hz5⟩ := hz3
    clear hz2
    rcases hcond2 with ⟨rfl, hc3, hc4⟩ | ⟨rfl, rfl, rfl⟩ | ⟨hc3, rfl⟩
    all_goals
      obtain ⟨q0, q1, q2, q3⟩ := P1.out.cells
      go_enter Tryz.func222, Tryz.ntmps222
      go_wp2_with fail
      rw [HX.out]
      go_wp2_with fail
      refine (CT.out _).mono ?_
      rintro e w1 ⟨rfl, hb1⟩
      clear q0 q1 q2 q3
      obtain ⟨q0, q1, q2, q3⟩ := (P1.out.below hb1).cells
      obtain ⟨bw1, hce1, hx1, HR1⟩ := PRE.out w1 hb1
      have gz := GBlk.made w1 [GC.zero]
      go_wp2_with (first
        | (refine wpList_gload rfl _ rfl b2 _ rfl C HR1.out ?_)
        | (refine wpList_gstore rfl _ _ rfl w1.heap.size _ rfl C rfl _ gz 0 (by omega) (by simp) ?_; intro w2 gz2 oz2; obtain ⟨⟨y0, y1, y2, y3, y4, y5, y6⟩, yf⟩ := vals_of gz2; have hb2w : Below w1.heap.size w1 w2 := ((Below.refl _ _).alloc (Nat.le_refl _) _).trans (oz2.below (by simp) (by simp)); clear q0 q1 q2 q3; obtain ⟨q0, q1, q2, q3⟩ := ((P1.out.below hb1).below hb2w).cells; obtain ⟨t0, t1, t2, t3⟩ := ((P2.out.below hb1).below hb2w).cells))
      all_goals first | (exfalso; omega) | skip
      all_goals
        obtain ⟨gz3, oz3⟩ := catC_set gz2 s
        obtain ⟨w3, hw3⟩ : ∃ w3, w2.setCell ⟨w1.heap.size, 0, none⟩ (.string (C.s ++ s)) = w3 := ⟨_, rfl⟩
        rw [hw3] at gz3 oz3 ⊢
        have hsx := SX.out
        have hs1 := hb1.size
        have hb3w : Below w1.heap.size w1 w3 := hb2w.trans (oz3.below (by simp) hb2w.size)
        have bw3 : Below W.heap.size W w3 := bto bw1 hb3w bw1.size
        have p1w := (P1.out.below hb1).below hb3w
        have p2w := (P2.out.below hb1).below hb3w
        clear q0 q1 q2 q3 t0 t1 t2 t3 y0 y1 y2 y3 y4 y5 y6 yf hw3
        have hm3 := HCL.out.below bw3
        refine wp_region_mix [(true, 0), (true, 1), (true, 2), (true, 3), (true, 4), (false, 5), (false, 6), (false, 7), (false, 8), (false, 9)] (fun w' => GBox w' W.heap.size w h (some ⟨b, o, none⟩) h cap ∧ GBlk w' w1.heap.size [catC C s]) (by kernel_rfl) (by kernel_rfl) (by rfl) (by kernel_rfl) (by kernel_rfl) (fun _ _ d _ _ h => by cases d <;> exact h) ⟨p1w, gz3⟩ ?_
        simp only [mixL, List.getElem?_cons_succ, List.getElem?_cons_zero]
        repeat (refine' wpMix_read (v := _) rfl ?_ ?_; rotate_left 1; (intro w' hw'; obtain ⟨x0, x1, x2, x3⟩ := hw'.1.cells; obtain ⟨⟨y0, y1, y2, y3, y4, y5, y6⟩, yf⟩ := vals_of hw'.2; go_simp; try with_reducible rfl); try simp only [Act.put, List.setIfInBounds_toArray, List.set_cons_zero, List.set_cons_succ])
        refine wpMix_act (fun K hK => ?_)
        go_wp2_with fail
        refine (CS.out _ _ _ _ (hm3.below (Below.refl _ _).drew)).mono ?_
        rintro e w4 ⟨a4, c4, rfl, hM4, hc4, hb4⟩
        have hb4' : Below w3.heap.size w3 w4 := (Below.refl _ _).drew.trans hb4
        have bw4 : Below W.heap.size W w4 := bto bw3 hb4' bw3.size
        have hs4 := hb4'.size
        have hs3 := hb3w.size
        have g4 : GBlk w4 w1.heap.size [catC C s] := gz3.only (Only.of_below (S := []) hb4') (by simp)
        go_wp2
        refine hK _ _ (fun _ => ⟨p1w.below hb4', g4⟩) ?_
        clear hK K
        refine wpMix_act (fun K hK => ?_)
        have hF4 : ∀ b, w3.heap.size ≤ b → F b ∧ b ≠ W.heap.size + 1 := fun b hb => ⟨hF b (by omega), by omega⟩
        have CW := Lib.hid (rwith_any (F := fun b => F b ∧ b ≠ W.heap.size + 1) (fun b hb => hF4 b (by omega)) (G2.out.below bw4) (by omega) (k : Int) (by omega) (by omega) hM4 hc4.1 (fun b o e => ⟨(hc4.2 b o e).2, hF4 b (hc4.2 b o e).1⟩))
        go_wp2_with fail
        refine (CW.out).mono ?_
        rintro e w5 ⟨a5, c5, rfl, g5, hb5⟩
        have b35 : Below w3.heap.size w3 w5 := bto hb4' hb5 hb4'.size
        have bw5 : Below W.heap.size W w5 := bto bw3 b35 bw3.size
        have p1x := p1w.below b35
        have p2x := p2w.below b35
        have g5b := g4.only (Only.of_below (S := []) hb5) (by simp)
        go_wp2
        refine hK _ _ (fun _ => ⟨p1x, g5b⟩) ?_
        clear hK K
        refine wpMix_act (fun K hK => ?_)
        obtain ⟨t0, t1, t2, t3⟩ := p2x.cells
        go_wp2
        obtain ⟨Y, hY⟩ : ∃ Y, ((w5.setCell ⟨W.heap.size + 1, 0, none⟩ (.int .i64 w)).setCell ⟨W.heap.size + 1, 1, none⟩ (.int .i64 h)).setCell ⟨W.heap.size + 1, 2, none⟩ (.slice a5 h c5) = Y := ⟨_, rfl⟩
        obtain ⟨pY, oY⟩ := p2x.fill w h h c5 a5 Y hY
        rw [hY]
        have b5Y : Below W.heap.size w5 Y := oY.below (by simp) bw5.size
        have p1y := p1x.only oY (by simp)
        have g5y := g5b.only oY (by simp; omega)
        refine hK _ _ (fun _ => ⟨p1y, g5y⟩) ?_
        clear hK K t0 t1 t2 t3
        refine wpMix_act (fun K hK => ?_)
        go_wp2
        refine hK _ _ (fun _ => ⟨p1y, g5y⟩) ?_
        clear hK K
        refine wpMix_act (fun K hK => ?_)
        go_wp2
        refine hK _ _ (fun h => absurd rfl h) ?_
        clear hK K
        refine wpMix_nil ?_
        go_wp2
        refine bodyPost_ret (results_row3 rfl _ _ (W.heap.size + 1) _ rfl pY.load) rfl ?_
        have g6 := (g5.keep oY.size (fun b hb hlt => oY.block b hlt (by simpa using hb.2))).mono (F' := F) (fun b hb _ => hb.1)
        simp only [Int.toNat_natCast] at g6
        exact ⟨a5, c5, rfl, g6, bw5.trans b5Y⟩
theorem rjoin_any {F : Nat → Prop} {W : World} (hF : ∀ b, W.heap.size ≤ b → F b) {a : Option Addr} {cap w h : Nat} {R : List (List GC)} (g : RG F W a cap w h R) (ro : ROk R) (hw5 : 1 ≤ w ∧ w ≤ 1000) (hh5 : h ≤ 1000) (r c : Int) (s : ByteArray) :
    Calls Tryz.prog 222 #[.agg #[.int .i64 w, .int .i64 h, .slice a h cap], .int .i64 r, .int .i64 c, .string s] W (GPost3 F w h (joinR w h R r c s) (joinOkR w h R r c s) (joinErr w h r c) W) := by
  unfold joinErr
  cases hi : inG w h r c with
  | true =>
    obtain ⟨h1, h2, h3, h4⟩ := inG_iff.1 hi
    exact rjoin_in hF g ro hw5 hh5 r c s h1 h2 h3 h4
  | false =>
    have h2 : joinOkR w h R r c s = false := by unfold joinOkR; rw [hi]; rfl
    unfold joinR
    rw [h2]
    exact rjoin_out g r c s hi
end Go.Proofs.YtekodpcedjpnjaaGreat
namespace Go.Proofs.YtekodpcedjpnjaaGreat
set_option linter.unusedVariables false
set_option linter.unusedSimpArgs false
open Go.RowKit Go.Shelf Go.Maps
/-- The rows that are kept. -/
def ScrP (F : Nat → Prop) (W : World) (w h : Nat) (a : Option Addr) (cap e : Nat) (R : List (List GC)) (v : Value) (X : World) : Prop :=
  ∃ av cv, v = .slice av e cv ∧ ROwn (fun b => F b ∧ b ≠ W.heap.size ∧ b ≠ W.heap.size + 1) (W.heap.size + 1 + 1) X (.slice av e cv) e R ∧ GBox X W.heap.size w h a h cap ∧ GBox X (W.heap.size + 1) 0 0 none 0 0 ∧ Below W.heap.size W X
theorem ScrP.of {F : Nat → Prop} {W X3 w1 : World} {w h cap e : Nat} {a : Option Addr} {vs : List Value} {R : List (List GC)} {v' : Value} {g0 : Nat} (hv : VRows (fun b => F b ∧ b < W.heap.size) X3 vs R) (p1 : GBox X3 W.heap.size w h a h cap) (p2 : GBox X3 (W.heap.size + 1) 0 0 none 0 0) (bw : Below W.heap.size W X3)
    (hs : W.heap.size + 1 + 1 ≤ X3.heap.size) (hg0 : W.heap.size + 1 + 1 ≤ g0) (hown : w1.ownsRow (W.heap.size + 1 + 1) 169 1 v' e vs) (hgr : X3.grownBy w1 (some g0)) : ScrP F W w h a cap e R v' w1 := by
  obtain ⟨av, cv, rfl⟩ := own_sliceF hown
  have hB : Below (W.heap.size + 1 + 1) X3 w1 := (Below.refl _ X3).grown hgr hs (fun k e => by cases e; exact hg0)
  refine ⟨av, cv, rfl, ⟨vs, _, hown, hv.keep hB.size (fun b hb _ => hB.block b (by omega)), fun b hb => ⟨hb.1, by omega, by omega⟩, fun g hg hb => by have := (own_cells hown g hg).1; omega⟩, (hB.block _ (by omega)).trans p1, (hB.block _ (by omega)).trans p2, bw.trans (hB.mono (by omega))⟩
set_option maxRecDepth 100000 in
set_option maxHeartbeats 16000000 in
theorem rscroll_any {F : Nat → Prop} {W : World} (hF : ∀ b, W.heap.size ≤ b → F b) {a : Option Addr} {cap w h : Nat} {R : List (List GC)} (g : RG F W a cap w h R) (hw5 : 1 ≤ w ∧ w ≤ 500) (hh5 : 1 ≤ h ∧ h ≤ 500) (n : Int) (m : Nat) (hm : (m : Int) = max 0 (min n h)) :
    Calls Tryz.prog 256 #[.agg #[.int .i64 w, .int .i64 h, .slice a h cap], .int .i64 n] W (GPost2 F w h (scrollR w R m) m W) := by
  obtain ⟨i0, hi, hz0, hz1, hz2⟩ := info_parts infoRow
  have hmh : m ≤ h := by omega
  have hRl := g.rows.len
  obtain ⟨b, o, rfl, hbl⟩ := g.rows.addr hh5.1
  have hrows := g.rows.mono (F' := fun b => F b ∧ b < W.heap.size) (fun b h1 h2 => ⟨h1, h2⟩)
  obtain ⟨vs, hv, hrow⟩ := hrows.vals
  have hvl := hv.len
  rw [hRl] at hvl
  have hle := g.le
  have hmx := g.mx
  obtain ⟨X, hX⟩ : ∃ X, (W.alloc (.cells #[.int .i64 w, .int .i64 h, .slice (some ⟨b, o, none⟩) h cap] 29)).alloc (.cells #[.int .i64 0, .int .i64 0, .slice none 0 0] 29) = X := ⟨_, rfl⟩
  obtain ⟨p1, p2, bX, sX⟩ := two_grids W w h h cap _ X hX
  obtain ⟨X3, hX3⟩ : ∃ X3, X.alloc (.cells #[] 169) = X3 := ⟨_, rfl⟩
  have s3 : X3.heap.size = W.heap.size + 1 + 1 + 1 := by rw [← hX3]; simp [sX]
  have b3 : Below X.heap.size X X3 := by rw [← hX3]; exact (Below.refl _ _).alloc (Nat.le_refl _) _
  have ho := World.ownsRow_made (base := W.heap.size + 1 + 1) (e := 169) (size := 1) X #[] 0 (by omega) (by unfold maxLen; omega) rfl
  rw [hX3, sX] at ho
  have bw3 := bto bX b3 bX.size
  have p1x := p1.below b3
  have p2x := p2.below b3
  have hnews := (hrow.below bw3).news
  have hv3 := (hv.below bw3).drop m
  have CB := Lib.hid (fun X => rblanks_any w (by omega) X)
  have HX := Lib.hid hX
  have HX3 := Lib.hid hX3
  have S3 := Lib.hid s3
  have OK := Lib.hid g.ok
  have HV := Lib.hid hvl
  have HV3 := Lib.hid hv3
  have P1 := Lib.hid p1
  have P2 := Lib.hid p2
  have SX := Lib.hid sX
  obtain ⟨hw1, hw2⟩ := hw5
  obtain ⟨hh1, hh2⟩ := hh5
  -- the rows that stay
  have hdrop : ∀ ad, (ad = (⟨b, o, none⟩ : Addr) ∧ m = cap ∨ ad = ⟨b, o + m, none⟩ ∧ m < cap) → ∀ j u, (vs.drop m)[j]? = some u → X3.cell? (ad.add j) = some u := fun ad h j u hj => by
    have hjl := (List.getElem?_eq_some_iff.1 hj).1
    rw [List.length_drop] at hjl
    rcases h with ⟨_, h2⟩ | ⟨rfl, _⟩
    · omega
    · rw [List.getElem?_drop] at hj
      have := hnews (m + j) u hj
      rw [Go.WideShapes.add_plain] at this ⊢
      rw [Nat.add_assoc]; exact this
  have HD := Lib.hid hdrop
  have hone : ∀ u ∈ vs.drop m, u.oneCell' = true := fun u hu => hv.one u (List.mem_of_mem_drop hu)
  clear hX hX3 hv hrow hrows hvl hRl p1 p2 b3 hnews hv3 hdrop sX bX s3 g
  have hcap : m = cap ∨ m < cap := by omega
  have hcases : (n ≤ 0 ∧ m = 0) ∨ (0 < n ∧ n ≤ (h : Int) ∧ n = (m : Int)) ∨ (0 < n ∧ (h : Int) < n ∧ m = h) := by omega
  obtain ⟨e, he⟩ : ∃ e, e = h - m := ⟨_, rfl⟩
  have hem : e + m = h := by omega
  have HEM := Lib.hid hem
  have HE := Lib.hid he
  clear hm hem he
  go_enter Tryz.func256, Tryz.ntmps256
  go_upto_region 2 with (fail)
  go_cut [6, 7] (fun u v wx => u = .int .i64 m ∧ ScrP F W w h (some ⟨b, o, none⟩) cap e (R.drop m) v wx)
  case first =>
    have hown0 : X3.ownsRow (W.heap.size + 1 + 1) 169 1 (.slice (some ⟨W.heap.size + 1 + 1, 0, none⟩) 0 0) 0 [] := ho
    rcases hcases with ⟨h1, rfl⟩ | ⟨h1, h2, rfl⟩ | ⟨h1, h2, rfl⟩
    · have hnew := HD.out ⟨b, o, none⟩ (.inr ⟨rfl, by omega⟩)
      rw [List.drop_zero] at hnew hone
      go_wp2_with (at_builtin; rw [HX.out, HX3.out]; go_loud (refine wpList_append_own_at _ rfl _ _ 27 rfl (W.heap.size + 1 + 1) 169 i0 (.agg #[.slice none 0 0]) 1 24 Tryz.underlying27 hi hz0 hz1 hz2 rfl (by decide) _ 0 [] rfl hown0 ⟨b, o, none⟩ h cap vs rfl (by rw [HV.out, Nat.mul_one]) hnew hone (by unfold maxLen; omega) (by omega) (by have := S3.out; omega) ?_; skip))
      intro v' w1 hown' hgrow _ hob
      try rw [Nat.zero_add, List.nil_append] at hown'
      go_wp2
      go_meet
      exact ⟨rfl, ScrP.of HV3.out p1x p2x bw3 (by have := S3.out; omega) (Nat.le_refl _) (by rw [HE.out]; exact hown') hgrow⟩
    · rcases hcap with h3 | h3
      · subst h3
        obtain rfl : h = m := by omega
        have he0 : e = 0 := by have := HE.out; omega
        subst he0
        have hd0 : R.drop h = [] := List.drop_eq_nil_of_le (by rw [OK.out.n]; exact Nat.le_refl _)
        have HS0 : Hid (ScrP F W w h (some ⟨b, o, none⟩) h 0 (R.drop h) (.slice (some ⟨W.heap.size + 1 + 1, 0, none⟩) 0 0) X3) := Lib.hid (by
            rw [hd0]
            exact ⟨_, _, rfl, ⟨[], fun _ => False, ho, VRows.nil _ _, fun _ h => h.elim, fun _ _ h => h⟩, p1x, p2x, bw3⟩)
        clear HE HEM hd0
        go_wp2
        all_goals
          go_meet
          exact ⟨rfl, by rw [HX.out, HX3.out]; exact HS0.out⟩
      · have hnew := HD.out ⟨b, o + m, none⟩ (.inr ⟨rfl, h3⟩)
        have hne : ¬ cap = m := by omega
        go_wp2_with (at_builtin; rw [HX.out, HX3.out]; go_loud (refine wpList_append_own_at _ rfl _ _ 27 rfl (W.heap.size + 1 + 1) 169 i0 (.agg #[.slice none 0 0]) 1 24 Tryz.underlying27 hi hz0 hz1 hz2 rfl (by decide) _ 0 [] rfl hown0 ⟨b, o + m, none⟩ (h - m) (cap - m) (vs.drop m) rfl (by rw [List.length_drop, HV.out, Nat.mul_one]) hnew hone (by unfold maxLen; omega) (by omega) (by have := S3.out; omega) ?_; skip))
        intro v' w1 hown' hgrow _ hob
        try rw [Nat.zero_add, List.nil_append] at hown'
        go_wp2
        go_meet
        exact ⟨rfl, ScrP.of HV3.out p1x p2x bw3 (by have := S3.out; omega) (Nat.le_refl _) (by rw [HE.out]; exact hown') hgrow⟩
    · have he0 : e = 0 := by have := HE.out; omega
      subst he0
      have hd0 : R.drop m = [] := List.drop_eq_nil_of_le (by rw [OK.out.n]; exact Nat.le_refl _)
      have HS0 : Hid (ScrP F W w m (some ⟨b, o, none⟩) cap 0 (R.drop m) (.slice (some ⟨W.heap.size + 1 + 1, 0, none⟩) 0 0) X3) := Lib.hid (by
        rw [hd0]
        exact ⟨_, _, rfl, ⟨[], fun _ => False, ho, VRows.nil _ _, fun _ h => h.elim, fun _ _ h => h⟩, p1x, p2x, bw3⟩)
      clear HE HEM hd0
      rcases hcap with h3 | h3
      · subst h3
        go_wp2
        all_goals
          go_meet
          exact ⟨congrArg (Value.int _) (by omega), by rw [HX.out, HX3.out]; exact HS0.out⟩
      · have hne : ¬ cap = m := by omega
        go_wp2
        all_goals
          go_meet
          exact ⟨congrArg (Value.int _) (by omega), by rw [HX.out, HX3.out]; exact HS0.out⟩
  case rest =>
    obtain ⟨rfl, av, cv, rfl, hR, g1, g2, hb⟩ := hcut
    clear hcases hcap HD HV3 p1x p2x bw3 hone P1 P2 SX ho HX HX3 S3
    go_wp2
    go_loopw [8, 7] (fun i v wr => ∃ (j : Nat) (av : Option Addr) (cv : Nat), j ≤ m ∧ i = .int .i64 j ∧ v = .slice av (e + j) cv ∧ ROwn (fun b => F b ∧ b ≠ W.heap.size ∧ b ≠ W.heap.size + 1) (W.heap.size + 1 + 1) wr (.slice av (e + j) cv) (e + j) (R.drop m ++ List.replicate j (List.replicate w GC.blank)) ∧ GBox wr W.heap.size w h (some ⟨b, o, none⟩) h cap ∧ GBox wr (W.heap.size + 1) 0 0 none 0 0 ∧ Below W.heap.size W wr) (fun i _ _ => m - (intOf i).toNat)
    case atStart => exact ⟨0, av, cv, Nat.zero_le _, rfl, rfl, by simpa using hR, g1, g2, hb⟩
    case round =>
      obtain ⟨j, av, cv, hj, rfl, rfl, hR, g1, g2, hb⟩ := hrel
      obtain ⟨q0, q1, q2, q3⟩ := g1.cells
      have hlt1 := g2.lt
      by_cases hlt : j < m
      · have HSN : Hid (R.drop m ++ List.replicate (j + 1) (List.replicate w GC.blank) = R.drop m ++ List.replicate j (List.replicate w GC.blank) ++ [List.replicate w GC.blank]) := Lib.hid (by rw [List.replicate_succ', List.append_assoc])
        have hMl : (List.replicate w GC.blank).length = w := by simp
        obtain ⟨M, hM⟩ : ∃ M, M = List.replicate w GC.blank := ⟨_, rfl⟩
        rw [← hM] at CB hR HSN hMl
        obtain ⟨Q, hQ⟩ : ∃ Q, Q = R.drop m ++ List.replicate j M := ⟨_, rfl⟩
        rw [← hQ] at hR HSN
        have HML := Lib.hid hMl
        have HMM := Lib.hid hM
        clear hQ hM hMl
        go_wp2_with fail
        refine (CB.out _).mono ?_
        rintro e' w3 ⟨a3, c3, rfl, hM3, hc3, hb3⟩
        have ha3 : ∀ b o, a3 = some ⟨b, o, none⟩ → b < w3.heap.size ∧ (F b ∧ b ≠ W.heap.size ∧ b ≠ W.heap.size + 1) ∧ (Value.slice av (e + j) cv).ownBlock ≠ some b := fun b o e' => by
          obtain ⟨h1, h2⟩ := hc3.2 b o e'
          exact ⟨h2, ⟨hF b (by have := hb.size; omega), by omega, by omega⟩, fun e2 => by have := (hR.own b e2).2; omega⟩
        have hs3 := hb3.size
        have hem := HEM.out
        go_wp2_with (at_builtin; refine wpList_append_row rfl _ _ rfl (fun b => F b ∧ b ≠ W.heap.size ∧ b ≠ W.heap.size + 1) (W.heap.size + 1 + 1) (.slice av (e + j) cv) (e + j) Q rfl ((hR.below hb3).below ((Below.refl _ _).alloc (Nat.le_refl _) _)) w3.heap.size rfl a3 w c3 M (row_one w3 _ _) (hM3.below ((Below.refl _ _).alloc (Nat.le_refl _) _)) HML.out hc3.1 (fun b o e => by obtain ⟨h1, h2⟩ := ha3 b o e; exact ⟨by simp; omega, h2⟩) (by omega) (by simp; omega) ?_; intro g c' w5 hR5 hg5 hb5)
        have hb35 : Below (W.heap.size + 1 + 1) w3 w5 := ((Below.refl _ _).alloc (by omega) _).trans hb5
        have g15 : GBox w5 W.heap.size w h (some ⟨b, o, none⟩) h cap := (hb35.block _ (by omega)).trans (g1.below hb3)
        have g25 : GBox w5 (W.heap.size + 1) 0 0 none 0 0 := (hb35.block _ (by omega)).trans (g2.below hb3)
        have hbw5 : Below W.heap.size W w5 := (bto hb hb3 hb.size).trans (hb35.mono (by omega))
        clear hg5 hem
        go_roundw
        case rel => exact ⟨j + 1, some ⟨g, 0, none⟩, c', hlt, by go_num, rfl, by rw [← HMM.out, HSN.out]; exact hR5, g15, g25, hbw5⟩
        case measure => simp [intOf]; omega
      · obtain rfl : j = m := by omega
        rw [HEM.out] at hR ⊢
        obtain ⟨t0, t1, t2, t3⟩ := g2.cells
        obtain ⟨pZ, oZ⟩ := g1.set2 h cv av
        obtain ⟨Z, hZ⟩ : ∃ Z, wr.setCell ⟨W.heap.size, 2, none⟩ (.slice av h cv) = Z := ⟨_, rfl⟩
        rw [hZ] at pZ oZ
        obtain ⟨Y, hY⟩ : ∃ Y, ((Z.setCell ⟨W.heap.size + 1, 0, none⟩ (.int .i64 w)).setCell ⟨W.heap.size + 1, 1, none⟩ (.int .i64 h)).setCell ⟨W.heap.size + 1, 2, none⟩ (.slice av h cv) = Y := ⟨_, rfl⟩
        obtain ⟨pY, oY⟩ := (g2.only oZ (by simp)).fill w h h cv av Y hY
        have hRY : ROwn (fun b => F b ∧ b ≠ W.heap.size ∧ b ≠ W.heap.size + 1) (W.heap.size + 1 + 1) Y (.slice av h cv) h (R.drop j ++ List.replicate j (List.replicate w GC.blank)) := by
          rw [← hY, ← hZ]
          exact (((hR.setCell (b := W.heap.size) (by omega) (fun h => h.2.1 rfl) 2 _).setCell (b := W.heap.size + 1) (by omega) (fun h => h.2.2 rfl) 0 _).setCell (b := W.heap.size + 1) (by omega) (fun h => h.2.2 rfl) 1 _).setCell (b := W.heap.size + 1) (by omega) (fun h => h.2.2 rfl) 2 _
        have okR := OK.out.scroll (m := j) hmh
        obtain ⟨h1, h2, h3⟩ := hRY.rows okR.n (fun b hb => ⟨hF b (by omega), by omega, by omega⟩)
        have hbY : Below W.heap.size W Y := (hb.trans (oZ.below (by simp) hb.size)).trans (oY.below (by simp) (by have := oZ.size; omega))
        have HZ := Lib.hid hZ
        have HY := Lib.hid hY
        clear hZ hY hR hRY
        go_wp2
        rw [HZ.out, HY.out]
        refine bodyPost_ret (results_row2 rfl _ _ (W.heap.size + 1) _ rfl pY.load) rfl ?_
        exact ⟨av, cv, rfl, ⟨h1.mono (fun b hb _ => hb.1), okR, h2, h3⟩, hbY⟩
end Go.Proofs.YtekodpcedjpnjaaGreat
