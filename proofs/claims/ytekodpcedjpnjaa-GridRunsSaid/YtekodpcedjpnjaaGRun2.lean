/- The law GridRuns: one step, at the program's grid and the reference's. No condition. -/
import Derived.Test.YtekodpcedjpnjaaGPut2
import Derived.Test.YtekodpcedjpnjaaGFg
import Derived.Test.YtekodpcedjpnjaaRGs2
import Derived.Test.YtekodpcedjpnjaaGRunP
import Derived.Test.YtekodpcedjpnjaaRG12
namespace Go.Proofs.Ytekodpcedjpnjaa
set_option linter.unusedVariables false
set_option linter.unusedSimpArgs false
open Go.RowKit Go.Shelf Go.Maps
/-- What a step leaves. -/
def StPost (F : Nat → Prop) (X : World) (p q : Nat) (w h : Nat) (R : List (List GC)) (e : Ending) (Y : World) : Prop :=
  ∃ q' a c, e = .returned (.tuple #[.agg #[.int .i64 w, .int .i64 h, .slice a h c], .bool true]) ∧ GridAt Y p q' w h R.flatten ∧ RG (fun k => F k ∧ k ≠ q') Y a c w h R ∧ Only [p, q] X Y ∧ (q' = q ∨ X.heap.size ≤ q')
theorem only_then {S T : List Nat} {W A B : World} (h : Only S W A) (k : Only T A B) (hT : ∀ s ∈ T, s ∈ S ∨ W.heap.size ≤ s) : Only S W B :=
  ⟨k.os.trans h.os, k.tape.trans h.tape, k.output.trans h.output, Nat.le_trans h.size k.size, fun i hi hs => (k.block i (Nat.lt_of_lt_of_le hi h.size) (fun ht => (hT i ht).elim hs (fun hle => by omega))).trans (h.block i hi hs)⟩
def SIn (X : World) (w h n c : Nat) (a : Option Addr) (o : OpV) (Y : World) : Prop :=
  GBox Y X.heap.size w h a n c ∧ OpBlk Y (X.heap.size + 1) o ∧ GBox Y (X.heap.size + 1 + 1) 0 0 none 0 0 ∧ Below X.heap.size X Y ∧ X.heap.size + 1 + 1 < Y.heap.size
theorem sin_new (X : World) (w h n c : Nat) (a : Option Addr) (o : OpV) : SIn X w h n c a o (((X.alloc (.cells #[.int .i64 w, .int .i64 h, .slice a n c] 29)).alloc (.cells #[.int .u8 o.d, .int .i64 o.r, .int .i64 o.c, .string o.s, .int .i64 o.k, .bool o.y.b, .bool o.y.u, .bool o.y.i, .int .i64 o.y.f, .int .i64 o.y.g, .int .i64 o.t, .int .i64 o.n] 36)).alloc (.cells #[.int .i64 0, .int .i64 0, .slice none 0 0] 29)) := by
  obtain ⟨X1, h1⟩ : ∃ X1, X.alloc (.cells #[.int .i64 w, .int .i64 h, .slice a n c] 29) = X1 := ⟨_, rfl⟩
  have s1 : X1.heap.size = X.heap.size + 1 := by rw [← h1]; simp
  have t1 : GBox X1 X.heap.size w h a n c := by rw [← h1]; exact GBox.new _ _ _ _ _ _
  have b1 : Below X.heap.size X X1 := by rw [← h1]; exact (Below.refl _ _).alloc (Nat.le_refl _) _
  rw [h1]
  obtain ⟨X2, h2⟩ : ∃ X2, X1.alloc (.cells #[.int .u8 o.d, .int .i64 o.r, .int .i64 o.c, .string o.s, .int .i64 o.k, .bool o.y.b, .bool o.y.u, .bool o.y.i, .int .i64 o.y.f, .int .i64 o.y.g, .int .i64 o.t, .int .i64 o.n] 36) = X2 := ⟨_, rfl⟩
  have s2 : X2.heap.size = X.heap.size + 1 + 1 := by rw [← h2]; simp [s1]
  have t2 : OpBlk X2 (X.heap.size + 1) o := by rw [← h2, ← s1]; exact World.alloc_heap_new _ _
  have b2 : Below X1.heap.size X1 X2 := by rw [← h2]; exact (Below.refl _ _).alloc (Nat.le_refl _) _
  rw [h2]
  obtain ⟨X3, h3⟩ : ∃ X3, X2.alloc (.cells #[.int .i64 0, .int .i64 0, .slice none 0 0] 29) = X3 := ⟨_, rfl⟩
  have s3 : X3.heap.size = X.heap.size + 1 + 1 + 1 := by rw [← h3]; simp [s2]
  have t3 : GBox X3 (X.heap.size + 1 + 1) 0 0 none 0 0 := by rw [← h3, ← s2]; exact GBox.new _ _ _ _ _ _
  have b3 : Below X2.heap.size X2 X3 := by rw [← h3]; exact (Below.refl _ _).alloc (Nat.le_refl _) _
  rw [h3]
  have t2' : OpBlk X3 (X.heap.size + 1) o := t2.only (Only.of_below (S := []) b3) (by simp)
  exact ⟨(t1.below b2).below b3, t2', t3, bto (bto b1 b2 (by omega)) b3 (by omega), by omega⟩
set_option maxRecDepth 100000 in
set_option maxHeartbeats 8000000 in
theorem stepg_join {F : Nat → Prop} {X : World} (hF : ∀ b, X.heap.size ≤ b → F b) {p q w h : Nat} {R : List (List GC)} (g : GridAt X p q w h R.flatten) (ok : RowsOk w h R) (ro : ROk R) {ra : Option Addr} {rc : Nat} (rg : RG F X ra rc w h R) (hp : ∀ k, F k → k ≠ p ∧ k ≠ q) (o : OpV) (hok : o.Ok) (h5 : o.d % 10 = 5) :
    Calls Try.prog 15 #[.pointer (some ⟨p, 0, none⟩), .agg #[.int .i64 w, .int .i64 h, .slice ra h rc], .agg #[.int .u8 o.d, .int .i64 o.r, .int .i64 o.c, .string o.s, .int .i64 o.k, .bool o.y.b, .bool o.y.u, .bool o.y.i, .int .i64 o.y.f, .int .i64 o.y.g, .int .i64 o.t, .int .i64 o.n]] X (StPost F X p q w h (joinR w h R o.r o.c o.s)) := by
  have hw := g.w2
  have hw1 := g.w1
  have hh := g.h2
  have hh1 := g.h1
  have hpl : p < X.heap.size := (Array.getElem?_eq_some_iff.1 g.head).1
  have hql : q < X.heap.size := g.blk.lt
  have HP := Lib.hid hp
  have HO := Lib.hid ok
  have GRO := Lib.hid ro
  have hd0 := hok.d0
  have hd1 := hok.d1
  obtain ⟨B, hB⟩ : ∃ B, B = joinOkR w h R o.r o.c o.s := ⟨_, rfl⟩
  have hjo := ok.join_ok o.r o.c o.s
  have hjf := ok.join_flat o.r o.c o.s
  have JO := Lib.hid (hjo.trans hB.symm)
  have JF := Lib.hid hjf
  have HB := Lib.hid hB
  clear hjo hjf hB
  have G := Lib.hid g
  have RGH := Lib.hid rg
  have SN := Lib.hid (sin_new X w h h rc ra o)
  clear g ok ro rg hp hok
  go_enter Try.func15, Try.ntmps15
  go_upto_region 0 with (fail)
  go_cut [4, 5, 6] (fun u v z wx => u = .pointer (some ⟨X.heap.size, 0, none⟩) ∧ v = .pointer (some ⟨X.heap.size + 1, 0, none⟩) ∧ z = .pointer (some ⟨X.heap.size + 1 + 1, 0, none⟩) ∧ SIn X w h h rc ra o wx)
  case first =>
    go_wp2
    go_meet
    exact ⟨rfl, rfl, rfl, SN.out⟩
  case rest =>
  obtain ⟨rfl, rfl, rfl, t1, ob, t3, bX, sX⟩ := hcut
  have gX := G.out.only (Only.of_below (S := []) bX) (by simp) (by simp)
  have CP := Lib.hid (by
    have := join_any gX GRO.out.flat o.r o.c o.s
    rw [JO.out, ← JF.out] at this
    exact this)
  obtain ⟨k0, k1, k2, k3, k4, k5, k6, k7, k8, k9, k10, k11⟩ := ob.cells
  clear gX
  go_upto_region 7 with (go_at_call 58; refine (CP.out).mono ?_; rintro e w1 ⟨rfl, g1, o1⟩)
  have s1 := o1.size
  have t1' := t1.only o1 (by simp; omega)
  have ob' := ob.only o1 (by simp; omega)
  have t3' := t3.only o1 (by simp; omega)
  clear k0 k1 k2 k3 k4 k5 k6 k7 k8 k9 k10 k11 t1 t3 ob
  obtain ⟨k0, k1, k2, k3, k4, k5, k6, k7, k8, k9, k10, k11⟩ := ob'.cells
  obtain ⟨c0, c1, c2, c3⟩ := t1'.cells
  have r0 : RG (fun k => F k ∧ k ≠ q ∧ k ≠ X.heap.size + 1 + 1) X ra rc w h R := RGH.out.mono (fun k hk hlt => ⟨hk, by have := HP.out k hk; have := bX.size; omega, by omega⟩)
  have r1 := (r0.below bX).keep o1.size (fun k hk hlt => o1.block k hlt (by have := HP.out k hk.1; simp; omega))
  have hF1 : ∀ b, w1.heap.size ≤ b → F b ∧ b ≠ q ∧ b ≠ X.heap.size + 1 + 1 := fun b hb => ⟨hF b (by have := bX.size; omega), by have := g1.blk.lt; omega, by omega⟩
  have CR := Lib.hid (by
    have := rjoin_any (W := w1) hF1 r1 GRO.out ⟨hw1, by omega⟩ (by omega) o.r o.c o.s
    rw [← HB.out] at this
    exact this)
  have o01 : Only [p, q] X w1 := ((Only.of_below bX : Only [] X _).mono (by simp)).trans (o1.mono (by simp))
  clear r0 r1
  go_upto_region 8 with (go_at_call 59; refine (CR.out).mono ?_; rintro e w2 ⟨a2, cap2, rfl, g2, hb2⟩)
  have t3'' := t3'.below hb2
  have g1' := g1.only (Only.of_below (S := []) hb2) (by simp) (by simp)
  have o02 : Only [p, q] X w2 := o01.trans ((Only.of_below hb2 : Only [] w1 w2).mono (by simp))
  clear k0 k1 k2 k3 k4 k5 k6 k7 k8 k9 k10 k11 c0 c1 c2 c3
  have s2 := hb2.size
  have bN : Below w2.heap.size w2 (w2.alloc (.cells #[.int .i64 w, .int .i64 h, .slice a2 h cap2] 29)) := (Below.refl _ _).alloc (Nat.le_refl _) _
  have t4 := t3''.below bN
  have g2N := g2.below bN
  have g1N := g1'.only (Only.of_below (S := []) bN) (by simp) (by simp)
  have o03 : Only [p, q] X (w2.alloc (.cells #[.int .i64 w, .int .i64 h, .slice a2 h cap2] 29)) := o02.trans ((Only.of_below bN : Only [] w2 _).mono (by simp))
  have gb := GBox.new w2 w h h cap2 a2
  obtain ⟨w3, hw3⟩ : ∃ w3, w2.alloc (.cells #[.int .i64 w, .int .i64 h, .slice a2 h cap2] 29) = w3 := ⟨_, rfl⟩
  rw [hw3] at t4 g2N g1N o03 gb
  have HW3 := Lib.hid hw3
  clear hw3 bN t3'' g1' g2 g1 o02 t3' t1' ob' o1 o01
  obtain ⟨Y, hY⟩ : ∃ Y, ((w3.setCell ⟨X.heap.size + 1 + 1, 0, none⟩ (.int .i64 w)).setCell ⟨X.heap.size + 1 + 1, 1, none⟩ (.int .i64 h)).setCell ⟨X.heap.size + 1 + 1, 2, none⟩ (.slice a2 h cap2) = Y := ⟨_, rfl⟩
  obtain ⟨tY, oY⟩ := t4.fill w h h cap2 a2 Y hY
  have HY := Lib.hid hY
  clear hY
  obtain ⟨d0, d1, d2, d3⟩ := gb.cells
  obtain ⟨f0, f1, f2, f3⟩ := t4.cells
  rw [HW3.out]
  have g1Y := g1N.only oY (by simp; omega) (by simp; omega)
  have g2Y := (g2N.keep oY.size (fun k hk hlt => oY.block k hlt (by simpa using hk.2.2))).mono (F' := fun k => F k ∧ k ≠ q) (fun k hk _ => ⟨hk.1, hk.2.1⟩)
  have o0Y := only_then o03 oY (fun s hs => .inr (by simp at hs; omega))
  have tl := Lib.hid tY.load
  have FIN : Hid (GridAt Y p q w h (joinR w h R o.r o.c o.s).flatten ∧ RG (fun k => F k ∧ k ≠ q) Y a2 cap2 w h (joinR w h R o.r o.c o.s) ∧ Only [p, q] X Y) := Lib.hid ⟨g1Y, g2Y, o0Y⟩
  clear g1N g2N o03 oY tY g1Y g2Y o0Y t4 gb
  go_wp2
  rw [HY.out]
  refine bodyPost_ret (results_row2 rfl _ _ (X.heap.size + 1 + 1) _ rfl tl.out) rfl ?_
  exact ⟨q, a2, cap2, rfl, FIN.out.1, FIN.out.2.1, FIN.out.2.2, .inl rfl⟩
set_option maxRecDepth 100000 in
set_option maxHeartbeats 8000000 in
theorem stepg_erase {F : Nat → Prop} {X : World} (hF : ∀ b, X.heap.size ≤ b → F b) {p q w h : Nat} {R : List (List GC)} (g : GridAt X p q w h R.flatten) (ok : RowsOk w h R) (ro : ROk R) {ra : Option Addr} {rc : Nat} (rg : RG F X ra rc w h R) (hp : ∀ k, F k → k ≠ p ∧ k ≠ q) (o : OpV) (hok : o.Ok) (n5 : ¬ o.d % 10 = 5) (h6 : o.d % 10 = 6) :
    Calls Try.prog 15 #[.pointer (some ⟨p, 0, none⟩), .agg #[.int .i64 w, .int .i64 h, .slice ra h rc], .agg #[.int .u8 o.d, .int .i64 o.r, .int .i64 o.c, .string o.s, .int .i64 o.k, .bool o.y.b, .bool o.y.u, .bool o.y.i, .int .i64 o.y.f, .int .i64 o.y.g, .int .i64 o.t, .int .i64 o.n]] X (StPost F X p q w h (eraseR w h R o.r o.c o.t)) := by
  have hw := g.w2
  have hw1 := g.w1
  have hh := g.h2
  have hh1 := g.h1
  have hpl : p < X.heap.size := (Array.getElem?_eq_some_iff.1 g.head).1
  have hql : q < X.heap.size := g.blk.lt
  have HP := Lib.hid hp
  have HO := Lib.hid ok
  have GRO := Lib.hid ro
  have hd0 := hok.d0
  have hd1 := hok.d1
  have f5 : (o.d % 10 == 5) = false := by simpa using n5
  clear n5
  have JF := Lib.hid (ok.erase_flat o.r o.c o.t)
  have G := Lib.hid g
  have RGH := Lib.hid rg
  have SN := Lib.hid (sin_new X w h h rc ra o)
  clear g ok ro rg hp hok
  go_enter Try.func15, Try.ntmps15
  go_upto_region 0 with (fail)
  go_cut [4, 5, 6] (fun u v z wx => u = .pointer (some ⟨X.heap.size, 0, none⟩) ∧ v = .pointer (some ⟨X.heap.size + 1, 0, none⟩) ∧ z = .pointer (some ⟨X.heap.size + 1 + 1, 0, none⟩) ∧ SIn X w h h rc ra o wx)
  case first =>
    go_wp2
    go_meet
    exact ⟨rfl, rfl, rfl, SN.out⟩
  case rest =>
  obtain ⟨rfl, rfl, rfl, t1, ob, t3, bX, sX⟩ := hcut
  have gX := G.out.only (Only.of_below (S := []) bX) (by simp) (by simp)
  have CP := Lib.hid (by
    have := erase_any gX o.r o.c o.t
    rw [← JF.out] at this
    exact this)
  obtain ⟨k0, k1, k2, k3, k4, k5, k6, k7, k8, k9, k10, k11⟩ := ob.cells
  clear gX
  go_upto_region 11 with (go_at_call 60; refine (CP.out).mono ?_; rintro e w1 ⟨rfl, g1, o1⟩)
  have s1 := o1.size
  have t1' := t1.only o1 (by simp; omega)
  have ob' := ob.only o1 (by simp; omega)
  have t3' := t3.only o1 (by simp; omega)
  clear k0 k1 k2 k3 k4 k5 k6 k7 k8 k9 k10 k11 t1 t3 ob
  obtain ⟨k0, k1, k2, k3, k4, k5, k6, k7, k8, k9, k10, k11⟩ := ob'.cells
  obtain ⟨c0, c1, c2, c3⟩ := t1'.cells
  have r0 : RG (fun k => F k ∧ k ≠ q ∧ k ≠ X.heap.size + 1 + 1) X ra rc w h R := RGH.out.mono (fun k hk hlt => ⟨hk, by have := HP.out k hk; have := bX.size; omega, by omega⟩)
  have r1 := (r0.below bX).keep o1.size (fun k hk hlt => o1.block k hlt (by have := HP.out k hk.1; simp; omega))
  have hF1 : ∀ b, w1.heap.size ≤ b → F b ∧ b ≠ q ∧ b ≠ X.heap.size + 1 + 1 := fun b hb => ⟨hF b (by have := bX.size; omega), by have := g1.blk.lt; omega, by omega⟩
  have CR := Lib.hid (rerase_any hF1 r1 ⟨hw1, by omega⟩ (by omega) o.r o.c o.t)
  have o01 : Only [p, q] X w1 := ((Only.of_below bX : Only [] X _).mono (by simp)).trans (o1.mono (by simp))
  clear r0 r1
  go_upto_region 12 with (go_at_call 61; refine (CR.out).mono ?_; rintro e w2 ⟨a2, cap2, rfl, g2, hb2⟩)
  have t3'' := t3'.below hb2
  have g1' := g1.only (Only.of_below (S := []) hb2) (by simp) (by simp)
  have o02 : Only [p, q] X w2 := o01.trans ((Only.of_below hb2 : Only [] w1 w2).mono (by simp))
  clear k0 k1 k2 k3 k4 k5 k6 k7 k8 k9 k10 k11 c0 c1 c2 c3
  have s2 := hb2.size
  have bN : Below w2.heap.size w2 (w2.alloc (.cells #[.int .i64 w, .int .i64 h, .slice a2 h cap2] 29)) := (Below.refl _ _).alloc (Nat.le_refl _) _
  have t4 := t3''.below bN
  have g2N := g2.below bN
  have g1N := g1'.only (Only.of_below (S := []) bN) (by simp) (by simp)
  have o03 : Only [p, q] X (w2.alloc (.cells #[.int .i64 w, .int .i64 h, .slice a2 h cap2] 29)) := o02.trans ((Only.of_below bN : Only [] w2 _).mono (by simp))
  have gb := GBox.new w2 w h h cap2 a2
  obtain ⟨w3, hw3⟩ : ∃ w3, w2.alloc (.cells #[.int .i64 w, .int .i64 h, .slice a2 h cap2] 29) = w3 := ⟨_, rfl⟩
  rw [hw3] at t4 g2N g1N o03 gb
  have HW3 := Lib.hid hw3
  clear hw3 bN t3'' g1' g2 g1 o02 t3' t1' ob' o1 o01
  obtain ⟨Y, hY⟩ : ∃ Y, ((w3.setCell ⟨X.heap.size + 1 + 1, 0, none⟩ (.int .i64 w)).setCell ⟨X.heap.size + 1 + 1, 1, none⟩ (.int .i64 h)).setCell ⟨X.heap.size + 1 + 1, 2, none⟩ (.slice a2 h cap2) = Y := ⟨_, rfl⟩
  obtain ⟨tY, oY⟩ := t4.fill w h h cap2 a2 Y hY
  have HY := Lib.hid hY
  clear hY
  obtain ⟨d0, d1, d2, d3⟩ := gb.cells
  obtain ⟨f0, f1, f2, f3⟩ := t4.cells
  rw [HW3.out]
  have g1Y := g1N.only oY (by simp; omega) (by simp; omega)
  have g2Y := (g2N.keep oY.size (fun k hk hlt => oY.block k hlt (by simpa using hk.2.2))).mono (F' := fun k => F k ∧ k ≠ q) (fun k hk _ => ⟨hk.1, hk.2.1⟩)
  have o0Y := only_then o03 oY (fun s hs => .inr (by simp at hs; omega))
  have tl := Lib.hid tY.load
  have FIN : Hid (GridAt Y p q w h (eraseR w h R o.r o.c o.t).flatten ∧ RG (fun k => F k ∧ k ≠ q) Y a2 cap2 w h (eraseR w h R o.r o.c o.t) ∧ Only [p, q] X Y) := Lib.hid ⟨g1Y, g2Y, o0Y⟩
  clear g1N g2N o03 oY tY g1Y g2Y o0Y t4 gb
  go_wp2
  rw [HY.out]
  refine bodyPost_ret (results_row2 rfl _ _ (X.heap.size + 1 + 1) _ rfl tl.out) rfl ?_
  exact ⟨q, a2, cap2, rfl, FIN.out.1, FIN.out.2.1, FIN.out.2.2, .inl rfl⟩
set_option maxRecDepth 100000 in
set_option maxHeartbeats 8000000 in
theorem stepg_scroll {F : Nat → Prop} {X : World} (hF : ∀ b, X.heap.size ≤ b → F b) {p q w h : Nat} {R : List (List GC)} (g : GridAt X p q w h R.flatten) (ok : RowsOk w h R) (ro : ROk R) {ra : Option Addr} {rc : Nat} (rg : RG F X ra rc w h R) (hp : ∀ k, F k → k ≠ p ∧ k ≠ q) (o : OpV) (hok : o.Ok) (n5 : ¬ o.d % 10 = 5) (n6 : ¬ o.d % 10 = 6) (h7 : o.d % 10 = 7) (m : Nat) (hm : (m : Int) = max 0 (min o.n h)) :
    Calls Try.prog 15 #[.pointer (some ⟨p, 0, none⟩), .agg #[.int .i64 w, .int .i64 h, .slice ra h rc], .agg #[.int .u8 o.d, .int .i64 o.r, .int .i64 o.c, .string o.s, .int .i64 o.k, .bool o.y.b, .bool o.y.u, .bool o.y.i, .int .i64 o.y.f, .int .i64 o.y.g, .int .i64 o.t, .int .i64 o.n]] X (StPost F X p q w h (scrollR w R m)) := by
  have hw := g.w2
  have hw1 := g.w1
  have hh := g.h2
  have hh1 := g.h1
  have hpl : p < X.heap.size := (Array.getElem?_eq_some_iff.1 g.head).1
  have hql : q < X.heap.size := g.blk.lt
  have HP := Lib.hid hp
  have HO := Lib.hid ok
  have GRO := Lib.hid ro
  have hd0 := hok.d0
  have hd1 := hok.d1
  have f5 : (o.d % 10 == 5) = false := by simpa using n5
  have f6 : (o.d % 10 == 6) = false := by simpa using n6
  clear n5 n6
  have hmh : m ≤ h := by omega
  have JF := Lib.hid (ok.scroll_flat hmh)
  have HM := Lib.hid hm
  clear hm
  have G := Lib.hid g
  have RGH := Lib.hid rg
  have SN := Lib.hid (sin_new X w h h rc ra o)
  clear g ok ro rg hp hok
  go_enter Try.func15, Try.ntmps15
  go_upto_region 0 with (fail)
  go_cut [4, 5, 6] (fun u v z wx => u = .pointer (some ⟨X.heap.size, 0, none⟩) ∧ v = .pointer (some ⟨X.heap.size + 1, 0, none⟩) ∧ z = .pointer (some ⟨X.heap.size + 1 + 1, 0, none⟩) ∧ SIn X w h h rc ra o wx)
  case first =>
    go_wp2
    go_meet
    exact ⟨rfl, rfl, rfl, SN.out⟩
  case rest =>
  obtain ⟨rfl, rfl, rfl, t1, ob, t3, bX, sX⟩ := hcut
  have gX := G.out.only (Only.of_below (S := []) bX) (by simp) (by simp)
  have CP := Lib.hid (by
    have := scroll_any gX o.n m HM.out
    rw [← JF.out] at this
    exact this)
  obtain ⟨k0, k1, k2, k3, k4, k5, k6, k7, k8, k9, k10, k11⟩ := ob.cells
  clear gX
  go_upto_region 15 with (go_at_call 14; refine (CP.out).mono ?_; rintro e w1 ⟨rfl, g1, o1⟩)
  have s1 := o1.size
  have t1' := t1.only o1 (by simp; omega)
  have ob' := ob.only o1 (by simp; omega)
  have t3' := t3.only o1 (by simp; omega)
  clear k0 k1 k2 k3 k4 k5 k6 k7 k8 k9 k10 k11 t1 t3 ob
  obtain ⟨k0, k1, k2, k3, k4, k5, k6, k7, k8, k9, k10, k11⟩ := ob'.cells
  obtain ⟨c0, c1, c2, c3⟩ := t1'.cells
  have r0 : RG (fun k => F k ∧ k ≠ q ∧ k ≠ X.heap.size + 1 + 1) X ra rc w h R := RGH.out.mono (fun k hk hlt => ⟨hk, by have := HP.out k hk; have := bX.size; omega, by omega⟩)
  have r1 := (r0.below bX).keep o1.size (fun k hk hlt => o1.block k hlt (by have := HP.out k hk.1; simp; omega))
  have hF1 : ∀ b, w1.heap.size ≤ b → F b ∧ b ≠ q ∧ b ≠ X.heap.size + 1 + 1 := fun b hb => ⟨hF b (by have := bX.size; omega), by have := g1.blk.lt; omega, by omega⟩
  have CR := Lib.hid (rscroll_any hF1 r1 ⟨hw1, hw⟩ ⟨hh1, hh⟩ o.n m HM.out)
  have o01 : Only [p, q] X w1 := ((Only.of_below bX : Only [] X _).mono (by simp)).trans (o1.mono (by simp))
  clear r0 r1
  go_upto_region 16 with (go_at_call 62; refine (CR.out).mono ?_; rintro e w2 ⟨a2, cap2, rfl, g2, hb2⟩)
  have t3'' := t3'.below hb2
  have g1' := g1.only (Only.of_below (S := []) hb2) (by simp) (by simp)
  have o02 : Only [p, q] X w2 := o01.trans ((Only.of_below hb2 : Only [] w1 w2).mono (by simp))
  clear k0 k1 k2 k3 k4 k5 k6 k7 k8 k9 k10 k11 c0 c1 c2 c3
  have s2 := hb2.size
  have bN : Below w2.heap.size w2 (w2.alloc (.cells #[.int .i64 w, .int .i64 h, .slice a2 h cap2] 29)) := (Below.refl _ _).alloc (Nat.le_refl _) _
  have t4 := t3''.below bN
  have g2N := g2.below bN
  have g1N := g1'.only (Only.of_below (S := []) bN) (by simp) (by simp)
  have o03 : Only [p, q] X (w2.alloc (.cells #[.int .i64 w, .int .i64 h, .slice a2 h cap2] 29)) := o02.trans ((Only.of_below bN : Only [] w2 _).mono (by simp))
  have gb := GBox.new w2 w h h cap2 a2
  obtain ⟨w3, hw3⟩ : ∃ w3, w2.alloc (.cells #[.int .i64 w, .int .i64 h, .slice a2 h cap2] 29) = w3 := ⟨_, rfl⟩
  rw [hw3] at t4 g2N g1N o03 gb
  have HW3 := Lib.hid hw3
  clear hw3 bN t3'' g1' g2 g1 o02 t3' t1' ob' o1 o01
  obtain ⟨Y, hY⟩ : ∃ Y, ((w3.setCell ⟨X.heap.size + 1 + 1, 0, none⟩ (.int .i64 w)).setCell ⟨X.heap.size + 1 + 1, 1, none⟩ (.int .i64 h)).setCell ⟨X.heap.size + 1 + 1, 2, none⟩ (.slice a2 h cap2) = Y := ⟨_, rfl⟩
  obtain ⟨tY, oY⟩ := t4.fill w h h cap2 a2 Y hY
  have HY := Lib.hid hY
  clear hY
  obtain ⟨d0, d1, d2, d3⟩ := gb.cells
  obtain ⟨f0, f1, f2, f3⟩ := t4.cells
  rw [HW3.out]
  have g1Y := g1N.only oY (by simp; omega) (by simp; omega)
  have g2Y := (g2N.keep oY.size (fun k hk hlt => oY.block k hlt (by simpa using hk.2.2))).mono (F' := fun k => F k ∧ k ≠ q) (fun k hk _ => ⟨hk.1, hk.2.1⟩)
  have o0Y := only_then o03 oY (fun s hs => .inr (by simp at hs; omega))
  have tl := Lib.hid tY.load
  have FIN : Hid (GridAt Y p q w h (scrollR w R m).flatten ∧ RG (fun k => F k ∧ k ≠ q) Y a2 cap2 w h (scrollR w R m) ∧ Only [p, q] X Y) := Lib.hid ⟨g1Y, g2Y, o0Y⟩
  clear g1N g2N o03 oY tY g1Y g2Y o0Y t4 gb
  go_wp2
  rw [HY.out]
  refine bodyPost_ret (results_row2 rfl _ _ (X.heap.size + 1 + 1) _ rfl tl.out) rfl ?_
  exact ⟨q, a2, cap2, rfl, FIN.out.1, FIN.out.2.1, FIN.out.2.2, .inl rfl⟩
set_option maxRecDepth 100000 in
set_option maxHeartbeats 8000000 in
theorem stepg_bad {F : Nat → Prop} {X : World} (hF : ∀ b, X.heap.size ≤ b → F b) {p q w h : Nat} {R : List (List GC)} (g : GridAt X p q w h R.flatten) (ok : RowsOk w h R) (ro : ROk R) {ra : Option Addr} {rc : Nat} (rg : RG F X ra rc w h R) (hp : ∀ k, F k → k ≠ p ∧ k ≠ q) (o : OpV) (hok : o.Ok) (n5 : ¬ o.d % 10 = 5) (n6 : ¬ o.d % 10 = 6) (n7 : ¬ o.d % 10 = 7) (h8 : o.d % 10 = 8) (hd : ¬ (1 ≤ o.n ∧ o.n ≤ 500 ∧ 1 ≤ o.t ∧ o.t ≤ 500)) :
    Calls Try.prog 15 #[.pointer (some ⟨p, 0, none⟩), .agg #[.int .i64 w, .int .i64 h, .slice ra h rc], .agg #[.int .u8 o.d, .int .i64 o.r, .int .i64 o.c, .string o.s, .int .i64 o.k, .bool o.y.b, .bool o.y.u, .bool o.y.i, .int .i64 o.y.f, .int .i64 o.y.g, .int .i64 o.t, .int .i64 o.n]] X (StPost F X p q w h R) := by
  have hw := g.w2
  have hw1 := g.w1
  have hh := g.h2
  have hh1 := g.h1
  have hpl : p < X.heap.size := (Array.getElem?_eq_some_iff.1 g.head).1
  have hql : q < X.heap.size := g.blk.lt
  have HP := Lib.hid hp
  have HO := Lib.hid ok
  have GRO := Lib.hid ro
  have hd0 := hok.d0
  have hd1 := hok.d1
  have f5 : (o.d % 10 == 5) = false := by simpa using n5
  have f6 : (o.d % 10 == 6) = false := by simpa using n6
  have f7 : (o.d % 10 == 7) = false := by simpa using n7
  clear n5 n6 n7
  have HD := Lib.hid hd
  clear hd
  have G := Lib.hid g
  have RGH := Lib.hid rg
  have SN := Lib.hid (sin_new X w h h rc ra o)
  clear g ok ro rg hp hok
  go_enter Try.func15, Try.ntmps15
  go_upto_region 0 with (fail)
  go_cut [4, 5, 6] (fun u v z wx => u = .pointer (some ⟨X.heap.size, 0, none⟩) ∧ v = .pointer (some ⟨X.heap.size + 1, 0, none⟩) ∧ z = .pointer (some ⟨X.heap.size + 1 + 1, 0, none⟩) ∧ SIn X w h h rc ra o wx)
  case first =>
    go_wp2
    go_meet
    exact ⟨rfl, rfl, rfl, SN.out⟩
  case rest =>
  obtain ⟨rfl, rfl, rfl, t1, ob, t3, bX, sX⟩ := hcut
  have gX := G.out.only (Only.of_below (S := []) bX) (by simp) (by simp)
  have CP := Lib.hid (show Calls Try.prog 63 #[.pointer (some ⟨p, 0, none⟩), .int .i64 o.n, .int .i64 o.t, .int .i64 o.r] wc (fun e w' => e = .returned (.tuple #[.int .i64 0, .int .i64 40]) ∧ GridAt w' p q w h R.flatten ∧ Only [q] wc w') from (gresize_bad gX o.n o.t o.r HD.out).mono (fun e w' h => by obtain ⟨h1, rfl⟩ := h; exact ⟨h1, gX, Only.refl _ _⟩))
  obtain ⟨k0, k1, k2, k3, k4, k5, k6, k7, k8, k9, k10, k11⟩ := ob.cells
  clear gX
  go_upto_region 19 with (go_at_call 63; refine (CP.out).mono ?_; rintro e w1 ⟨rfl, g1, o1⟩)
  have s1 := o1.size
  have t1' := t1.only o1 (by simp; omega)
  have ob' := ob.only o1 (by simp; omega)
  have t3' := t3.only o1 (by simp; omega)
  clear k0 k1 k2 k3 k4 k5 k6 k7 k8 k9 k10 k11 t1 t3 ob
  obtain ⟨k0, k1, k2, k3, k4, k5, k6, k7, k8, k9, k10, k11⟩ := ob'.cells
  obtain ⟨c0, c1, c2, c3⟩ := t1'.cells
  have r0 : RG (fun k => F k ∧ k ≠ q ∧ k ≠ X.heap.size + 1 + 1) X ra rc w h R := RGH.out.mono (fun k hk hlt => ⟨hk, by have := HP.out k hk; have := bX.size; omega, by omega⟩)
  have r1 := (r0.below bX).keep o1.size (fun k hk hlt => o1.block k hlt (by have := HP.out k hk.1; simp; omega))
  have hF1 : ∀ b, w1.heap.size ≤ b → F b ∧ b ≠ q ∧ b ≠ X.heap.size + 1 + 1 := fun b hb => ⟨hF b (by have := bX.size; omega), by have := g1.blk.lt; omega, by omega⟩
  have CR := Lib.hid (rresize_bad r1 o.n o.t o.r HD.out)
  have o01 : Only [p, q] X w1 := ((Only.of_below bX : Only [] X _).mono (by simp)).trans (o1.mono (by simp))
  clear r0 r1
  go_upto_region 20 with (go_at_call 64; refine (CR.out).mono ?_; rintro e w2 ⟨a2, cap2, rfl, g2, hb2⟩)
  have t3'' := t3'.below hb2
  have g1' := g1.only (Only.of_below (S := []) hb2) (by simp) (by simp)
  have o02 : Only [p, q] X w2 := o01.trans ((Only.of_below hb2 : Only [] w1 w2).mono (by simp))
  clear k0 k1 k2 k3 k4 k5 k6 k7 k8 k9 k10 k11 c0 c1 c2 c3
  have s2 := hb2.size
  have bN : Below w2.heap.size w2 (w2.alloc (.cells #[.int .i64 w, .int .i64 h, .slice a2 h cap2] 29)) := (Below.refl _ _).alloc (Nat.le_refl _) _
  have t4 := t3''.below bN
  have g2N := g2.below bN
  have g1N := g1'.only (Only.of_below (S := []) bN) (by simp) (by simp)
  have o03 : Only [p, q] X (w2.alloc (.cells #[.int .i64 w, .int .i64 h, .slice a2 h cap2] 29)) := o02.trans ((Only.of_below bN : Only [] w2 _).mono (by simp))
  have gb := GBox.new w2 w h h cap2 a2
  obtain ⟨w3, hw3⟩ : ∃ w3, w2.alloc (.cells #[.int .i64 w, .int .i64 h, .slice a2 h cap2] 29) = w3 := ⟨_, rfl⟩
  rw [hw3] at t4 g2N g1N o03 gb
  have HW3 := Lib.hid hw3
  clear hw3 bN t3'' g1' g2 g1 o02 t3' t1' ob' o1 o01
  obtain ⟨Y, hY⟩ : ∃ Y, ((w3.setCell ⟨X.heap.size + 1 + 1, 0, none⟩ (.int .i64 w)).setCell ⟨X.heap.size + 1 + 1, 1, none⟩ (.int .i64 h)).setCell ⟨X.heap.size + 1 + 1, 2, none⟩ (.slice a2 h cap2) = Y := ⟨_, rfl⟩
  obtain ⟨tY, oY⟩ := t4.fill w h h cap2 a2 Y hY
  have HY := Lib.hid hY
  clear hY
  obtain ⟨d0, d1, d2, d3⟩ := gb.cells
  obtain ⟨f0, f1, f2, f3⟩ := t4.cells
  rw [HW3.out]
  have g1Y := g1N.only oY (by simp; omega) (by simp; omega)
  have g2Y := (g2N.keep oY.size (fun k hk hlt => oY.block k hlt (by simpa using hk.2.2))).mono (F' := fun k => F k ∧ k ≠ q) (fun k hk _ => ⟨hk.1, hk.2.1⟩)
  have o0Y := only_then o03 oY (fun s hs => .inr (by simp at hs; omega))
  have tl := Lib.hid tY.load
  have FIN : Hid (GridAt Y p q w h (R).flatten ∧ RG (fun k => F k ∧ k ≠ q) Y a2 cap2 w h (R) ∧ Only [p, q] X Y) := Lib.hid ⟨g1Y, g2Y, o0Y⟩
  clear g1N g2N o03 oY tY g1Y g2Y o0Y t4 gb
  go_wp2
  rw [HY.out]
  refine bodyPost_ret (results_row2 rfl _ _ (X.heap.size + 1 + 1) _ rfl tl.out) rfl ?_
  exact ⟨q, a2, cap2, rfl, FIN.out.1, FIN.out.2.1, FIN.out.2.2, .inl rfl⟩
set_option maxRecDepth 100000 in
set_option maxHeartbeats 8000000 in
theorem stepg_out {F : Nat → Prop} {X : World} (hF : ∀ b, X.heap.size ≤ b → F b) {p q w h : Nat} {R : List (List GC)} (g : GridAt X p q w h R.flatten) (ok : RowsOk w h R) (ro : ROk R) {ra : Option Addr} {rc : Nat} (rg : RG F X ra rc w h R) (hp : ∀ k, F k → k ≠ p ∧ k ≠ q) (o : OpV) (hok : o.Ok) (n5 : ¬ o.d % 10 = 5) (n6 : ¬ o.d % 10 = 6) (n7 : ¬ o.d % 10 = 7) (h8 : o.d % 10 = 8) (hd : 1 ≤ o.n ∧ o.n ≤ 500 ∧ 1 ≤ o.t ∧ o.t ≤ 500) (hr : ¬ (0 ≤ o.r ∧ o.r < h)) :
    Calls Try.prog 15 #[.pointer (some ⟨p, 0, none⟩), .agg #[.int .i64 w, .int .i64 h, .slice ra h rc], .agg #[.int .u8 o.d, .int .i64 o.r, .int .i64 o.c, .string o.s, .int .i64 o.k, .bool o.y.b, .bool o.y.u, .bool o.y.i, .int .i64 o.y.f, .int .i64 o.y.g, .int .i64 o.t, .int .i64 o.n]] X (StPost F X p q w h R) := by
  have hw := g.w2
  have hw1 := g.w1
  have hh := g.h2
  have hh1 := g.h1
  have hpl : p < X.heap.size := (Array.getElem?_eq_some_iff.1 g.head).1
  have hql : q < X.heap.size := g.blk.lt
  have HP := Lib.hid hp
  have HO := Lib.hid ok
  have GRO := Lib.hid ro
  have hd0 := hok.d0
  have hd1 := hok.d1
  have f5 : (o.d % 10 == 5) = false := by simpa using n5
  have f6 : (o.d % 10 == 6) = false := by simpa using n6
  have f7 : (o.d % 10 == 7) = false := by simpa using n7
  clear n5 n6 n7
  have HD := Lib.hid hd
  have HR := Lib.hid hr
  clear hd hr
  have G := Lib.hid g
  have RGH := Lib.hid rg
  have SN := Lib.hid (sin_new X w h h rc ra o)
  clear g ok ro rg hp hok
  go_enter Try.func15, Try.ntmps15
  go_upto_region 0 with (fail)
  go_cut [4, 5, 6] (fun u v z wx => u = .pointer (some ⟨X.heap.size, 0, none⟩) ∧ v = .pointer (some ⟨X.heap.size + 1, 0, none⟩) ∧ z = .pointer (some ⟨X.heap.size + 1 + 1, 0, none⟩) ∧ SIn X w h h rc ra o wx)
  case first =>
    go_wp2
    go_meet
    exact ⟨rfl, rfl, rfl, SN.out⟩
  case rest =>
  obtain ⟨rfl, rfl, rfl, t1, ob, t3, bX, sX⟩ := hcut
  have gX := G.out.only (Only.of_below (S := []) bX) (by simp) (by simp)
  have CP := Lib.hid (show Calls Try.prog 63 #[.pointer (some ⟨p, 0, none⟩), .int .i64 o.n, .int .i64 o.t, .int .i64 o.r] wc (fun e w' => e = .returned (.tuple #[.int .i64 0, .int .i64 5]) ∧ GridAt w' p q w h R.flatten ∧ Only [q] wc w') from (gresize_out gX o.n o.t o.r HD.out HR.out).mono (fun e w' h => by obtain ⟨h1, rfl⟩ := h; exact ⟨h1, gX, Only.refl _ _⟩))
  obtain ⟨k0, k1, k2, k3, k4, k5, k6, k7, k8, k9, k10, k11⟩ := ob.cells
  clear gX
  go_upto_region 19 with (go_at_call 63; refine (CP.out).mono ?_; rintro e w1 ⟨rfl, g1, o1⟩)
  have s1 := o1.size
  have t1' := t1.only o1 (by simp; omega)
  have ob' := ob.only o1 (by simp; omega)
  have t3' := t3.only o1 (by simp; omega)
  clear k0 k1 k2 k3 k4 k5 k6 k7 k8 k9 k10 k11 t1 t3 ob
  obtain ⟨k0, k1, k2, k3, k4, k5, k6, k7, k8, k9, k10, k11⟩ := ob'.cells
  obtain ⟨c0, c1, c2, c3⟩ := t1'.cells
  have r0 : RG (fun k => F k ∧ k ≠ q ∧ k ≠ X.heap.size + 1 + 1) X ra rc w h R := RGH.out.mono (fun k hk hlt => ⟨hk, by have := HP.out k hk; have := bX.size; omega, by omega⟩)
  have r1 := (r0.below bX).keep o1.size (fun k hk hlt => o1.block k hlt (by have := HP.out k hk.1; simp; omega))
  have hF1 : ∀ b, w1.heap.size ≤ b → F b ∧ b ≠ q ∧ b ≠ X.heap.size + 1 + 1 := fun b hb => ⟨hF b (by have := bX.size; omega), by have := g1.blk.lt; omega, by omega⟩
  have CR := Lib.hid (rresize_out r1 o.n o.t o.r HD.out HR.out)
  have o01 : Only [p, q] X w1 := ((Only.of_below bX : Only [] X _).mono (by simp)).trans (o1.mono (by simp))
  clear r0 r1
  go_upto_region 20 with (go_at_call 64; refine (CR.out).mono ?_; rintro e w2 ⟨a2, cap2, rfl, g2, hb2⟩)
  have t3'' := t3'.below hb2
  have g1' := g1.only (Only.of_below (S := []) hb2) (by simp) (by simp)
  have o02 : Only [p, q] X w2 := o01.trans ((Only.of_below hb2 : Only [] w1 w2).mono (by simp))
  clear k0 k1 k2 k3 k4 k5 k6 k7 k8 k9 k10 k11 c0 c1 c2 c3
  have s2 := hb2.size
  have bN : Below w2.heap.size w2 (w2.alloc (.cells #[.int .i64 w, .int .i64 h, .slice a2 h cap2] 29)) := (Below.refl _ _).alloc (Nat.le_refl _) _
  have t4 := t3''.below bN
  have g2N := g2.below bN
  have g1N := g1'.only (Only.of_below (S := []) bN) (by simp) (by simp)
  have o03 : Only [p, q] X (w2.alloc (.cells #[.int .i64 w, .int .i64 h, .slice a2 h cap2] 29)) := o02.trans ((Only.of_below bN : Only [] w2 _).mono (by simp))
  have gb := GBox.new w2 w h h cap2 a2
  obtain ⟨w3, hw3⟩ : ∃ w3, w2.alloc (.cells #[.int .i64 w, .int .i64 h, .slice a2 h cap2] 29) = w3 := ⟨_, rfl⟩
  rw [hw3] at t4 g2N g1N o03 gb
  have HW3 := Lib.hid hw3
  clear hw3 bN t3'' g1' g2 g1 o02 t3' t1' ob' o1 o01
  obtain ⟨Y, hY⟩ : ∃ Y, ((w3.setCell ⟨X.heap.size + 1 + 1, 0, none⟩ (.int .i64 w)).setCell ⟨X.heap.size + 1 + 1, 1, none⟩ (.int .i64 h)).setCell ⟨X.heap.size + 1 + 1, 2, none⟩ (.slice a2 h cap2) = Y := ⟨_, rfl⟩
  obtain ⟨tY, oY⟩ := t4.fill w h h cap2 a2 Y hY
  have HY := Lib.hid hY
  clear hY
  obtain ⟨d0, d1, d2, d3⟩ := gb.cells
  obtain ⟨f0, f1, f2, f3⟩ := t4.cells
  rw [HW3.out]
  have g1Y := g1N.only oY (by simp; omega) (by simp; omega)
  have g2Y := (g2N.keep oY.size (fun k hk hlt => oY.block k hlt (by simpa using hk.2.2))).mono (F' := fun k => F k ∧ k ≠ q) (fun k hk _ => ⟨hk.1, hk.2.1⟩)
  have o0Y := only_then o03 oY (fun s hs => .inr (by simp at hs; omega))
  have tl := Lib.hid tY.load
  have FIN : Hid (GridAt Y p q w h (R).flatten ∧ RG (fun k => F k ∧ k ≠ q) Y a2 cap2 w h (R) ∧ Only [p, q] X Y) := Lib.hid ⟨g1Y, g2Y, o0Y⟩
  clear g1N g2N o03 oY tY g1Y g2Y o0Y t4 gb
  go_wp2
  rw [HY.out]
  refine bodyPost_ret (results_row2 rfl _ _ (X.heap.size + 1 + 1) _ rfl tl.out) rfl ?_
  exact ⟨q, a2, cap2, rfl, FIN.out.1, FIN.out.2.1, FIN.out.2.2, .inl rfl⟩
set_option maxRecDepth 100000 in
set_option maxHeartbeats 8000000 in
theorem stepg_size {F : Nat → Prop} {X : World} (hF : ∀ b, X.heap.size ≤ b → F b) {p q w h : Nat} {R : List (List GC)} (g : GridAt X p q w h R.flatten) (ok : RowsOk w h R) (ro : ROk R) {ra : Option Addr} {rc : Nat} (rg : RG F X ra rc w h R) (hp : ∀ k, F k → k ≠ p ∧ k ≠ q) (o : OpV) (hok : o.Ok) (n5 : ¬ o.d % 10 = 5) (n6 : ¬ o.d % 10 = 6) (n7 : ¬ o.d % 10 = 7) (h8 : o.d % 10 = 8) (nn tt rr : Nat) (hn : o.n = nn) (ht : o.t = tt) (hr : o.r = rr) (hd : 1 ≤ nn ∧ nn ≤ 500 ∧ 1 ≤ tt ∧ tt ≤ 500) (hrr : rr < h) :
    Calls Try.prog 15 #[.pointer (some ⟨p, 0, none⟩), .agg #[.int .i64 w, .int .i64 h, .slice ra h rc], .agg #[.int .u8 o.d, .int .i64 o.r, .int .i64 o.c, .string o.s, .int .i64 o.k, .bool o.y.b, .bool o.y.u, .bool o.y.i, .int .i64 o.y.f, .int .i64 o.y.g, .int .i64 o.t, .int .i64 o.n]] X (StPost F X p q nn tt (resizeR h R nn tt rr)) := by
  have hw := g.w2
  have hw1 := g.w1
  have hh := g.h2
  have hh1 := g.h1
  have hpl : p < X.heap.size := (Array.getElem?_eq_some_iff.1 g.head).1
  have hql : q < X.heap.size := g.blk.lt
  have HP := Lib.hid hp
  have HO := Lib.hid ok
  have GRO := Lib.hid ro
  have hd0 := hok.d0
  have hd1 := hok.d1
  have f5 : (o.d % 10 == 5) = false := by simpa using n5
  have f6 : (o.d % 10 == 6) = false := by simpa using n6
  have f7 : (o.d % 10 == 7) = false := by simpa using n7
  clear n5 n6 n7
  have HN := Lib.hid hn
  have HT := Lib.hid ht
  have HR := Lib.hid hr
  clear hn ht hr
  have G := Lib.hid g
  have RGH := Lib.hid rg
  have SN := Lib.hid (sin_new X w h h rc ra o)
  clear g ok ro rg hp hok
  go_enter Try.func15, Try.ntmps15
  go_upto_region 0 with (fail)
  go_cut [4, 5, 6] (fun u v z wx => u = .pointer (some ⟨X.heap.size, 0, none⟩) ∧ v = .pointer (some ⟨X.heap.size + 1, 0, none⟩) ∧ z = .pointer (some ⟨X.heap.size + 1 + 1, 0, none⟩) ∧ SIn X w h h rc ra o wx)
  case first =>
    go_wp2
    go_meet
    exact ⟨rfl, rfl, rfl, SN.out⟩
  case rest =>
  obtain ⟨rfl, rfl, rfl, t1, ob, t3, bX, sX⟩ := hcut
  have gX := G.out.only (Only.of_below (S := []) bX) (by simp) (by simp)
  have CP := Lib.hid (by
    have := gresize_ok gX HO.out nn tt rr hd hrr
    rw [← HN.out, ← HT.out, ← HR.out] at this
    exact this)
  obtain ⟨k0, k1, k2, k3, k4, k5, k6, k7, k8, k9, k10, k11⟩ := ob.cells
  clear gX
  go_upto_region 19 with (go_at_call 63; refine (CP.out).mono ?_; rintro e w1 ⟨rfl, q', g1, o1, hq'⟩)
  have s1 := o1.size
  have t1' := t1.only o1 (by simp; omega)
  have ob' := ob.only o1 (by simp; omega)
  have t3' := t3.only o1 (by simp; omega)
  clear k0 k1 k2 k3 k4 k5 k6 k7 k8 k9 k10 k11 t1 t3 ob
  obtain ⟨k0, k1, k2, k3, k4, k5, k6, k7, k8, k9, k10, k11⟩ := ob'.cells
  obtain ⟨c0, c1, c2, c3⟩ := t1'.cells
  have r0 : RG (fun k => F k ∧ k ≠ q' ∧ k ≠ X.heap.size + 1 + 1) X ra rc w h R := RGH.out.mono (fun k hk hlt => ⟨hk, by have := HP.out k hk; have := bX.size; omega, by omega⟩)
  have r1 := (r0.below bX).keep o1.size (fun k hk hlt => o1.block k hlt (by have := HP.out k hk.1; simp; omega))
  have hF1 : ∀ b, w1.heap.size ≤ b → F b ∧ b ≠ q' ∧ b ≠ X.heap.size + 1 + 1 := fun b hb => ⟨hF b (by have := bX.size; omega), by have := g1.blk.lt; omega, by omega⟩
  have CR := Lib.hid (by
    have := rresize_ok (W := w1) hF1 r1 ⟨hw1, hw⟩ ⟨hh1, hh⟩ nn tt rr hd hrr
    rw [← HN.out, ← HT.out, ← HR.out] at this
    exact this)
  have o01 : Only [p, q] X w1 := ((Only.of_below bX : Only [] X _).mono (by simp)).trans (o1.mono (by simp))
  clear r0 r1
  go_upto_region 20 with (go_at_call 64; refine (CR.out).mono ?_; rintro e w2 ⟨a2, cap2, rfl, g2, hb2⟩)
  have t3'' := t3'.below hb2
  have g1' := g1.only (Only.of_below (S := []) hb2) (by simp) (by simp)
  have o02 : Only [p, q] X w2 := o01.trans ((Only.of_below hb2 : Only [] w1 w2).mono (by simp))
  clear k0 k1 k2 k3 k4 k5 k6 k7 k8 k9 k10 k11 c0 c1 c2 c3
  have s2 := hb2.size
  have bN : Below w2.heap.size w2 (w2.alloc (.cells #[.int .i64 nn, .int .i64 tt, .slice a2 tt cap2] 29)) := (Below.refl _ _).alloc (Nat.le_refl _) _
  have t4 := t3''.below bN
  have g2N := g2.below bN
  have g1N := g1'.only (Only.of_below (S := []) bN) (by simp) (by simp)
  have o03 : Only [p, q] X (w2.alloc (.cells #[.int .i64 nn, .int .i64 tt, .slice a2 tt cap2] 29)) := o02.trans ((Only.of_below bN : Only [] w2 _).mono (by simp))
  have gb := GBox.new w2 nn tt tt cap2 a2
  obtain ⟨w3, hw3⟩ : ∃ w3, w2.alloc (.cells #[.int .i64 nn, .int .i64 tt, .slice a2 tt cap2] 29) = w3 := ⟨_, rfl⟩
  rw [hw3] at t4 g2N g1N o03 gb
  have HW3 := Lib.hid hw3
  clear hw3 bN t3'' g1' g2 g1 o02 t3' t1' ob' o1 o01
  obtain ⟨Y, hY⟩ : ∃ Y, ((w3.setCell ⟨X.heap.size + 1 + 1, 0, none⟩ (.int .i64 nn)).setCell ⟨X.heap.size + 1 + 1, 1, none⟩ (.int .i64 tt)).setCell ⟨X.heap.size + 1 + 1, 2, none⟩ (.slice a2 tt cap2) = Y := ⟨_, rfl⟩
  obtain ⟨tY, oY⟩ := t4.fill nn tt tt cap2 a2 Y hY
  have HY := Lib.hid hY
  clear hY
  obtain ⟨d0, d1, d2, d3⟩ := gb.cells
  obtain ⟨f0, f1, f2, f3⟩ := t4.cells
  rw [HW3.out]
  have g1Y := g1N.only oY (by simp; omega) (by simp; omega)
  have g2Y := (g2N.keep oY.size (fun k hk hlt => oY.block k hlt (by simpa using hk.2.2))).mono (F' := fun k => F k ∧ k ≠ q') (fun k hk _ => ⟨hk.1, hk.2.1⟩)
  have o0Y := only_then o03 oY (fun s hs => .inr (by simp at hs; omega))
  have tl := Lib.hid tY.load
  have FIN : Hid (GridAt Y p q' nn tt (resizeR h R nn tt rr).flatten ∧ RG (fun k => F k ∧ k ≠ q') Y a2 cap2 nn tt (resizeR h R nn tt rr) ∧ Only [p, q] X Y) := Lib.hid ⟨g1Y, g2Y, o0Y⟩
  clear g1N g2N o03 oY tY g1Y g2Y o0Y t4 gb
  go_wp2
  rw [HY.out]
  refine bodyPost_ret (results_row2 rfl _ _ (X.heap.size + 1 + 1) _ rfl tl.out) rfl ?_
  exact ⟨q', a2, cap2, rfl, FIN.out.1, FIN.out.2.1, FIN.out.2.2, .inr (Nat.le_trans bX.size hq')⟩
set_option maxRecDepth 100000 in
set_option maxHeartbeats 8000000 in
theorem stepg_put {F : Nat → Prop} {X : World} (hF : ∀ b, X.heap.size ≤ b → F b) {p q w h : Nat} {R : List (List GC)} (g : GridAt X p q w h R.flatten) (ok : RowsOk w h R) (ro : ROk R) {ra : Option Addr} {rc : Nat} (rg : RG F X ra rc w h R) (hp : ∀ k, F k → k ≠ p ∧ k ≠ q) (o : OpV) (hok : o.Ok) (n5 : ¬ o.d % 10 = 5) (n6 : ¬ o.d % 10 = 6) (n7 : ¬ o.d % 10 = 7) (n8 : ¬ o.d % 10 = 8) :
    Calls Try.prog 15 #[.pointer (some ⟨p, 0, none⟩), .agg #[.int .i64 w, .int .i64 h, .slice ra h rc], .agg #[.int .u8 o.d, .int .i64 o.r, .int .i64 o.c, .string o.s, .int .i64 o.k, .bool o.y.b, .bool o.y.u, .bool o.y.i, .int .i64 o.y.f, .int .i64 o.y.g, .int .i64 o.t, .int .i64 o.n]] X (StPost F X p q w h (putR w h R o.r o.c o.s o.k o.y)) := by
  have hw := g.w2
  have hw1 := g.w1
  have hh := g.h2
  have hh1 := g.h1
  have hpl : p < X.heap.size := (Array.getElem?_eq_some_iff.1 g.head).1
  have hql : q < X.heap.size := g.blk.lt
  have HP := Lib.hid hp
  have HO := Lib.hid ok
  have GRO := Lib.hid ro
  have hd0 := hok.d0
  have hd1 := hok.d1
  have f5 : (o.d % 10 == 5) = false := by simpa using n5
  have f6 : (o.d % 10 == 6) = false := by simpa using n6
  have f7 : (o.d % 10 == 7) = false := by simpa using n7
  have f8 : (o.d % 10 == 8) = false := by simpa using n8
  clear n5 n6 n7 n8
  have JF := Lib.hid (ok.put_flat o.r o.c o.s o.k o.y)
  have G := Lib.hid g
  have RGH := Lib.hid rg
  have SN := Lib.hid (sin_new X w h h rc ra o)
  clear g ok ro rg hp hok
  go_enter Try.func15, Try.ntmps15
  go_upto_region 0 with (fail)
  go_cut [4, 5, 6] (fun u v z wx => u = .pointer (some ⟨X.heap.size, 0, none⟩) ∧ v = .pointer (some ⟨X.heap.size + 1, 0, none⟩) ∧ z = .pointer (some ⟨X.heap.size + 1 + 1, 0, none⟩) ∧ SIn X w h h rc ra o wx)
  case first =>
    go_wp2
    go_meet
    exact ⟨rfl, rfl, rfl, SN.out⟩
  case rest =>
  obtain ⟨rfl, rfl, rfl, t1, ob, t3, bX, sX⟩ := hcut
  have gX := G.out.only (Only.of_below (S := []) bX) (by simp) (by simp)
  have CP := Lib.hid (by
    have := put_any gX o.r o.c o.s o.k o.y
    rw [← JF.out] at this
    exact this)
  obtain ⟨k0, k1, k2, k3, k4, k5, k6, k7, k8, k9, k10, k11⟩ := ob.cells
  clear gX
  go_upto_region 3 with (go_at_call 13; refine (CP.out).mono ?_; rintro e w1 ⟨rfl, g1, o1⟩)
  have s1 := o1.size
  have t1' := t1.only o1 (by simp; omega)
  have ob' := ob.only o1 (by simp; omega)
  have t3' := t3.only o1 (by simp; omega)
  clear k0 k1 k2 k3 k4 k5 k6 k7 k8 k9 k10 k11 t1 t3 ob
  obtain ⟨k0, k1, k2, k3, k4, k5, k6, k7, k8, k9, k10, k11⟩ := ob'.cells
  obtain ⟨c0, c1, c2, c3⟩ := t1'.cells
  have r0 : RG (fun k => F k ∧ k ≠ q ∧ k ≠ X.heap.size + 1 + 1) X ra rc w h R := RGH.out.mono (fun k hk hlt => ⟨hk, by have := HP.out k hk; have := bX.size; omega, by omega⟩)
  have r1 := (r0.below bX).keep o1.size (fun k hk hlt => o1.block k hlt (by have := HP.out k hk.1; simp; omega))
  have hF1 : ∀ b, w1.heap.size ≤ b → F b ∧ b ≠ q ∧ b ≠ X.heap.size + 1 + 1 := fun b hb => ⟨hF b (by have := bX.size; omega), by have := g1.blk.lt; omega, by omega⟩
  have CR := Lib.hid (rput_any hF1 r1 (by omega) (by omega) o.r o.c o.s o.k o.y)
  have o01 : Only [p, q] X w1 := ((Only.of_below bX : Only [] X _).mono (by simp)).trans (o1.mono (by simp))
  clear r0 r1
  go_upto_region 4 with (go_at_call 65; refine (CR.out).mono ?_; rintro e w2 ⟨a2, cap2, rfl, g2, hb2⟩)
  have t3'' := t3'.below hb2
  have g1' := g1.only (Only.of_below (S := []) hb2) (by simp) (by simp)
  have o02 : Only [p, q] X w2 := o01.trans ((Only.of_below hb2 : Only [] w1 w2).mono (by simp))
  clear k0 k1 k2 k3 k4 k5 k6 k7 k8 k9 k10 k11 c0 c1 c2 c3
  have s2 := hb2.size
  have bN : Below w2.heap.size w2 (w2.alloc (.cells #[.int .i64 w, .int .i64 h, .slice a2 h cap2] 29)) := (Below.refl _ _).alloc (Nat.le_refl _) _
  have t4 := t3''.below bN
  have g2N := g2.below bN
  have g1N := g1'.only (Only.of_below (S := []) bN) (by simp) (by simp)
  have o03 : Only [p, q] X (w2.alloc (.cells #[.int .i64 w, .int .i64 h, .slice a2 h cap2] 29)) := o02.trans ((Only.of_below bN : Only [] w2 _).mono (by simp))
  have gb := GBox.new w2 w h h cap2 a2
  obtain ⟨w3, hw3⟩ : ∃ w3, w2.alloc (.cells #[.int .i64 w, .int .i64 h, .slice a2 h cap2] 29) = w3 := ⟨_, rfl⟩
  rw [hw3] at t4 g2N g1N o03 gb
  have HW3 := Lib.hid hw3
  clear hw3 bN t3'' g1' g2 g1 o02 t3' t1' ob' o1 o01
  obtain ⟨Y, hY⟩ : ∃ Y, ((w3.setCell ⟨X.heap.size + 1 + 1, 0, none⟩ (.int .i64 w)).setCell ⟨X.heap.size + 1 + 1, 1, none⟩ (.int .i64 h)).setCell ⟨X.heap.size + 1 + 1, 2, none⟩ (.slice a2 h cap2) = Y := ⟨_, rfl⟩
  obtain ⟨tY, oY⟩ := t4.fill w h h cap2 a2 Y hY
  have HY := Lib.hid hY
  clear hY
  obtain ⟨d0, d1, d2, d3⟩ := gb.cells
  obtain ⟨f0, f1, f2, f3⟩ := t4.cells
  rw [HW3.out]
  have g1Y := g1N.only oY (by simp; omega) (by simp; omega)
  have g2Y := (g2N.keep oY.size (fun k hk hlt => oY.block k hlt (by simpa using hk.2.2))).mono (F' := fun k => F k ∧ k ≠ q) (fun k hk _ => ⟨hk.1, hk.2.1⟩)
  have o0Y := only_then o03 oY (fun s hs => .inr (by simp at hs; omega))
  have tl := Lib.hid tY.load
  have FIN : Hid (GridAt Y p q w h (putR w h R o.r o.c o.s o.k o.y).flatten ∧ RG (fun k => F k ∧ k ≠ q) Y a2 cap2 w h (putR w h R o.r o.c o.s o.k o.y) ∧ Only [p, q] X Y) := Lib.hid ⟨g1Y, g2Y, o0Y⟩
  clear g1N g2N o03 oY tY g1Y g2Y o0Y t4 gb
  go_wp2
  rw [HY.out]
  refine bodyPost_ret (results_row2 rfl _ _ (X.heap.size + 1 + 1) _ rfl tl.out) rfl ?_
  exact ⟨q, a2, cap2, rfl, FIN.out.1, FIN.out.2.1, FIN.out.2.2, .inl rfl⟩
end Go.Proofs.Ytekodpcedjpnjaa
