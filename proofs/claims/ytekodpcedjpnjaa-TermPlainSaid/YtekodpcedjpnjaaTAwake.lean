/- The law's example of a terminal: awake is true. No condition. -/
import Derived.Test.YtekodpcedjpnjaaPT18
import Derived.Test.YtekodpcedjpnjaaStr
import Derived.Lib.SlBytesConst
namespace Go.Proofs.Ytekodpcedjpnjaa
set_option linter.unusedVariables false
set_option linter.unusedSimpArgs false
open Go.RowKit Go.Shelf Go.Maps
def awP : List (List UInt8) := [[97, 98, 99], [100, 7]]
theorem aw_run : (awP.foldl runP (TS.new 3 2, [])).1.row = 1 ∧ (awP.foldl runP (TS.new 3 2, [])).1.col = 1 ∧ (awP.foldl runP (TS.new 3 2, [])).1.bells = 1 ∧ (awP.foldl runP (TS.new 3 2, [])).1.seen = true ∧
    trimL (textL (lineL (awP.foldl runP (TS.new 3 2, [])).1.R.flatten (awP.foldl runP (TS.new 3 2, [])).1.W 0)) = [97, 98, 99] ∧ trimL (textL (lineL (awP.foldl runP (TS.new 3 2, [])).1.R.flatten (awP.foldl runP (TS.new 3 2, [])).1.W 1)) = [100] ∧ (awP.foldl runP (TS.new 3 2, [])).1.H = 2 := by
  refine ⟨by kernel_rfl, by kernel_rfl, by kernel_rfl, by kernel_rfl, by kernel_rfl, by kernel_rfl, by kernel_rfl⟩
theorem runP_ok {x : TS × List UInt8} (k : TOk x.1) (s : List UInt8) : TOk (runP x s).1 := k.run _
set_option maxRecDepth 100000 in
set_option maxHeartbeats 4000000 in
theorem awake05_any (W : World) : Calls Try.prog 36 #[] W fun e w' => e = .returned (.bool true) ∧ Below W.heap.size W w' := by
  have CN := Lib.hid (tnew_ok 3 2 (by omega) W)
  have CB := Lib.hid (fun X => tnew_bad 0 1 (by omega) X)
  have ok0 : TOk (TS.new 3 2) := TOk.new (by omega) (by omega) (by omega) (by omega)
  have okx : TOk (awP.foldl runP (TS.new 3 2, [])).1 := runP_ok (runP_ok ok0 _) _
  obtain ⟨r1, r2, r3, r4, r5, r6, r7⟩ := aw_run
  obtain ⟨x, hx⟩ : ∃ x, x = awP.foldl runP (TS.new 3 2, []) := ⟨_, rfl⟩
  rw [← hx] at okx r1 r2 r3 r4 r5 r6 r7
  have HX := Lib.hid hx
  have HR := Lib.hid (And.intro okx (And.intro r1 (And.intro r2 (And.intro r3 (And.intro r4 (And.intro r5 (And.intro r6 r7)))))))
  clear hx okx r1 r2 r3 r4 r5 r6 r7
  have q1 : ((S [97, 98, 99]).toList == [97, 98, 99]) = true := by rw [S_toList]; rfl
  have q2 : ((S [100]).toList == [100]) = true := by rw [S_toList]; rfl
  have kc := fun (w : World) (C : Array Value) (n c : Nat) => Lib.run_convert_bytes_const (P := Try.prog) w 67 5 C n c Try.underlying67 Try.underlying5
  go_enter Try.func36, Try.ntmps36
  go_wp2_with fail
  refine (CN.out).mono ?_
  rintro e X ⟨b, p, q, rfl, a, hz, hb⟩
  have hl := a.lt
  have hXs := hb.size
  have OK0 := Lib.hid ok0
  clear ok0 CN
  have kc2 : (convert 67 67 (.slice (some ⟨X.heap.size + 1, 0, none⟩) 2 2)).run Try.prog ((X.alloc (.cells #[.int .u8 97, .int .u8 98, .int .u8 99] 5 (3, 4))).alloc (.cells #[.int .u8 100, .int .u8 7] 5)) = .ok (.slice (some ⟨X.heap.size + 1, 0, none⟩) 2 2) ((X.alloc (.cells #[.int .u8 97, .int .u8 98, .int .u8 99] 5 (3, 4))).alloc (.cells #[.int .u8 100, .int .u8 7] 5 (2, 3))) := by
    have h := kc (X.alloc (.cells #[.int .u8 97, .int .u8 98, .int .u8 99] 5 (3, 4))) #[.int .u8 100, .int .u8 7] 2 2
    rw [World.size_alloc] at h
    exact h
  obtain ⟨Y1, hY1⟩ : ∃ Y, X.alloc (.cells #[.int .u8 97, .int .u8 98, .int .u8 99] 5 (3, 4)) = Y := ⟨_, rfl⟩
  obtain ⟨Y2, hY2⟩ : ∃ Y, Y1.alloc (.cells #[.int .u8 100, .int .u8 7] 5 (2, 3)) = Y := ⟨_, rfl⟩
  obtain ⟨Y3, hY3⟩ : ∃ Y, Y2.alloc (.cells #[.slice (some ⟨X.heap.size, 0, none⟩) 3 3, .slice (some ⟨X.heap.size + 1, 0, none⟩) 2 2] 67) = Y := ⟨_, rfl⟩
  have s1 : Y1.heap.size = X.heap.size + 1 := by rw [← hY1]; simp
  have s2 : Y2.heap.size = X.heap.size + 1 + 1 := by rw [← hY2]; simp [s1]
  have s3 : Y3.heap.size = X.heap.size + 1 + 1 + 1 := by rw [← hY3]; simp [s2]
  have b1 : Below X.heap.size X Y1 := by rw [← hY1]; exact (Below.refl _ _).alloc (Nat.le_refl _) _
  have b2 : Below (X.heap.size + 1) Y1 Y2 := by rw [← hY2]; exact (Below.refl _ _).alloc (by omega) _
  have b3 : Below (X.heap.size + 1 + 1) Y2 Y3 := by rw [← hY3]; exact (Below.refl _ _).alloc (by omega) _
  have k1 : Y3.heap[X.heap.size]? = some (.cells #[.int .u8 97, .int .u8 98, .int .u8 99] 5 (3, 4)) := (b3.block _ (by omega)).trans ((b2.block _ (by omega)).trans (by rw [← hY1]; exact World.alloc_heap_new X _))
  have k2 : Y3.heap[X.heap.size + 1]? = some (.cells #[.int .u8 100, .int .u8 7] 5 (2, 3)) := (b3.block _ (by omega)).trans (by rw [← hY2, ← s1]; exact World.alloc_heap_new Y1 _)
  have k3 : Y3.heap[X.heap.size + 1 + 1]? = some (.cells #[.slice (some ⟨X.heap.size, 0, none⟩) 3 3, .slice (some ⟨X.heap.size + 1, 0, none⟩) 2 2] 67 (0, 0)) := by rw [← hY3, ← s2]; exact World.alloc_heap_new Y2 _
  have hB3 : Below X.heap.size X Y3 := (b1.trans (b2.mono (by omega))).trans (b3.mono (by omega))
  have a3 := a.below hB3
  have hBW : Below W.heap.size W Y3 := bto hb hB3 hXs
  have P1 : PartsAt Y3 b q (.slice none 0 0) (some ⟨X.heap.size + 1 + 1, 0, none⟩) 2 awP := ⟨rfl, fun i s hs => by
    have hno : ∀ k, (Value.slice none 0 0).ownBlock ≠ some k := fun k => by simp [Value.ownBlock]
    match i, hs with
    | 0, hs =>
      simp only [awP, List.getElem?_cons_zero, Option.some.injEq] at hs
      subst hs
      refine ⟨_, _, _, rfl, by omega, ⟨by omega, by omega, hno _⟩, by rw [cell_of_row Y3 _ _ _ _ _ k3]; rfl, .inr ⟨_, _, _, _, rfl, rfl, ⟨by omega, fun j hj => ?_⟩, ⟨by omega, by omega, hno _⟩⟩⟩
      rw [cell_of_row Y3 _ _ _ _ _ k1]
      match j, hj with
      | 0, _ => rfl
      | 1, _ => rfl
      | 2, _ => rfl
    | 1, hs =>
      simp only [awP, List.getElem?_cons_succ, List.getElem?_cons_zero, Option.some.injEq] at hs
      subst hs
      refine ⟨_, _, _, rfl, by omega, ⟨by omega, by omega, hno _⟩, by rw [cell_of_row Y3 _ _ _ _ _ k3]; rfl, .inr ⟨_, _, _, _, rfl, rfl, ⟨by omega, fun j hj => ?_⟩, ⟨by omega, by omega, hno _⟩⟩⟩
      rw [cell_of_row Y3 _ _ _ _ _ k2]
      match j, hj with
      | 0, _ => rfl
      | 1, _ => rfl
    | i + 2, hs => simp [awP] at hs⟩
  have hh3 : Held Y3 W.heap.size (.slice none 0 0) [] := World.ownsRow_nil _ _ _ _
  have cw := pwrite_any (np := 2) (pc := 2) a3 hh3 OK0.out (by omega) P1 (by decide) (by decide) (by decide) (by omega)
  rw [← HX.out] at cw
  have CW := Lib.hid cw
  have HY1 := Lib.hid hY1
  have HY2 := Lib.hid hY2
  have HY3 := Lib.hid hY3
  clear hY1 hY2 hY3 s1 s2 s3 b1 b2 b3 k1 k2 k3 P1 cw hh3 a3
  go_wp2_with fail
  rw [HY1.out, HY2.out, HY3.out]
  refine (CW.out).mono ?_
  rintro e Z ⟨rfl, hv5, a5, h5, o5, f5⟩
  obtain ⟨okx, r1, r2, r3, r4, r5, r6, r7⟩ := HR.out
  have B5 : Below W.heap.size W Z := hBW.trans (o5.below (by simp [Value.ownBlock]; omega) hBW.size)
  have CC := Lib.hid (fun (V : World) (hV : Below Z.heap.size Z V) => (tcursor_any (a5.below hV)))
  have CT0 := Lib.hid (fun (V : World) (hV : Below Z.heap.size Z V) => (ttext_any (a5.below hV) okx.to0 0 (by omega)))
  have CT1 := Lib.hid (fun (V : World) (hV : Below Z.heap.size Z V) => (ttext_any (a5.below hV) okx.to0 1 (by omega)))
  have CBe := Lib.hid (fun (V : World) (hV : Below Z.heap.size Z V) => (tbells_any (a5.below hV)))
  have CSe := Lib.hid (fun (V : World) (hV : Below Z.heap.size Z V) => (tseen_any (a5.below hV)))
  rw [r1, r2] at CC
  rw [r5] at CT0
  rw [r6] at CT1
  rw [r3] at CBe
  rw [r4] at CSe
  clear okx r1 r2 r3 r4 r5 r6 r7 a a5 h5 f5 o5
  go_wp2_with (first
    | (go_at_call 33; refine (CC.out _ (Below.refl _ _)).mono ?_; rintro e Z1 ⟨rfl, hz1⟩)
    | (go_at_call 28; refine (CB.out _).mono ?_; rintro e Z2 ⟨rfl, rfl⟩)
    | (go_at_call_of 40 (Value.int IntKind.i64 0); refine (CT0.out _ hz1).mono ?_; rintro e Z3 ⟨rfl, hz3⟩; have B3 := bto hz1 hz3 hz1.size)
    | (go_at_call_of 40 (Value.int IntKind.i64 1); refine (CT1.out _ B3).mono ?_; rintro e Z4 ⟨rfl, hz4⟩; have B4 := bto B3 hz4 B3.size)
    | (go_at_call 41; refine (CBe.out _ B4).mono ?_; rintro e Z5 ⟨rfl, rfl⟩)
    | (go_at_call 43; refine (CSe.out _ B4).mono ?_; rintro e Z6 ⟨rfl, rfl⟩))
  go_ret
  exact ⟨rfl, bto B5 B4 B5.size⟩
end Go.Proofs.Ytekodpcedjpnjaa
