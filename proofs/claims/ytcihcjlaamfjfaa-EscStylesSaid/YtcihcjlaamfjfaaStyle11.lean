/- The law EscStyles. -/
import Derived.Test.YtcihcjlaamfjfaaStyle10
import Derived.Test.YtcihcjlaamfjfaaQuietBelow
namespace Go.Proofs.Ytcihcjlaamfjfaa
open Go.RowKit Go.Maps
theorem eqS_self (b u i : Bool) (f g : Int) : eqS b u i f g b u i f g = true := by simp [eqS]
set_option maxRecDepth 100000 in
set_option maxHeartbeats 4000000 in
theorem escStyles_law (b u i : Bool) (f g : Int) (b' u' i' : Bool) (f' g' : Int) (w : World) :
    Calls Try.prog 9 #[.agg #[.bool b, .bool u, .bool i, .int .i64 f, .int .i64 g], .agg #[.bool b', .bool u', .bool i', .int .i64 f', .int .i64 g']] w fun e w' => e = .returned (.bool true) ∧ Below w.heap.size w w' := by
  obtain ⟨X, hX⟩ : ∃ X, X = S (styleL b u i f g b' u' i' f' g') := ⟨_, rfl⟩
  obtain ⟨E1, hE1⟩ : ∃ E, E = errI f g := ⟨_, rfl⟩
  obtain ⟨E2, hE2⟩ : ∃ E, E = errI f' g' := ⟨_, rfl⟩
  have c1 : ∀ W, Calls Try.prog 45 #[.agg #[.bool b, .bool u, .bool i, .int .i64 f, .int .i64 g], .agg #[.bool b', .bool u', .bool i', .int .i64 f', .int .i64 g']] W fun e w' => e = .returned (.string X) ∧ Below W.heap.size W w' := fun W => by rw [hX]; exact style_any _ _ _ _ _ _ _ _ _ _ _
  have c2 : ∀ W, Calls Try.prog 48 #[.agg #[.bool b, .bool u, .bool i, .int .i64 f, .int .i64 g], .agg #[.bool b', .bool u', .bool i', .int .i64 f', .int .i64 g']] W fun e w' => e = .returned (.string X) ∧ Below W.heap.size W w' := fun W => by rw [hX]; exact refStyle_any _ _ _ _ _ _ _ _ _ _ _
  have c3 : ∀ W, Calls Try.prog 43 #[.string X] W fun e w' => e = .returned (.string ⟨#[]⟩) ∧ Below W.heap.size W w' := fun W => by
    have := strip_any (styleL b u i f g b' u' i' f' g') W (by have := style_len b u i f g b' u' i' f' g'; omega)
    rw [strip_style] at this
    rw [hX]; exact this
  have c4 : ∀ W, Calls Try.prog 45 #[.agg #[.bool b', .bool u', .bool i', .int .i64 f', .int .i64 g'], .agg #[.bool b', .bool u', .bool i', .int .i64 f', .int .i64 g']] W fun e w' => e = .returned (.string ⟨#[]⟩) ∧ Below W.heap.size W w' := fun W => by
    have := style_any b' u' i' f' g' b' u' i' f' g' W
    rw [style_self] at this
    exact this
  have c5 : ∀ W, Calls Try.prog 46 #[.agg #[.bool b, .bool u, .bool i, .int .i64 f, .int .i64 g]] W fun e w' => e = .returned (.int .i64 E1) ∧ Below W.heap.size W w' := fun W => by rw [hE1]; exact check_any _ _ _ _ _ _
  have c6 : ∀ W, Calls Try.prog 47 #[.agg #[.bool b, .bool u, .bool i, .int .i64 f, .int .i64 g]] W fun e w' => e = .returned (.int .i64 E1) ∧ Below W.heap.size W w' := fun W => by rw [hE1]; exact refCheck_any _ _ _ _ _ _
  have c7 : ∀ W, Calls Try.prog 47 #[.agg #[.bool b', .bool u', .bool i', .int .i64 f', .int .i64 g']] W fun e w' => e = .returned (.int .i64 E2) ∧ Below W.heap.size W w' := fun W => by rw [hE2]; exact refCheck_any _ _ _ _ _ _
  have C1 := Lib.hid c1
  have C2 := Lib.hid c2
  have C3 := Lib.hid c3
  have C4 := Lib.hid c4
  have C5 := Lib.hid c5
  have C6 := Lib.hid c6
  have C7 := Lib.hid c7
  have HX := Lib.hid hX
  clear c1 c2 c3 c4 c5 c6 c7 hX
  have HE : (E1 = 0 ∧ E2 = 0 ∧ Hid (mayB f g = true ∧ mayB f' g' = true)) ∨ ((E1 = 60 ∨ (E1 = 0 ∧ E2 = 60)) ∧ X = ⟨#[]⟩) := by
    rw [hE1, hE2]
    unfold errI
    cases h1 : mayB f g with
    | false => exact .inr ⟨.inl rfl, by rw [HX.out, style_bad _ _ _ _ _ _ _ _ _ _ (.inl h1)]; rfl⟩
    | true =>
      cases h2 : mayB f' g' with
      | false => exact .inr ⟨.inr ⟨rfl, rfl⟩, by rw [HX.out, style_bad _ _ _ _ _ _ _ _ _ _ (.inr h2)]; rfl⟩
      | true => exact .inl ⟨rfl, rfl, Lib.hid ⟨rfl, rfl⟩⟩
  clear hE1 hE2
  have C8 : Hid (E1 = 0 → E2 = 0 → ∀ W, Calls Try.prog 49 #[.agg #[.bool b, .bool u, .bool i, .int .i64 f, .int .i64 g], .string X] W fun e w' => e = .returned (.agg #[.bool b', .bool u', .bool i', .int .i64 f', .int .i64 g']) ∧ Below W.heap.size W w') := Lib.hid (fun h1 h2 W => by
    have hm : mayB f g = true ∧ mayB f' g' = true := by
      rcases HE with ⟨_, _, h⟩ | ⟨h | h, _⟩
      · exact h.out
      · omega
      · omega
    have := turned_any ⟨b, u, i, f, g⟩ (styleL b u i f g b' u' i' f' g') W (by have := style_len b u i f g b' u' i' f' g'; omega)
    rw [turn_style _ _ _ _ _ _ _ _ _ _ hm.1 hm.2] at this
    rw [HX.out]; exact this)
  have HQ : Hid (∀ W, (binOp .eql 50 (.agg #[.bool b', .bool u', .bool i', .int .i64 f', .int .i64 g']) (.agg #[.bool b', .bool u', .bool i', .int .i64 f', .int .i64 g'])).run Try.prog W = .ok (.bool true) W) := Lib.hid (fun W => by
    have := eql_sty b' u' i' f' g' b' u' i' f' g' W
    rw [eqS_self] at this; exact this)
  go_enter Try.func9, Try.ntmps9
  go_wp2_with fail
  refine (C1.out _).mono ?_
  rintro e w1 ⟨rfl, hb1⟩
  have B0 : StyBox ((w.alloc (.cells #[.bool b, .bool u, .bool i, .int .i64 f, .int .i64 g] 50)).alloc (.cells #[.bool b', .bool u', .bool i', .int .i64 f', .int .i64 g'] 50)) w.heap.size b u i f g := styBox_old (styBox_new _ _ _ _ _ _) ((Below.refl _ _).alloc (Nat.le_refl _) _) (by simp only [World.size_alloc]; omega)
  have B1 : StyBox ((w.alloc (.cells #[.bool b, .bool u, .bool i, .int .i64 f, .int .i64 g] 50)).alloc (.cells #[.bool b', .bool u', .bool i', .int .i64 f', .int .i64 g'] 50)) (w.heap.size + 1) b' u' i' f' g' := by
    have := styBox_new (w.alloc (.cells #[.bool b, .bool u, .bool i, .int .i64 f, .int .i64 g] 50)) b' u' i' f' g'
    rw [World.size_alloc] at this; exact this
  have D0 := styBox_old B0 hb1 (by simp only [World.size_alloc]; omega)
  have D1 := styBox_old B1 hb1 (by simp only [World.size_alloc]; omega)
  have hB : Below w.heap.size w w1 := bnext (((Below.refl _ _).alloc (Nat.le_refl _) _).alloc (by simp) _) hb1
  have hN : w.heap.size + 1 < w1.heap.size := by have := hb1.size; simp only [World.size_alloc] at this; omega
  clear B0 B1 hb1
  obtain ⟨q0, q1, q2, q3, q4, _⟩ := D0.cells
  obtain ⟨r0, r1, r2, r3, r4, _⟩ := D1.cells
  have Q0 := fun p : BW w1.heap.size w1 => p.cell (by show w.heap.size < _; omega) q0
  have Q1 := fun p : BW w1.heap.size w1 => p.cell (by show w.heap.size < _; omega) q1
  have Q2 := fun p : BW w1.heap.size w1 => p.cell (by show w.heap.size < _; omega) q2
  have Q3 := fun p : BW w1.heap.size w1 => p.cell (by show w.heap.size < _; omega) q3
  have Q4 := fun p : BW w1.heap.size w1 => p.cell (by show w.heap.size < _; omega) q4
  have R0 := fun p : BW w1.heap.size w1 => p.cell (by show w.heap.size + 1 < _; omega) r0
  have R1 := fun p : BW w1.heap.size w1 => p.cell (by show w.heap.size + 1 < _; omega) r1
  have R2 := fun p : BW w1.heap.size w1 => p.cell (by show w.heap.size + 1 < _; omega) r2
  have R3 := fun p : BW w1.heap.size w1 => p.cell (by show w.heap.size + 1 < _; omega) r3
  have R4 := fun p : BW w1.heap.size w1 => p.cell (by show w.heap.size + 1 < _; omega) r4
  go_wp2_with fail
  refine wp_region_bw w1.heap.size (by kernel_rfl) (by kernel_rfl) ?_
  repeat (quiet_step ((apply Calls.bw_of (Nat.le_refl _); first
    | (go_at_call 46; exact C5.out _)
    | (go_at_call 47; exact C6.out _)
    | (go_at_call 48; exact C2.out _)
    | (go_at_call 43; exact C3.out _)
    | (go_at_call 45; exact C4.out _)
    | (go_at_call 42; exact awake06_any _))))
  refine wpQuiet_nil ?_
  intro wq hw'
  have hwq : Below w1.heap.size w1 wq := by obtain ⟨p, rfl⟩ := hw'; exact p.h
  clear hw'
  have D0q := styBox_old D0 hwq (by omega)
  have D1q := styBox_old D1 hwq (by omega)
  have hBq : Below w.heap.size w wq := bto hB hwq (by omega) |>.mono (Nat.le_refl _)
  have hNq : w.heap.size + 1 < wq.heap.size := by have := hwq.size; omega
  clear Q0 Q1 Q2 Q3 Q4 R0 R1 R2 R3 R4 q0 q1 q2 q3 q4 r0 r1 r2 r3 r4 hwq D0 D1 hB hN
  obtain ⟨q0, q1, q2, q3, q4, _⟩ := D0q.cells
  obtain ⟨r0, r1, r2, r3, r4, _⟩ := D1q.cells
  go_wp2_with fail
  refine (C6.out _).mono ?_
  rintro e w2 ⟨rfl, hb2⟩
  have D0s := styBox_old D0q hb2 (by omega)
  have D1s := styBox_old D1q hb2 (by omega)
  have hBs : Below w.heap.size w w2 := bnext hBq hb2
  have hNs : w.heap.size + 1 < w2.heap.size := by have := hb2.size; omega
  clear D0q D1q hBq hNq hb2 q0 q1 q2 q3 q4 r0 r1 r2 r3 r4
  obtain ⟨q0, q1, q2, q3, q4, _⟩ := D0s.cells
  obtain ⟨r0, r1, r2, r3, r4, _⟩ := D1s.cells
  rcases HE with ⟨h1, h2, _⟩ | ⟨h1 | ⟨h1, h2⟩, h3⟩
  · subst h1 h2
    replace C8 := Lib.hid (C8.out rfl rfl)
    go_wp2_with fail
    refine (C7.out _).mono ?_
    rintro e w3 ⟨rfl, hb3⟩
    have D0t := styBox_old D0s hb3 (by omega)
    have D1t := styBox_old D1s hb3 (by omega)
    have hBt : Below w.heap.size w w3 := bnext hBs hb3
    have hNt : w.heap.size + 1 < w3.heap.size := by have := hb3.size; omega
    clear D0s D1s hBs hNs hb3 q0 q1 q2 q3 q4 r0 r1 r2 r3 r4
    obtain ⟨q0, q1, q2, q3, q4, _⟩ := D0t.cells
    obtain ⟨r0, r1, r2, r3, r4, _⟩ := D1t.cells
    have Q0 := fun p : BW w3.heap.size w3 => p.cell (by show w.heap.size < _; omega) q0
    have Q1 := fun p : BW w3.heap.size w3 => p.cell (by show w.heap.size < _; omega) q1
    have Q2 := fun p : BW w3.heap.size w3 => p.cell (by show w.heap.size < _; omega) q2
    have Q3 := fun p : BW w3.heap.size w3 => p.cell (by show w.heap.size < _; omega) q3
    have Q4 := fun p : BW w3.heap.size w3 => p.cell (by show w.heap.size < _; omega) q4
    have R0 := fun p : BW w3.heap.size w3 => p.cell (by show w.heap.size + 1 < _; omega) r0
    have R1 := fun p : BW w3.heap.size w3 => p.cell (by show w.heap.size + 1 < _; omega) r1
    have R2 := fun p : BW w3.heap.size w3 => p.cell (by show w.heap.size + 1 < _; omega) r2
    have R3 := fun p : BW w3.heap.size w3 => p.cell (by show w.heap.size + 1 < _; omega) r3
    have R4 := fun p : BW w3.heap.size w3 => p.cell (by show w.heap.size + 1 < _; omega) r4
    go_wp2_with fail
    refine wp_region_bw w3.heap.size (by kernel_rfl) (by kernel_rfl) ?_
    have HQ := HQ.out
    repeat (quiet_step ((apply Calls.bw_of (Nat.le_refl _); go_at_call 49; exact C8.out _)))
    refine wpQuiet_nil ?_
    intro wr hw'
    have hwr : Below w3.heap.size w3 wr := by obtain ⟨p, rfl⟩ := hw'; exact p.h
    clear hw'
    go_wp2_with fail
    go_ret
    exact ⟨rfl, bto hBt hwr (by omega) |>.mono (Nat.le_refl _)⟩
  · subst h1 h3
    go_wp2_with fail
    go_ret
    exact ⟨rfl, hBs⟩
  · subst h1 h2 h3
    go_wp2_with fail
    refine (C7.out _).mono ?_
    rintro e w3 ⟨rfl, hb3⟩
    go_wp2_with fail
    go_ret
    exact ⟨rfl, bnext hBs hb3⟩
end Go.Proofs.Ytcihcjlaamfjfaa
