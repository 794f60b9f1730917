/- The program's region in memory, and its small functions. No condition. -/
import Derived.Test.YtekodpcedjpnjaaGreatRC35
set_option linter.unusedVariables false
set_option linter.unusedSimpArgs false
namespace Go.Proofs.YtekodpcedjpnjaaGreat
open Go.RowKit Go.Shelf Go.Maps
def RgB (W : World) (b : Nat) (v : Value) (r c : Int) (s : Bool) (w h want ph : Int) : Prop := W.heap[b]? = some (.cells #[v, .int .i64 r, .int .i64 c, .bool s, .int .i64 w, .int .i64 h, .int .i64 want, .int .i64 ph] 134 (0, 0))
theorem RgB.lt {W : World} {b : Nat} {v : Value} {r c : Int} {s : Bool} {w h want ph : Int} (z : RgB W b v r c s w h want ph) : b < W.heap.size := (Array.getElem?_eq_some_iff.1 z).1
theorem RgB.below {W X : World} {b : Nat} {v : Value} {r c : Int} {s : Bool} {w h want ph : Int} (z : RgB W b v r c s w h want ph) (hb : Below W.heap.size W X) : RgB X b v r c s w h want ph := (hb.block b z.lt).trans z
theorem RgB.only {W X : World} {b : Nat} {v : Value} {r c : Int} {s : Bool} {w h want ph : Int} {S : List Nat} (z : RgB W b v r c s w h want ph) (ho : Only S W X) (hS : b ∉ S) : RgB X b v r c s w h want ph := ho.heap z hS
theorem RgB.cells {W : World} {b : Nat} {v : Value} {r c : Int} {s : Bool} {w h want ph : Int} (z : RgB W b v r c s w h want ph) :
    W.cell? ⟨b, 0, none⟩ = some v ∧ W.cell? ⟨b, 1, none⟩ = some (.int .i64 r) ∧ W.cell? ⟨b, 2, none⟩ = some (.int .i64 c) ∧ W.cell? ⟨b, 3, none⟩ = some (.bool s) ∧ W.cell? ⟨b, 4, none⟩ = some (.int .i64 w) ∧ W.cell? ⟨b, 5, none⟩ = some (.int .i64 h) ∧ W.cell? ⟨b, 6, none⟩ = some (.int .i64 want) ∧ W.cell? ⟨b, 7, none⟩ = some (.int .i64 ph) := by
  refine ⟨?_, ?_, ?_, ?_, ?_, ?_, ?_, ?_⟩ <;> (rw [cell_of_row W b _ _ _ _ z]; rfl)
theorem RgB.froz {W : World} {b : Nat} {v : Value} {r c : Int} {s : Bool} {w h want ph : Int} (z : RgB W b v r c s w h want ph) : ∀ j, W.frozen? ⟨b, j, none⟩ = false := fun j => by
  unfold RgB at z
  simp [World.frozen?, z]
theorem RgB.load {W : World} {b : Nat} {v : Value} {r c : Int} {s : Bool} {w h want ph : Int} (z : RgB W b v r c s w h want ph) : (loadVar 52 ⟨b, 0, none⟩).run Tryz.prog W = .ok (.agg #[v, .int .i64 r, .int .i64 c, .bool s]) W := by
  obtain ⟨c0, c1, c2, c3, _⟩ := z.cells
  refine run_loadVar_mid (P := Tryz.prog) W b 0 52 [v, .int .i64 r, .int .i64 c, .bool s] _ (fun j u h => ?_) Tryz.underlying52 rfl ?_
  · rcases j with _ | _ | _ | _ | j
    · simp only [List.getElem?_cons_zero, Option.some.injEq] at h; subst h; exact c0
    · simp only [List.getElem?_cons_succ, List.getElem?_cons_zero, Option.some.injEq] at h; subst h; exact c1
    · simp only [List.getElem?_cons_succ, List.getElem?_cons_zero, Option.some.injEq] at h; subst h; exact c2
    · simp only [List.getElem?_cons_succ, List.getElem?_cons_zero, Option.some.injEq] at h; subst h; exact c3
    · simp at h
  · kernel_rfl
theorem RgB.at_ {W : World} {b : Nat} {v : Value} {r c : Int} {s : Bool} {w h want ph : Int} (z : RgB W b v r c s w h want ph) {j : Nat} {u : Value} (hc : W.cell? ⟨b, j, none⟩ = some u) : u = v ∨ u = .int .i64 r ∨ u = .int .i64 c ∨ u = .bool s ∨ u = .int .i64 w ∨ u = .int .i64 h ∨ u = .int .i64 want ∨ u = .int .i64 ph := by
  rw [cell_of_row W b j _ _ _ z] at hc
  have h1 := (Array.mem_of_getElem? hc)
  simpa using h1
theorem RowsAt.reg {W X : World} {a : Option Addr} {n : Nat} {R : List (List GC)} (hR : RowsAt W a n R) {b : Nat} {av : Option Addr} {k cp : Nat} {r c : Int} {s : Bool} {w h want ph : Int} (z : RgB W b (.slice av k cp) r c s w h want ph) {A : List (List GC)} (hA : RowsAt W av k A) (ho : Only [b] W X) (hne : ∀ M ∈ R, M ≠ []) : RowsAt X a n R :=
  ⟨hR.len, fun i M hi => by
    obtain ⟨g, off, a2, c2, h1, h2, h3, h4, h5⟩ := hR.at_ i M hi
    have hM := hne M (List.mem_of_getElem? hi)
    have hx : ∃ x, M[0]? = some x := ⟨_, List.getElem?_eq_getElem (by cases M with | nil => exact absurd rfl hM | cons _ _ => simp)⟩
    obtain ⟨x, hx⟩ := hx
    obtain ⟨g2, o2, e2, e3, e4⟩ := h5.at_ 0 x hx
    have hs := e4 0 (.string x.s) rfl
    have hgb : g ≠ b := fun e => by
      subst e
      rcases z.at_ h3 with h | h | h | h | h | h | h | h
      · simp only [Value.slice.injEq] at h
        obtain ⟨q1, q2, _⟩ := h
        have hl := hA.len
        have hk : 1 ≤ k := by
          rw [← q2]
          cases M with
          | nil => exact absurd rfl hM
          | cons _ _ => simp
        obtain ⟨N, hN⟩ : ∃ N, A[0]? = some N := ⟨_, List.getElem?_eq_getElem (by omega)⟩
        obtain ⟨g5, o5, a5, c5, k1, _, k3, _⟩ := hA.at_ 0 N hN
        rw [← q1, e2] at k1
        simp only [Option.some.injEq, Addr.mk.injEq, and_true] at k1
        obtain ⟨rfl, rfl⟩ := k1
        simp only [Nat.zero_mul, Nat.add_zero] at hs k3
        rw [k3] at hs
        cases hs
      all_goals cases h
    refine ⟨g, off, a2, c2, h1, Nat.lt_of_lt_of_le h2 ho.size, (cellB (ho.block g h2 (by simp; exact hgb))).trans h3, h4, h5.len, fun q y hq => ?_⟩
    obtain ⟨g', o', e1, e2, e3⟩ := h5.at_ q y hq
    have hgb' : g' ≠ b := fun e => by
      subst e
      have := e3 0 (.string y.s) rfl
      rcases z.at_ this with h | h | h | h | h | h | h | h <;> cases h
    exact ⟨g', o', e1, Nat.lt_of_lt_of_le e2 ho.size, fun j v hv => (cellB (ho.block g' e2 (by simp; exact hgb'))).trans (e3 j v hv)⟩⟩
structure RSt where
  A : List (List GC)
  r : Int
  c : Int
  s : Bool
  w : Nat
  h : Nat
  want : Nat
  ph : Nat
def RgI (W : World) (b : Nat) (x : RSt) : Prop := ∃ av cap, RgB W b (.slice av x.A.length cap) x.r x.c x.s x.w x.h x.want x.ph ∧ RowsAt W av x.A.length x.A ∧ x.A.length ≤ cap ∧ cap ≤ maxLen
theorem RgI.below {W X : World} {b : Nat} {x : RSt} (z : RgI W b x) (hb : Below W.heap.size W X) : RgI X b x := by
  obtain ⟨av, cap, h1, h2, h3⟩ := z
  exact ⟨av, cap, h1.below hb, h2.below hb, h3⟩
def sideOk (w h : Int) : Bool := decide (1 ≤ w ∧ w ≤ 500 ∧ 1 ≤ h ∧ h ≤ 500)
set_option maxRecDepth 100000 in
theorem rgsize_any (w h : Int) (W : World) : Calls Tryz.prog 127 #[.int .i64 w, .int .i64 h] W fun e w' => e = .returned (.bool (sideOk w h)) ∧ W = w' := by
  go_enter Tryz.func127, Tryz.ntmps127
  go_wp2
  all_goals
    go_ret
    refine ⟨ret_bool ?_, rfl⟩
    unfold sideOk
    rw [Bool.eq_iff_iff]; simp; omega
set_option maxRecDepth 100000 in
theorem gmade_any {W : World} {b : Nat} {v : Value} {r c : Int} {s : Bool} {w h want ph : Int} (z : RgB W b v r c s w h want ph) (hp : ph ≠ 0) : Calls Tryz.prog 128 #[.pointer (some ⟨b, 0, none⟩)] W fun e w' => e = .returned (.bool true) ∧ W = w' := by
  obtain ⟨c0, c1, c2, c3, c4, c5, c6, c7⟩ := z.cells
  go_enter Tryz.func128, Tryz.ntmps128
  go_wp2
  go_ret
  refine ⟨ret_bool ?_, rfl⟩
  first | rfl | simp [hp] | trace_state
set_option maxRecDepth 100000 in
theorem grows_any {W : World} {b : Nat} {v : Value} {r c : Int} {s : Bool} {w h want ph : Int} (z : RgB W b v r c s w h want ph) : Calls Tryz.prog 133 #[.pointer (some ⟨b, 0, none⟩)] W fun e w' => e = .returned (.int .i64 (min want h)) ∧ Below W.heap.size W w' := by
  go_enter Tryz.func133, Tryz.ntmps133
  go_wp2_with fail
  refine wp_region_mix2 [(true, 0), (true, 1), (true, 2), (true, 3), (true, 4), (true, 5), (true, 6), (true, 7), (true, 8), (true, 9)] (fun Y => Below W.heap.size W Y) (by kernel_rfl) (by kernel_rfl) (by rfl) (by kernel_rfl) (by kernel_rfl) (fun _ _ d _ _ h => by cases d <;> exact h) ((Below.refl _ _).drew) ?_
  simp only [mixL, List.getElem?_cons_succ, List.getElem?_cons_zero]
  obtain ⟨q0, hq0⟩ : ∃ q, W.drew = q := ⟨_, rfl⟩
  have Bq0 : Below W.heap.size W q0 := by rw [← hq0]; exact (Below.refl _ _).drew
  rw [hq0]
  clear hq0
  refine' wpMix2_read (v := _) rfl ?_ ?_
  rotate_left 1
  · intro w' hw'; obtain ⟨c0, c1, c2, c3, c4, c5, c6, c7⟩ := (z.below hw').cells; go_simp; try with_reducible rfl
  try simp only [Act.put, List.setIfInBounds_toArray, List.set_cons_zero, List.set_cons_succ]
  refine' wpMix2_read (v := _) rfl ?_ ?_
  rotate_left 1
  · intro w' hw'; obtain ⟨c0, c1, c2, c3, c4, c5, c6, c7⟩ := (z.below hw').cells; go_simp; try with_reducible rfl
  try simp only [Act.put, List.setIfInBounds_toArray, List.set_cons_zero, List.set_cons_succ]
  refine' wpMix2_read (v := _) rfl ?_ ?_
  rotate_left 1
  · intro w' hw'; obtain ⟨c0, c1, c2, c3, c4, c5, c6, c7⟩ := (z.below hw').cells; go_simp; try with_reducible rfl
  try simp only [Act.put, List.setIfInBounds_toArray, List.set_cons_zero, List.set_cons_succ]
  refine' wpMix2_read (v := _) rfl ?_ ?_
  rotate_left 1
  · intro w' hw'; obtain ⟨c0, c1, c2, c3, c4, c5, c6, c7⟩ := (z.below hw').cells; go_simp; try with_reducible rfl
  try simp only [Act.put, List.setIfInBounds_toArray, List.set_cons_zero, List.set_cons_succ]
  refine' wpMix2_read (v := _) rfl ?_ ?_
  rotate_left 1
  · intro w' hw'; obtain ⟨c0, c1, c2, c3, c4, c5, c6, c7⟩ := (z.below hw').cells; go_simp; try with_reducible rfl
  try simp only [Act.put, List.setIfInBounds_toArray, List.set_cons_zero, List.set_cons_succ]
  refine' wpMix2_read (v := _) rfl ?_ ?_
  rotate_left 1
  · intro w' hw'; obtain ⟨c0, c1, c2, c3, c4, c5, c6, c7⟩ := (z.below hw').cells; go_simp; try with_reducible rfl
  try simp only [Act.put, List.setIfInBounds_toArray, List.set_cons_zero, List.set_cons_succ]
  refine' wpMix2_read (v := _) rfl ?_ ?_
  rotate_left 1
  · intro w' hw'; obtain ⟨c0, c1, c2, c3, c4, c5, c6, c7⟩ := (z.below hw').cells; go_simp; try with_reducible rfl
  try simp only [Act.put, List.setIfInBounds_toArray, List.set_cons_zero, List.set_cons_succ]
  refine' wpMix2_read (v := _) rfl ?_ ?_
  rotate_left 1
  · intro w' hw'; obtain ⟨c0, c1, c2, c3, c4, c5, c6, c7⟩ := (z.below hw').cells; go_simp; try with_reducible rfl
  try simp only [Act.put, List.setIfInBounds_toArray, List.set_cons_zero, List.set_cons_succ]
  refine' wpMix2_read (v := _) rfl ?_ ?_
  rotate_left 1
  · intro w' hw'; obtain ⟨c0, c1, c2, c3, c4, c5, c6, c7⟩ := (z.below hw').cells; go_simp; try with_reducible rfl
  try simp only [Act.put, List.setIfInBounds_toArray, List.set_cons_zero, List.set_cons_succ]
  refine' wpMix2_read (v := _) rfl ?_ ?_
  rotate_left 1
  · intro w' hw'; obtain ⟨c0, c1, c2, c3, c4, c5, c6, c7⟩ := (z.below hw').cells; go_simp; try with_reducible rfl
  try simp only [Act.put, List.setIfInBounds_toArray, List.set_cons_zero, List.set_cons_succ]
  refine wpMix2_nil ?_
  go_wp2
  go_ret
  exact ⟨rfl, Bq0⟩
set_option maxRecDepth 100000 in
theorem gSize_any {W : World} {b : Nat} {v : Value} {r c : Int} {s : Bool} {w h want ph : Int} (z : RgB W b v r c s w h want ph) (hp : ph ≠ 0) : Calls Tryz.prog 73 #[.pointer (some ⟨b, 0, none⟩)] W fun e w' => e = .returned (.tuple #[.int .i64 w, .int .i64 (min want h)]) ∧ Below W.heap.size W w' := by
  have CM := Lib.hid (gmade_any z hp)
  have CR := Lib.hid (fun (Y : World) (hY : Below W.heap.size W Y) => grows_any (z.below hY))
  go_enter Tryz.func73, Tryz.ntmps73
  go_wp2_with (go_at_call 128; refine CM.out.mono ?_; rintro e X ⟨rfl, rfl⟩)
  refine wp_region_mix2 [(true, 0), (true, 1), (true, 2), (true, 3), (true, 4), (false, 5), (true, 6), (true, 7)] (fun Y => Below W.heap.size W Y) (by kernel_rfl) (by kernel_rfl) (by rfl) (by kernel_rfl) (by kernel_rfl) (fun _ _ d _ _ h => by cases d <;> exact h) ((Below.refl _ _).drew) ?_
  simp only [mixL, List.getElem?_cons_succ, List.getElem?_cons_zero]
  obtain ⟨q0, hq0⟩ : ∃ q, W.drew = q := ⟨_, rfl⟩
  have Bq0 : Below W.heap.size W q0 := by rw [← hq0]; exact (Below.refl _ _).drew
  rw [hq0]
  clear hq0
  refine' wpMix2_read (v := _) rfl ?_ ?_
  rotate_left 1
  · intro w' hw'; obtain ⟨c0, c1, c2, c3, c4, c5, c6, c7⟩ := (z.below hw').cells; go_simp; try with_reducible rfl
  try simp only [Act.put, List.setIfInBounds_toArray, List.set_cons_zero, List.set_cons_succ]
  refine' wpMix2_read (v := _) rfl ?_ ?_
  rotate_left 1
  · intro w' hw'; obtain ⟨c0, c1, c2, c3, c4, c5, c6, c7⟩ := (z.below hw').cells; go_simp; try with_reducible rfl
  try simp only [Act.put, List.setIfInBounds_toArray, List.set_cons_zero, List.set_cons_succ]
  refine' wpMix2_read (v := _) rfl ?_ ?_
  rotate_left 1
  · intro w' hw'; obtain ⟨c0, c1, c2, c3, c4, c5, c6, c7⟩ := (z.below hw').cells; go_simp; try with_reducible rfl
  try simp only [Act.put, List.setIfInBounds_toArray, List.set_cons_zero, List.set_cons_succ]
  refine' wpMix2_read (v := _) rfl ?_ ?_
  rotate_left 1
  · intro w' hw'; obtain ⟨c0, c1, c2, c3, c4, c5, c6, c7⟩ := (z.below hw').cells; go_simp; try with_reducible rfl
  try simp only [Act.put, List.setIfInBounds_toArray, List.set_cons_zero, List.set_cons_succ]
  refine' wpMix2_read (v := _) rfl ?_ ?_
  rotate_left 1
  · intro w' hw'; obtain ⟨c0, c1, c2, c3, c4, c5, c6, c7⟩ := (z.below hw').cells; go_simp; try with_reducible rfl
  try simp only [Act.put, List.setIfInBounds_toArray, List.set_cons_zero, List.set_cons_succ]
  refine wpMix2_act (fun K hK => ?_)
  go_wp2_with fail
  refine (CR.out _ Bq0).mono ?_
  rintro e q1 ⟨rfl, hq1⟩
  have Bq1 : Below W.heap.size W q1 := bto Bq0 hq1 Bq0.size
  go_wp2
  refine hK _ _ Bq1 ?_
  clear hK K
  refine' wpMix2_read (v := _) rfl ?_ ?_
  rotate_left 1
  · intro w' hw'; obtain ⟨c0, c1, c2, c3, c4, c5, c6, c7⟩ := (z.below hw').cells; go_simp; try with_reducible rfl
  try simp only [Act.put, List.setIfInBounds_toArray, List.set_cons_zero, List.set_cons_succ]
  refine' wpMix2_read (v := _) rfl ?_ ?_
  rotate_left 1
  · intro w' hw'; obtain ⟨c0, c1, c2, c3, c4, c5, c6, c7⟩ := (z.below hw').cells; go_simp; try with_reducible rfl
  try simp only [Act.put, List.setIfInBounds_toArray, List.set_cons_zero, List.set_cons_succ]
  refine wpMix2_nil ?_
  go_wp2
  go_ret2
  exact ⟨rfl, Bq1⟩
set_option maxRecDepth 100000 in
theorem gOpen_any {W : World} {b : Nat} {v : Value} {r c : Int} {s : Bool} {w h want ph : Int} (z : RgB W b v r c s w h want ph) (hp : ph ≠ 0) : Calls Tryz.prog 71 #[.pointer (some ⟨b, 0, none⟩)] W fun e w' => e = .returned (.bool (decide (ph = 2))) ∧ W = w' := by
  obtain ⟨c0, c1, c2, c3, c4, c5, c6, c7⟩ := z.cells
  have CM := Lib.hid (gmade_any z hp)
  go_enter Tryz.func71, Tryz.ntmps71
  go_wp2_with (go_at_call 128; refine CM.out.mono ?_; rintro e X ⟨rfl, rfl⟩)
  go_ret
  refine ⟨ret_bool ?_, rfl⟩
  first | rfl | simp | trace_state
end Go.Proofs.YtekodpcedjpnjaaGreat
