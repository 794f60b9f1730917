/- The program's terminal: firstTwo, modes. No condition. The program's terminal: modes, and obey of a style. No condition. -/
import Derived.Test.YtekodpcedjpnjaaPT6
import Derived.Test.YtekodpcedjpnjaaPT4
import Derived.Test.YtekodpcedjpnjaaGMathIn
namespace Go.Proofs.Ytekodpcedjpnjaa
set_option linter.unusedVariables false
set_option linter.unusedSimpArgs false
open Go.RowKit Go.Shelf Go.Maps
attribute [local go_sem] Oper.semAt_some
set_option maxRecDepth 100000 in
set_option maxHeartbeats 4000000 in
theorem firstTwo_any {W : World} {g off n cap : Nat} {l : List UInt8} (hB : Bys W g off l) (hn : l.length = n) (hn2 : n ≤ 2000000) (hp : plainB l = true) :
    Calls Try.prog 158 #[.slice (some ⟨g, off, none⟩) n cap] W fun e w' => e = .returned (.tuple #[.int .i64 (nth 0 (numsT 0 l) 0 : Nat), .int .i64 (nth 0 (numsT 0 l) 1 : Nat)]) ∧ Below W.heap.size W w' := by
  obtain ⟨x0, L1, hL⟩ := num_ge l 0
  have HSEQ := Lib.hid (fun (Bx : Nat) (w : World) (hB : Bys w g off l) (hbx : Bx < w.heap.size) (hcb : w.cell? ⟨Bx, 0, none⟩ = some (.slice (some ⟨g, off, none⟩) n cap)) (mm : Nat) (hm : 1 ≤ mm) => num1_stops Bx w hB hn hn2 hp hbx hcb mm hm)
  obtain ⟨NL, hNL⟩ : ∃ NL, NL = numsT 0 l := ⟨_, rfl⟩
  rw [← hNL] at hL HSEQ ⊢
  have HL := Lib.hid hL
  clear hL hNL hn hp
  refine (callsIn_wide (n := 9)).1 ?_
  have h1 : 1 ≤ 9 := by omega
  refine callsIn_of_wp_marks Try.func158 rfl trivial ?_ rfl
  simp only [Try.ntmps158, List.size_toArray, List.length_cons, List.length_nil, Nat.reduceAdd, Nat.reduceSub, Array.replicate_succ, Array.replicate_zero, List.push_toArray, List.append_toArray, List.nil_append, List.cons_append]
  gi_wp2_with (refine ⟨trivial, ?_⟩; gi_at_call 156; refine (callsIn_wide.2 (numbers_any _ _ _ _)).mono ?_; rintro e w2 ⟨rfl, rfl⟩)
  obtain ⟨X1, hX1⟩ : ∃ X1, W.alloc (.cells #[.int .i64 0, .int .i64 0] 209) = X1 := ⟨_, rfl⟩
  obtain ⟨X2, hX2⟩ : ∃ X2, X1.alloc (.cells #[.int .i64 0] 3) = X2 := ⟨_, rfl⟩
  obtain ⟨W0, hW0⟩ : ∃ W0, X2.alloc (.cells #[.slice (some ⟨g, off, none⟩) n cap] 67) = W0 := ⟨_, rfl⟩
  rw [hX1, hX2, hW0]
  have s1 : X1.heap.size = W.heap.size + 1 := by rw [← hX1]; simp
  have s2 : X2.heap.size = W.heap.size + 1 + 1 := by rw [← hX2]; simp [s1]
  have s3 : W0.heap.size = W.heap.size + 1 + 1 + 1 := by rw [← hW0]; simp [s2]
  have b1 : Below W.heap.size W X1 := by rw [← hX1]; exact (Below.refl _ _).alloc (Nat.le_refl _) _
  have b2 : Below (W.heap.size + 1) X1 X2 := by rw [← hX2]; exact (Below.refl _ _).alloc (by omega) _
  have b3 : Below (W.heap.size + 1 + 1) X2 W0 := by rw [← hW0]; exact (Below.refl _ _).alloc (by omega) _
  have k1 : X1.heap[W.heap.size]? = some (.cells #[.int .i64 0, .int .i64 0] 209 (0, 0)) := by rw [← hX1]; exact World.alloc_heap_new W _
  have k2 : X2.heap[W.heap.size + 1]? = some (.cells #[.int .i64 0] 3 (0, 0)) := by rw [← hX2, ← s1]; exact World.alloc_heap_new X1 _
  have k3 : W0.heap[W.heap.size + 1 + 1]? = some (.cells #[.slice (some ⟨g, off, none⟩) n cap] 67 (0, 0)) := by rw [← hW0, ← s2]; exact World.alloc_heap_new X2 _
  have hBw : Below W.heap.size W W0 := (b1.trans (b2.mono (by omega))).trans (b3.mono (by omega))
  have m1 : W0.heap[W.heap.size]? = some (.cells #[.int .i64 0, .int .i64 0] 209 (0, 0)) := (b3.block _ (by omega)).trans ((b2.block _ (by omega)).trans k1)
  have m2 : W0.heap[W.heap.size + 1]? = some (.cells #[.int .i64 0] 3 (0, 0)) := (b3.block _ (by omega)).trans k2
  have c3 : W0.cell? ⟨W.heap.size + 1 + 1, 0, none⟩ = some (.slice (some ⟨g, off, none⟩) n cap) := by rw [cell_of_row W0 _ 0 _ _ _ k3]; rfl
  have hB0 := hB.below hBw
  have hgl := hB.lt
  clear hX1 hX2 hW0 s1 s2 b1 b2 b3 k1 k2 k3 hB
  refine wpIn_rangeFunc_ownG rfl h1 (gf := 168) (lb := #[.pointer (some ⟨W.heap.size + 1 + 1, 0, none⟩)]) rfl trivial (enters_of Try.func168 (by kernel_rfl) rfl)
    (HSEQ.out (W.heap.size + 1 + 1) W0 hB0 (by omega) c3 _ (by omega)) KB.trans (KB.put (by omega) (by omega)) (Below.refl _ _) (fun _ => rfl)
    (TwoI W W.heap.size) (TwoX W W.heap.size)
    (OwnFrom.and (fun s A B row hs hg hr => ⟨hs.1, own_heap hs.2.1 rfl hg hr, own_heap hs.2.2 rfl hg hr⟩) (ownFrom_below (Nat.le_refl _) (by omega)))
    (fun c => OwnFrom.and (fun s A B row hs hg hr => ⟨hs.1, hs.2.1, own_heap hs.2.2 rfl hg hr⟩) (ownFrom_below (Nat.le_refl _) (by omega)))
    ⟨⟨by simp, m1, m2⟩, hBw⟩
    ?_ ?_ ?_ ?_ ?_
  rotate_left 1
  · intro l0 x W1 K hK
    gi_wp2
    exact hK
  · rintro l0 pre x V ⟨⟨hp1, d1, d2⟩, hB1⟩ _
    have e0 : V.cell? ⟨W.heap.size, 0, none⟩ = some (.int .i64 (nth 0 pre 0 : Nat)) ∧ V.cell? ⟨W.heap.size, 1, none⟩ = some (.int .i64 0) ∧ ∀ j, V.frozen? ⟨W.heap.size, j, none⟩ = false := ⟨by rw [cell_of_row V _ 0 _ _ _ d1]; rfl, by rw [cell_of_row V _ 1 _ _ _ d1]; rfl, fun j => by simp [World.frozen?, d1]⟩
    have e1 : V.cell? ⟨W.heap.size + 1, 0, none⟩ = some (.int .i64 (pre.length : Nat)) ∧ V.frozen? ⟨W.heap.size + 1, 0, none⟩ = false := ⟨by rw [cell_of_row V _ 0 _ _ _ d2]; rfl, by simp [World.frozen?, d2]⟩
    obtain ⟨e00, e01, e0f⟩ := e0
    obtain ⟨e10, e1f⟩ := e1
    have HB1 := Lib.hid hB1
    match pre, hp1 with
    | [], _ =>
      have ht1 := set_at d1 0 (.int .i64 (x : Int))
      have ht2 := set_at ((set_other V W.heap.size 0 (W.heap.size + 1) (.int .i64 (x : Int)) (by omega)).trans d2) 0 (.int .i64 1)
      have ht3 := (set_other (V.setCell ⟨W.heap.size, 0, none⟩ (.int .i64 (x : Int))) (W.heap.size + 1) 0 W.heap.size (.int .i64 1) (by omega)).trans ht1
      have HT2 := Lib.hid ht2
      have HT3 := Lib.hid ht3
      clear ht1 ht2 ht3 d1 d2
      simp only [List.length_nil] at e10
      gi_wp2
      exact ⟨((KeepsOthers.setCell _ _ _).trans (KeepsOthers.setCell _ _ _)).from _, (KB.setCell _ _ _ _ (by omega) (by omega)).trans (KB.setCell _ _ _ _ (by omega) (by omega)), ⟨by simp, HT3.out, HT2.out⟩, (HB1.out.setCell (p := ⟨W.heap.size, 0, none⟩) (Nat.le_refl _) _).setCell (p := ⟨W.heap.size + 1, 0, none⟩) (Nat.le_succ _) _⟩
    | [y], _ =>
      have ht1 := set_at d1 1 (.int .i64 (x : Int))
      have ht3 := (set_other (V.setCell ⟨W.heap.size, 1, none⟩ (.int .i64 (x : Int))) (W.heap.size + 1) 0 W.heap.size (.int .i64 2) (by omega)).trans ht1
      have HT3 := Lib.hid ht3
      clear ht1 ht3 d1 d2
      simp only [List.length_cons, List.length_nil] at e10
      gi_wp2
      exact ⟨((KeepsOthers.setCell _ _ _).trans (KeepsOthers.setCell _ _ _)).from _, ⟨rfl, rfl, HT3.out⟩, (HB1.out.setCell (p := ⟨W.heap.size, 1, none⟩) (Nat.le_refl _) _).setCell (p := ⟨W.heap.size + 1, 0, none⟩) (Nat.le_succ _) _⟩
  · rintro D ys V hD rfl ⟨⟨hp1, d1, d2⟩, hB1⟩ hK
    have hz : ys = [x0] := by
      have := HL.out
      rw [this] at hp1 ⊢
      simp only [List.length_cons] at hp1
      rw [List.eq_nil_of_length_eq_zero (by omega : L1.length = 0)]
    subst hz
    have e0 : V.cell? ⟨W.heap.size, 0, none⟩ = some (.int .i64 (x0 : Int)) ∧ V.cell? ⟨W.heap.size, 1, none⟩ = some (.int .i64 0) := ⟨by rw [cell_of_row V _ 0 _ _ _ d1]; rfl, by rw [cell_of_row V _ 1 _ _ _ d1]; rfl⟩
    obtain ⟨e00, e01⟩ := e0
    clear d1 d2
    gi_wp2
    refine wpIn_region_reads04 (l₀ := none) (by kernel_rfl) (by kernel_rfl) (by kernel_rfl) (by intro a w h; cases h.1) ?_
    repeat (quiet_step (fail))
    refine wpQuiet_nil ?_
    rintro _ ⟨m, rfl⟩
    have hK2 : (V.drewN m).heap[D]? = some (.deferred (some [])) := hK
    have hB2 : Below W.heap.size W (V.drewN m) := ⟨hB1.os, hB1.tape, hB1.output, hB1.size, hB1.block⟩
    gi_wp2
    refine ⟨by simp, .inl ⟨_, _, rfl, run_takeDeferred hK2, ?_⟩⟩
    refine ⟨_, results_tmp2 rfl _ _ _, rfl, hB2.trans (belowK_b (w := W) (Nat.le_refl _) _ D _ _ (by omega) hK2 rfl rfl)⟩
  · rintro D c pre V hD hpre ⟨⟨rfl, hp2, d1⟩, hB1⟩ hK
    have q0 : nth 0 NL 0 = nth 0 pre 0 := (pre_nth hpre (by omega)).symm
    have q1 : nth 0 NL 1 = nth 0 pre 1 := (pre_nth hpre (by omega)).symm
    have e0 : V.cell? ⟨W.heap.size, 0, none⟩ = some (.int .i64 (nth 0 pre 0 : Nat)) ∧ V.cell? ⟨W.heap.size, 1, none⟩ = some (.int .i64 (nth 0 pre 1 : Nat)) := ⟨by rw [cell_of_row V _ 0 _ _ _ d1]; rfl, by rw [cell_of_row V _ 1 _ _ _ d1]; rfl⟩
    rw [← q0, ← q1] at e0
    obtain ⟨e00, e01⟩ := e0
    clear d1 q0 q1 hp2
    gi_wp2
    refine wpIn_region_reads04 (l₀ := none) (by kernel_rfl) (by kernel_rfl) (by kernel_rfl) (by intro a w h; cases h.1) ?_
    repeat (quiet_step (fail))
    refine wpQuiet_nil ?_
    rintro _ ⟨m, rfl⟩
    have hK2 : (V.drewN m).heap[D]? = some (.deferred (some [])) := hK
    have hB2 : Below W.heap.size W (V.drewN m) := ⟨hB1.os, hB1.tape, hB1.output, hB1.size, hB1.block⟩
    gi_wp2
    refine ⟨by simp, .inl ⟨_, _, rfl, run_takeDeferred hK2, ?_⟩⟩
    refine ⟨_, results_tmp2 rfl _ _ _, rfl, hB2.trans (belowK_b (w := W) (Nat.le_refl _) _ D _ _ (by omega) hK2 rfl rfl)⟩
end Go.Proofs.Ytekodpcedjpnjaa
namespace Go.Proofs.Ytekodpcedjpnjaa
set_option linter.unusedVariables false
set_option linter.unusedSimpArgs false
open Go.RowKit Go.Shelf Go.Maps
attribute [local go_sem] Oper.semAt_some
def TS.modeF (on : Bool) (t : TS) (n : Nat) : TS := t.mode on n
theorem fold_snoc {α : Type} (f : TS → α → TS) (t : TS) (pre : List α) (x : α) : (pre ++ [x]).foldl f t = f (pre.foldl f t) x := by rw [List.foldl_append]; rfl
/-- What holds between the numbers of a loop over them: the terminal stands as f has made it; the call's boxes abide. -/
def NumI (w : World) (b p q : Nat) (hv : Value) (t : TS) (f : TS → Nat → TS) (bx : List (Nat × Value × TypeId)) (pre : List Nat) (W : World) : Prop :=
  (TmAt W b p q hv (pre.foldl f t) ∧ ∀ x ∈ bx, W.heap[x.1]? = some (.cells #[x.2.1] x.2.2 (0, 0))) ∧ Only [b, q] w W
theorem NumI.own {w : World} {b p q : Nat} {hv : Value} {t : TS} {f : TS → Nat → TS} {bx : List (Nat × Value × TypeId)} {B : Nat} (hB : w.heap.size ≤ B) : OwnFrom B (NumI w b p q hv t f bx) := fun s A C row h hg hr =>
  ⟨⟨h.1.1.own hg hr, fun x hx => own_heap (h.1.2 x hx) rfl hg hr⟩, h.2.own hB hg hr⟩
theorem box_cell {W : World} {b : Nat} {v : Value} {t : TypeId} (h : W.heap[b]? = some (.cells #[v] t (0, 0))) : W.cell? ⟨b, 0, none⟩ = some v := by rw [cell_of_row W b 0 _ _ _ h]; rfl
theorem TmAt.bells_eq {W : World} {b p q : Nat} {hv : Value} {t t' : TS} (a : TmAt W b p q hv t) (e : t = t') : TmAt W b p q hv t' := e ▸ a
set_option maxRecDepth 100000 in
set_option maxHeartbeats 4000000 in
theorem pmodes104 {W : World} {b p q : Nat} {hv : Value} {t : TS} (a : TmAt W b p q hv t) {g off n cap : Nat} {l : List UInt8} (hB : Bys W g off l) (hn : l.length = n) (hn2 : n ≤ 2000000) (hp : plainB l = true) (hgb : g ≠ b) :
    Calls Try.prog 155 #[.pointer (some ⟨b, 0, none⟩), .slice (some ⟨g, off, none⟩) n cap, .int .u8 104] W (TmPost b p q hv ((numsT 0 l).foldl (TS.modeF true) t) W) := by
  have HSEQ := Lib.hid (fun (Bx : Nat) (w : World) (hB : Bys w g off l) (hbx : Bx < w.heap.size) (hcb : w.cell? ⟨Bx, 0, none⟩ = some (.slice (some ⟨g, off, none⟩) n cap)) (mm : Nat) (hm : 1 ≤ mm) => num1_stops Bx w hB hn hn2 hp hbx hcb mm hm)
  obtain ⟨NL, hNL⟩ : ∃ NL, NL = numsT 0 l := ⟨_, rfl⟩
  rw [← hNL] at HSEQ ⊢
  clear hNL hn hp
  have hlt := a.lt
  have AA := Lib.hid a
  clear a
  refine (callsIn_wide (n := 9)).1 ?_
  have h1 : 1 ≤ 9 := by omega
  refine callsIn_of_wp_marks Try.func155 rfl trivial ?_ rfl
  simp only [Try.ntmps155, List.size_toArray, List.length_cons, List.length_nil, Nat.reduceAdd, Nat.reduceSub, Array.replicate_succ, Array.replicate_zero, List.push_toArray, List.append_toArray, List.nil_append, List.cons_append]
  gi_wp2_with (refine ⟨trivial, ?_⟩; gi_at_call 156; refine (callsIn_wide.2 (numbers_any _ _ _ _)).mono ?_; rintro e w2 ⟨rfl, rfl⟩)
  obtain ⟨X1, hX1⟩ : ∃ X1, W.alloc (.cells #[.pointer (some ⟨b, 0, none⟩)] 63) = X1 := ⟨_, rfl⟩
  obtain ⟨X2, hX2⟩ : ∃ X2, X1.alloc (.cells #[.bool true] 4) = X2 := ⟨_, rfl⟩
  obtain ⟨W0, hW0⟩ : ∃ W0, X2.alloc (.cells #[.slice (some ⟨g, off, none⟩) n cap] 67) = W0 := ⟨_, rfl⟩
  rw [hX1, hX2, hW0]
  have s1 : X1.heap.size = W.heap.size + 1 := by rw [← hX1]; simp
  have s2 : X2.heap.size = W.heap.size + 1 + 1 := by rw [← hX2]; simp [s1]
  have s3 : W0.heap.size = W.heap.size + 1 + 1 + 1 := by rw [← hW0]; simp [s2]
  have b1 : Below W.heap.size W X1 := by rw [← hX1]; exact (Below.refl _ _).alloc (Nat.le_refl _) _
  have b2 : Below (W.heap.size + 1) X1 X2 := by rw [← hX2]; exact (Below.refl _ _).alloc (by omega) _
  have b3 : Below (W.heap.size + 1 + 1) X2 W0 := by rw [← hW0]; exact (Below.refl _ _).alloc (by omega) _
  have k1 : X1.heap[W.heap.size]? = some (.cells #[.pointer (some ⟨b, 0, none⟩)] 63 (0, 0)) := by rw [← hX1]; exact World.alloc_heap_new W _
  have k2 : X2.heap[W.heap.size + 1]? = some (.cells #[.bool true] 4 (0, 0)) := by rw [← hX2, ← s1]; exact World.alloc_heap_new X1 _
  have k3 : W0.heap[W.heap.size + 1 + 1]? = some (.cells #[.slice (some ⟨g, off, none⟩) n cap] 67 (0, 0)) := by rw [← hW0, ← s2]; exact World.alloc_heap_new X2 _
  have hBw : Below W.heap.size W W0 := (b1.trans (b2.mono (by omega))).trans (b3.mono (by omega))
  have m1 : W0.heap[W.heap.size]? = some (.cells #[.pointer (some ⟨b, 0, none⟩)] 63 (0, 0)) := (b3.block _ (by omega)).trans ((b2.block _ (by omega)).trans k1)
  have m2 : W0.heap[W.heap.size + 1]? = some (.cells #[.bool true] 4 (0, 0)) := (b3.block _ (by omega)).trans k2
  have c3 : W0.cell? ⟨W.heap.size + 1 + 1, 0, none⟩ = some (.slice (some ⟨g, off, none⟩) n cap) := by rw [cell_of_row W0 _ 0 _ _ _ k3]; rfl
  have hB0 := hB.below hBw
  have hgl := hB.lt
  have a0 := AA.out.below hBw
  clear hX1 hX2 hW0 s1 s2 b1 b2 b3 k1 k2 k3 hB
  refine wpIn_rangeFunc_ownG rfl h1 (gf := 168) (lb := #[.pointer (some ⟨W.heap.size + 1 + 1, 0, none⟩)]) rfl trivial (enters_of Try.func168 (by kernel_rfl) rfl)
    (HSEQ.out (W.heap.size + 1 + 1) W0 hB0 (by omega) c3 _ (by omega)) KB.trans (KB.put (by omega) (by omega)) (Below.refl _ _) (fun _ => rfl)
    (NumI W b p q hv t (TS.modeF true) [(W.heap.size, .pointer (some ⟨b, 0, none⟩), 63), (W.heap.size + 1, .bool true, 4)]) (fun _ _ _ => False)
    (NumI.own (by omega))
    (fun c s A B row hs hg hr => hs)
    ⟨⟨a0, fun x hx => by
      simp only [List.mem_cons, List.not_mem_nil, or_false] at hx
      rcases hx with rfl | rfl
      · exact m1
      · exact m2⟩, Only.of_below hBw⟩
    ?_ ?_ ?_ ?_ ?_
  rotate_left 1
  · intro l0 x W1 K hK
    gi_wp2
    exact hK
  · rintro l0 pre x V ⟨⟨aV, hbx⟩, oV⟩ _
    have d1 := box_cell (hbx (W.heap.size, .pointer (some ⟨b, 0, none⟩), 63) (by simp))
    have d2 := box_cell (hbx (W.heap.size + 1, .bool true, 4) (by simp))
    have HBX := Lib.hid hbx
    have hfs := fold_snoc (TS.modeF true) t pre x
    have HFS := Lib.hid hfs
    clear hbx hfs
    obtain ⟨t1, ht1⟩ : ∃ t1, t1 = pre.foldl (TS.modeF true) t := ⟨_, rfl⟩
    rw [← ht1] at aV HFS
    have HT1 := Lib.hid ht1
    clear ht1
    obtain ⟨c0, c1, c2, c3, c4, c5, c6, c7, c8, c9, c10, c11, c12, c13, c14, c15, c16, fz⟩ := aV.cells
    by_cases h25 : x = 25
    · subst h25
      have aN := aV.put 10 (.bool false) hv { t1 with seen := true } rfl rfl rfl rfl
      have HE : Hid (TS.modeF true t1 25 = { t1 with seen := true }) := Lib.hid rfl
      gi_wp2
      refine ⟨(KeepsOthers.setCell _ _ _).from _, KB.setCell _ _ _ _ (by omega) hgb, ⟨?_, fun x hx => ?_⟩, oV.trans (set_only _ _ _ _).ob⟩
      · rw [HFS.out, HE.out]; exact aN
      · refine (set_other _ _ _ _ _ ?_).trans (HBX.out x hx)
        simp only [List.mem_cons, List.not_mem_nil, or_false] at hx
        rcases hx with rfl | rfl
        · show W.heap.size ≠ b; omega
        · show W.heap.size + 1 ≠ b; omega
    have n25 : ((x : Int) == 25) = false := by simp; omega
    by_cases h2004 : x = 2004
    · subst h2004
      have aN := aV.put 11 (.bool true) hv { t1 with marked := true } rfl rfl rfl rfl
      have HE : Hid (TS.modeF true t1 2004 = { t1 with marked := true }) := Lib.hid rfl
      clear h25
      gi_wp2
      refine ⟨(KeepsOthers.setCell _ _ _).from _, KB.setCell _ _ _ _ (by omega) hgb, ⟨?_, fun x hx => ?_⟩, oV.trans (set_only _ _ _ _).ob⟩
      · rw [HFS.out, HE.out]; exact aN
      · refine (set_other _ _ _ _ _ ?_).trans (HBX.out x hx)
        simp only [List.mem_cons, List.not_mem_nil, or_false] at hx
        rcases hx with rfl | rfl
        · show W.heap.size ≠ b; omega
        · show W.heap.size + 1 ≠ b; omega
    · have n2004 : ((x : Int) == 2004) = false := by simp; omega
      have HE : Hid (TS.modeF true t1 x = t1) := Lib.hid (by unfold TS.modeF TS.mode; rw [if_neg h25, if_neg h2004])
      clear h25 h2004
      gi_wp2
      refine ⟨KeepsFrom.refl _ _, KB.refl _ _ _, ⟨?_, HBX.out⟩, oV⟩
      rw [HFS.out, HE.out]; exact aV
  · rintro D ys V hD rfl ⟨⟨aV, hbx⟩, oV⟩ hK
    clear hbx
    gi_wp2
    refine ⟨by simp, .inl ⟨_, _, rfl, run_takeDeferred hK, ?_⟩⟩
    exact ⟨_, results_none rfl _ _ _, rfl, tm_put aV D _ _ hK rfl, only_put oV D _ (by omega)⟩
  · rintro D c pre V hD hpre hF hK
    exact hF.elim
set_option maxRecDepth 100000 in
set_option maxHeartbeats 4000000 in
theorem pmodes108 {W : World} {b p q : Nat} {hv : Value} {t : TS} (a : TmAt W b p q hv t) {g off n cap : Nat} {l : List UInt8} (hB : Bys W g off l) (hn : l.length = n) (hn2 : n ≤ 2000000) (hp : plainB l = true) (hgb : g ≠ b) :
    Calls Try.prog 155 #[.pointer (some ⟨b, 0, none⟩), .slice (some ⟨g, off, none⟩) n cap, .int .u8 108] W (TmPost b p q hv ((numsT 0 l).foldl (TS.modeF false) t) W) := by
  have HSEQ := Lib.hid (fun (Bx : Nat) (w : World) (hB : Bys w g off l) (hbx : Bx < w.heap.size) (hcb : w.cell? ⟨Bx, 0, none⟩ = some (.slice (some ⟨g, off, none⟩) n cap)) (mm : Nat) (hm : 1 ≤ mm) => num1_stops Bx w hB hn hn2 hp hbx hcb mm hm)
  obtain ⟨NL, hNL⟩ : ∃ NL, NL = numsT 0 l := ⟨_, rfl⟩
  rw [← hNL] at HSEQ ⊢
  clear hNL hn hp
  have hlt := a.lt
  have AA := Lib.hid a
  clear a
  refine (callsIn_wide (n := 9)).1 ?_
  have h1 : 1 ≤ 9 := by omega
  refine callsIn_of_wp_marks Try.func155 rfl trivial ?_ rfl
  simp only [Try.ntmps155, List.size_toArray, List.length_cons, List.length_nil, Nat.reduceAdd, Nat.reduceSub, Array.replicate_succ, Array.replicate_zero, List.push_toArray, List.append_toArray, List.nil_append, List.cons_append]
  gi_wp2_with (refine ⟨trivial, ?_⟩; gi_at_call 156; refine (callsIn_wide.2 (numbers_any _ _ _ _)).mono ?_; rintro e w2 ⟨rfl, rfl⟩)
  obtain ⟨X1, hX1⟩ : ∃ X1, W.alloc (.cells #[.pointer (some ⟨b, 0, none⟩)] 63) = X1 := ⟨_, rfl⟩
  obtain ⟨X2, hX2⟩ : ∃ X2, X1.alloc (.cells #[.bool false] 4) = X2 := ⟨_, rfl⟩
  obtain ⟨W0, hW0⟩ : ∃ W0, X2.alloc (.cells #[.slice (some ⟨g, off, none⟩) n cap] 67) = W0 := ⟨_, rfl⟩
  rw [hX1, hX2, hW0]
  have s1 : X1.heap.size = W.heap.size + 1 := by rw [← hX1]; simp
  have s2 : X2.heap.size = W.heap.size + 1 + 1 := by rw [← hX2]; simp [s1]
  have s3 : W0.heap.size = W.heap.size + 1 + 1 + 1 := by rw [← hW0]; simp [s2]
  have b1 : Below W.heap.size W X1 := by rw [← hX1]; exact (Below.refl _ _).alloc (Nat.le_refl _) _
  have b2 : Below (W.heap.size + 1) X1 X2 := by rw [← hX2]; exact (Below.refl _ _).alloc (by omega) _
  have b3 : Below (W.heap.size + 1 + 1) X2 W0 := by rw [← hW0]; exact (Below.refl _ _).alloc (by omega) _
  have k1 : X1.heap[W.heap.size]? = some (.cells #[.pointer (some ⟨b, 0, none⟩)] 63 (0, 0)) := by rw [← hX1]; exact World.alloc_heap_new W _
  have k2 : X2.heap[W.heap.size + 1]? = some (.cells #[.bool false] 4 (0, 0)) := by rw [← hX2, ← s1]; exact World.alloc_heap_new X1 _
  have k3 : W0.heap[W.heap.size + 1 + 1]? = some (.cells #[.slice (some ⟨g, off, none⟩) n cap] 67 (0, 0)) := by rw [← hW0, ← s2]; exact World.alloc_heap_new X2 _
  have hBw : Below W.heap.size W W0 := (b1.trans (b2.mono (by omega))).trans (b3.mono (by omega))
  have m1 : W0.heap[W.heap.size]? = some (.cells #[.pointer (some ⟨b, 0, none⟩)] 63 (0, 0)) := (b3.block _ (by omega)).trans ((b2.block _ (by omega)).trans k1)
  have m2 : W0.heap[W.heap.size + 1]? = some (.cells #[.bool false] 4 (0, 0)) := (b3.block _ (by omega)).trans k2
  have c3 : W0.cell? ⟨W.heap.size + 1 + 1, 0, none⟩ = some (.slice (some ⟨g, off, none⟩) n cap) := by rw [cell_of_row W0 _ 0 _ _ _ k3]; rfl
  have hB0 := hB.below hBw
  have hgl := hB.lt
  have a0 := AA.out.below hBw
  clear hX1 hX2 hW0 s1 s2 b1 b2 b3 k1 k2 k3 hB
  refine wpIn_rangeFunc_ownG rfl h1 (gf := 168) (lb := #[.pointer (some ⟨W.heap.size + 1 + 1, 0, none⟩)]) rfl trivial (enters_of Try.func168 (by kernel_rfl) rfl)
    (HSEQ.out (W.heap.size + 1 + 1) W0 hB0 (by omega) c3 _ (by omega)) KB.trans (KB.put (by omega) (by omega)) (Below.refl _ _) (fun _ => rfl)
    (NumI W b p q hv t (TS.modeF false) [(W.heap.size, .pointer (some ⟨b, 0, none⟩), 63), (W.heap.size + 1, .bool false, 4)]) (fun _ _ _ => False)
    (NumI.own (by omega))
    (fun c s A B row hs hg hr => hs)
    ⟨⟨a0, fun x hx => by
      simp only [List.mem_cons, List.not_mem_nil, or_false] at hx
      rcases hx with rfl | rfl
      · exact m1
      · exact m2⟩, Only.of_below hBw⟩
    ?_ ?_ ?_ ?_ ?_
  rotate_left 1
  · intro l0 x W1 K hK
    gi_wp2
    exact hK
  · rintro l0 pre x V ⟨⟨aV, hbx⟩, oV⟩ _
    have d1 := box_cell (hbx (W.heap.size, .pointer (some ⟨b, 0, none⟩), 63) (by simp))
    have d2 := box_cell (hbx (W.heap.size + 1, .bool false, 4) (by simp))
    have HBX := Lib.hid hbx
    have hfs := fold_snoc (TS.modeF false) t pre x
    have HFS := Lib.hid hfs
    clear hbx hfs
    obtain ⟨t1, ht1⟩ : ∃ t1, t1 = pre.foldl (TS.modeF false) t := ⟨_, rfl⟩
    rw [← ht1] at aV HFS
    have HT1 := Lib.hid ht1
    clear ht1
    obtain ⟨c0, c1, c2, c3, c4, c5, c6, c7, c8, c9, c10, c11, c12, c13, c14, c15, c16, fz⟩ := aV.cells
    by_cases h25 : x = 25
    · subst h25
      have aN := aV.put 10 (.bool true) hv { t1 with seen := false } rfl rfl rfl rfl
      have HE : Hid (TS.modeF false t1 25 = { t1 with seen := false }) := Lib.hid rfl
      gi_wp2
      refine ⟨(KeepsOthers.setCell _ _ _).from _, KB.setCell _ _ _ _ (by omega) hgb, ⟨?_, fun x hx => ?_⟩, oV.trans (set_only _ _ _ _).ob⟩
      · rw [HFS.out, HE.out]; exact aN
      · refine (set_other _ _ _ _ _ ?_).trans (HBX.out x hx)
        simp only [List.mem_cons, List.not_mem_nil, or_false] at hx
        rcases hx with rfl | rfl
        · show W.heap.size ≠ b; omega
        · show W.heap.size + 1 ≠ b; omega
    have n25 : ((x : Int) == 25) = false := by simp; omega
    by_cases h2004 : x = 2004
    · subst h2004
      have aN := aV.put 11 (.bool false) hv { t1 with marked := false } rfl rfl rfl rfl
      have HE : Hid (TS.modeF false t1 2004 = { t1 with marked := false }) := Lib.hid rfl
      clear h25
      gi_wp2
      refine ⟨(KeepsOthers.setCell _ _ _).from _, KB.setCell _ _ _ _ (by omega) hgb, ⟨?_, fun x hx => ?_⟩, oV.trans (set_only _ _ _ _).ob⟩
      · rw [HFS.out, HE.out]; exact aN
      · refine (set_other _ _ _ _ _ ?_).trans (HBX.out x hx)
        simp only [List.mem_cons, List.not_mem_nil, or_false] at hx
        rcases hx with rfl | rfl
        · show W.heap.size ≠ b; omega
        · show W.heap.size + 1 ≠ b; omega
    · have n2004 : ((x : Int) == 2004) = false := by simp; omega
      have HE : Hid (TS.modeF false t1 x = t1) := Lib.hid (by unfold TS.modeF TS.mode; rw [if_neg h25, if_neg h2004])
      clear h25 h2004
      gi_wp2
      refine ⟨KeepsFrom.refl _ _, KB.refl _ _ _, ⟨?_, HBX.out⟩, oV⟩
      rw [HFS.out, HE.out]; exact aV
  · rintro D ys V hD rfl ⟨⟨aV, hbx⟩, oV⟩ hK
    clear hbx
    gi_wp2
    refine ⟨by simp, .inl ⟨_, _, rfl, run_takeDeferred hK, ?_⟩⟩
    exact ⟨_, results_none rfl _ _ _, rfl, tm_put aV D _ _ hK rfl, only_put oV D _ (by omega)⟩
  · rintro D c pre V hD hpre hF hK
    exact hF.elim
set_option maxRecDepth 100000 in
set_option maxHeartbeats 4000000 in
theorem pmodesN {W : World} {b p q : Nat} {hv : Value} {t : TS} (a : TmAt W b p q hv t) (v : Value) (e : Nat) (he : e < 256) (k1 : ((e : Int) != 104) = true) (k2 : ((e : Int) != 108) = true) :
    Calls Try.prog 155 #[.pointer (some ⟨b, 0, none⟩), v, .int .u8 (e : Int)] W (TmPost b p q hv t W) := by
  have b1 : Below W.heap.size W (W.alloc (.cells #[.pointer (some ⟨b, 0, none⟩)] 63)) := (Below.refl _ _).alloc (Nat.le_refl _) _
  go_enter Try.func155, Try.ntmps155
  go_wp2
  (try simp only [Exit.inBlock, Exit.then]); refine bodyPost_ret (results_none rfl _ _ _) rfl ?_
  exact ⟨rfl, a.below b1, Only.on b1⟩
theorem pmodes_any {W : World} {b p q : Nat} {hv : Value} {t : TS} (a : TmAt W b p q hv t) {g off n cap : Nat} {l : List UInt8} (hB : Bys W g off l) (hn : l.length = n) (hn2 : n ≤ 2000000) (hp : plainB l = true) (hgb : g ≠ b) (e : Nat) (he : e < 256) :
    Calls Try.prog 155 #[.pointer (some ⟨b, 0, none⟩), .slice (some ⟨g, off, none⟩) n cap, .int .u8 (e : Int)] W (TmPost b p q hv (t.modes (numsT 0 l) e) W) := by
  unfold TS.modes
  by_cases h1 : e = 104
  · subst h1; rw [if_pos (.inl rfl)]; exact pmodes104 a hB hn hn2 hp hgb
  by_cases h2 : e = 108
  · subst h2; rw [if_pos (.inr rfl)]; exact pmodes108 a hB hn hn2 hp hgb
  rw [if_neg (by omega)]
  exact pmodesN a _ e he (by simp; omega) (by simp; omega)
end Go.Proofs.Ytekodpcedjpnjaa
