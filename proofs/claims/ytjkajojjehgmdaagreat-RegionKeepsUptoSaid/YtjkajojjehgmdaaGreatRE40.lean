/- The program's region in memory, and its small functions. No condition. The program's region: New, first, reserve, blank, Start. No condition. Printed by gen_rn1.py. -/
import Derived.Test.YtjkajojjehgmdaaGreatRE32
import Derived.Test.YtjkajojjehgmdaaGreatRE39
set_option linter.unusedVariables false
set_option linter.unusedSimpArgs false
namespace Go.Proofs.YtjkajojjehgmdaaGreat
open Go.RowKit Go.Shelf Go.Maps
def RgB (W : World) (b : Nat) (v : Value) (r c : Int) (s : Bool) (w h want ph : Int) : Prop := W.heap[b]? = some (.cells #[v, .int .i64 r, .int .i64 c, .bool s, .int .i64 w, .int .i64 h, .int .i64 want, .int .i64 ph] 78 (0, 0))
theorem RgB.lt {W : World} {b : Nat} {v : Value} {r c : Int} {s : Bool} {w h want ph : Int} (z : RgB W b v r c s w h want ph) : b < W.heap.size := (Array.getElem?_eq_some_iff.1 z).1
theorem RgB.below {W X : World} {b : Nat} {v : Value} {r c : Int} {s : Bool} {w h want ph : Int} (z : RgB W b v r c s w h want ph) (hb : Below W.heap.size W X) : RgB X b v r c s w h want ph := (hb.block b z.lt).trans z
theorem RgB.only {W X : World} {b : Nat} {v : Value} {r c : Int} {s : Bool} {w h want ph : Int} {S : List Nat} (z : RgB W b v r c s w h want ph) (ho : Only S W X) (hS : b ∉ S) : RgB X b v r c s w h want ph := ho.heap z hS
theorem RgB.cells {W : World} {b : Nat} {v : Value} {r c : Int} {s : Bool} {w h want ph : Int} (z : RgB W b v r c s w h want ph) :
    W.cell? ⟨b, 0, none⟩ = some v ∧ W.cell? ⟨b, 1, none⟩ = some (.int .i64 r) ∧ W.cell? ⟨b, 2, none⟩ = some (.int .i64 c) ∧ W.cell? ⟨b, 3, none⟩ = some (.bool s) ∧ W.cell? ⟨b, 4, none⟩ = some (.int .i64 w) ∧ W.cell? ⟨b, 5, none⟩ = some (.int .i64 h) ∧ W.cell? ⟨b, 6, none⟩ = some (.int .i64 want) ∧ W.cell? ⟨b, 7, none⟩ = some (.int .i64 ph) := by
 refine ⟨?_, ?_, ?_, ?_, ?_, ?_, ?_, ?_⟩ <;> (rw [cell_of_row W b _ _ _ _ z]; rfl)
theorem RgB.froz {W : World} {b : Nat} {v : Value} {r c : Int} {s : Bool} {w h want ph : Int} (z : RgB W b v r c s w h want ph) : ∀ j, W.frozen? ⟨b, j, none⟩ = false := fun j => by
 unfold RgB at z
 simp [World.frozen?, z]
theorem RgB.load {W : World} {b : Nat} {v : Value} {r c : Int} {s : Bool} {w h want ph : Int} (z : RgB W b v r c s w h want ph) : (loadVar 42 ⟨b, 0, none⟩).run Tryz.prog W = .ok (.agg #[v, .int .i64 r, .int .i64 c, .bool s]) W := by
 obtain ⟨c0, c1, c2, c3, _⟩ := z.cells
 refine run_loadVar_mid (P := Tryz.prog) W b 0 42 [v, .int .i64 r, .int .i64 c, .bool s] _ (fun j u h => ?_) Tryz.underlying42 rfl ?_
 ·rcases j with _ | _ | _ | _ | j
  ·simp only [List.getElem?_cons_zero, Option.some.injEq] at h; subst h; exact c0
  ·simp only [List.getElem?_cons_succ, List.getElem?_cons_zero, Option.some.injEq] at h; subst h; exact c1
  ·simp only [List.getElem?_cons_succ, List.getElem?_cons_zero, Option.some.injEq] at h; subst h; exact c2
  ·simp only [List.getElem?_cons_succ, List.getElem?_cons_zero, Option.some.injEq] at h; subst h; exact c3
  ·simp at h
 ·kernel_rfl
theorem RgB.at_ {W : World} {b : Nat} {v : Value} {r c : Int} {s : Bool} {w h want ph : Int} (z : RgB W b v r c s w h want ph) {j : Nat} {u : Value} (hc : W.cell? ⟨b, j, none⟩ = some u) : u = v ∨ u = .int .i64 r ∨ u = .int .i64 c ∨ u = .bool s ∨ u = .int .i64 w ∨ u = .int .i64 h ∨ u = .int .i64 want ∨ u = .int .i64 ph := by
 rw [cell_of_row W b j _ _ _ z] at hc
 have h1 := (Array.mem_of_getElem? hc)
 simpa using h1
theorem RowsAt.reg {W X : World} {a : Option Addr} {n : Nat} {R : List (List GC)} (hR : RowsAt W a n R) {b : Nat} {av : Option Addr} {k cp : Nat} {r c : Int} {s : Bool} {w h want ph : Int} (z : RgB W b (.slice av k cp) r c s w h want ph) {A : List (List GC)} (hA : RowsAt W av k A) (ho : Only [b] W X) (hne : ∀ M ∈ R, M ≠ []) : RowsAt X a n R :=
 ⟨hR.len, fun i M hi => by
  obtain ⟨g, off, a2, c2, h1, h2, h3, h4, h5⟩ := hR.at_ i M hi
  have hM := hne M (List.mem_of_getElem? hi)
  have hx : ∃ x, M[0]? = some x := ⟨_, List.getElem?_eq_getElem (by cases M with | nil => exact absurd rfl hM | cons _ _ => simp)⟩
  obtain ⟨x, hx⟩ := hx
  obtain ⟨g2, o2, e2, e3, e4⟩ := h5.at_ 0 x hx
  have hs := e4 0 (.string x.s) rfl
  have hgb : g ≠ b := fun e => by
   subst e
   rcases z.at_ h3 with h | h | h | h | h | h | h | h
   ·simp only [Value.slice.injEq] at h
    obtain ⟨q1, q2, _⟩ := h
    have hl := hA.len
    have hk : 1 ≤ k := by
     rw [← q2]
     cases M with
     | nil => exact absurd rfl hM
     | cons _ _ => simp
    obtain ⟨N, hN⟩ : ∃ N, A[0]? = some N := ⟨_, List.getElem?_eq_getElem (by omega)⟩
    obtain ⟨g5, o5, a5, c5, k1, _, k3, _⟩ := hA.at_ 0 N hN
    rw [← q1, e2] at k1
    simp only [Option.some.injEq, Addr.mk.injEq, and_true] at k1
    obtain ⟨rfl, rfl⟩ := k1
    simp only [Nat.zero_mul, Nat.add_zero] at hs k3
    rw [k3] at hs
    cases hs
   all_goals cases h
  refine ⟨g, off, a2, c2, h1, Nat.lt_of_lt_of_le h2 ho.size, (cellB (ho.block g h2 (by simp; exact hgb))).trans h3, h4, h5.len, fun q y hq => ?_⟩
  obtain ⟨g', o', e1, e2, e3⟩ := h5.at_ q y hq
  have hgb' : g' ≠ b := fun e => by
   subst e
   have := e3 0 (.string y.s) rfl
   rcases z.at_ this with h | h | h | h | h | h | h | h <;> cases h
  exact ⟨g', o', e1, Nat.lt_of_lt_of_le e2 ho.size, fun j v hv => (cellB (ho.block g' e2 (by simp; exact hgb'))).trans (e3 j v hv)⟩⟩
structure RSt where
 A : List (List GC)
 r : Int
 c : Int
 s : Bool
 w : Nat
 h : Nat
 want : Nat
 ph : Nat
def RgI (W : World) (b : Nat) (x : RSt) : Prop := ∃ av cap, RgB W b (.slice av x.A.length cap) x.r x.c x.s x.w x.h x.want x.ph ∧ RowsAt W av x.A.length x.A ∧ x.A.length ≤ cap ∧ cap ≤ maxLen
theorem RgI.below {W X : World} {b : Nat} {x : RSt} (z : RgI W b x) (hb : Below W.heap.size W X) : RgI X b x := by
 obtain ⟨av, cap, h1, h2, h3⟩ := z
 exact ⟨av, cap, h1.below hb, h2.below hb, h3⟩
def sideOk (w h : Int) : Bool := decide (1 ≤ w ∧ w ≤ 500 ∧ 1 ≤ h ∧ h ≤ 500)
set_option maxRecDepth 100000 in
theorem rgsize_any (w h : Int) (W : World) : Calls Tryz.prog 29 #[.int .i64 w, .int .i64 h] W fun e w' => e = .returned (.bool (sideOk w h)) ∧ W = w' := by
 go_enter Tryz.func29, Tryz.ntmps29
 go_wp2
 all_goals
  go_ret
  refine ⟨ret_bool ?_, rfl⟩
  unfold sideOk
  rw [Bool.eq_iff_iff]; simp; omega
set_option maxRecDepth 100000 in
theorem gmade_any {W : World} {b : Nat} {v : Value} {r c : Int} {s : Bool} {w h want ph : Int} (z : RgB W b v r c s w h want ph) (hp : ph ≠ 0) : Calls Tryz.prog 31 #[.pointer (some ⟨b, 0, none⟩)] W fun e w' => e = .returned (.bool true) ∧ W = w' := by
 obtain ⟨c0, c1, c2, c3, c4, c5, c6, c7⟩ := z.cells
 go_enter Tryz.func31, Tryz.ntmps31
 go_wp2
 go_ret
 refine ⟨ret_bool ?_, rfl⟩
 first | rfl | simp [hp] | trace_state
set_option maxRecDepth 100000 in
theorem grows_any {W : World} {b : Nat} {v : Value} {r c : Int} {s : Bool} {w h want ph : Int} (z : RgB W b v r c s w h want ph) : Calls Tryz.prog 38 #[.pointer (some ⟨b, 0, none⟩)] W fun e w' => e = .returned (.int .i64 (min want h)) ∧ Below W.heap.size W w' := by
 go_enter Tryz.func38, Tryz.ntmps38
 go_wp2_with fail
 refine wp_region_mix2 [(true, 0), (true, 1), (true, 2), (true, 3), (true, 4), (true, 5), (true, 6), (true, 7), (true, 8), (true, 9)] (fun Y => Below W.heap.size W Y) (by kernel_rfl) (by kernel_rfl) (by rfl) (by kernel_rfl) (by kernel_rfl) (fun _ _ d _ _ h => by cases d <;> exact h) ((Below.refl _ _).drew) ?_
 simp only [mixL, List.getElem?_cons_succ, List.getElem?_cons_zero]
 obtain ⟨q0, hq0⟩ : ∃ q, W.drew = q := ⟨_, rfl⟩
 have Bq0 : Below W.heap.size W q0 := by rw [← hq0]; exact (Below.refl _ _).drew
 rw [hq0]
 clear hq0
 refine' wpMix2_read (v := _) rfl ?_ ?_
 rotate_left 1
 ·intro w' hw'; obtain ⟨c0, c1, c2, c3, c4, c5, c6, c7⟩ := (z.below hw').cells; go_simp; try with_reducible rfl
 try simp only [Act.put, List.setIfInBounds_toArray, List.set_cons_zero, List.set_cons_succ]
 refine' wpMix2_read (v := _) rfl ?_ ?_
 rotate_left 1
 ·intro w' hw'; obtain ⟨c0, c1, c2, c3, c4, c5, c6, c7⟩ := (z.below hw').cells; go_simp; try with_reducible rfl
 try simp only [Act.put, List.setIfInBounds_toArray, List.set_cons_zero, List.set_cons_succ]
 refine' wpMix2_read (v := _) rfl ?_ ?_
 rotate_left 1
 ·intro w' hw'; obtain ⟨c0, c1, c2, c3, c4, c5, c6, c7⟩ := (z.below hw').cells; go_simp; try with_reducible rfl
 try simp only [Act.put, List.setIfInBounds_toArray, List.set_cons_zero, List.set_cons_succ]
 refine' wpMix2_read (v := _) rfl ?_ ?_
 rotate_left 1
 ·intro w' hw'; obtain ⟨c0, c1, c2, c3, c4, c5, c6, c7⟩ := (z.below hw').cells; go_simp; try with_reducible rfl
 try simp only [Act.put, List.setIfInBounds_toArray, List.set_cons_zero, List.set_cons_succ]
 refine' wpMix2_read (v := _) rfl ?_ ?_
 rotate_left 1
 ·intro w' hw'; obtain ⟨c0, c1, c2, c3, c4, c5, c6, c7⟩ := (z.below hw').cells; go_simp; try with_reducible rfl
 try simp only [Act.put, List.setIfInBounds_toArray, List.set_cons_zero, List.set_cons_succ]
 refine' wpMix2_read (v := _) rfl ?_ ?_
 rotate_left 1
 ·intro w' hw'; obtain ⟨c0, c1, c2, c3, c4, c5, c6, c7⟩ := (z.below hw').cells; go_simp; try with_reducible rfl
 try simp only [Act.put, List.setIfInBounds_toArray, List.set_cons_zero, List.set_cons_succ]
 refine' wpMix2_read (v := _) rfl ?_ ?_
 rotate_left 1
 ·intro w' hw'; obtain ⟨c0, c1, c2, c3, c4, c5, c6, c7⟩ := (z.below hw').cells; go_simp; try with_reducible rfl
 try simp only [Act.put, List.setIfInBounds_toArray, List.set_cons_zero, List.set_cons_succ]
 refine' wpMix2_read (v := _) rfl ?_ ?_
 rotate_left 1
 ·intro w' hw'; obtain ⟨c0, c1, c2, c3, c4, c5, c6, c7⟩ := (z.below hw').cells; go_simp; try with_reducible rfl
 try simp only [Act.put, List.setIfInBounds_toArray, List.set_cons_zero, List.set_cons_succ]
 refine' wpMix2_read (v := _) rfl ?_ ?_
 rotate_left 1
 ·intro w' hw'; obtain ⟨c0, c1, c2, c3, c4, c5, c6, c7⟩ := (z.below hw').cells; go_simp; try with_reducible rfl
 try simp only [Act.put, List.setIfInBounds_toArray, List.set_cons_zero, List.set_cons_succ]
 refine' wpMix2_read (v := _) rfl ?_ ?_
 rotate_left 1
 ·intro w' hw'; obtain ⟨c0, c1, c2, c3, c4, c5, c6, c7⟩ := (z.below hw').cells; go_simp; try with_reducible rfl
 try simp only [Act.put, List.setIfInBounds_toArray, List.set_cons_zero, List.set_cons_succ]
 refine wpMix2_nil ?_
 go_wp2
 go_ret
 exact ⟨rfl, Bq0⟩
set_option maxRecDepth 100000 in
theorem gOpen_any {W : World} {b : Nat} {v : Value} {r c : Int} {s : Bool} {w h want ph : Int} (z : RgB W b v r c s w h want ph) (hp : ph ≠ 0) : Calls Tryz.prog 19 #[.pointer (some ⟨b, 0, none⟩)] W fun e w' => e = .returned (.bool (decide (ph = 2))) ∧ W = w' := by
 obtain ⟨c0, c1, c2, c3, c4, c5, c6, c7⟩ := z.cells
 have CM := Lib.hid (gmade_any z hp)
 go_enter Tryz.func19, Tryz.ntmps19
 go_wp2_with (go_at_call 31; refine CM.out.mono ?_; rintro e X ⟨rfl, rfl⟩)
 go_ret
 refine ⟨ret_bool ?_, rfl⟩
 first | rfl | simp | trace_state
theorem rep10 : ∀ k, Lib.repeatL ([10] : List UInt8) k = List.replicate k 10
 | 0 => rfl
 | k + 1 => by rw [Lib.repeatL, rep10 k, List.replicate_succ]; rfl
theorem repeat10 (k : Nat) (hk : k ≤ 100000) (W : World) : Calls Tryz.prog 56 #[.string ⟨#[10]⟩, .int .i64 k] W fun e w' => e = .returned (.string (S (List.replicate k 10))) ∧ Below W.heap.size W w' := by
 refine (Tryz.strings_Repeat ⟨#[10]⟩ k W (by omega) (by show 1 * k ≤ _; omega)).mono fun e w' hh => ⟨?_, hh.2⟩
 rw [hh.1]
 show Ending.returned (.string (S (Lib.repeatL [10] k))) = _
 rw [rep10]
set_option maxRecDepth 100000 in
theorem rgnew_ok (w h rows : Int) (hs : sideOk w h = true) (h1 : 1 ≤ rows) (h2 : rows ≤ 60) (W : World) : Calls Tryz.prog 6 #[.int .i64 w, .int .i64 h, .int .i64 rows] W fun e w' =>
    ∃ p, e = .returned (.tuple #[.pointer (some ⟨p, 0, none⟩), .int .i64 0]) ∧ RgB w' p (.slice none 0 0) 0 0 false w h rows 1 ∧ W.heap.size ≤ p ∧ Below W.heap.size W w' := by
 have CS := rgsize_any w h W
 rw [hs] at CS
 have CS := Lib.hid CS
 go_enter Tryz.func6, Tryz.ntmps6
 go_wp2_with (go_at_call 29; refine CS.out.mono ?_; rintro e X ⟨rfl, rfl⟩)
 go_ret2
 exact ⟨_, rfl, World.alloc_heap_new W _, Nat.le_refl _, (Below.refl _ _).alloc (Nat.le_refl _) _⟩
set_option maxRecDepth 100000 in
theorem gfirst_any {W : World} {b : Nat} {v : Value} {r c : Int} {s : Bool} {w h want ph : Int} (z : RgB W b v r c s w h want ph) (h0 : 0 ≤ r) (h1 : r ≤ 9999) : Calls Tryz.prog 41 #[.pointer (some ⟨b, 0, none⟩)] W fun e w' => e = .returned (.string (S (byL r 65 ++ [13]))) ∧ Below W.heap.size W w' := by
 obtain ⟨c0, c1, c2, c3, c4, c5, c6, c7⟩ := z.cells
 have CU := Lib.hid (up_any r W)
 have hl := byL_len r 65
 have hz := S_le (byL r 65) 100 (by omega)
 go_enter Tryz.func41, Tryz.ntmps41
 go_wp2_with (go_at_call 57; refine CU.out.mono ?_; rintro e X ⟨rfl, hb⟩)
 go_ret
 exact ⟨ret_str (by show S (byL r 65) ++ S [13] = _; rw [S_append]), hb⟩
set_option maxRecDepth 100000 in
theorem greserve_any {W : World} {b : Nat} {v : Value} {r c : Int} {s : Bool} {w h want ph : Int} (z : RgB W b v r c s w h want ph) {n : Nat} (hn : min want h = n) (h1 : 1 ≤ n) (h2 : n ≤ 60) : Calls Tryz.prog 33 #[.pointer (some ⟨b, 0, none⟩)] W fun e w' => e = .returned (.string (S (reserveB n))) ∧ Below W.heap.size W w' := by
 have CR := grows_any z
 rw [hn] at CR
 have CR := Lib.hid CR
 obtain ⟨k, hk⟩ : ∃ k, n = k + 1 := ⟨n - 1, by omega⟩
 subst hk
 have hi : ((k + 1 : Nat) : Int) - 1 = (k : Int) := by omega
 have CU := Lib.hid (fun W => up_any (k : Int) W)
 have CP := Lib.hid (fun W => repeat10 k (by omega) W)
 have hl := byL_len (k : Int) 65
 have z1 := S_le (byL (k : Int) 65) 100 (by omega)
 have z2 := S_le [27, 91, 74] 10 (by simp)
 have z3 := S_le (List.replicate k (10 : UInt8)) 100 (by simp; omega)
 clear z hn
 go_enter Tryz.func33, Tryz.ntmps33
 go_wp2_with (first
  | (go_at_call 38; refine CR.out.mono ?_; rintro e w1 ⟨rfl, hb1⟩)
  | (go_at_call 42; refine (eraseBelow_any _).mono ?_; rintro e w2 ⟨rfl, rfl⟩)
  | (go_at_call 56; refine (CP.out _).mono ?_; rintro e w3 ⟨rfl, hb3⟩)
  | (go_at_call 57; refine (CU.out _).mono ?_; rintro e w4 ⟨rfl, hb4⟩)
  | rw [hi])
 go_ret
 refine ⟨ret_str ?_, bto (bto hb1 hb3 hb1.size) hb4 (bto hb1 hb3 hb1.size).size⟩
 show S [13] ++ S [27, 91, 74] ++ S (List.replicate k 10) ++ S (byL (k : Int) 65) = _
 rw [S_append, S_append, S_append]
 unfold reserveB belowB
 rw [show k + 1 - 1 = k by omega, hi]
 simp only [List.append_assoc]
theorem RgB.fill {W : World} {b : Nat} {v : Value} {r c : Int} {s : Bool} {w h want ph : Int} (z : RgB W b v r c s w h want ph) (v' : Value) (r' c' : Int) (s' : Bool) (X : World)
    (hX : (((W.setCell ⟨b, 0, none⟩ v').setCell ⟨b, 1, none⟩ (.int .i64 r')).setCell ⟨b, 2, none⟩ (.int .i64 c')).setCell ⟨b, 3, none⟩ (.bool s') = X) : RgB X b v' r' c' s' w h want ph ∧ Only [b] W X := by
 subst hX
 refine ⟨?_, ((((Only.refl [b] W).setCell (.inl (by simp)) _).setCell (.inl (by simp)) _).setCell (.inl (by simp)) _).setCell (.inl (by simp)) _⟩
 unfold RgB at z ⊢
 simp only [World.setCell, Array.getElem?_modify, if_true, z, Option.map_some]
 rfl
theorem RgB.phase {W : World} {b : Nat} {v : Value} {r c : Int} {s : Bool} {w h want ph : Int} (z : RgB W b v r c s w h want ph) (ph' : Int) (X : World) (hX : W.setCell ⟨b, 7, none⟩ (.int .i64 ph') = X) : RgB X b v r c s w h want ph' ∧ Only [b] W X := by
 subst hX
 refine ⟨?_, (Only.refl [b] W).setCell (.inl (by simp)) _⟩
 unfold RgB at z ⊢
 simp only [World.setCell, Array.getElem?_modify, if_true, z, Option.map_some]
 rfl
theorem blankM_ne {m n : Nat} (hm : 1 ≤ m) : ∀ M ∈ blankM m n, M ≠ [] := fun M hM e => by
 have := (RowsOk.blank m n).w M hM
 rw [e] at this
 simp at this
 omega
set_option maxRecDepth 100000 in
set_option maxHeartbeats 4000000 in
theorem gblank_any {W : World} {b : Nat} {av0 : Option Addr} {k0 cp0 : Nat} {r c : Int} {s : Bool} {m : Nat} {h want ph : Int} (z : RgB W b (.slice av0 k0 cp0) r c s m h want ph) {A0 : List (List GC)} (hA0 : RowsAt W av0 k0 A0) {n : Nat} (hn : min want h = n) (h1 : 1 ≤ n) (h2 : n ≤ 60) (hm : 1 ≤ m ∧ m ≤ 500) :
    Calls Tryz.prog 32 #[.pointer (some ⟨b, 0, none⟩)] W fun e w' => e = .returned (.tuple #[]) ∧ Only [b] W w' ∧ ∃ av cap, RgB w' b (.slice av (blankM m n).length cap) 0 0 true m h want 2 ∧ RowsAt w' av (blankM m n).length (blankM m n) ∧ (blankM m n).length ≤ cap ∧ cap ≤ maxLen := by
 have CR := Lib.hid (fun (Y : World) (hY : Below W.heap.size W Y) => (by
  have := grows_any (z.below hY)
  rw [hn] at this
  exact this : Calls Tryz.prog 38 #[.pointer (some ⟨b, 0, none⟩)] Y fun e w' => e = .returned (.int .i64 n) ∧ Below Y.heap.size Y w'))
 have CB := Lib.hid (fun X => dblank_ok m n ⟨hm.1, hm.2, h1, h2⟩ X)
 unfold FrPost2 at CB
 have HA := Lib.hid hA0
 have hbl := z.lt
 clear hA0 hn
 go_enter Tryz.func32, Tryz.ntmps32
 go_upto_region 0 with (fail)
 go_cut [2, 3] (fun v u wx => u = .int .i64 0 ∧ ∃ F av cap, v = .pointer (some ⟨F, 0, none⟩) ∧ W.heap.size ≤ F ∧ FBI wx F (.slice av (blankM m n).length cap) 0 0 true ∧ RowsAt wx av (blankM m n).length (blankM m n) ∧ ((blankM m n).length ≤ cap ∧ cap ≤ maxLen) ∧ Below W.heap.size W wx)
 case first =>
  refine wp_region_tree (fun j y y' => (Below W.heap.size W y → Below W.heap.size W y')) (by kernel_rfl) ?_
  simp only [List.size_toArray, List.length_cons, List.length_nil, Nat.reduceAdd]
  obtain ⟨q, hq⟩ : ∃ q, W.drew = q := ⟨_, rfl⟩
  rw [hq]
  have Bq : Below W.heap.size W q := by rw [← hq]; exact (Below.refl _ _).drew
  clear hq
  refine' wpAnyY_read 0 (fun Y => Below W.heap.size W Y) [] (v := _) (by kernel_rfl) (fun _ _ d _ _ h => by cases d <;> exact h) (by kernel_rfl) rfl (fun j y y' _ h hs => h hs) (fun _ h => h) Bq rfl ?_ ?_
  rotate_left 1
  ·intro w' hw'; obtain ⟨c0, c1, c2, c3, c4, c5, c6, c7⟩ := (z.below hw').cells; go_simp; try with_reducible rfl
  try simp only [Act.put, List.setIfInBounds_toArray, List.set_cons_zero, List.set_cons_succ]
  refine' wpAnyY_read 1 (fun Y => Below W.heap.size W Y) [] (v := _) (by kernel_rfl) (fun _ _ d _ _ h => by cases d <;> exact h) (by kernel_rfl) rfl (fun j y y' _ h hs => h hs) (fun _ h => h) Bq rfl ?_ ?_
  rotate_left 1
  ·intro w' hw'; obtain ⟨c0, c1, c2, c3, c4, c5, c6, c7⟩ := (z.below hw').cells; go_simp; try with_reducible rfl
  try simp only [Act.put, List.setIfInBounds_toArray, List.set_cons_zero, List.set_cons_succ]
  refine' wpAnyY_read 2 (fun Y => Below W.heap.size W Y) [] (v := _) (by kernel_rfl) (fun _ _ d _ _ h => by cases d <;> exact h) (by kernel_rfl) rfl (fun j y y' _ h hs => h hs) (fun _ h => h) Bq rfl ?_ ?_
  rotate_left 1
  ·intro w' hw'; obtain ⟨c0, c1, c2, c3, c4, c5, c6, c7⟩ := (z.below hw').cells; go_simp; try with_reducible rfl
  try simp only [Act.put, List.setIfInBounds_toArray, List.set_cons_zero, List.set_cons_succ]
  refine' wpAnyY_read 3 (fun Y => Below W.heap.size W Y) [] (v := _) (by kernel_rfl) (fun _ _ d _ _ h => by cases d <;> exact h) (by kernel_rfl) rfl (fun j y y' _ h hs => h hs) (fun _ h => h) Bq rfl ?_ ?_
  rotate_left 1
  ·intro w' hw'; obtain ⟨c0, c1, c2, c3, c4, c5, c6, c7⟩ := (z.below hw').cells; go_simp; try with_reducible rfl
  try simp only [Act.put, List.setIfInBounds_toArray, List.set_cons_zero, List.set_cons_succ]
  refine' wpAnyY_read 4 (fun Y => Below W.heap.size W Y) [] (v := _) (by kernel_rfl) (fun _ _ d _ _ h => by cases d <;> exact h) (by kernel_rfl) rfl (fun j y y' _ h hs => h hs) (fun _ h => h) Bq rfl ?_ ?_
  rotate_left 1
  ·intro w' hw'; obtain ⟨c0, c1, c2, c3, c4, c5, c6, c7⟩ := (z.below hw').cells; go_simp; try with_reducible rfl
  try simp only [Act.put, List.setIfInBounds_toArray, List.set_cons_zero, List.set_cons_succ]
  refine wpAnyY_two (i := 5) (j := 10) (by kernel_rfl) rfl rfl (fun K hK => ?_) (fun K hK => ?_)
  ·skip
   simp only [List.getElem_toArray, List.getElem_cons_succ, List.getElem_cons_zero]
   go_wp2_with fail
   refine (CR.out _ Bq).mono ?_
   rintro e w1 ⟨rfl, hw1⟩
   have Bw1 : Below W.heap.size W w1 := bto Bq hw1 Bq.size
   go_wp2
   refine hK _ _ (fun _ => Bw1) ?_
   clear hK K
   refine wpAnyY_two (i := 6) (j := 10) (by kernel_rfl) rfl rfl (fun K hK => ?_) (fun K hK => ?_)
   ·skip
    simp only [List.getElem_toArray, List.getElem_cons_succ, List.getElem_cons_zero]
    go_wp2_with fail
    refine (CB.out _).mono ?_
    rintro e w2 ⟨av, cap, rfl, hRR, hcap, hw2⟩
    have Bw2 : Below W.heap.size W w2 := bto Bw1 hw2 Bw1.size
    go_wp2
    refine hK _ _ (fun _ => Bw2) ?_
    clear hK K
    refine' wpAnyY_read 7 (fun Y => Below W.heap.size W Y) [] (v := _) (by kernel_rfl) (fun _ _ d _ _ h => by cases d <;> exact h) (by kernel_rfl) rfl (fun j y y' _ h hs => h hs) (fun _ h => h) Bw2 rfl ?_ ?_
    rotate_left 1
    ·intro w' hw'; obtain ⟨c0, c1, c2, c3, c4, c5, c6, c7⟩ := (z.below hw').cells; go_simp; try with_reducible rfl
    try simp only [Act.put, List.setIfInBounds_toArray, List.set_cons_zero, List.set_cons_succ]
    refine' wpAnyY_read 8 (fun Y => Below W.heap.size W Y) [] (v := _) (by kernel_rfl) (fun _ _ d _ _ h => by cases d <;> exact h) (by kernel_rfl) rfl (fun j y y' _ h hs => h hs) (fun _ h => h) Bw2 rfl ?_ ?_
    rotate_left 1
    ·intro w' hw'; obtain ⟨c0, c1, c2, c3, c4, c5, c6, c7⟩ := (z.below hw').cells; go_simp; try with_reducible rfl
    try simp only [Act.put, List.setIfInBounds_toArray, List.set_cons_zero, List.set_cons_succ]
    refine' wpAnyY_read 9 (fun Y => Below W.heap.size W Y) [] (v := _) (by kernel_rfl) (fun _ _ d _ _ h => by cases d <;> exact h) (by kernel_rfl) rfl (fun j y y' _ h hs => h hs) (fun _ h => h) Bw2 rfl ?_ ?_
    rotate_left 1
    ·intro w' hw'; obtain ⟨c0, c1, c2, c3, c4, c5, c6, c7⟩ := (z.below hw').cells; go_simp; try with_reducible rfl
    try simp only [Act.put, List.setIfInBounds_toArray, List.set_cons_zero, List.set_cons_succ]
    refine wpAnyY_one (i := 10) (by kernel_rfl) rfl (fun K hK => ?_)
    simp only [List.getElem_toArray, List.getElem_cons_succ, List.getElem_cons_zero]
    obtain ⟨w3, hw3⟩ : ∃ Y, w2.alloc (.cells #[.slice none 0 0, .int .i64 0, .int .i64 0, .bool false] 42) = Y := ⟨_, rfl⟩
    have zF : FBI w3 w2.heap.size (.slice none 0 0) 0 0 false := by rw [← hw3]; exact World.alloc_heap_new w2 _
    have bw3 : Below w2.heap.size w2 w3 := by rw [← hw3]; exact (Below.refl _ _).alloc (Nat.le_refl _) _
    have Bw3 : Below W.heap.size W w3 := bto Bw2 bw3 Bw2.size
    obtain ⟨F, hF⟩ : ∃ F, F = w2.heap.size := ⟨_, rfl⟩
    have hFW : W.heap.size ≤ F := by rw [hF]; exact Bw2.size
    go_wp2
    rw [← hF]
    rw [← hF] at zF
    refine hK _ _ (fun _ => Bw3) ?_
    clear hK K hw3 hF
    have hRR := hRR.below bw3
    refine wpAnyY_one (i := 11) (by kernel_rfl) rfl (fun K hK => ?_)
    simp only [List.getElem_toArray, List.getElem_cons_succ, List.getElem_cons_zero]
    obtain ⟨u0, u1, u2, u3⟩ := zF.cells
    have f0 := zF.froz 0
    have f1 := zF.froz 1
    have f2 := zF.froz 2
    have f3 := zF.froz 3
    obtain ⟨Y, hY⟩ : ∃ Y, (((w3.setCell ⟨F, 0, none⟩ (.slice av (blankM m n).length cap)).setCell ⟨F, 1, none⟩ (.int .i64 0)).setCell ⟨F, 2, none⟩ (.int .i64 0)).setCell ⟨F, 3, none⟩ (.bool true) = Y := ⟨_, rfl⟩
    obtain ⟨zY, oY⟩ := zF.fill (.slice av (blankM m n).length cap) 0 0 true Y hY
    have FIN : Hid (Below W.heap.size W Y ∧ RowsAt Y av (blankM m n).length (blankM m n) ∧ FBI Y F (.slice av (blankM m n).length cap) 0 0 true) := Lib.hid ⟨Bw3.trans (oY.below (by simp; omega) Bw3.size), hRR.box zF oY (fun M hM e => by
     have := (RowsOk.blank m n).w M hM
     rw [e] at this
     simp at this
     omega), zY⟩
    have HY := Lib.hid hY
    clear zY oY hRR hY
    go_wp2
    rw [HY.out]
    refine hK _ _ (fun _ => FIN.out.1) ?_
    clear hK K HY u0 u1 u2 u3 f0 f1 f2 f3
    have BY := FIN.out.1
    refine wpAnyY_one (i := 12) (by kernel_rfl) rfl (fun K hK => ?_)
    simp only [List.getElem_toArray, List.getElem_cons_succ, List.getElem_cons_zero]
    go_wp2
    refine hK _ _ (fun h => h) ?_
    clear hK K
    refine wpAnyY_end (by kernel_rfl) ?_
    go_wp2
    go_meet
    exact ⟨rfl, F, av, cap, rfl, hFW, FIN.out.2.2, FIN.out.2.1, hcap, FIN.out.1⟩
   ·skip
    simp only [List.getElem_toArray, List.getElem_cons_succ, List.getElem_cons_zero]
    obtain ⟨w2, hw2⟩ : ∃ Y, w1.alloc (.cells #[.slice none 0 0, .int .i64 0, .int .i64 0, .bool false] 42) = Y := ⟨_, rfl⟩
    have zF : FBI w2 w1.heap.size (.slice none 0 0) 0 0 false := by rw [← hw2]; exact World.alloc_heap_new w1 _
    have bw2 : Below w1.heap.size w1 w2 := by rw [← hw2]; exact (Below.refl _ _).alloc (Nat.le_refl _) _
    have Bw2 : Below W.heap.size W w2 := bto Bw1 bw2 Bw1.size
    obtain ⟨F, hF⟩ : ∃ F, F = w1.heap.size := ⟨_, rfl⟩
    have hFW : W.heap.size ≤ F := by rw [hF]; exact Bw1.size
    go_wp2
    rw [← hF]
    rw [← hF] at zF
    refine hK _ _ (fun _ => Bw2) ?_
    clear hK K hw2 hF
    refine wpAnyY_one (i := 6) (by kernel_rfl) rfl (fun K hK => ?_)
    simp only [List.getElem_toArray, List.getElem_cons_succ, List.getElem_cons_zero]
    go_wp2_with fail
    refine (CB.out _).mono ?_
    rintro e w3 ⟨av, cap, rfl, hRR, hcap, hw3⟩
    have Bw3 : Below W.heap.size W w3 := bto Bw2 hw3 Bw2.size
    go_wp2
    refine hK _ _ (fun _ => Bw3) ?_
    clear hK K
    have zF := zF.below hw3
    refine' wpAnyY_read 7 (fun Y => Below W.heap.size W Y) [] (v := _) (by kernel_rfl) (fun _ _ d _ _ h => by cases d <;> exact h) (by kernel_rfl) rfl (fun j y y' _ h hs => h hs) (fun _ h => h) Bw3 rfl ?_ ?_
    rotate_left 1
    ·intro w' hw'; obtain ⟨c0, c1, c2, c3, c4, c5, c6, c7⟩ := (z.below hw').cells; go_simp; try with_reducible rfl
    try simp only [Act.put, List.setIfInBounds_toArray, List.set_cons_zero, List.set_cons_succ]
    refine' wpAnyY_read 8 (fun Y => Below W.heap.size W Y) [] (v := _) (by kernel_rfl) (fun _ _ d _ _ h => by cases d <;> exact h) (by kernel_rfl) rfl (fun j y y' _ h hs => h hs) (fun _ h => h) Bw3 rfl ?_ ?_
    rotate_left 1
    ·intro w' hw'; obtain ⟨c0, c1, c2, c3, c4, c5, c6, c7⟩ := (z.below hw').cells; go_simp; try with_reducible rfl
    try simp only [Act.put, List.setIfInBounds_toArray, List.set_cons_zero, List.set_cons_succ]
    refine' wpAnyY_read 9 (fun Y => Below W.heap.size W Y) [] (v := _) (by kernel_rfl) (fun _ _ d _ _ h => by cases d <;> exact h) (by kernel_rfl) rfl (fun j y y' _ h hs => h hs) (fun _ h => h) Bw3 rfl ?_ ?_
    rotate_left 1
    ·intro w' hw'; obtain ⟨c0, c1, c2, c3, c4, c5, c6, c7⟩ := (z.below hw').cells; go_simp; try with_reducible rfl
    try simp only [Act.put, List.setIfInBounds_toArray, List.set_cons_zero, List.set_cons_succ]
    refine wpAnyY_one (i := 11) (by kernel_rfl) rfl (fun K hK => ?_)
    simp only [List.getElem_toArray, List.getElem_cons_succ, List.getElem_cons_zero]
    obtain ⟨u0, u1, u2, u3⟩ := zF.cells
    have f0 := zF.froz 0
    have f1 := zF.froz 1
    have f2 := zF.froz 2
    have f3 := zF.froz 3
    obtain ⟨Y, hY⟩ : ∃ Y, (((w3.setCell ⟨F, 0, none⟩ (.slice av (blankM m n).length cap)).setCell ⟨F, 1, none⟩ (.int .i64 0)).setCell ⟨F, 2, none⟩ (.int .i64 0)).setCell ⟨F, 3, none⟩ (.bool true) = Y := ⟨_, rfl⟩
    obtain ⟨zY, oY⟩ := zF.fill (.slice av (blankM m n).length cap) 0 0 true Y hY
    have FIN : Hid (Below W.heap.size W Y ∧ RowsAt Y av (blankM m n).length (blankM m n) ∧ FBI Y F (.slice av (blankM m n).length cap) 0 0 true) := Lib.hid ⟨Bw3.trans (oY.below (by simp; omega) Bw3.size), hRR.box zF oY (fun M hM e => by
     have := (RowsOk.blank m n).w M hM
     rw [e] at this
     simp at this
     omega), zY⟩
    have HY := Lib.hid hY
    clear zY oY hRR hY
    go_wp2
    rw [HY.out]
    refine hK _ _ (fun _ => FIN.out.1) ?_
    clear hK K HY u0 u1 u2 u3 f0 f1 f2 f3
    have BY := FIN.out.1
    refine wpAnyY_one (i := 12) (by kernel_rfl) rfl (fun K hK => ?_)
    simp only [List.getElem_toArray, List.getElem_cons_succ, List.getElem_cons_zero]
    go_wp2
    refine hK _ _ (fun h => h) ?_
    clear hK K
    refine wpAnyY_end (by kernel_rfl) ?_
    go_wp2
    go_meet
    exact ⟨rfl, F, av, cap, rfl, hFW, FIN.out.2.2, FIN.out.2.1, hcap, FIN.out.1⟩
  ·skip
   simp only [List.getElem_toArray, List.getElem_cons_succ, List.getElem_cons_zero]
   obtain ⟨w1, hw1⟩ : ∃ Y, q.alloc (.cells #[.slice none 0 0, .int .i64 0, .int .i64 0, .bool false] 42) = Y := ⟨_, rfl⟩
   have zF : FBI w1 q.heap.size (.slice none 0 0) 0 0 false := by rw [← hw1]; exact World.alloc_heap_new q _
   have bw1 : Below q.heap.size q w1 := by rw [← hw1]; exact (Below.refl _ _).alloc (Nat.le_refl _) _
   have Bw1 : Below W.heap.size W w1 := bto Bq bw1 Bq.size
   obtain ⟨F, hF⟩ : ∃ F, F = q.heap.size := ⟨_, rfl⟩
   have hFW : W.heap.size ≤ F := by rw [hF]; exact Bq.size
   go_wp2
   rw [← hF]
   rw [← hF] at zF
   refine hK _ _ (fun _ => Bw1) ?_
   clear hK K hw1 hF
   refine wpAnyY_one (i := 5) (by kernel_rfl) rfl (fun K hK => ?_)
   simp only [List.getElem_toArray, List.getElem_cons_succ, List.getElem_cons_zero]
   go_wp2_with fail
   refine (CR.out _ Bw1).mono ?_
   rintro e w2 ⟨rfl, hw2⟩
   have Bw2 : Below W.heap.size W w2 := bto Bw1 hw2 Bw1.size
   go_wp2
   refine hK _ _ (fun _ => Bw2) ?_
   clear hK K
   have zF := zF.below hw2
   refine wpAnyY_one (i := 6) (by kernel_rfl) rfl (fun K hK => ?_)
   simp only [List.getElem_toArray, List.getElem_cons_succ, List.getElem_cons_zero]
   go_wp2_with fail
   refine (CB.out _).mono ?_
   rintro e w3 ⟨av, cap, rfl, hRR, hcap, hw3⟩
   have Bw3 : Below W.heap.size W w3 := bto Bw2 hw3 Bw2.size
   go_wp2
   refine hK _ _ (fun _ => Bw3) ?_
   clear hK K
   have zF := zF.below hw3
   refine' wpAnyY_read 7 (fun Y => Below W.heap.size W Y) [] (v := _) (by kernel_rfl) (fun _ _ d _ _ h => by cases d <;> exact h) (by kernel_rfl) rfl (fun j y y' _ h hs => h hs) (fun _ h => h) Bw3 rfl ?_ ?_
   rotate_left 1
   ·intro w' hw'; obtain ⟨c0, c1, c2, c3, c4, c5, c6, c7⟩ := (z.below hw').cells; go_simp; try with_reducible rfl
   try simp only [Act.put, List.setIfInBounds_toArray, List.set_cons_zero, List.set_cons_succ]
   refine' wpAnyY_read 8 (fun Y => Below W.heap.size W Y) [] (v := _) (by kernel_rfl) (fun _ _ d _ _ h => by cases d <;> exact h) (by kernel_rfl) rfl (fun j y y' _ h hs => h hs) (fun _ h => h) Bw3 rfl ?_ ?_
   rotate_left 1
   ·intro w' hw'; obtain ⟨c0, c1, c2, c3, c4, c5, c6, c7⟩ := (z.below hw').cells; go_simp; try with_reducible rfl
   try simp only [Act.put, List.setIfInBounds_toArray, List.set_cons_zero, List.set_cons_succ]
   refine' wpAnyY_read 9 (fun Y => Below W.heap.size W Y) [] (v := _) (by kernel_rfl) (fun _ _ d _ _ h => by cases d <;> exact h) (by kernel_rfl) rfl (fun j y y' _ h hs => h hs) (fun _ h => h) Bw3 rfl ?_ ?_
   rotate_left 1
   ·intro w' hw'; obtain ⟨c0, c1, c2, c3, c4, c5, c6, c7⟩ := (z.below hw').cells; go_simp; try with_reducible rfl
   try simp only [Act.put, List.setIfInBounds_toArray, List.set_cons_zero, List.set_cons_succ]
   refine wpAnyY_one (i := 11) (by kernel_rfl) rfl (fun K hK => ?_)
   simp only [List.getElem_toArray, List.getElem_cons_succ, List.getElem_cons_zero]
   obtain ⟨u0, u1, u2, u3⟩ := zF.cells
   have f0 := zF.froz 0
   have f1 := zF.froz 1
   have f2 := zF.froz 2
   have f3 := zF.froz 3
   obtain ⟨Y, hY⟩ : ∃ Y, (((w3.setCell ⟨F, 0, none⟩ (.slice av (blankM m n).length cap)).setCell ⟨F, 1, none⟩ (.int .i64 0)).setCell ⟨F, 2, none⟩ (.int .i64 0)).setCell ⟨F, 3, none⟩ (.bool true) = Y := ⟨_, rfl⟩
   obtain ⟨zY, oY⟩ := zF.fill (.slice av (blankM m n).length cap) 0 0 true Y hY
   have FIN : Hid (Below W.heap.size W Y ∧ RowsAt Y av (blankM m n).length (blankM m n) ∧ FBI Y F (.slice av (blankM m n).length cap) 0 0 true) := Lib.hid ⟨Bw3.trans (oY.below (by simp; omega) Bw3.size), hRR.box zF oY (fun M hM e => by
    have := (RowsOk.blank m n).w M hM
    rw [e] at this
    simp at this
    omega), zY⟩
   have HY := Lib.hid hY
   clear zY oY hRR hY
   go_wp2
   rw [HY.out]
   refine hK _ _ (fun _ => FIN.out.1) ?_
   clear hK K HY u0 u1 u2 u3 f0 f1 f2 f3
   have BY := FIN.out.1
   refine wpAnyY_one (i := 12) (by kernel_rfl) rfl (fun K hK => ?_)
   simp only [List.getElem_toArray, List.getElem_cons_succ, List.getElem_cons_zero]
   go_wp2
   refine hK _ _ (fun h => h) ?_
   clear hK K
   refine wpAnyY_end (by kernel_rfl) ?_
   go_wp2
   go_meet
   exact ⟨rfl, F, av, cap, rfl, hFW, FIN.out.2.2, FIN.out.2.1, hcap, FIN.out.1⟩
 case rest =>
  obtain ⟨rfl, F, av, cap, rfl, hF, zF, hR, hcap, hB⟩ := hcut
  have HCAP := Lib.hid hcap
  have zW := z.below hB
  have HL := Lib.hid zF.load
  obtain ⟨c0, c1, c2, c3, c4, c5, c6, c7⟩ := zW.cells
  have f0 := zW.froz 0
  have f1 := zW.froz 1
  have f2 := zW.froz 2
  have f3 := zW.froz 3
  obtain ⟨u0, u1, u2, u3⟩ := zF.cells
  obtain ⟨Y, hY⟩ : ∃ Y, (((wc.setCell ⟨b, 0, none⟩ (.slice av (blankM m n).length cap)).setCell ⟨b, 1, none⟩ (.int .i64 0)).setCell ⟨b, 2, none⟩ (.int .i64 0)).setCell ⟨b, 3, none⟩ (.bool true) = Y := ⟨_, rfl⟩
  obtain ⟨zY, oY⟩ := zW.fill (.slice av (blankM m n).length cap) 0 0 true Y hY
  have hRY := hR.reg zW (HA.out.below hB) oY (blankM_ne hm.1)
  obtain ⟨Y2, hY2⟩ : ∃ Y2, Y.setCell ⟨b, 7, none⟩ (.int .i64 2) = Y2 := ⟨_, rfl⟩
  obtain ⟨zY2, oY2⟩ := zY.phase 2 Y2 hY2
  have hRY2 := hRY.reg zY hRY oY2 (blankM_ne hm.1)
  have oW : Only [b] W Y2 := ((Only.of_below hB).trans oY).trans oY2
  have f7 := zY.froz 7
  have HY := Lib.hid hY
  have HY2 := Lib.hid hY2
  clear hR hcap hY hY2
  go_upto_region 2 with (fail)
  rw [HY.out]
  clear c0 c1 c2 c3 c4 c5 c6 c7 f0 f1 f2 f3
  obtain ⟨c0, c1, c2, c3, c4, c5, c6, c7⟩ := zY.cells
  go_wp2
  rw [HY2.out]
  go_end0
  exact ⟨rfl, oW, av, cap, zY2, hRY2, HCAP.out⟩
end Go.Proofs.YtjkajojjehgmdaaGreat
