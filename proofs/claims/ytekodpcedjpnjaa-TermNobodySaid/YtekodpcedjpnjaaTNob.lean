/- The law TermNobody: what a terminal that nobody made tells. No condition. -/
import Derived.Test.YtekodpcedjpnjaaTAwake
import Derived.Test.YtekodpcedjpnjaaClose
namespace Go.Proofs.Ytekodpcedjpnjaa
set_option linter.unusedVariables false
set_option linter.unusedSimpArgs false
open Go.RowKit Go.Shelf Go.Maps
/-- The cells of a terminal that nobody made. -/
def zTerm : Array Value := #[.slice none 0 0, .pointer none, .int .i64 0, .int .i64 0, .bool false, .bool false, .bool false, .int .i64 0, .int .i64 0, .bool false, .bool false, .bool false, .int .i64 0, .int .i64 0, .bool false, .int .i64 0, .int .i64 0]
def NoT (W : World) (v : Value) : Prop := v = .pointer none ∨ ∃ z, v = .pointer (some ⟨z, 0, none⟩) ∧ W.heap[z]? = some (.cells zTerm 83 (0, 0))
theorem NoT.below {W W' : World} {v : Value} (h : NoT W v) (hb : Below W.heap.size W W') : NoT W' v := by
  rcases h with h | ⟨z, rfl, h⟩
  · exact .inl h
  · exact .inr ⟨z, rfl, (hb.block z (Array.getElem?_eq_some_iff.1 h).1).trans h⟩
theorem NoT.ptr {W : World} {v : Value} (h : NoT W v) : ∃ a, v = .pointer a := by rcases h with rfl | ⟨z, rfl, _⟩ <;> exact ⟨_, rfl⟩
set_option maxRecDepth 100000 in
set_option maxHeartbeats 4000000 in
theorem tmade_no {W : World} {v : Value} (h : NoT W v) : Calls Try.prog 78 #[v] W fun e w' => e = .returned (.bool false) ∧ W = w' := by
  rcases h with rfl | ⟨z, rfl, hz⟩
  · go_enter Try.func78, Try.ntmps78
    go_wp2
    go_ret
    exact ⟨rfl, rfl⟩
  · have c1 : W.cell? ⟨z, 1, none⟩ = some (.pointer none) := by rw [cell_of_row W z _ _ _ _ hz]; rfl
    clear hz
    go_enter Try.func78, Try.ntmps78
    go_wp2
    go_ret
    exact ⟨rfl, rfl⟩
set_option maxRecDepth 100000 in
set_option maxHeartbeats 4000000 in
theorem twrite_no {W : World} {v : Value} (h : NoT W v) (a : Option Addr) (n c : Nat) : Calls Try.prog 29 #[v, .slice a n c] W fun e w' => e = .returned (.tuple #[]) ∧ W = w' := by
  have CM := Lib.hid (tmade_no h)
  obtain ⟨x, rfl⟩ := h.ptr
  clear h
  go_enter Try.func29, Try.ntmps29
  go_wp2_with (go_at_call 78; refine (CM.out).mono ?_; rintro e X ⟨rfl, rfl⟩)
  (try simp only [Exit.inBlock, Exit.then]); refine bodyPost_ret (results_none rfl _ _ _) rfl ?_
  exact ⟨rfl, rfl⟩
set_option maxRecDepth 100000 in
set_option maxHeartbeats 4000000 in
theorem tsize_no {W : World} {v : Value} (h : NoT W v) : Calls Try.prog 37 #[v] W fun e w' => e = .returned (.tuple #[.int .i64 0, .int .i64 0]) ∧ W = w' := by
  have CM := Lib.hid (tmade_no h)
  obtain ⟨x, rfl⟩ := h.ptr
  clear h
  go_enter Try.func37, Try.ntmps37
  go_wp2_with (go_at_call 78; refine (CM.out).mono ?_; rintro e X ⟨rfl, rfl⟩)
  go_ret2
  exact ⟨rfl, rfl⟩
set_option maxRecDepth 100000 in
set_option maxHeartbeats 4000000 in
theorem tcursor_no {W : World} {v : Value} (h : NoT W v) : Calls Try.prog 33 #[v] W fun e w' => e = .returned (.tuple #[.int .i64 0, .int .i64 0]) ∧ W = w' := by
  have CM := Lib.hid (tmade_no h)
  obtain ⟨x, rfl⟩ := h.ptr
  clear h
  go_enter Try.func33, Try.ntmps33
  go_wp2_with (go_at_call 78; refine (CM.out).mono ?_; rintro e X ⟨rfl, rfl⟩)
  go_ret2
  exact ⟨rfl, rfl⟩
set_option maxRecDepth 100000 in
set_option maxHeartbeats 4000000 in
theorem tpending_no {W : World} {v : Value} (h : NoT W v) : Calls Try.prog 34 #[v] W fun e w' => e = .returned (.bool false) ∧ W = w' := by
  have CM := Lib.hid (tmade_no h)
  obtain ⟨x, rfl⟩ := h.ptr
  clear h
  go_enter Try.func34, Try.ntmps34
  go_wp2_with (go_at_call 78; refine (CM.out).mono ?_; rintro e X ⟨rfl, rfl⟩)
  go_ret
  exact ⟨rfl, rfl⟩
set_option maxRecDepth 100000 in
set_option maxHeartbeats 4000000 in
theorem tseen_no {W : World} {v : Value} (h : NoT W v) : Calls Try.prog 43 #[v] W fun e w' => e = .returned (.bool false) ∧ W = w' := by
  have CM := Lib.hid (tmade_no h)
  obtain ⟨x, rfl⟩ := h.ptr
  clear h
  go_enter Try.func43, Try.ntmps43
  go_wp2_with (go_at_call 78; refine (CM.out).mono ?_; rintro e X ⟨rfl, rfl⟩)
  go_ret
  exact ⟨rfl, rfl⟩
set_option maxRecDepth 100000 in
set_option maxHeartbeats 4000000 in
theorem tmarked_no {W : World} {v : Value} (h : NoT W v) : Calls Try.prog 44 #[v] W fun e w' => e = .returned (.bool false) ∧ W = w' := by
  have CM := Lib.hid (tmade_no h)
  obtain ⟨x, rfl⟩ := h.ptr
  clear h
  go_enter Try.func44, Try.ntmps44
  go_wp2_with (go_at_call 78; refine (CM.out).mono ?_; rintro e X ⟨rfl, rfl⟩)
  go_ret
  exact ⟨rfl, rfl⟩
set_option maxRecDepth 100000 in
set_option maxHeartbeats 4000000 in
theorem tbells_no {W : World} {v : Value} (h : NoT W v) : Calls Try.prog 41 #[v] W fun e w' => e = .returned (.int .i64 0) ∧ W = w' := by
  have CM := Lib.hid (tmade_no h)
  obtain ⟨x, rfl⟩ := h.ptr
  clear h
  go_enter Try.func41, Try.ntmps41
  go_wp2_with (go_at_call 78; refine (CM.out).mono ?_; rintro e X ⟨rfl, rfl⟩)
  go_ret
  exact ⟨rfl, rfl⟩
set_option maxRecDepth 100000 in
set_option maxHeartbeats 4000000 in
theorem tscrolled_no {W : World} {v : Value} (h : NoT W v) : Calls Try.prog 35 #[v] W fun e w' => e = .returned (.int .i64 0) ∧ W = w' := by
  have CM := Lib.hid (tmade_no h)
  obtain ⟨x, rfl⟩ := h.ptr
  clear h
  go_enter Try.func35, Try.ntmps35
  go_wp2_with (go_at_call 78; refine (CM.out).mono ?_; rintro e X ⟨rfl, rfl⟩)
  go_ret
  exact ⟨rfl, rfl⟩
set_option maxRecDepth 100000 in
set_option maxHeartbeats 4000000 in
theorem twaits_no {W : World} {v : Value} (h : NoT W v) : Calls Try.prog 42 #[v] W fun e w' => e = .returned (.int .i64 0) ∧ W = w' := by
  have CM := Lib.hid (tmade_no h)
  obtain ⟨x, rfl⟩ := h.ptr
  clear h
  go_enter Try.func42, Try.ntmps42
  go_wp2_with (go_at_call 78; refine (CM.out).mono ?_; rintro e X ⟨rfl, rfl⟩)
  go_ret
  exact ⟨rfl, rfl⟩
set_option maxRecDepth 100000 in
set_option maxHeartbeats 4000000 in
theorem tfork_no {W : World} {v : Value} (h : NoT W v) : Calls Try.prog 46 #[v] W fun e w' => e = .returned (.pointer none) ∧ W = w' := by
  have CM := Lib.hid (tmade_no h)
  obtain ⟨x, rfl⟩ := h.ptr
  clear h
  go_enter Try.func46, Try.ntmps46
  go_wp2_with (go_at_call 78; refine (CM.out).mono ?_; rintro e X ⟨rfl, rfl⟩)
  go_ret
  exact ⟨rfl, rfl⟩
set_option maxRecDepth 100000 in
set_option maxHeartbeats 4000000 in
theorem trow_no {W : World} {v : Value} (h : NoT W v) (r : Int) : Calls Try.prog 39 #[v, .int .i64 r] W fun e w' => e = .returned (.slice none 0 0) ∧ W = w' := by
  have CM := Lib.hid (tmade_no h)
  obtain ⟨x, rfl⟩ := h.ptr
  clear h
  go_enter Try.func39, Try.ntmps39
  go_wp2_with (go_at_call 78; refine (CM.out).mono ?_; rintro e X ⟨rfl, rfl⟩)
  go_ret
  exact ⟨rfl, rfl⟩
set_option maxRecDepth 100000 in
set_option maxHeartbeats 4000000 in
theorem ttext_no {W : World} {v : Value} (h : NoT W v) (r : Int) : Calls Try.prog 40 #[v, .int .i64 r] W fun e w' => e = .returned (.string ⟨#[]⟩) ∧ W = w' := by
  have CM := Lib.hid (tmade_no h)
  obtain ⟨x, rfl⟩ := h.ptr
  clear h
  go_enter Try.func40, Try.ntmps40
  go_wp2_with (go_at_call 78; refine (CM.out).mono ?_; rintro e X ⟨rfl, rfl⟩)
  go_ret
  exact ⟨rfl, rfl⟩
set_option maxRecDepth 100000 in
set_option maxHeartbeats 4000000 in
theorem tresize_no {W : World} {v : Value} (h : NoT W v) (a b : Int) : Calls Try.prog 38 #[v, .int .i64 a, .int .i64 b] W fun e w' => e = .returned (.int .i64 4) ∧ W = w' := by
  have CM := Lib.hid (tmade_no h)
  obtain ⟨x, rfl⟩ := h.ptr
  clear h
  go_enter Try.func38, Try.ntmps38
  go_wp2_with (go_at_call 78; refine (CM.out).mono ?_; rintro e X ⟨rfl, rfl⟩)
  go_ret
  exact ⟨rfl, rfl⟩
set_option maxRecDepth 100000 in
set_option maxHeartbeats 4000000 in
theorem tstyle_no {W : World} {v : Value} (h : NoT W v) : Calls Try.prog 45 #[v] W fun e w' => e = .returned (.agg #[.bool false, .bool false, .bool false, .int .i64 0, .int .i64 0]) ∧ Below W.heap.size W w' := by
  have b1 : Below W.heap.size W (W.alloc (.cells #[.bool false, .bool false, .bool false, .int .i64 0, .int .i64 0] 34)) := (Below.refl _ _).alloc (Nat.le_refl _) _
  have CM := Lib.hid (tmade_no (h.below b1))
  obtain ⟨x, rfl⟩ := h.ptr
  clear h
  go_enter Try.func45, Try.ntmps45
  go_wp2_with (go_at_call 78; refine (CM.out).mono ?_; rintro e X ⟨rfl, rfl⟩)
  (try simp only [Exit.inBlock, Exit.then])
  refine bodyPost_ret (results_cell_row rfl _ _ W.heap.size 34 _ (0, 0) _ rfl (World.alloc_heap_new W _) Try.underlying34 rfl (by kernel_rfl)) rfl ?_
  exact ⟨rfl, b1⟩
set_option maxRecDepth 100000 in
set_option maxHeartbeats 4000000 in
theorem tcell_no {W : World} {v : Value} (h : NoT W v) (r c : Int) : Calls Try.prog 31 #[v, .int .i64 r, .int .i64 c] W fun e w' => e = .returned (.tuple #[.agg #[.string ⟨#[]⟩, .int .i64 0, .bool false, .bool false, .bool false, .int .i64 0, .int .i64 0], .bool false]) ∧ Below W.heap.size W w' := by
  have g1 : GBlk (W.alloc (.cells #[.string ⟨#[]⟩, .int .i64 0, .bool false, .bool false, .bool false, .int .i64 0, .int .i64 0] 70)) W.heap.size [GC.zero] := GBlk.made W [GC.zero]
  have b1 : Below W.heap.size W (W.alloc (.cells #[.string ⟨#[]⟩, .int .i64 0, .bool false, .bool false, .bool false, .int .i64 0, .int .i64 0] 70)) := (Below.refl _ _).alloc (Nat.le_refl _) _
  have CM := Lib.hid (tmade_no (h.below b1))
  obtain ⟨x, rfl⟩ := h.ptr
  clear h
  go_enter Try.func31, Try.ntmps31
  go_wp2_with (first
    | (go_at_call 78; refine (CM.out).mono ?_; rintro e X ⟨rfl, rfl⟩)
    | (refine wpList_gstore rfl _ _ rfl W.heap.size _ rfl GC.zero rfl _ g1 0 (by omega) (by simp) ?_; intro w3 b3 o3))
  (try simp only [Exit.inBlock, Exit.then])
  refine bodyPost_ret (results_gcell rfl _ _ W.heap.size 70 _ (0, 0) rfl b3 rfl) rfl ?_
  exact ⟨rfl, ((Only.of_below b1 : Only [W.heap.size] W _).trans o3).below (by simp) (Nat.le_refl _)⟩
set_option maxRecDepth 100000 in
set_option maxHeartbeats 4000000 in
theorem termNobody_law (a : Option Addr) (len cap : Nat) (zs : List Int) (w0 : Int) (w : World) (_ : IsRow .u8 w a len cap zs) (_ : (Lit.int .i64 w0).wf = true) :
    Calls Try.prog 6 #[.slice a len cap, .int .i64 w0] w fun e w' => e = .returned (.bool true) ∧ Below w.heap.size w w' := by
  have zb : (w.alloc (.cells zTerm 83)).heap[w.heap.size]? = some (.cells zTerm 83 (0, 0)) := World.alloc_heap_new w _
  obtain ⟨X1, hX1⟩ : ∃ X, w.alloc (.cells zTerm 83) = X := ⟨_, rfl⟩
  rw [hX1] at zb
  have b1 : Below w.heap.size w X1 := by rw [← hX1]; exact (Below.refl _ _).alloc (Nat.le_refl _) _
  have s1 : X1.heap.size = w.heap.size + 1 := by rw [← hX1]; simp
  have zc : (X1.alloc (.cells #[.pointer none, .pointer (some ⟨w.heap.size, 0, none⟩)] 63)).heap[X1.heap.size]? = some (.cells #[.pointer none, .pointer (some ⟨w.heap.size, 0, none⟩)] 63 (0, 0)) := World.alloc_heap_new X1 _
  have nb : NoT (X1.alloc (.cells #[.pointer none, .pointer (some ⟨w.heap.size, 0, none⟩)] 63)) (.pointer (some ⟨w.heap.size, 0, none⟩)) :=
    NoT.below (W := X1) (.inr ⟨_, rfl, zb⟩) ((Below.refl _ _).alloc (Nat.le_refl _) _)
  obtain ⟨X, hX⟩ : ∃ X, X1.alloc (.cells #[.pointer none, .pointer (some ⟨w.heap.size, 0, none⟩)] 63) = X := ⟨_, rfl⟩
  have b2 : Below w.heap.size w X := by rw [← hX]; exact b1.alloc b1.size _
  rw [hX, s1] at zc
  rw [hX] at nb
  have d0 : X.cell? ⟨w.heap.size + 1, 0, none⟩ = some (.pointer none) := by rw [cell_of_row X _ 0 _ _ _ zc]; rfl
  have d1 : X.cell? ⟨w.heap.size + 1, 1, none⟩ = some (.pointer (some ⟨w.heap.size, 0, none⟩)) := by rw [cell_of_row X _ 1 _ _ _ zc]; rfl
  have sX : w.heap.size + 1 < X.heap.size := (Array.getElem?_eq_some_iff.1 zc).1
  rw [← hX1] at hX
  have HX := Lib.hid hX
  have NB := Lib.hid nb
  clear hX hX1 zb zc nb b1 s1
  have HNQ : ∀ W, (binOp .neq 34 (.agg #[.bool false, .bool false, .bool false, .int .i64 0, .int .i64 0]) (.agg #[.bool false, .bool false, .bool false, .int .i64 0, .int .i64 0])).run Try.prog W = .ok (.bool false) W := fun _ => by go_simp
  go_enter Try.func6, Try.ntmps6
  go_wp2
  (try unfold zTerm at HX)
  rw [HX.out]
  go_loopw [19] (fun i wr => ∃ k : Nat, k ≤ 2 ∧ i = .int .i64 (k : Int) ∧ Below X.heap.size X wr) (fun i _ => 2 - (intOf i).toNat)
  case atStart => exact ⟨0, Nat.zero_le _, rfl, Below.refl _ _⟩
  case round =>
    obtain ⟨k, hk, rfl, hb⟩ := hrel
    by_cases hlt : k < 2
    · have hv : ∃ v, X.cell? ⟨w.heap.size + 1, k, none⟩ = some (.pointer v) ∧ NoT X (.pointer v) := by
        rcases (by omega : k = 0 ∨ k = 1) with rfl | rfl
        · exact ⟨_, d0, .inl rfl⟩
        · exact ⟨_, d1, NB.out⟩
      obtain ⟨v, hd, hn⟩ := hv
      have hdr := (hb.cell (p := ⟨w.heap.size + 1, k, none⟩) sX).trans hd
      have hN := Lib.hid (fun W' (h : Below X.heap.size X W') => hn.below h)
      have hk2 : (k : Int) < 2 := by omega
      obtain ⟨W1, hW1⟩ : ∃ W1, wr.alloc (.cells #[.slice a len cap] 67) = W1 := ⟨_, rfl⟩
      have B1 : Below X.heap.size X W1 := by rw [← hW1]; exact hb.alloc hb.size _
      have HW1 := Lib.hid hW1
      clear hn hd d0 d1 hW1
      go_upto_region 6 with (go_at_call 29; rw [HW1.out]; refine (twrite_no (hN.out _ B1) _ _ _).mono ?_; rintro e w1 ⟨rfl, rfl⟩)
      go_wp2_with (first
        | (go_at_call 37; refine (tsize_no (hN.out _ B1)).mono ?_; rintro e w2 ⟨rfl, rfl⟩)
        | (go_at_call 33; refine (tcursor_no (hN.out _ B1)).mono ?_; rintro e w3 ⟨rfl, rfl⟩)
        | (go_at_call 31; refine (tcell_no (hN.out _ B1) _ _).mono ?_; rintro e W2 ⟨rfl, h2⟩; have B2 := bto B1 h2 B1.size)
        | (refine wpList_gstore rfl _ _ rfl W2.heap.size _ rfl GC.zero rfl [GC.zero] (GBlk.made W2 [GC.zero]) 0 (by omega) (by simp) ?_; intro W4 g4 o4; have B4 : Below X.heap.size X W4 := (B2.alloc B2.size _).trans (o4.below (by simp; exact B2.size) (by have := B2.size; simp; omega)))
        | (go_at_call 38; refine (tresize_no (hN.out _ B4) _ _).mono ?_; rintro e w4 ⟨rfl, rfl⟩)
        | (go_at_call 39; refine (trow_no (hN.out _ B4) _).mono ?_; rintro e w4 ⟨rfl, rfl⟩)
        | (go_at_call 40; refine (ttext_no (hN.out _ B4) _).mono ?_; rintro e w4 ⟨rfl, rfl⟩)
        | (go_at_call 41; refine (tbells_no (hN.out _ B4)).mono ?_; rintro e w4 ⟨rfl, rfl⟩)
        | (go_at_call 35; refine (tscrolled_no (hN.out _ B4)).mono ?_; rintro e w4 ⟨rfl, rfl⟩)
        | (go_at_call 42; refine (twaits_no (hN.out _ B4)).mono ?_; rintro e w4 ⟨rfl, rfl⟩)
        | (go_at_call 34; refine (tpending_no (hN.out _ B4)).mono ?_; rintro e w4 ⟨rfl, rfl⟩)
        | (go_at_call 43; refine (tseen_no (hN.out _ B4)).mono ?_; rintro e w4 ⟨rfl, rfl⟩)
        | (go_at_call 44; refine (tmarked_no (hN.out _ B4)).mono ?_; rintro e w4 ⟨rfl, rfl⟩)
        | (go_at_call 46; refine (tfork_no (hN.out _ B3)).mono ?_; rintro e w4 ⟨rfl, rfl⟩)
        | (go_at_call 45; refine (tstyle_no (hN.out _ B4)).mono ?_; rintro e W3 ⟨rfl, h3⟩; have B3 := bto B4 h3 B4.size))
      go_roundw
      case rel => exact ⟨k + 1, by omega, by go_num, B3⟩
      case measure => simp [intOf]; omega
    · obtain rfl : k = 2 := by omega
      go_wp2_with (go_at_call 36; refine (awake05_any _).mono ?_; rintro e w8 ⟨rfl, hb8⟩)
      go_ret
      exact ⟨rfl, bto (bto b2 hb b2.size) hb8 (bto b2 hb b2.size).size⟩
end Go.Proofs.Ytekodpcedjpnjaa
