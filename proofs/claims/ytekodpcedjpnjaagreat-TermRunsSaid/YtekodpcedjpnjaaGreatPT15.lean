/- The program's terminal: obey. No condition but that the counters are not at their ends. The program's terminal: obey, of moves and erasing; of styles. No condition but that the counters are not at their ends. The program's terminal: obey, of styles; obey. No condition but that the counters are not at their ends. The program's terminal: sequence. No condition but that the counters are not at their ends. The program's terminal: escape, take. No condition but that the counters are not at their ends. -/
import Derived.Test.YtekodpcedjpnjaaGreatPT10
import Derived.Test.YtekodpcedjpnjaaGreatPT8
import Derived.Deep.CutBlock
namespace Go.Proofs.YtekodpcedjpnjaaGreat
set_option linter.unusedVariables false
set_option linter.unusedSimpArgs false
open Go.RowKit Go.Shelf Go.Maps
attribute [local go_sem] Oper.semAt_some
def TS.sty (t : TS) (n : Nat) : TS := { t with y := styT t.y n }
theorem fold_sty : ∀ (L : List Nat) (t : TS), L.foldl TS.sty t = { t with y := L.foldl styT t.y }
  | [], _ => rfl
  | x :: L, t => by rw [List.foldl_cons, fold_sty L]; rfl
theorem TmAt.sty {W : World} {b p q : Nat} {hv : Value} {t : TS} (a : TmAt W b p q hv t) (n : Nat) :
    TmAt (((((W.setCell ⟨b, 4, none⟩ (.bool (styT t.y n).b)).setCell ⟨b, 5, none⟩ (.bool (styT t.y n).u)).setCell ⟨b, 6, none⟩ (.bool (styT t.y n).i)).setCell ⟨b, 7, none⟩ (.int .i64 (styT t.y n).f)).setCell ⟨b, 8, none⟩ (.int .i64 (styT t.y n).g)) b p q hv (t.sty n) ∧
    Only [b] W (((((W.setCell ⟨b, 4, none⟩ (.bool (styT t.y n).b)).setCell ⟨b, 5, none⟩ (.bool (styT t.y n).u)).setCell ⟨b, 6, none⟩ (.bool (styT t.y n).i)).setCell ⟨b, 7, none⟩ (.int .i64 (styT t.y n).f)).setCell ⟨b, 8, none⟩ (.int .i64 (styT t.y n).g)) := by
  obtain ⟨z, hz⟩ : ∃ z, z = styT t.y n := ⟨_, rfl⟩
  unfold TS.sty
  rw [← hz]
  exact ⟨((((a.put 4 (.bool z.b) hv { t with y := { t.y with b := z.b } } rfl rfl rfl rfl).put 5 (.bool z.u) hv { t with y := { t.y with b := z.b, u := z.u } } rfl rfl rfl rfl).put 6 (.bool z.i) hv { t with y := { t.y with b := z.b, u := z.u, i := z.i } } rfl rfl rfl rfl).put 7 (.int .i64 z.f) hv { t with y := { t.y with b := z.b, u := z.u, i := z.i, f := z.f } } rfl rfl rfl rfl).put 8 (.int .i64 z.g) hv { t with y := z } rfl rfl rfl rfl,
    ((((set_only _ _ _ _).trans (set_only _ _ _ _)).trans (set_only _ _ _ _)).trans (set_only _ _ _ _)).trans (set_only _ _ _ _)⟩
theorem Bys.tail {W : World} {g off : Nat} {c : UInt8} {r : List UInt8} (h : Bys W g off (c :: r)) : Bys W g (off + 1) r :=
  ⟨h.lt, fun j hj => by
    have := h.at_ (j + 1) (by simpa using hj)
    rw [show off + (j + 1) = off + 1 + j by omega] at this
    rw [this]; rfl⟩
theorem Bys.any {W : World} {g off : Nat} {c : UInt8} (h : Bys W g off [c]) (k : Nat) : Bys W g k [] := ⟨h.lt, fun j hj => by simp at hj⟩
/-- The bytes behind the first, wherever their slice is said to lie. -/
theorem Bys.rest {W : World} {g off n cap : Nat} {c : UInt8} {r : List UInt8} (h : Bys W g off (c :: r)) (hn : r.length + 1 = n) (hc : n ≤ cap) : Bys W g (if cap = 1 then off else off + 1) r := by
  split
  · have : r = [] := List.eq_nil_of_length_eq_zero (by omega)
    subst this
    exact h.any _
  · exact h.tail
set_option maxRecDepth 100000 in
set_option maxHeartbeats 8000000 in
theorem pobeyQ_true {W : World} {b p q : Nat} {hv : Value} {t : TS} (a : TmAt W b p q hv t) {g off m cap : Nat} {r : List UInt8} {o2 : Nat} (hB : Bys W g off ((63 : UInt8) :: r)) (hR : Bys W g o2 r) (ho : (cap = 1 ∧ m = 0 ∧ o2 = off) ∨ (¬ cap = 1 ∧ o2 = off + 1)) (hn : r.length = m) (hn2 : m ≤ 1000000) (hc : m + 1 ≤ cap ∧ cap ≤ 9223372036854775807) (hgb : g ≠ b) (hp : plainB r = true) (e : Nat) (he : e < 256) :
    Calls Tryz.prog 259 #[.pointer (some ⟨b, 0, none⟩), .slice (some ⟨g, off, none⟩) (m + 1) cap, .int .u8 (e : Int)] W (TmPost b p q hv (t.modes (numsT 0 r) e) W) := by
  have b1 : Below W.heap.size W (W.alloc (.cells #[.pointer (some ⟨b, 0, none⟩)] 84)) := (Below.refl _ _).alloc (Nat.le_refl _) _
  have k1 : (W.alloc (.cells #[.pointer (some ⟨b, 0, none⟩)] 84)).heap[W.heap.size]? = some (.cells #[.pointer (some ⟨b, 0, none⟩)] 84 (0, 0)) := World.alloc_heap_new W _
  have hlt := a.lt
  obtain ⟨X1, hX1⟩ : ∃ X1, W.alloc (.cells #[.pointer (some ⟨b, 0, none⟩)] 84) = X1 := ⟨_, rfl⟩
  rw [hX1] at b1 k1
  have HX1 := Lib.hid hX1
  have d1 := box_cell k1
  clear hX1
  obtain ⟨hc1, hc2⟩ := hc
  have hx0 := hB.at_ 0 (by simp)
  rw [show (nth 0 ((63 : UInt8) :: r) 0).toNat = 63 from rfl, Nat.add_zero] at hx0
  have hx0 : W.cell? ⟨g, off, none⟩ = some (.int .u8 63) := hx0
  have hx1 := (b1.cell (p := ⟨g, off, none⟩) hR.lt).trans hx0
  have CP := fun (cap : Nat) => plain_any (cap := cap) (hR.below b1) hn (by omega)
  rw [hp] at CP
  replace CP := Lib.hid CP
  have CM := Lib.hid (fun (X : World) (hX : Below W.heap.size W X) (cap : Nat) => pmodes_any (cap := cap) (a.below hX) (hR.below hX) hn (by omega) hp hgb e he)
  have AA := Lib.hid a
  have dB : Below X1.heap.size X1 X1.drew := (Below.refl _ _).drew
  have hm1 : 1 ≤ (m : Int) + 1 := by omega
  clear a hB hn hp hx0 hR
  rcases ho with ⟨rfl, rfl, rfl⟩ | ⟨hcap, rfl⟩
  all_goals
    go_enter Tryz.func259, Tryz.ntmps259
    go_upto_region 1 with (fail)
    rw [HX1.out]
    go_wp2_with (go_at_call 276; refine (CP.out _).mono ?_; rintro e w1 ⟨rfl, rfl⟩)
    refine wp_region_mix2 [(true, 0), (true, 1), (true, 2), (true, 3), (false, 4)] (fun w' => w'.heap[W.heap.size]? = some (.cells #[.pointer (some ⟨b, 0, none⟩)] 84 (0, 0))) (by kernel_rfl) (by kernel_rfl) (by rfl) (by kernel_rfl) (by kernel_rfl) (fun _ _ d _ _ h => by cases d <;> exact h) ((dB.block _ (by have := (Array.getElem?_eq_some_iff.1 k1).1; exact this)).trans k1) ?_
    simp only [mixL, List.getElem?_cons_succ, List.getElem?_cons_zero]
    repeat (refine' wpMix2_read (v := _) rfl ?_ ?_; rotate_left 1; (intro w' hw'; have d1' := box_cell hw'; go_simp; try with_reducible rfl); try simp only [Act.put, List.setIfInBounds_toArray, List.set_cons_zero, List.set_cons_succ])
    refine wpMix2_act (fun K hK => ?_)
    go_wp2_with fail
    refine (CM.out _ (b1.drew) _).mono ?_
    rintro e w3 ⟨rfl, a3, o3⟩
    go_wp2
    refine hK _ _ ((o3.block _ (by exact (Array.getElem?_eq_some_iff.1 k1).1) (by simp; omega)).trans k1) ?_
    clear hK K
    refine wpMix2_nil ?_
    go_wp2
    (try simp only [Exit.inBlock, Exit.then]); refine bodyPost_ret (results_none rfl _ _ _) rfl ?_
    exact ⟨rfl, a3, (Only.on b1.drew).trans o3⟩
set_option maxRecDepth 100000 in
set_option maxHeartbeats 8000000 in
theorem pobeyQ_false {W : World} {b p q : Nat} {hv : Value} {t : TS} (a : TmAt W b p q hv t) {g off m cap : Nat} {r : List UInt8} {o2 : Nat} (hB : Bys W g off ((63 : UInt8) :: r)) (hR : Bys W g o2 r) (ho : (cap = 1 ∧ m = 0 ∧ o2 = off) ∨ (¬ cap = 1 ∧ o2 = off + 1)) (hn : r.length = m) (hn2 : m ≤ 1000000) (hc : m + 1 ≤ cap ∧ cap ≤ 9223372036854775807) (hgb : g ≠ b) (hp : plainB r = false) (e : Nat) (he : e < 256) :
    Calls Tryz.prog 259 #[.pointer (some ⟨b, 0, none⟩), .slice (some ⟨g, off, none⟩) (m + 1) cap, .int .u8 (e : Int)] W (TmPost b p q hv t W) := by
  have b1 : Below W.heap.size W (W.alloc (.cells #[.pointer (some ⟨b, 0, none⟩)] 84)) := (Below.refl _ _).alloc (Nat.le_refl _) _
  have k1 : (W.alloc (.cells #[.pointer (some ⟨b, 0, none⟩)] 84)).heap[W.heap.size]? = some (.cells #[.pointer (some ⟨b, 0, none⟩)] 84 (0, 0)) := World.alloc_heap_new W _
  have hlt := a.lt
  obtain ⟨X1, hX1⟩ : ∃ X1, W.alloc (.cells #[.pointer (some ⟨b, 0, none⟩)] 84) = X1 := ⟨_, rfl⟩
  rw [hX1] at b1 k1
  have HX1 := Lib.hid hX1
  have d1 := box_cell k1
  clear hX1
  obtain ⟨hc1, hc2⟩ := hc
  have hx0 := hB.at_ 0 (by simp)
  rw [show (nth 0 ((63 : UInt8) :: r) 0).toNat = 63 from rfl, Nat.add_zero] at hx0
  have hx0 : W.cell? ⟨g, off, none⟩ = some (.int .u8 63) := hx0
  have hx1 := (b1.cell (p := ⟨g, off, none⟩) hR.lt).trans hx0
  have CP := fun (cap : Nat) => plain_any (cap := cap) (hR.below b1) hn (by omega)
  rw [hp] at CP
  replace CP := Lib.hid CP
  have AA := Lib.hid a
  have dB : Below X1.heap.size X1 X1.drew := (Below.refl _ _).drew
  have hm1 : 1 ≤ (m : Int) + 1 := by omega
  clear a hB hn hp hx0 hR
  rcases ho with ⟨rfl, rfl, rfl⟩ | ⟨hcap, rfl⟩
  all_goals
    go_enter Tryz.func259, Tryz.ntmps259
    go_upto_region 1 with (fail)
    rw [HX1.out]
    go_wp2_with (go_at_call 276; refine (CP.out _).mono ?_; rintro e w1 ⟨rfl, rfl⟩)
    (try simp only [Exit.inBlock, Exit.then]); refine bodyPost_ret (results_none rfl _ _ _) rfl ?_
    exact ⟨rfl, AA.out.below b1, Only.on b1⟩
set_option maxRecDepth 100000 in
set_option maxHeartbeats 8000000 in
theorem pobeyF {W : World} {b p q : Nat} {hv : Value} {t : TS} (a : TmAt W b p q hv t) {g off m cap : Nat} {l : List UInt8} (hB : Bys W g off l) (hn : l.length = m) (hn2 : m ≤ 1000000) (hf : (m = 0 ∧ l = []) ∨ (∃ c r, l = c :: r ∧ c.toNat ≠ 63)) (hp : plainB l = false) (e : Nat) (he : e < 256) :
    Calls Tryz.prog 259 #[.pointer (some ⟨b, 0, none⟩), .slice (some ⟨g, off, none⟩) m cap, .int .u8 (e : Int)] W (TmPost b p q hv t W) := by
  have b1 : Below W.heap.size W (W.alloc (.cells #[.pointer (some ⟨b, 0, none⟩)] 84)) := (Below.refl _ _).alloc (Nat.le_refl _) _
  have k1 : (W.alloc (.cells #[.pointer (some ⟨b, 0, none⟩)] 84)).heap[W.heap.size]? = some (.cells #[.pointer (some ⟨b, 0, none⟩)] 84 (0, 0)) := World.alloc_heap_new W _
  have hlt := a.lt
  obtain ⟨X1, hX1⟩ : ∃ X1, W.alloc (.cells #[.pointer (some ⟨b, 0, none⟩)] 84) = X1 := ⟨_, rfl⟩
  rw [hX1] at b1 k1
  have HX1 := Lib.hid hX1
  have d1 := box_cell k1
  clear hX1
  have hxf : 0 < m → ∃ x : Nat, X1.cell? ⟨g, off, none⟩ = some (.int .u8 (x : Int)) ∧ x ≠ 63 := fun h0 => by
    rcases hf with ⟨h1, _⟩ | ⟨c, r, rfl, hc⟩
    · omega
    · refine ⟨c.toNat, ?_, hc⟩
      have hx0 := hB.at_ 0 (by simp)
      rw [Nat.add_zero] at hx0
      exact (b1.cell (p := ⟨g, off, none⟩) hB.lt).trans hx0
  have CP := plain_any (cap := cap) (hB.below b1) hn (by omega)
  rw [hp] at CP
  replace CP := Lib.hid CP
  have AA := Lib.hid a
  clear a hB hn hp hf
  rcases Nat.eq_zero_or_pos m with hm0 | hm0
  case' inr =>
    obtain ⟨x, hx1, hx63⟩ := hxf hm0
    have hxn : ((x : Int) == 63) = false := by simp; omega
  case' inl =>
    have hxn : ¬ 0 < (m : Int) := by omega
    clear hm0
  case' inr =>
    replace hm0 : 0 < (m : Int) := by omega
  all_goals
    clear hxf
    go_enter Tryz.func259, Tryz.ntmps259
    go_upto_region 1 with (fail)
    rw [HX1.out]
    go_wp2_with (go_at_call 276; refine (CP.out).mono ?_; rintro e w1 ⟨rfl, rfl⟩)
    (try simp only [Exit.inBlock, Exit.then]); refine bodyPost_ret (results_none rfl _ _ _) rfl ?_
    exact ⟨rfl, AA.out.below b1, Only.on b1⟩
end Go.Proofs.YtekodpcedjpnjaaGreat
namespace Go.Proofs.YtekodpcedjpnjaaGreat
set_option linter.unusedVariables false
set_option linter.unusedSimpArgs false
open Go.RowKit Go.Shelf Go.Maps
attribute [local go_sem] Oper.semAt_some
theorem plain_mv (t : TS) (L : List Nat) (e : Nat) (h74 : e ≠ 74) (h75 : e ≠ 75) (h109 : e ≠ 109) : t.plain L e = t.mv (nth 0 L 0) (nth 0 L 1) e := by
  unfold TS.plain TS.mv
  dsimp only
  rw [if_neg h74, if_neg h75, if_neg h109]
theorem nth_nums (l : List UInt8) (k : Nat) : nth 0 (numsT 0 l) k ≤ 9999 := by
  rcases Nat.lt_or_ge k (numsT 0 l).length with h | h
  · rw [nth_eq _ _ _ h]; exact numsT_le l 0 (by omega) _ (List.getElem_mem _)
  · unfold nth; rw [List.getD_eq_getElem?_getD, List.getElem?_eq_none h]; exact Nat.zero_le _
set_option maxRecDepth 100000 in
set_option maxHeartbeats 8000000 in
theorem pobey74 {W : World} {b p q : Nat} {hv : Value} {t : TS} (a : TmAt W b p q hv t) {g off m cap : Nat} (ok : TO0 t) {l : List UInt8} (hB : Bys W g off l) (hn : l.length = m) (hn2 : m ≤ 1000000) (hf : (m = 0 ∧ l = []) ∨ (∃ c r, l = c :: r ∧ c.toNat ≠ 63)) (hp : plainB l = true) :
    Calls Tryz.prog 259 #[.pointer (some ⟨b, 0, none⟩), .slice (some ⟨g, off, none⟩) m cap, .int .u8 74] W (TmPost b p q hv (t.erased (nth 0 (numsT 0 l) 0) false) W) := by
  have b1 : Below W.heap.size W (W.alloc (.cells #[.pointer (some ⟨b, 0, none⟩)] 84)) := (Below.refl _ _).alloc (Nat.le_refl _) _
  have k1 : (W.alloc (.cells #[.pointer (some ⟨b, 0, none⟩)] 84)).heap[W.heap.size]? = some (.cells #[.pointer (some ⟨b, 0, none⟩)] 84 (0, 0)) := World.alloc_heap_new W _
  have hlt := a.lt
  obtain ⟨X1, hX1⟩ : ∃ X1, W.alloc (.cells #[.pointer (some ⟨b, 0, none⟩)] 84) = X1 := ⟨_, rfl⟩
  rw [hX1] at b1 k1
  have HX1 := Lib.hid hX1
  have d1 := box_cell k1
  clear hX1
  have hxf : 0 < m → ∃ x : Nat, X1.cell? ⟨g, off, none⟩ = some (.int .u8 (x : Int)) ∧ x ≠ 63 := fun h0 => by
    rcases hf with ⟨h1, _⟩ | ⟨c, r, rfl, hc⟩
    · omega
    · refine ⟨c.toNat, ?_, hc⟩
      have hx0 := hB.at_ 0 (by simp)
      rw [Nat.add_zero] at hx0
      exact (b1.cell (p := ⟨g, off, none⟩) hB.lt).trans hx0
  have CP := plain_any (cap := cap) (hB.below b1) hn (by omega)
  rw [hp] at CP
  replace CP := Lib.hid CP
  have ct := firstTwo_any (cap := cap) (hB.below b1) hn (by omega) hp
  have hn0 := nth_nums l 0
  have hm0' := nth_nums l 1
  obtain ⟨n0, hn0e⟩ : ∃ n0, n0 = nth 0 (numsT 0 l) 0 := ⟨_, rfl⟩
  obtain ⟨m0, hm0e⟩ : ∃ m0, m0 = nth 0 (numsT 0 l) 1 := ⟨_, rfl⟩
  rw [← hn0e, ← hm0e] at ct
  rw [← hn0e] at hn0 ⊢
  rw [← hm0e] at hm0'
  have CT := Lib.hid ct
  have hsx : W.heap.size < X1.heap.size := (Array.getElem?_eq_some_iff.1 k1).1
  have CM := Lib.hid (fun (X : World) (aX : TmAt X b p q hv t) => pmove_any aX ok n0 m0 hn0 hm0' 74 (by omega))
  have OK := Lib.hid ok
  have AA := Lib.hid a
  clear a ok hB hn hp hf hn0e hm0e ct
  rcases Nat.eq_zero_or_pos m with hm0 | hm0
  case' inr =>
    obtain ⟨x, hx1, hx63⟩ := hxf hm0
    have hxn : ((x : Int) == 63) = false := by simp; omega
  case' inl =>
    have hxn : ¬ 0 < (m : Int) := by omega
    clear hm0
  case' inr =>
    replace hm0 : 0 < (m : Int) := by omega
  all_goals
    clear hxf
    go_enter Tryz.func259, Tryz.ntmps259
    go_upto_region 1 with (fail)
    rw [HX1.out]
    go_wp2_with (first
      | (go_at_call 276; refine (CP.out).mono ?_; rintro e w1 ⟨rfl, rfl⟩)
      | (go_at_call 280; refine (CT.out).mono ?_; rintro e X2 ⟨rfl, hb2⟩; have d2 := box_cell ((hb2.block _ hsx).trans k1); have a2 := (AA.out.below b1).below hb2)
      | (go_at_call 281; refine (CM.out _ a2).mono ?_; rintro e X3 ⟨rfl, a3, o3⟩; have k3 := (o3.block _ (Nat.lt_of_lt_of_le hsx hb2.size) (by simp; omega)).trans ((hb2.block _ hsx).trans k1); have d3 := box_cell k3; have CE := Lib.hid (peraseAll_any (t := t) a3 OK.out n0 hn0))
      | (go_at_call 282; refine (CE.out).mono ?_; rintro e X4 ⟨rfl, a4, o4⟩))
    go_end0
    exact ⟨rfl, a4, (Only.on b1).trans ((Only.on hb2).trans (o3.trans o4))⟩
set_option maxRecDepth 100000 in
set_option maxHeartbeats 8000000 in
theorem pobey75 {W : World} {b p q : Nat} {hv : Value} {t : TS} (a : TmAt W b p q hv t) {g off m cap : Nat} (ok : TO0 t) {l : List UInt8} (hB : Bys W g off l) (hn : l.length = m) (hn2 : m ≤ 1000000) (hf : (m = 0 ∧ l = []) ∨ (∃ c r, l = c :: r ∧ c.toNat ≠ 63)) (hp : plainB l = true) :
    Calls Tryz.prog 259 #[.pointer (some ⟨b, 0, none⟩), .slice (some ⟨g, off, none⟩) m cap, .int .u8 75] W (TmPost b p q hv (t.erased (nth 0 (numsT 0 l) 0) true) W) := by
  have b1 : Below W.heap.size W (W.alloc (.cells #[.pointer (some ⟨b, 0, none⟩)] 84)) := (Below.refl _ _).alloc (Nat.le_refl _) _
  have k1 : (W.alloc (.cells #[.pointer (some ⟨b, 0, none⟩)] 84)).heap[W.heap.size]? = some (.cells #[.pointer (some ⟨b, 0, none⟩)] 84 (0, 0)) := World.alloc_heap_new W _
  have hlt := a.lt
  obtain ⟨X1, hX1⟩ : ∃ X1, W.alloc (.cells #[.pointer (some ⟨b, 0, none⟩)] 84) = X1 := ⟨_, rfl⟩
  rw [hX1] at b1 k1
  have HX1 := Lib.hid hX1
  have d1 := box_cell k1
  clear hX1
  have hxf : 0 < m → ∃ x : Nat, X1.cell? ⟨g, off, none⟩ = some (.int .u8 (x : Int)) ∧ x ≠ 63 := fun h0 => by
    rcases hf with ⟨h1, _⟩ | ⟨c, r, rfl, hc⟩
    · omega
    · refine ⟨c.toNat, ?_, hc⟩
      have hx0 := hB.at_ 0 (by simp)
      rw [Nat.add_zero] at hx0
      exact (b1.cell (p := ⟨g, off, none⟩) hB.lt).trans hx0
  have CP := plain_any (cap := cap) (hB.below b1) hn (by omega)
  rw [hp] at CP
  replace CP := Lib.hid CP
  have ct := firstTwo_any (cap := cap) (hB.below b1) hn (by omega) hp
  have hn0 := nth_nums l 0
  have hm0' := nth_nums l 1
  obtain ⟨n0, hn0e⟩ : ∃ n0, n0 = nth 0 (numsT 0 l) 0 := ⟨_, rfl⟩
  obtain ⟨m0, hm0e⟩ : ∃ m0, m0 = nth 0 (numsT 0 l) 1 := ⟨_, rfl⟩
  rw [← hn0e, ← hm0e] at ct
  rw [← hn0e] at hn0 ⊢
  rw [← hm0e] at hm0'
  have CT := Lib.hid ct
  have hsx : W.heap.size < X1.heap.size := (Array.getElem?_eq_some_iff.1 k1).1
  have CM := Lib.hid (fun (X : World) (aX : TmAt X b p q hv t) => pmove_any aX ok n0 m0 hn0 hm0' 75 (by omega))
  have OK := Lib.hid ok
  have AA := Lib.hid a
  clear a ok hB hn hp hf hn0e hm0e ct
  rcases Nat.eq_zero_or_pos m with hm0 | hm0
  case' inr =>
    obtain ⟨x, hx1, hx63⟩ := hxf hm0
    have hxn : ((x : Int) == 63) = false := by simp; omega
  case' inl =>
    have hxn : ¬ 0 < (m : Int) := by omega
    clear hm0
  case' inr =>
    replace hm0 : 0 < (m : Int) := by omega
  all_goals
    clear hxf
    go_enter Tryz.func259, Tryz.ntmps259
    go_upto_region 1 with (fail)
    rw [HX1.out]
    go_wp2_with (first
      | (go_at_call 276; refine (CP.out).mono ?_; rintro e w1 ⟨rfl, rfl⟩)
      | (go_at_call 280; refine (CT.out).mono ?_; rintro e X2 ⟨rfl, hb2⟩; have d2 := box_cell ((hb2.block _ hsx).trans k1); have a2 := (AA.out.below b1).below hb2)
      | (go_at_call 281; refine (CM.out _ a2).mono ?_; rintro e X3 ⟨rfl, a3, o3⟩; have k3 := (o3.block _ (Nat.lt_of_lt_of_le hsx hb2.size) (by simp; omega)).trans ((hb2.block _ hsx).trans k1); have d3 := box_cell k3; have CE := Lib.hid (peraseLine_any (t := t) a3 OK.out n0 hn0))
      | (go_at_call 283; refine (CE.out).mono ?_; rintro e X4 ⟨rfl, a4, o4⟩))
    go_end0
    exact ⟨rfl, a4, (Only.on b1).trans ((Only.on hb2).trans (o3.trans o4))⟩
set_option maxRecDepth 100000 in
set_option maxHeartbeats 8000000 in
theorem pobeyV {W : World} {b p q : Nat} {hv : Value} {t : TS} (a : TmAt W b p q hv t) {g off m cap : Nat} (ok : TO0 t) {l : List UInt8} (hB : Bys W g off l) (hn : l.length = m) (hn2 : m ≤ 1000000) (hf : (m = 0 ∧ l = []) ∨ (∃ c r, l = c :: r ∧ c.toNat ≠ 63)) (hp : plainB l = true) (e : Nat) (he : e < 256) (k109 : ((e : Int) == 109) = false) (k74 : ((e : Int) == 74) = false) (k75 : ((e : Int) == 75) = false) :
    Calls Tryz.prog 259 #[.pointer (some ⟨b, 0, none⟩), .slice (some ⟨g, off, none⟩) m cap, .int .u8 (e : Int)] W (TmPost b p q hv (t.mv (nth 0 (numsT 0 l) 0) (nth 0 (numsT 0 l) 1) e) W) := by
  have b1 : Below W.heap.size W (W.alloc (.cells #[.pointer (some ⟨b, 0, none⟩)] 84)) := (Below.refl _ _).alloc (Nat.le_refl _) _
  have k1 : (W.alloc (.cells #[.pointer (some ⟨b, 0, none⟩)] 84)).heap[W.heap.size]? = some (.cells #[.pointer (some ⟨b, 0, none⟩)] 84 (0, 0)) := World.alloc_heap_new W _
  have hlt := a.lt
  obtain ⟨X1, hX1⟩ : ∃ X1, W.alloc (.cells #[.pointer (some ⟨b, 0, none⟩)] 84) = X1 := ⟨_, rfl⟩
  rw [hX1] at b1 k1
  have HX1 := Lib.hid hX1
  have d1 := box_cell k1
  clear hX1
  have hxf : 0 < m → ∃ x : Nat, X1.cell? ⟨g, off, none⟩ = some (.int .u8 (x : Int)) ∧ x ≠ 63 := fun h0 => by
    rcases hf with ⟨h1, _⟩ | ⟨c, r, rfl, hc⟩
    · omega
    · refine ⟨c.toNat, ?_, hc⟩
      have hx0 := hB.at_ 0 (by simp)
      rw [Nat.add_zero] at hx0
      exact (b1.cell (p := ⟨g, off, none⟩) hB.lt).trans hx0
  have CP := plain_any (cap := cap) (hB.below b1) hn (by omega)
  rw [hp] at CP
  replace CP := Lib.hid CP
  have ct := firstTwo_any (cap := cap) (hB.below b1) hn (by omega) hp
  have hn0 := nth_nums l 0
  have hm0' := nth_nums l 1
  obtain ⟨n0, hn0e⟩ : ∃ n0, n0 = nth 0 (numsT 0 l) 0 := ⟨_, rfl⟩
  obtain ⟨m0, hm0e⟩ : ∃ m0, m0 = nth 0 (numsT 0 l) 1 := ⟨_, rfl⟩
  rw [← hn0e, ← hm0e] at ct
  rw [← hn0e] at hn0 ⊢
  rw [← hm0e] at hm0' ⊢
  have CT := Lib.hid ct
  have hsx : W.heap.size < X1.heap.size := (Array.getElem?_eq_some_iff.1 k1).1
  have CM := Lib.hid (fun (X : World) (aX : TmAt X b p q hv t) => pmove_any aX ok n0 m0 hn0 hm0' e (by omega))
  have OK := Lib.hid ok
  have AA := Lib.hid a
  clear a ok hB hn hp hf hn0e hm0e ct
  rcases Nat.eq_zero_or_pos m with hm0 | hm0
  case' inr =>
    obtain ⟨x, hx1, hx63⟩ := hxf hm0
    have hxn : ((x : Int) == 63) = false := by simp; omega
  case' inl =>
    have hxn : ¬ 0 < (m : Int) := by omega
    clear hm0
  case' inr =>
    replace hm0 : 0 < (m : Int) := by omega
  all_goals
    clear hxf
    go_enter Tryz.func259, Tryz.ntmps259
    go_upto_region 1 with (fail)
    rw [HX1.out]
    go_wp2_with (first
      | (go_at_call 276; refine (CP.out).mono ?_; rintro e w1 ⟨rfl, rfl⟩)
      | (go_at_call 280; refine (CT.out).mono ?_; rintro e X2 ⟨rfl, hb2⟩; have d2 := box_cell ((hb2.block _ hsx).trans k1); have a2 := (AA.out.below b1).below hb2)
      | (go_at_call 281; refine (CM.out _ a2).mono ?_; rintro e X3 ⟨rfl, a3, o3⟩; have k3 := (o3.block _ (Nat.lt_of_lt_of_le hsx hb2.size) (by simp; omega)).trans ((hb2.block _ hsx).trans k1); have d3 := box_cell k3))
    go_end0
    exact ⟨rfl, a3, (Only.on b1).trans ((Only.on hb2).trans o3)⟩
end Go.Proofs.YtekodpcedjpnjaaGreat
namespace Go.Proofs.YtekodpcedjpnjaaGreat
set_option linter.unusedVariables false
set_option linter.unusedSimpArgs false
open Go.RowKit Go.Shelf Go.Maps
attribute [local go_sem] Oper.semAt_some
/-- What the reads of a round need. -/
def StyS (W : World) (b p : Nat) (hv : Value) (t : TS) (B : Nat) (X : World) : Prop := PBk X b (pCells hv p t) ∧ X.heap[B]? = some (.cells #[.pointer (some ⟨b, 0, none⟩)] 84 (0, 0))
set_option maxRecDepth 100000 in
set_option maxHeartbeats 8000000 in
theorem pobey109 {W : World} {b p q : Nat} {hv : Value} {t : TS} (a : TmAt W b p q hv t) {g off m cap : Nat} {l : List UInt8} (hB : Bys W g off l) (hn : l.length = m) (hn2 : m ≤ 1000000) (hf : (m = 0 ∧ l = []) ∨ (∃ c r, l = c :: r ∧ c.toNat ≠ 63)) (hp : plainB l = true) (hgb : g ≠ b) :
    Calls Tryz.prog 259 #[.pointer (some ⟨b, 0, none⟩), .slice (some ⟨g, off, none⟩) m cap, .int .u8 109] W (TmPost b p q hv ((numsT 0 l).foldl TS.sty t) W) := by
  have b1 : Below W.heap.size W (W.alloc (.cells #[.pointer (some ⟨b, 0, none⟩)] 84)) := (Below.refl _ _).alloc (Nat.le_refl _) _
  have k1 : (W.alloc (.cells #[.pointer (some ⟨b, 0, none⟩)] 84)).heap[W.heap.size]? = some (.cells #[.pointer (some ⟨b, 0, none⟩)] 84 (0, 0)) := World.alloc_heap_new W _
  have hlt := a.lt
  obtain ⟨X1, hX1⟩ : ∃ X1, W.alloc (.cells #[.pointer (some ⟨b, 0, none⟩)] 84) = X1 := ⟨_, rfl⟩
  rw [hX1] at b1 k1
  have HX1 := Lib.hid hX1
  have d1 := box_cell k1
  clear hX1
  have hxf : 0 < m → ∃ x : Nat, X1.cell? ⟨g, off, none⟩ = some (.int .u8 (x : Int)) ∧ x ≠ 63 := fun h0 => by
    rcases hf with ⟨h1, _⟩ | ⟨c, r, rfl, hc⟩
    · omega
    · refine ⟨c.toNat, ?_, hc⟩
      have hx0 := hB.at_ 0 (by simp)
      rw [Nat.add_zero] at hx0
      exact (b1.cell (p := ⟨g, off, none⟩) hB.lt).trans hx0
  have CP := plain_any (cap := cap) (hB.below b1) hn (by omega)
  rw [hp] at CP
  replace CP := Lib.hid CP
  have hB1 := hB.below b1
  have HSEQ := Lib.hid (fun (Bx : Nat) (w : World) (hB : Bys w g off l) (hbx : Bx < w.heap.size) (hcb : w.cell? ⟨Bx, 0, none⟩ = some (.slice (some ⟨g, off, none⟩) m cap)) (mm : Nat) (hm : 1 ≤ mm) => num1_stops Bx w hB hn (by omega) hp hbx hcb mm hm)
  obtain ⟨NL, hNL⟩ : ∃ NL, NL = numsT 0 l := ⟨_, rfl⟩
  rw [← hNL] at HSEQ ⊢
  have hsx : X1.heap.size = W.heap.size + 1 := by rw [← HX1.out]; simp
  have HF := Lib.hid (And.intro k1 (And.intro hsx (And.intro hB1 (a.below b1))))
  have hgl := hB.lt
  have a1 := a.below b1
  clear hNL a hB hn hp hf
  rcases Nat.eq_zero_or_pos m with hm0 | hm0
  case' inr =>
    obtain ⟨x, hx1, hx63⟩ := hxf hm0
    have hxn : ((x : Int) == 63) = false := by simp; omega
  case' inl =>
    have hxn : ¬ 0 < (m : Int) := by omega
    clear hm0
  case' inr =>
    replace hm0 : 0 < (m : Int) := by omega
  all_goals
    clear hxf
    refine (callsIn_wide (n := 9)).1 ?_
    have h1 : 1 ≤ 9 := by omega
    refine callsIn_of_wp_marks Tryz.func259 rfl trivial ?_ rfl
    simp only [Tryz.ntmps259, List.size_toArray, List.length_cons, List.length_nil, Nat.reduceAdd, Nat.reduceSub, Array.replicate_succ, Array.replicate_zero, List.push_toArray, List.append_toArray, List.nil_append, List.cons_append]
    obtain rfl := HX1.out
    clear HX1 k1 d1 hsx hB1 a1
    gi_wp2_with (first
      | (refine ⟨trivial, ?_⟩; gi_at_call 276; refine (callsIn_wide.2 (CP.out)).mono ?_; rintro e w1 ⟨rfl, rfl⟩)
      | (refine ⟨trivial, ?_⟩; gi_at_call 278; refine (callsIn_wide.2 (numbers_any _ _ _ _)).mono ?_; rintro e w2 ⟨rfl, rfl⟩))
    obtain ⟨X1, hX1⟩ : ∃ X1, W.alloc (.cells #[.pointer (some ⟨b, 0, none⟩)] 84) = X1 := ⟨_, rfl⟩
    rw [hX1] at b1 HF ⊢
    obtain ⟨k1, hsx, hB1, a1⟩ := HF.out
    clear HF hX1
    obtain ⟨W0, hW0⟩ : ∃ W0, X1.alloc (.cells #[.slice (some ⟨g, off, none⟩) m cap] 61) = W0 := ⟨_, rfl⟩
    rw [hW0]
    have s3 : W0.heap.size = W.heap.size + 1 + 1 := by rw [← hW0]; simp [hsx]
    have b3 : Below (W.heap.size + 1) X1 W0 := by rw [← hW0]; exact (Below.refl _ _).alloc (by omega) _
    have k3 : W0.heap[W.heap.size + 1]? = some (.cells #[.slice (some ⟨g, off, none⟩) m cap] 61 (0, 0)) := by rw [← hW0, ← hsx]; exact World.alloc_heap_new X1 _
    have hBw : Below W.heap.size W W0 := b1.trans (b3.mono (by omega))
    have m1 : W0.heap[W.heap.size]? = some (.cells #[.pointer (some ⟨b, 0, none⟩)] 84 (0, 0)) := (b3.block _ (by omega)).trans k1
    have c3 : W0.cell? ⟨W.heap.size + 1, 0, none⟩ = some (.slice (some ⟨g, off, none⟩) m cap) := by rw [cell_of_row W0 _ 0 _ _ _ k3]; rfl
    have hB0 := hB1.below (b3.mono (by omega))
    have a0 := a1.below (b3.mono (by omega))
    clear hW0 b3 k1
    refine wpIn_rangeFunc_ownG rfl h1 (gf := 288) (lb := #[.pointer (some ⟨W.heap.size + 1, 0, none⟩)]) rfl trivial (enters_of Tryz.func288 (by kernel_rfl) rfl)
      (HSEQ.out (W.heap.size + 1) W0 hB0 (by omega) c3 _ (by omega)) KB.trans (KB.put (by omega) (by omega)) (Below.refl _ _) (fun _ => rfl)
      (NumI W b p q hv t TS.sty [(W.heap.size, .pointer (some ⟨b, 0, none⟩), 84), (W.heap.size + 1, .slice (some ⟨g, off, none⟩) m cap, 61)]) (fun _ _ _ => False)
      (NumI.own (by omega))
      (fun c s A B row hs hg hr => hs)
      ⟨⟨a0, fun x hx => by
        simp only [List.mem_cons, List.not_mem_nil, or_false] at hx
        rcases hx with rfl | rfl
        · exact m1
        · exact k3⟩, Only.of_below hBw⟩
      ?_ ?_ ?_ ?_ ?_
    rotate_left 1
    · intro l0 x W1 K hK
      gi_wp2
      exact hK
    · rintro l0 pre x V ⟨⟨aV, hbx⟩, oV⟩ _
      have k2 := hbx (W.heap.size, .pointer (some ⟨b, 0, none⟩), 84) (by simp)
      have d2 := box_cell k2
      have HFS := Lib.hid (fold_snoc TS.sty t pre x)
      have hVx := (Array.getElem?_eq_some_iff.1 (hbx (W.heap.size + 1, .slice (some ⟨g, off, none⟩) m cap, 61) (by simp))).1
      have hVx : W.heap.size + 1 < V.heap.size := hVx
      have HK3 := Lib.hid (hbx (W.heap.size + 1, .slice (some ⟨g, off, none⟩) m cap, 61) (by simp))
      have hgV : g < V.heap.size := Nat.lt_of_lt_of_le hgl oV.size
      clear hbx
      obtain ⟨t1, ht1⟩ : ∃ t1, t1 = pre.foldl TS.sty t := ⟨_, rfl⟩
      rw [← ht1] at aV HFS
      clear ht1
      have hSV : StyS W b p hv t1 W.heap.size V.drew := ⟨aV.blk, k2⟩
      have CY := Lib.hid (fun w => styled_sy t1.y x w)
      have hVl := aV.lt
      have hWl := (Array.getElem?_eq_some_iff.1 k2).1
      gi_wp2
      refine wpIn_region_mixT (l₀ := some l0) 8 [(true, 0), (true, 1), (true, 2), (true, 3), (true, 4), (true, 5), (false, 6), (true, 7), (true, 8), (false, 9)] (StyS W b p hv t1 W.heap.size) (by kernel_rfl) (by kernel_rfl) (by rfl) (by kernel_rfl) (by kernel_rfl) (by kernel_rfl) (by intro a w h; exact h) (fun _ _ _ _ _ h => h) hSV ?_
      simp only [mixL, List.getElem?_cons_succ, List.getElem?_cons_zero]
      repeat (refine' wpMix_read (v := _) rfl ?_ ?_; rotate_left 1; (intro w' hw'; obtain ⟨hw1, hw2⟩ := hw'; obtain ⟨c0, c1, c2, c3, c4, c5, c6, c7, c8, c9, c10, c11, c12, c13, c14, c15, c16, fz⟩ := hw1.cells; have d2' := box_cell hw2; go_simp; try with_reducible rfl); try simp only [Act.put, List.setIfInBounds_toArray, List.set_cons_zero, List.set_cons_succ])
      refine wpMix_act (fun K hK => ?_)
      go_wp2_with fail
      refine (CY.out _).mono ?_
      rintro e w5 ⟨rfl, hb5⟩
      have hb5' : Below V.heap.size V w5 := ((Below.refl _ _).drew).trans hb5
      have a5 := aV.below hb5'
      have hk5 := (hb5'.block _ hWl).trans k2
      go_wp2
      refine hK _ _ (fun _ => ⟨a5.blk, hk5⟩) ?_
      clear hK K
      repeat (refine' wpMix_read (v := _) rfl ?_ ?_; rotate_left 1; (intro w' hw'; obtain ⟨hw1, hw2⟩ := hw'; obtain ⟨c0, c1, c2, c3, c4, c5, c6, c7, c8, c9, c10, c11, c12, c13, c14, c15, c16, fz⟩ := hw1.cells; have d2' := box_cell hw2; go_simp; try with_reducible rfl); try simp only [Act.put, List.setIfInBounds_toArray, List.set_cons_zero, List.set_cons_succ])
      refine wpMix_act (fun K hK => ?_)
      obtain ⟨c0, c1, c2, c3, c4, c5, c6, c7, c8, c9, c10, c11, c12, c13, c14, c15, c16, fz⟩ := a5.cells
      obtain ⟨aN, oN⟩ := a5.sty x
      have HAN := Lib.hid aN
      have HON := Lib.hid oN
      clear aN oN
      go_wp2
      refine hK _ _ (fun h => absurd rfl h) ?_
      clear hK K
      refine wpMix_nil ?_
      refine ⟨?_, ?_, ⟨?_, fun y hy => ?_⟩, ?_⟩
      · exact ((others_of_below hb5').trans (((((KeepsOthers.setCell _ _ _).trans (KeepsOthers.setCell _ _ _)).trans (KeepsOthers.setCell _ _ _)).trans (KeepsOthers.setCell _ _ _)).trans (KeepsOthers.setCell _ _ _))).from _
      · exact (KB.of_below hb5' (by omega) (by omega)).trans (((((KB.setCell _ _ _ _ (by omega) hgb).trans (KB.setCell _ _ _ _ (by omega) hgb)).trans (KB.setCell _ _ _ _ (by omega) hgb)).trans (KB.setCell _ _ _ _ (by omega) hgb)).trans (KB.setCell _ _ _ _ (by omega) hgb))
      · rw [HFS.out]; exact HAN.out
      · simp only [List.mem_cons, List.not_mem_nil, or_false] at hy
        rcases hy with rfl | rfl
        · exact (HON.out.block _ (by exact (Array.getElem?_eq_some_iff.1 hk5).1) (by simp; omega)).trans hk5
        · exact (HON.out.block _ (by exact Nat.lt_of_lt_of_le hVx hb5'.size) (by simp; omega)).trans ((hb5'.block _ hVx).trans HK3.out)
      · exact oV.trans ((Only.on hb5').trans HON.out.ob)
    · rintro D ys V hD rfl ⟨⟨aV, hbx⟩, oV⟩ hK
      clear hbx
      gi_wp2
      refine ⟨by simp, .inl ⟨_, _, rfl, run_takeDeferred hK, ?_⟩⟩
      exact ⟨_, results_none rfl _ _ _, rfl, tm_put aV D _ _ hK rfl, only_put oV D _ (by omega)⟩
    · rintro D c pre V hD hpre hF hK
      exact hF.elim
theorem pobey_any {W : World} {b p q : Nat} {hv : Value} {t : TS} (a : TmAt W b p q hv t) {g off m cap : Nat} (ok : TO0 t) {l : List UInt8} (hB : Bys W g off l) (hn : l.length = m) (hn2 : m ≤ 1000000) (hc : m ≤ cap ∧ cap ≤ 9223372036854775807) (hgb : g ≠ b) (e : Nat) (he : e < 256) :
    Calls Tryz.prog 259 #[.pointer (some ⟨b, 0, none⟩), .slice (some ⟨g, off, none⟩) m cap, .int .u8 (e : Int)] W (TmPost b p q hv (t.obey l e) W) := by
  have hpl : ((m = 0 ∧ l = []) ∨ (∃ c r, l = c :: r ∧ c.toNat ≠ 63)) → plainB l = true → Calls Tryz.prog 259 #[.pointer (some ⟨b, 0, none⟩), .slice (some ⟨g, off, none⟩) m cap, .int .u8 (e : Int)] W (TmPost b p q hv (t.plain (numsT 0 l) e) W) := fun hf hp => by
    by_cases h1 : e = 74
    · subst h1; exact pobey74 a ok hB hn hn2 hf hp
    by_cases h2 : e = 75
    · subst h2; exact pobey75 a ok hB hn hn2 hf hp
    by_cases h3 : e = 109
    · subst h3
      have e1 : t.plain (numsT 0 l) 109 = (numsT 0 l).foldl TS.sty t := (fold_sty _ _).symm
      rw [e1]
      exact pobey109 a hB hn hn2 hf hp hgb
    rw [plain_mv _ _ _ h1 h2 h3]
    exact pobeyV a ok hB hn hn2 hf hp e he (by simp; omega) (by simp; omega) (by simp; omega)
  cases l with
  | nil =>
    have hm : m = 0 := by simpa using hn.symm
    exact hpl (.inl ⟨hm, rfl⟩) rfl
  | cons c r =>
    unfold TS.obey
    dsimp only
    by_cases h63 : c = 63
    · subst h63
      rw [if_pos rfl]
      obtain ⟨k, rfl⟩ : ∃ k, m = k + 1 := ⟨r.length, by simpa using hn.symm⟩
      have hr : r.length = k := by simpa using hn
      have hR := hB.rest (cap := cap) (n := k + 1) (by omega) hc.1
      have ho : (cap = 1 ∧ k = 0 ∧ (if cap = 1 then off else off + 1) = off) ∨ (¬ cap = 1 ∧ (if cap = 1 then off else off + 1) = off + 1) := by
        by_cases h : cap = 1
        · exact .inl ⟨h, by omega, if_pos h⟩
        · exact .inr ⟨h, if_neg h⟩
      cases hp : plainB r with
      | true => exact pobeyQ_true a hB hR ho hr (by omega) hc hgb hp e he
      | false => exact pobeyQ_false a hB hR ho hr (by omega) hc hgb hp e he
    · rw [if_neg h63]
      have hf : (m = 0 ∧ c :: r = []) ∨ (∃ c' r', c :: r = c' :: r' ∧ c'.toNat ≠ 63) := .inr ⟨c, r, rfl, fun h => h63 (UInt8.toNat_inj.1 h)⟩
      cases hp : plainB (c :: r) with
      | true => exact hpl hf hp
      | false => exact pobeyF a hB hn hn2 hf hp e he
end Go.Proofs.YtekodpcedjpnjaaGreat
namespace Go.Proofs.YtekodpcedjpnjaaGreat
set_option linter.unusedVariables false
set_option linter.unusedSimpArgs false
open Go.RowKit Go.Shelf Go.Maps
/-- What a call that takes bytes leaves: how many, and the terminal. -/
def TmRet (b p q : Nat) (hv : Value) (x : TS × Nat) (W : World) (e : Ending) (w' : World) : Prop := e = .returned (.int .i64 (x.2 : Nat)) ∧ TmAt w' b p q hv x.1 ∧ Only [b, q] W w'
/-- Where the parameters end, and where what stands behind them ends; not beyond 32. -/
def par1 (r : List UInt8) : Nat := 2 + min (spanN parB r) 30
def par2 (r : List UInt8) (i : Nat) : Nat := min 32 (i + spanN midB (r.drop (i - 2)))
theorem par1_bd (r : List UInt8) : 2 ≤ par1 r ∧ par1 r ≤ 32 ∧ par1 r ≤ r.length + 2 := by
  have := spanN_le parB r
  unfold par1; omega
theorem par2_bd (r : List UInt8) (i : Nat) (h : 2 ≤ i) (h2 : i ≤ 32) (h3 : i ≤ r.length + 2) : i ≤ par2 r i ∧ par2 r i ≤ 32 ∧ par2 r i ≤ r.length + 2 := by
  have := spanN_le midB (r.drop (i - 2))
  rw [List.length_drop] at this
  unfold par2; omega
theorem seq_32 (t : TS) (r : List UInt8) (h : par2 r (par1 r) = 32) : t.seq r = (t.off, 32) := by
  unfold TS.seq
  dsimp only
  have h1 := spanN_le parB r
  refine if_pos ?_
  unfold par2 par1 at h
  rcases Nat.lt_or_ge (spanN parB r) 30 with hp | hp
  · rw [show 2 + min (spanN parB r) 30 = 2 + spanN parB r by omega, show 2 + spanN parB r - 2 = spanN parB r by omega] at h
    omega
  · omega
theorem par_lt (r : List UInt8) (h : par2 r (par1 r) < 32) : par1 r = 2 + spanN parB r ∧ par2 r (par1 r) = 2 + spanN parB r + spanN midB (r.drop (spanN parB r)) := by
  have hb := par1_bd r
  have hc := par2_bd r (par1 r) hb.1 hb.2.1 hb.2.2
  have h1 : par1 r = 2 + spanN parB r := by
    have : par1 r < 32 := by omega
    unfold par1 at this ⊢
    omega
  refine ⟨h1, ?_⟩
  rw [h1] at h ⊢
  unfold par2 at h ⊢
  rw [show 2 + spanN parB r - 2 = spanN parB r by omega] at h ⊢
  omega
theorem seq_wait (t : TS) (r : List UInt8) (h : par2 r (par1 r) < 32) (h2 : par2 r (par1 r) = r.length + 2) : t.seq r = (t, 0) := by
  obtain ⟨h3, h4⟩ := par_lt r h
  unfold TS.seq
  dsimp only
  rw [if_neg (by omega), if_pos (by omega)]
theorem seq_no (t : TS) (r : List UInt8) (h : par2 r (par1 r) < 32) (h2 : par2 r (par1 r) < r.length + 2) (he : endB (nth 0 r (par2 r (par1 r) - 2)) = false) : t.seq r = (t.off, par2 r (par1 r)) := by
  obtain ⟨h3, h4⟩ := par_lt r h
  rw [h4] at h h2 he ⊢
  rw [show 2 + spanN parB r + spanN midB (r.drop (spanN parB r)) - 2 = spanN parB r + spanN midB (r.drop (spanN parB r)) by omega] at he
  unfold TS.seq
  dsimp only
  rw [if_neg (by omega), if_neg (by omega), he]
  rfl
theorem seq_mid (t : TS) (r : List UInt8) (h : par2 r (par1 r) < 32) (h2 : par2 r (par1 r) < r.length + 2) (he : endB (nth 0 r (par2 r (par1 r) - 2)) = true) (hm : par1 r ≠ par2 r (par1 r)) : t.seq r = (t.off, par2 r (par1 r) + 1) := by
  obtain ⟨h3, h4⟩ := par_lt r h
  rw [h4] at h h2 he hm ⊢
  rw [show 2 + spanN parB r + spanN midB (r.drop (spanN parB r)) - 2 = spanN parB r + spanN midB (r.drop (spanN parB r)) by omega] at he
  unfold TS.seq
  dsimp only
  rw [if_neg (by omega), if_neg (by omega), he, if_pos rfl, if_neg (by omega)]
theorem seq_obey (t : TS) (r : List UInt8) (h : par2 r (par1 r) < 32) (h2 : par2 r (par1 r) < r.length + 2) (he : endB (nth 0 r (par2 r (par1 r) - 2)) = true) (hm : par1 r = par2 r (par1 r)) :
    t.seq r = (t.off.obey (r.take (par2 r (par1 r) - 2)) (nth 0 r (par2 r (par1 r) - 2)).toNat, par2 r (par1 r) + 1) := by
  obtain ⟨h3, h4⟩ := par_lt r h
  have hq : spanN midB (r.drop (spanN parB r)) = 0 := by omega
  rw [h4] at h h2 he ⊢
  rw [hq, show 2 + spanN parB r + 0 - 2 = spanN parB r by omega] at he ⊢
  unfold TS.seq
  dsimp only
  rw [if_neg (by omega), if_neg (by omega), hq, Nat.add_zero, he, if_pos rfl, if_pos rfl]
theorem span_at (f : UInt8 → Bool) (r : List UInt8) (k : Nat) (h : k < r.length) : spanN f (r.drop k) = if f (nth 0 r k) then spanN f (r.drop (k + 1)) + 1 else 0 := by
  rw [List.drop_eq_getElem_cons h, nth_eq _ _ _ h]
  rfl
theorem span_end (f : UInt8 → Bool) (r : List UInt8) (k : Nat) (h : r.length ≤ k) : spanN f (r.drop k) = 0 := by rw [List.drop_eq_nil_of_le h]; rfl
theorem parB_nat (c : UInt8) : parB c = decide ((48 : Int) ≤ (c.toNat : Int) ∧ (c.toNat : Int) ≤ 63) := by unfold parB; exact decide_eq_decide.2 (by omega)
theorem midB_nat (c : UInt8) : midB c = decide ((32 : Int) ≤ (c.toNat : Int) ∧ (c.toNat : Int) ≤ 47) := by unfold midB; exact decide_eq_decide.2 (by omega)
theorem endB_nat (c : UInt8) : endB c = decide ((64 : Int) ≤ (c.toNat : Int) ∧ (c.toNat : Int) ≤ 126) := by unfold endB; exact decide_eq_decide.2 (by omega)
theorem Bys.at2 {W : World} {g off : Nat} {c d : UInt8} {r : List UInt8} (h : Bys W g off (c :: d :: r)) {k : Nat} (h2 : 2 ≤ k) (hk : k < r.length + 2) : W.cell? ⟨g, off + k, none⟩ = some (.int .u8 ((nth 0 r (k - 2)).toNat : Int)) := by
  have := h.at_ k (by simpa using hk)
  obtain ⟨j, rfl⟩ : ∃ j, k = j + 2 := ⟨k - 2, by omega⟩
  rw [this]
  rfl
set_option maxRecDepth 100000 in
set_option maxHeartbeats 8000000 in
theorem psequence_any {W : World} {b p q : Nat} {hv : Value} {t : TS} (a : TmAt W b p q hv t) (ok : TO0 t) {g off n cap : Nat} {c d : UInt8} {r : List UInt8} (hB : Bys W g off (c :: d :: r)) (hn : r.length + 2 = n) (hn2 : n ≤ 1000000) (hc : n ≤ cap ∧ cap ≤ 9223372036854775807) (hgb : g ≠ b) (hgq : g ≠ q) :
    Calls Tryz.prog 224 #[.pointer (some ⟨b, 0, none⟩), .slice (some ⟨g, off, none⟩) n cap] W (TmRet b p q hv (t.seq r) W) := by
  have q1 := par1_bd r
  have q2 := par2_bd r (par1 r) q1.1 q1.2.1 q1.2.2
  have S1 := seq_32 t r
  have S2 := seq_wait t r
  have S3 := seq_no t r
  have S4 := seq_mid t r
  have S5 := seq_obey t r
  obtain ⟨I1, hI1⟩ : ∃ I1, I1 = par1 r := ⟨_, rfl⟩
  rw [← hI1] at q1 q2 S1 S2 S3 S4 S5
  obtain ⟨I2, hI2⟩ : ∃ I2, I2 = par2 r I1 := ⟨_, rfl⟩
  rw [← hI2] at q2 S1 S2 S3 S4 S5
  have HI1 : Hid (I1 = 2 + min (spanN parB (r.drop (2 - 2))) (32 - 2)) := Lib.hid hI1
  have HI2 : Hid (I2 = I1 + min (spanN midB (r.drop (I1 - 2))) (32 - I1)) := Lib.hid (by rw [hI2]; unfold par2; omega)
  obtain ⟨z, hz⟩ : ∃ z, z = t.seq r := ⟨_, rfl⟩
  rw [← hz] at S1 S2 S3 S4 S5 ⊢
  rw [hn] at q1 q2 S2 S3 S4 S5
  replace S1 := Lib.hid S1
  replace S2 := Lib.hid S2
  replace S3 := Lib.hid S3
  replace S4 := Lib.hid S4
  replace S5 := Lib.hid S5
  have HP := Lib.hid (fun k (hk : k < r.length) => span_at parB r k hk)
  have HM := Lib.hid (fun k (hk : k < r.length) => span_at midB r k hk)
  have HPE := Lib.hid (fun k (hk : r.length ≤ k) => span_end parB r k hk)
  have HME := Lib.hid (fun k (hk : r.length ≤ k) => span_end midB r k hk)
  have HN := Lib.hid hn
  have AA := Lib.hid a
  have OK := Lib.hid ok
  have HB := Lib.hid hB
  obtain ⟨hc1, hc2⟩ := hc
  obtain ⟨q11, q12, q13⟩ := q1
  obtain ⟨q21, q22, q23⟩ := q2
  clear hz hI1 hI2 a ok hB hn
  go_enter Tryz.func224, Tryz.ntmps224
  go_upto_block 0 with (fail)
  go_cut [5] (fun i wx => i = .int .i64 I1 ∧ W = wx)
  case first =>
    go_wp2
    go_loop [5] (fun i => ∃ k : Nat, 2 ≤ k ∧ k ≤ 32 ∧ k ≤ n ∧ i = .int .i64 k ∧ Hid (I1 = k + min (spanN parB (r.drop (k - 2))) (32 - k))) (fun i => 32 - (intOf i).toNat)
    case atStart => exact ⟨2, by omega, by omega, by omega, rfl, HI1⟩
    case round =>
      obtain ⟨k, hk2, hk32, hkn, rfl, hf⟩ := hrel
      by_cases hlt : k < n
      · by_cases h32 : k < 32
        · have hc0 := HB.out.at2 hk2 (by rw [HN.out]; exact hlt)
          have hsp := HP.out (k - 2) (by have := HN.out; omega)
          rw [parB_nat] at hsp
          obtain ⟨x, hx⟩ : ∃ x, x = (nth 0 r (k - 2)).toNat := ⟨_, rfl⟩
          rw [← hx] at hsp hc0
          have CB := fun w => between_any (x : Int) 48 63 w
          obtain ⟨y, hy⟩ : ∃ y, y = decide ((48 : Int) ≤ x ∧ (x : Int) ≤ 63) := ⟨_, rfl⟩
          rw [← hy] at CB hsp
          replace CB := Lib.hid CB
          have HS := Lib.hid hsp
          clear hsp hx hy
          cases y with
          | true =>
            have HF : Hid (I1 = (k + 1) + min (spanN parB (r.drop (k + 1 - 2))) (32 - (k + 1))) := Lib.hid (by
              have h1 := HS.out
              rw [if_pos rfl, show k - 2 + 1 = k + 1 - 2 by omega] at h1
              have h2 := hf.out
              omega)
            go_wp2_with (go_at_call 258; refine (CB.out _).mono ?_; rintro e w1 ⟨rfl, rfl⟩)
            go_round
            case rel => exact ⟨k + 1, by omega, by omega, by omega, by go_num, HF⟩
            case measure => simp [intOf]; omega
          | false =>
            have HF : Hid (I1 = k) := Lib.hid (by
              have h1 := HS.out
              rw [if_neg (by simp)] at h1
              have h2 := hf.out
              omega)
            go_wp2_with (go_at_call 258; refine (CB.out _).mono ?_; rintro e w1 ⟨rfl, rfl⟩)
            go_meet
            exact ⟨by rw [HF.out], rfl⟩
        · have HF : Hid (I1 = k) := Lib.hid (by have h2 := hf.out; omega)
          go_wp2
          go_meet
          exact ⟨by rw [HF.out], rfl⟩
      · have HF : Hid (I1 = k) := Lib.hid (by
          have h1 := HPE.out (k - 2) (by have := HN.out; omega)
          have h2 := hf.out
          omega)
        go_wp2
        go_meet
        exact ⟨by rw [HF.out], rfl⟩
  case rest =>
    obtain ⟨rfl, rfl⟩ := hcut
    refine (‹∀ (a : Act) (w : World), Code.wp Tryz.prog _ _ a w → _›) _ _ ?_
    go_upto_block 2 with (fail)
    go_cut [5, 6] (fun i m wx => i = .int .i64 I2 ∧ m = .int .i64 I1 ∧ W = wx)
    case first =>
      go_wp2
      go_loop [5] (fun i => ∃ k : Nat, 2 ≤ k ∧ k ≤ 32 ∧ k ≤ n ∧ i = .int .i64 k ∧ Hid (I2 = k + min (spanN midB (r.drop (k - 2))) (32 - k))) (fun i => 32 - (intOf i).toNat)
      case atStart => exact ⟨I1, by omega, by omega, by omega, rfl, HI2⟩
      case round =>
        obtain ⟨k, hk2, hk32, hkn, rfl, hf⟩ := hrel
        by_cases hlt : k < n
        · by_cases h32 : k < 32
          · have hc0 := HB.out.at2 hk2 (by rw [HN.out]; exact hlt)
            have hsp := HM.out (k - 2) (by have := HN.out; omega)
            rw [midB_nat] at hsp
            obtain ⟨x, hx⟩ : ∃ x, x = (nth 0 r (k - 2)).toNat := ⟨_, rfl⟩
            rw [← hx] at hsp hc0
            have CB := fun w => between_any (x : Int) 32 47 w
            obtain ⟨y, hy⟩ : ∃ y, y = decide ((32 : Int) ≤ x ∧ (x : Int) ≤ 47) := ⟨_, rfl⟩
            rw [← hy] at CB hsp
            replace CB := Lib.hid CB
            have HS := Lib.hid hsp
            clear hsp hx hy
            cases y with
            | true =>
              have HF : Hid (I2 = (k + 1) + min (spanN midB (r.drop (k + 1 - 2))) (32 - (k + 1))) := Lib.hid (by
                have h1 := HS.out
                rw [if_pos rfl, show k - 2 + 1 = k + 1 - 2 by omega] at h1
                have h2 := hf.out
                omega)
              go_wp2_with (go_at_call 258; refine (CB.out _).mono ?_; rintro e w1 ⟨rfl, rfl⟩)
              go_round
              case rel => exact ⟨k + 1, by omega, by omega, by omega, by go_num, HF⟩
              case measure => simp [intOf]; omega
            | false =>
              have HF : Hid (I2 = k) := Lib.hid (by
                have h1 := HS.out
                rw [if_neg (by simp)] at h1
                have h2 := hf.out
                omega)
              go_wp2_with (go_at_call 258; refine (CB.out _).mono ?_; rintro e w1 ⟨rfl, rfl⟩)
              go_meet
              exact ⟨by rw [HF.out], rfl, rfl⟩
          · have HF : Hid (I2 = k) := Lib.hid (by have h2 := hf.out; omega)
            go_wp2
            go_meet
            exact ⟨by rw [HF.out], rfl, rfl⟩
        · have HF : Hid (I2 = k) := Lib.hid (by
            have h1 := HME.out (k - 2) (by have := HN.out; omega)
            have h2 := hf.out
            omega)
          go_wp2
          go_meet
          exact ⟨by rw [HF.out], rfl, rfl⟩
    case rest =>
      obtain ⟨rfl, rfl, rfl⟩ := hcut
      refine (‹∀ (a : Act) (w : World), Code.wp Tryz.prog _ _ a w → _›) _ _ ?_
      have aW := AA.out
      obtain ⟨c0, c1, c2, c3, c4, c5, c6, c7, c8, c9, c10, c11, c12, c13, c14, c15, c16, fz⟩ := aW.cells
      have aO := aW.put 14 (.bool false) hv t.off rfl rfl rfl rfl
      have oO := set_only W b 14 (.bool false)
      by_cases h32 : I2 = 32
      · have HZ := Lib.hid (S1.out h32)
        subst h32
        clear HI2
        go_wp2
        go_ret
        rw [HZ.out]
        exact ⟨rfl, aO, oO.ob⟩
      have hlt : I2 < 32 := by omega
      have n32 : ((I2 : Int) == 32) = false := by simp; omega
      by_cases hen : I2 = n
      · have HZ := Lib.hid (S2.out hlt hen)
        have een : ((I2 : Int) == (n : Int)) = true := by simp; omega
        clear hen h32
        go_wp2
        go_ret
        rw [HZ.out]
        exact ⟨rfl, aW, Only.refl _ _⟩
      have hltn : I2 < n := by omega
      have nen : ((I2 : Int) == (n : Int)) = false := by simp; omega
      have hc0 := HB.out.at2 (k := I2) (by omega) (by rw [HN.out]; exact hltn)
      have hgl := HB.out.lt
      have hc1' : (W.setCell ⟨b, 14, none⟩ (.bool false)).cell? ⟨g, off + I2, none⟩ = some (.int .u8 ((nth 0 r (I2 - 2)).toNat : Int)) := (cell_block (set_other _ _ _ _ _ hgb)).trans hc0
      have hBO : Bys (W.setCell ⟨b, 14, none⟩ (.bool false)) g off (c :: d :: r) := HB.out.of_block (set_other _ _ _ _ _ hgb) (by simp [World.setCell])
      have hen1 := endB_nat (nth 0 r (I2 - 2))
      have hx256 := (nth 0 r (I2 - 2)).toNat_lt
      obtain ⟨x, hx⟩ : ∃ x, x = (nth 0 r (I2 - 2)).toNat := ⟨_, rfl⟩
      rw [← hx] at hc0 hc1' hen1 hx256
      have CB := fun w => between_any (x : Int) 64 126 w
      obtain ⟨y, hy⟩ : ∃ y, y = decide ((64 : Int) ≤ x ∧ (x : Int) ≤ 126) := ⟨_, rfl⟩
      rw [← hy] at CB hen1
      replace CB := Lib.hid CB
      have HX := Lib.hid hx
      clear h32 hen hy hx
      cases y with
      | false =>
        have HZ := Lib.hid (S3.out hlt hltn hen1)
        clear hen1
        go_wp2_with (go_at_call 258; refine (CB.out _).mono ?_; rintro e w1 ⟨rfl, rfl⟩)
        go_ret
        rw [HZ.out]
        exact ⟨rfl, aO, oO.ob⟩
      | true =>
        by_cases hm : I1 = I2
        · have HZ := Lib.hid (S5.out hlt hltn hen1 hm)
          rw [← HX.out] at HZ
          subst hm
          have okO : TO0 t.off := ⟨OK.out.w1, OK.out.w2, OK.out.h1, OK.out.h2, OK.out.ok, OK.out.ro, OK.out.row, OK.out.col⟩
          obtain ⟨V, hV⟩ : ∃ V, W.setCell ⟨b, 14, none⟩ (.bool false) = V := ⟨_, rfl⟩
          rw [hV] at aO oO hc1' hBO
          have hVs : V.heap.size = W.heap.size := by rw [← hV]; simp [World.setCell]
          have HV := Lib.hid hV
          have hlen : r.length + 2 = n := HN.out
          have hbt : Bys V g (off + 2) (r.take (I1 - 2)) := ⟨hBO.lt, fun j hj => by
            rw [List.length_take] at hj
            have := hBO.at2 (k := j + 2) (by omega) (by omega)
            rw [show off + (j + 2) = off + 2 + j by omega, show j + 2 - 2 = j by omega] at this
            rw [this]
            simp only [nth, List.getD_eq_getElem?_getD]
            rw [List.getElem?_take_of_lt (by omega)]⟩
          have dB : Below V.heap.size V V.drew := (Below.refl _ _).drew
          have CO := Lib.hid (pobey_any (cap := cap - 2) (m := I1 - 2) (aO.below dB) okO (hbt.below dB) (by rw [List.length_take]; omega) (by omega) (by omega) hgb x hx256)
          have hcap : ¬ cap = 2 := by omega
          have hI2 : (2 : Int) ≤ (I1 : Int) := by omega
          have hIc : (I1 : Int) ≤ (cap : Int) := by omega
          clear hen1 hV okO hbt hlen
          go_upto_region 16 with (go_at_call 258; refine (CB.out _).mono ?_; rintro e w1 ⟨rfl, rfl⟩)
          rw [HV.out]
          have hblk : V.heap[g]? = V.heap[g]? := rfl
          go_wp2_with fail
          refine wp_region_mix2 [(true, 0), (true, 1), (true, 2), (true, 3), (true, 4), (true, 5), (true, 6), (true, 7), (false, 8)] (fun w' => w'.heap[g]? = V.heap[g]?) (by kernel_rfl) (by kernel_rfl) (by rfl) (by kernel_rfl) (by kernel_rfl) (fun _ _ d _ _ h => by cases d <;> exact h) rfl ?_
          simp only [mixL, List.getElem?_cons_succ, List.getElem?_cons_zero]
          repeat (refine' wpMix2_read (v := _) rfl ?_ ?_; rotate_left 1; (intro w' hw'; have d1' := (cell_block (o := off + I1) hw').trans hc1'; go_simp; try with_reducible rfl); try simp only [Act.put, List.setIfInBounds_toArray, List.set_cons_zero, List.set_cons_succ])
          refine wpMix2_act (fun K hK => ?_)
          go_wp2_with fail
          refine (CO.out).mono ?_
          rintro e w3 ⟨rfl, a3, o3⟩
          go_wp2
          refine hK _ _ (o3.block g (by show g < V.heap.size; omega) (by simp; exact ⟨hgb, hgq⟩)) ?_
          clear hK K
          refine wpMix2_nil ?_
          go_wp2
          go_ret
          rw [HZ.out]
          exact ⟨rfl, a3, oO.ob.trans ((Only.on dB).trans o3)⟩
        · have HZ := Lib.hid (S4.out hlt hltn hen1 hm)
          have nm : ((I1 : Int) == (I2 : Int)) = false := by simp; omega
          clear hen1 hm
          go_wp2_with (go_at_call 258; refine (CB.out _).mono ?_; rintro e w1 ⟨rfl, rfl⟩)
          go_ret
          rw [HZ.out]
          exact ⟨rfl, aO, oO.ob⟩
end Go.Proofs.YtekodpcedjpnjaaGreat
namespace Go.Proofs.YtekodpcedjpnjaaGreat
set_option linter.unusedVariables false
set_option linter.unusedSimpArgs false
open Go.RowKit Go.Shelf Go.Maps
theorem TOk.to0 {t : TS} (k : TOk t) : TO0 t := k.toTO0
set_option maxRecDepth 100000 in
set_option maxHeartbeats 8000000 in
theorem pescape_any {W : World} {b p q : Nat} {hv : Value} {t : TS} (a : TmAt W b p q hv t) (ok : TO0 t) {g off n cap : Nat} {c : UInt8} {r : List UInt8} (hc27 : c.toNat = 27) (hB : Bys W g off (c :: r)) (hn : r.length + 1 = n) (hn2 : n ≤ 1000000) (hc : n ≤ cap ∧ cap ≤ 9223372036854775807) (hgb : g ≠ b) (hgq : g ≠ q) :
    Calls Tryz.prog 183 #[.pointer (some ⟨b, 0, none⟩), .slice (some ⟨g, off, none⟩) n cap] W (TmRet b p q hv (t.first (c :: r)) W) := by
  obtain ⟨z, hz⟩ : ∃ z, z = t.first (c :: r) := ⟨_, rfl⟩
  rw [← hz]
  unfold TS.first at hz
  dsimp only at hz
  rw [if_pos hc27] at hz
  have aO := a.put 14 (.bool false) hv t.off rfl rfl rfl rfl
  have oO := set_only W b 14 (.bool false)
  have AA := Lib.hid a
  cases r with
  | nil =>
    obtain rfl : n = 1 := by simpa using hn.symm
    have HZ := Lib.hid hz
    clear hz hn a hB hc27
    go_enter Tryz.func183, Tryz.ntmps183
    go_wp2
    go_ret
    rw [HZ.out]
    exact ⟨rfl, AA.out, Only.refl _ _⟩
  | cons d r' =>
    dsimp only at hz
    have hn' : r'.length + 2 = n := by simpa using hn
    have hx0 := hB.at_ 1 (by simp)
    replace hx0 : W.cell? ⟨g, off + 1, none⟩ = some (.int .u8 (d.toNat : Int)) := hx0
    have hgl := hB.lt
    have hd256 := d.toNat_lt
    have hnn : ((n : Int) == 1) = false := by simp; omega
    have h1n : (1 : Int) < (n : Int) := by omega
    by_cases h91 : d.toNat = 91
    · rw [if_pos h91] at hz
      rw [h91] at hx0
      have CS := psequence_any a ok hB hn' hn2 hc hgb hgq
      rw [← hz] at CS
      replace CS := Lib.hid CS
      replace hx0 : W.cell? ⟨g, off + 1, none⟩ = some (.int .u8 91) := hx0
      clear hz hn hn' a hB hc27 h91
      go_enter Tryz.func183, Tryz.ntmps183
      go_wp2_with (go_at_call 224; refine (CS.out).mono ?_; rintro e w3 ⟨rfl, a3, o3⟩)
      go_ret
      exact ⟨rfl, a3, o3⟩
    · rw [if_neg h91] at hz
      obtain ⟨c0, c1, c2, c3, c4, c5, c6, c7, c8, c9, c10, c11, c12, c13, c14, c15, c16, fz⟩ := a.cells
      have hx1 : (W.setCell ⟨b, 14, none⟩ (.bool false)).cell? ⟨g, off + 1, none⟩ = some (.int .u8 (d.toNat : Int)) := (cell_block (set_other _ _ _ _ _ hgb)).trans hx0
      obtain ⟨x, hx⟩ : ∃ x, x = d.toNat := ⟨_, rfl⟩
      rw [← hx] at hx0 hx1 h91 hz hd256
      have nx : ((x : Int) == 91) = false := by simp; omega
      have HZ := Lib.hid hz
      clear hz hn hn' a hB hc27 h91 hx
      go_enter Tryz.func183, Tryz.ntmps183
      go_wp2
      all_goals
        go_ret
        rw [HZ.out]
        refine ⟨?_, aO, oO.ob⟩
        first
          | (rw [if_pos (by omega)]; rfl)
          | (rw [if_neg (by omega)]; rfl)
theorem first_ctl (t : TS) (c : UInt8) (r : List UInt8) (h27 : c.toNat ≠ 27) (h : c.toNat < 32 ∨ c.toNat = 127) : t.first (c :: r) = (t.control c.toNat, 1) := by
  unfold TS.first
  dsimp only
  rw [if_neg h27, if_pos h]
theorem first_more (t : TS) (c : UInt8) (r : List UInt8) (h27 : c.toNat ≠ 27) (h : ¬ (c.toNat < 32 ∨ c.toNat = 127)) (hm : moreL (c :: r) = true) : t.first (c :: r) = (t, 0) := by
  unfold TS.first
  dsimp only
  rw [if_neg h27, if_neg h, if_pos hm]
theorem first_one (t : TS) (c : UInt8) (r : List UInt8) (h27 : c.toNat ≠ 27) (h : ¬ (c.toNat < 32 ∨ c.toNat = 127)) (hm : moreL (c :: r) = false) : t.first (c :: r) = (t.rune (stepL (c :: r)).1, (stepL (c :: r)).2) := by
  unfold TS.first
  dsimp only
  rw [if_neg h27, if_neg h, if_neg (by rw [hm]; simp)]
set_option maxRecDepth 100000 in
set_option maxHeartbeats 8000000 in
theorem ptake_any {W : World} {b p q : Nat} {hv : Value} {t : TS} (a : TmAt W b p q hv t) (ok : TOk t) (hg : t.gone < 4611686018427387904) (hbl : t.bells < 4611686018427387904) {g off n cap : Nat} {c : UInt8} {r : List UInt8} (hB : Bys W g off (c :: r)) (hn : r.length + 1 = n) (hn2 : n ≤ 1000000) (hc : n ≤ cap ∧ cap ≤ 9223372036854775807) (hgb : g ≠ b) (hgq : g ≠ q) :
    Calls Tryz.prog 112 #[.pointer (some ⟨b, 0, none⟩), .slice (some ⟨g, off, none⟩) n cap] W (TmRet b p q hv (t.first (c :: r)) W) := by
  have hx0 := hB.at_ 0 (by simp)
  rw [Nat.add_zero] at hx0
  replace hx0 : W.cell? ⟨g, off, none⟩ = some (.int .u8 (c.toNat : Int)) := hx0
  have hn0 : (0 : Int) < (n : Int) := by omega
  have hc256 := c.toNat_lt
  have AA := Lib.hid a
  by_cases h27 : c.toNat = 27
  · have CE := Lib.hid (pescape_any a ok.to0 h27 hB hn hn2 hc hgb hgq)
    rw [h27] at hx0
    replace hx0 : W.cell? ⟨g, off, none⟩ = some (.int .u8 27) := hx0
    obtain ⟨z, hz⟩ : ∃ z, z = t.first (c :: r) := ⟨_, rfl⟩
    rw [← hz] at CE ⊢
    clear hz hn a hB h27 ok
    go_enter Tryz.func112, Tryz.ntmps112
    go_wp2_with (go_at_call 183; refine (CE.out).mono ?_; rintro e w3 ⟨rfl, a3, o3⟩)
    go_ret
    exact ⟨rfl, a3, o3⟩
  by_cases hct : c.toNat < 32 ∨ c.toNat = 127
  · rw [first_ctl t c r h27 hct]
    have CC := pcontrol_any a ok.to0 hg hbl c.toNat (by omega)
    obtain ⟨x, hx⟩ : ∃ x, x = c.toNat := ⟨_, rfl⟩
    rw [← hx] at CC hx0 h27 hct hc256 ⊢
    replace CC := Lib.hid CC
    have nx : ((x : Int) == 27) = false := by simp; omega
    clear hx h27 hn a hB ok
    by_cases h127 : (x : Int) < 32
    all_goals
      have h3 : ((x : Int) == 127) = decide (¬ (x : Int) < 32) := by
        rw [Bool.eq_iff_iff, beq_iff_eq, decide_eq_true_eq]; omega
      simp only [h127, not_true_eq_false, not_false_eq_true, decide_true, decide_false] at h3
      clear hct
      go_enter Tryz.func112, Tryz.ntmps112
      go_wp2_with (go_at_call 184; refine (CC.out).mono ?_; rintro e w3 ⟨rfl, a3, o3⟩)
      go_ret
      exact ⟨rfl, a3, o3⟩
  · have CN := next_any c r g off cap W (by rw [List.length_cons]; omega) hB
    rw [show (c :: r).length = n by simpa using hn] at CN
    replace CN := Lib.hid CN
    have HM := Lib.hid (first_more t c r h27 hct)
    have HO := Lib.hid (first_one t c r h27 hct)
    have CR := Lib.hid (fun (X : World) (hX : Below W.heap.size W X) (k : Nat) (hk : k ≤ 1114111) (hi : isR (k : Int) = true) => prune_any (a.below hX) ok hg k hk hi)
    have HI := Lib.hid (stepL_isR (c :: r))
    obtain ⟨x, hx⟩ : ∃ x, x = c.toNat := ⟨_, rfl⟩
    rw [← hx] at hx0 h27 hct hc256
    have nx : ((x : Int) == 27) = false := by simp; omega
    have n127 : ((x : Int) == 127) = false := by simp; omega
    have n32 : ¬ (x : Int) < 32 := by omega
    obtain ⟨l, hl⟩ : ∃ l, l = c :: r := ⟨_, rfl⟩
    rw [← hl] at CN HM HO HI ⊢
    clear hx h27 hct hn a hB ok hl
    go_enter Tryz.func112, Tryz.ntmps112
    go_wp2_with fail
    refine (CN.out).mono ?_
    rintro e w3 ⟨⟨rr, nn, m, rfl, hh⟩, hb3⟩
    rcases hh with ⟨rfl, _, hm⟩ | ⟨rfl, hr, hnn, hm⟩
    · have HZ := Lib.hid (HM.out hm)
      clear hm
      go_wp2
      go_ret
      rw [HZ.out]
      exact ⟨rfl, AA.out.below hb3, Only.on hb3⟩
    · have HZ := Lib.hid (HO.out hm)
      have hi := HI.out
      obtain ⟨k, hk⟩ : ∃ k, k = (stepL l).1 := ⟨_, rfl⟩
      rw [← hk] at hr hi HZ
      rw [← hnn] at HZ
      have hk2 : k ≤ 1114111 := by
        have := (isR_iff k).1 hi
        omega
      have CR2 := Lib.hid (CR.out w3 hb3 k hk2 hi)
      clear hm hk hnn CR hi
      subst hr
      go_wp2_with (go_at_call 186; refine (CR2.out).mono ?_; rintro e w4 ⟨rfl, a4, o4⟩)
      go_ret
      rw [HZ.out]
      exact ⟨rfl, a4, (Only.on hb3).trans o4⟩
end Go.Proofs.YtekodpcedjpnjaaGreat
