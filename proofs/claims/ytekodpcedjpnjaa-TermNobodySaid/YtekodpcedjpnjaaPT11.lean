/- The program's terminal: obey. No condition but that the counters are not at their ends. -/
import Derived.Test.YtekodpcedjpnjaaPT10
import Derived.Test.YtekodpcedjpnjaaPT8
namespace Go.Proofs.Ytekodpcedjpnjaa
set_option linter.unusedVariables false
set_option linter.unusedSimpArgs false
open Go.RowKit Go.Shelf Go.Maps
attribute [local go_sem] Oper.semAt_some
def TS.sty (t : TS) (n : Nat) : TS := { t with y := styT t.y n }
theorem fold_sty : ∀ (L : List Nat) (t : TS), L.foldl TS.sty t = { t with y := L.foldl styT t.y }
  | [], _ => rfl
  | x :: L, t => by rw [List.foldl_cons, fold_sty L]; rfl
theorem TmAt.sty {W : World} {b p q : Nat} {hv : Value} {t : TS} (a : TmAt W b p q hv t) (n : Nat) :
    TmAt (((((W.setCell ⟨b, 4, none⟩ (.bool (styT t.y n).b)).setCell ⟨b, 5, none⟩ (.bool (styT t.y n).u)).setCell ⟨b, 6, none⟩ (.bool (styT t.y n).i)).setCell ⟨b, 7, none⟩ (.int .i64 (styT t.y n).f)).setCell ⟨b, 8, none⟩ (.int .i64 (styT t.y n).g)) b p q hv (t.sty n) ∧
    Only [b] W (((((W.setCell ⟨b, 4, none⟩ (.bool (styT t.y n).b)).setCell ⟨b, 5, none⟩ (.bool (styT t.y n).u)).setCell ⟨b, 6, none⟩ (.bool (styT t.y n).i)).setCell ⟨b, 7, none⟩ (.int .i64 (styT t.y n).f)).setCell ⟨b, 8, none⟩ (.int .i64 (styT t.y n).g)) := by
  obtain ⟨z, hz⟩ : ∃ z, z = styT t.y n := ⟨_, rfl⟩
  unfold TS.sty
  rw [← hz]
  exact ⟨((((a.put 4 (.bool z.b) hv { t with y := { t.y with b := z.b } } rfl rfl rfl rfl).put 5 (.bool z.u) hv { t with y := { t.y with b := z.b, u := z.u } } rfl rfl rfl rfl).put 6 (.bool z.i) hv { t with y := { t.y with b := z.b, u := z.u, i := z.i } } rfl rfl rfl rfl).put 7 (.int .i64 z.f) hv { t with y := { t.y with b := z.b, u := z.u, i := z.i, f := z.f } } rfl rfl rfl rfl).put 8 (.int .i64 z.g) hv { t with y := z } rfl rfl rfl rfl,
    ((((set_only _ _ _ _).trans (set_only _ _ _ _)).trans (set_only _ _ _ _)).trans (set_only _ _ _ _)).trans (set_only _ _ _ _)⟩
theorem Bys.tail {W : World} {g off : Nat} {c : UInt8} {r : List UInt8} (h : Bys W g off (c :: r)) : Bys W g (off + 1) r :=
  ⟨h.lt, fun j hj => by
    have := h.at_ (j + 1) (by simpa using hj)
    rw [show off + (j + 1) = off + 1 + j by omega] at this
    rw [this]; rfl⟩
theorem Bys.any {W : World} {g off : Nat} {c : UInt8} (h : Bys W g off [c]) (k : Nat) : Bys W g k [] := ⟨h.lt, fun j hj => by simp at hj⟩
/-- The bytes behind the first, wherever their slice is said to lie. -/
theorem Bys.rest {W : World} {g off n cap : Nat} {c : UInt8} {r : List UInt8} (h : Bys W g off (c :: r)) (hn : r.length + 1 = n) (hc : n ≤ cap) : Bys W g (if cap = 1 then off else off + 1) r := by
  split
  · have : r = [] := List.eq_nil_of_length_eq_zero (by omega)
    subst this
    exact h.any _
  · exact h.tail
set_option maxRecDepth 100000 in
set_option maxHeartbeats 8000000 in
theorem pobeyQ_true {W : World} {b p q : Nat} {hv : Value} {t : TS} (a : TmAt W b p q hv t) {g off m cap : Nat} {r : List UInt8} {o2 : Nat} (hB : Bys W g off ((63 : UInt8) :: r)) (hR : Bys W g o2 r) (ho : (cap = 1 ∧ m = 0 ∧ o2 = off) ∨ (¬ cap = 1 ∧ o2 = off + 1)) (hn : r.length = m) (hn2 : m ≤ 1000000) (hc : m + 1 ≤ cap ∧ cap ≤ 9223372036854775807) (hgb : g ≠ b) (hp : plainB r = true) (e : Nat) (he : e < 256) :
    Calls Try.prog 142 #[.pointer (some ⟨b, 0, none⟩), .slice (some ⟨g, off, none⟩) (m + 1) cap, .int .u8 (e : Int)] W (TmPost b p q hv (t.modes (numsT 0 r) e) W) := by
  have b1 : Below W.heap.size W (W.alloc (.cells #[.pointer (some ⟨b, 0, none⟩)] 63)) := (Below.refl _ _).alloc (Nat.le_refl _) _
  have k1 : (W.alloc (.cells #[.pointer (some ⟨b, 0, none⟩)] 63)).heap[W.heap.size]? = some (.cells #[.pointer (some ⟨b, 0, none⟩)] 63 (0, 0)) := World.alloc_heap_new W _
  have hlt := a.lt
  obtain ⟨X1, hX1⟩ : ∃ X1, W.alloc (.cells #[.pointer (some ⟨b, 0, none⟩)] 63) = X1 := ⟨_, rfl⟩
  rw [hX1] at b1 k1
  have HX1 := Lib.hid hX1
  have d1 := box_cell k1
  clear hX1
  obtain ⟨hc1, hc2⟩ := hc
  have hx0 := hB.at_ 0 (by simp)
  rw [show (nth 0 ((63 : UInt8) :: r) 0).toNat = 63 from rfl, Nat.add_zero] at hx0
  have hx0 : W.cell? ⟨g, off, none⟩ = some (.int .u8 63) := hx0
  have hx1 := (b1.cell (p := ⟨g, off, none⟩) hR.lt).trans hx0
  have CP := fun (cap : Nat) => plain_any (cap := cap) (hR.below b1) hn (by omega)
  rw [hp] at CP
  replace CP := Lib.hid CP
  have CM := Lib.hid (fun (X : World) (hX : Below W.heap.size W X) (cap : Nat) => pmodes_any (cap := cap) (a.below hX) (hR.below hX) hn (by omega) hp hgb e he)
  have AA := Lib.hid a
  have dB : Below X1.heap.size X1 X1.drew := (Below.refl _ _).drew
  have hm1 : 1 ≤ (m : Int) + 1 := by omega
  clear a hB hn hp hx0 hR
  rcases ho with ⟨rfl, rfl, rfl⟩ | ⟨hcap, rfl⟩
  all_goals
    go_enter Try.func142, Try.ntmps142
    go_upto_region 1 with (fail)
    rw [HX1.out]
    go_wp2_with (go_at_call 154; refine (CP.out _).mono ?_; rintro e w1 ⟨rfl, rfl⟩)
    refine wp_region_mix2 [(true, 0), (true, 1), (true, 2), (true, 3), (false, 4)] (fun w' => w'.heap[W.heap.size]? = some (.cells #[.pointer (some ⟨b, 0, none⟩)] 63 (0, 0))) (by kernel_rfl) (by kernel_rfl) (by rfl) (by kernel_rfl) (by kernel_rfl) (fun _ _ d _ _ h => by cases d <;> exact h) ((dB.block _ (by have := (Array.getElem?_eq_some_iff.1 k1).1; exact this)).trans k1) ?_
    simp only [mixL, List.getElem?_cons_succ, List.getElem?_cons_zero]
    repeat (refine' wpMix2_read (v := _) rfl ?_ ?_; rotate_left 1; (intro w' hw'; have d1' := box_cell hw'; go_simp; try with_reducible rfl); try simp only [Act.put, List.setIfInBounds_toArray, List.set_cons_zero, List.set_cons_succ])
    refine wpMix2_act (fun K hK => ?_)
    go_wp2_with fail
    refine (CM.out _ (b1.drew) _).mono ?_
    rintro e w3 ⟨rfl, a3, o3⟩
    go_wp2
    refine hK _ _ ((o3.block _ (by exact (Array.getElem?_eq_some_iff.1 k1).1) (by simp; omega)).trans k1) ?_
    clear hK K
    refine wpMix2_nil ?_
    go_wp2
    (try simp only [Exit.inBlock, Exit.then]); refine bodyPost_ret (results_none rfl _ _ _) rfl ?_
    exact ⟨rfl, a3, (Only.on b1.drew).trans o3⟩
set_option maxRecDepth 100000 in
set_option maxHeartbeats 8000000 in
theorem pobeyQ_false {W : World} {b p q : Nat} {hv : Value} {t : TS} (a : TmAt W b p q hv t) {g off m cap : Nat} {r : List UInt8} {o2 : Nat} (hB : Bys W g off ((63 : UInt8) :: r)) (hR : Bys W g o2 r) (ho : (cap = 1 ∧ m = 0 ∧ o2 = off) ∨ (¬ cap = 1 ∧ o2 = off + 1)) (hn : r.length = m) (hn2 : m ≤ 1000000) (hc : m + 1 ≤ cap ∧ cap ≤ 9223372036854775807) (hgb : g ≠ b) (hp : plainB r = false) (e : Nat) (he : e < 256) :
    Calls Try.prog 142 #[.pointer (some ⟨b, 0, none⟩), .slice (some ⟨g, off, none⟩) (m + 1) cap, .int .u8 (e : Int)] W (TmPost b p q hv t W) := by
  have b1 : Below W.heap.size W (W.alloc (.cells #[.pointer (some ⟨b, 0, none⟩)] 63)) := (Below.refl _ _).alloc (Nat.le_refl _) _
  have k1 : (W.alloc (.cells #[.pointer (some ⟨b, 0, none⟩)] 63)).heap[W.heap.size]? = some (.cells #[.pointer (some ⟨b, 0, none⟩)] 63 (0, 0)) := World.alloc_heap_new W _
  have hlt := a.lt
  obtain ⟨X1, hX1⟩ : ∃ X1, W.alloc (.cells #[.pointer (some ⟨b, 0, none⟩)] 63) = X1 := ⟨_, rfl⟩
  rw [hX1] at b1 k1
  have HX1 := Lib.hid hX1
  have d1 := box_cell k1
  clear hX1
  obtain ⟨hc1, hc2⟩ := hc
  have hx0 := hB.at_ 0 (by simp)
  rw [show (nth 0 ((63 : UInt8) :: r) 0).toNat = 63 from rfl, Nat.add_zero] at hx0
  have hx0 : W.cell? ⟨g, off, none⟩ = some (.int .u8 63) := hx0
  have hx1 := (b1.cell (p := ⟨g, off, none⟩) hR.lt).trans hx0
  have CP := fun (cap : Nat) => plain_any (cap := cap) (hR.below b1) hn (by omega)
  rw [hp] at CP
  replace CP := Lib.hid CP
  have AA := Lib.hid a
  have dB : Below X1.heap.size X1 X1.drew := (Below.refl _ _).drew
  have hm1 : 1 ≤ (m : Int) + 1 := by omega
  clear a hB hn hp hx0 hR
  rcases ho with ⟨rfl, rfl, rfl⟩ | ⟨hcap, rfl⟩
  all_goals
    go_enter Try.func142, Try.ntmps142
    go_upto_region 1 with (fail)
    rw [HX1.out]
    go_wp2_with (go_at_call 154; refine (CP.out _).mono ?_; rintro e w1 ⟨rfl, rfl⟩)
    (try simp only [Exit.inBlock, Exit.then]); refine bodyPost_ret (results_none rfl _ _ _) rfl ?_
    exact ⟨rfl, AA.out.below b1, Only.on b1⟩
set_option maxRecDepth 100000 in
set_option maxHeartbeats 8000000 in
theorem pobeyF {W : World} {b p q : Nat} {hv : Value} {t : TS} (a : TmAt W b p q hv t) {g off m cap : Nat} {l : List UInt8} (hB : Bys W g off l) (hn : l.length = m) (hn2 : m ≤ 1000000) (hf : (m = 0 ∧ l = []) ∨ (∃ c r, l = c :: r ∧ c.toNat ≠ 63)) (hp : plainB l = false) (e : Nat) (he : e < 256) :
    Calls Try.prog 142 #[.pointer (some ⟨b, 0, none⟩), .slice (some ⟨g, off, none⟩) m cap, .int .u8 (e : Int)] W (TmPost b p q hv t W) := by
  have b1 : Below W.heap.size W (W.alloc (.cells #[.pointer (some ⟨b, 0, none⟩)] 63)) := (Below.refl _ _).alloc (Nat.le_refl _) _
  have k1 : (W.alloc (.cells #[.pointer (some ⟨b, 0, none⟩)] 63)).heap[W.heap.size]? = some (.cells #[.pointer (some ⟨b, 0, none⟩)] 63 (0, 0)) := World.alloc_heap_new W _
  have hlt := a.lt
  obtain ⟨X1, hX1⟩ : ∃ X1, W.alloc (.cells #[.pointer (some ⟨b, 0, none⟩)] 63) = X1 := ⟨_, rfl⟩
  rw [hX1] at b1 k1
  have HX1 := Lib.hid hX1
  have d1 := box_cell k1
  clear hX1
  have hxf : 0 < m → ∃ x : Nat, X1.cell? ⟨g, off, none⟩ = some (.int .u8 (x : Int)) ∧ x ≠ 63 := fun h0 => by
    rcases hf with ⟨h1, _⟩ | ⟨c, r, rfl, hc⟩
    · omega
    · refine ⟨c.toNat, ?_, hc⟩
      have hx0 := hB.at_ 0 (by simp)
      rw [Nat.add_zero] at hx0
      exact (b1.cell (p := ⟨g, off, none⟩) hB.lt).trans hx0
  have CP := plain_any (cap := cap) (hB.below b1) hn (by omega)
  rw [hp] at CP
  replace CP := Lib.hid CP
  have AA := Lib.hid a
  clear a hB hn hp hf
  rcases Nat.eq_zero_or_pos m with hm0 | hm0
  case' inr =>
    obtain ⟨x, hx1, hx63⟩ := hxf hm0
    have hxn : ((x : Int) == 63) = false := by simp; omega
  case' inl =>
    have hxn : ¬ 0 < (m : Int) := by omega
    clear hm0
  case' inr =>
    replace hm0 : 0 < (m : Int) := by omega
  all_goals
    clear hxf
    go_enter Try.func142, Try.ntmps142
    go_upto_region 1 with (fail)
    rw [HX1.out]
    go_wp2_with (go_at_call 154; refine (CP.out).mono ?_; rintro e w1 ⟨rfl, rfl⟩)
    (try simp only [Exit.inBlock, Exit.then]); refine bodyPost_ret (results_none rfl _ _ _) rfl ?_
    exact ⟨rfl, AA.out.below b1, Only.on b1⟩
end Go.Proofs.Ytekodpcedjpnjaa
