/- The program's terminal: obey, of moves and erasing; of styles. No condition but that the counters are not at their ends. -/
import Derived.Test.YtekodpcedjpnjaaPT11
import Derived.Test.YtekodpcedjpnjaaPT8
namespace Go.Proofs.Ytekodpcedjpnjaa
set_option linter.unusedVariables false
set_option linter.unusedSimpArgs false
open Go.RowKit Go.Shelf Go.Maps
attribute [local go_sem] Oper.semAt_some
theorem plain_mv (t : TS) (L : List Nat) (e : Nat) (h74 : e ≠ 74) (h75 : e ≠ 75) (h109 : e ≠ 109) : t.plain L e = t.mv (nth 0 L 0) (nth 0 L 1) e := by
  unfold TS.plain TS.mv
  dsimp only
  rw [if_neg h74, if_neg h75, if_neg h109]
theorem nth_nums (l : List UInt8) (k : Nat) : nth 0 (numsT 0 l) k ≤ 9999 := by
  rcases Nat.lt_or_ge k (numsT 0 l).length with h | h
  · rw [nth_eq _ _ _ h]; exact numsT_le l 0 (by omega) _ (List.getElem_mem _)
  · unfold nth; rw [List.getD_eq_getElem?_getD, List.getElem?_eq_none h]; exact Nat.zero_le _
set_option maxRecDepth 100000 in
set_option maxHeartbeats 8000000 in
theorem pobey74 {W : World} {b p q : Nat} {hv : Value} {t : TS} (a : TmAt W b p q hv t) {g off m cap : Nat} (ok : TO0 t) {l : List UInt8} (hB : Bys W g off l) (hn : l.length = m) (hn2 : m ≤ 1000000) (hf : (m = 0 ∧ l = []) ∨ (∃ c r, l = c :: r ∧ c.toNat ≠ 63)) (hp : plainB l = true) :
    Calls Try.prog 142 #[.pointer (some ⟨b, 0, none⟩), .slice (some ⟨g, off, none⟩) m cap, .int .u8 74] W (TmPost b p q hv (t.erased (nth 0 (numsT 0 l) 0) false) W) := by
  have b1 : Below W.heap.size W (W.alloc (.cells #[.pointer (some ⟨b, 0, none⟩)] 63)) := (Below.refl _ _).alloc (Nat.le_refl _) _
  have k1 : (W.alloc (.cells #[.pointer (some ⟨b, 0, none⟩)] 63)).heap[W.heap.size]? = some (.cells #[.pointer (some ⟨b, 0, none⟩)] 63 (0, 0)) := World.alloc_heap_new W _
  have hlt := a.lt
  obtain ⟨X1, hX1⟩ : ∃ X1, W.alloc (.cells #[.pointer (some ⟨b, 0, none⟩)] 63) = X1 := ⟨_, rfl⟩
  rw [hX1] at b1 k1
  have HX1 := Lib.hid hX1
  have d1 := box_cell k1
  clear hX1
  have hxf : 0 < m → ∃ x : Nat, X1.cell? ⟨g, off, none⟩ = some (.int .u8 (x : Int)) ∧ x ≠ 63 := fun h0 => by
    rcases hf with ⟨h1, _⟩ | ⟨c, r, rfl, hc⟩
    · omega
    · refine ⟨c.toNat, ?_, hc⟩
      have hx0 := hB.at_ 0 (by simp)
      rw [Nat.add_zero] at hx0
      exact (b1.cell (p := ⟨g, off, none⟩) hB.lt).trans hx0
  have CP := plain_any (cap := cap) (hB.below b1) hn (by omega)
  rw [hp] at CP
  replace CP := Lib.hid CP
  have ct := firstTwo_any (cap := cap) (hB.below b1) hn (by omega) hp
  have hn0 := nth_nums l 0
  have hm0' := nth_nums l 1
  obtain ⟨n0, hn0e⟩ : ∃ n0, n0 = nth 0 (numsT 0 l) 0 := ⟨_, rfl⟩
  obtain ⟨m0, hm0e⟩ : ∃ m0, m0 = nth 0 (numsT 0 l) 1 := ⟨_, rfl⟩
  rw [← hn0e, ← hm0e] at ct
  rw [← hn0e] at hn0 ⊢
  rw [← hm0e] at hm0'
  have CT := Lib.hid ct
  have hsx : W.heap.size < X1.heap.size := (Array.getElem?_eq_some_iff.1 k1).1
  have CM := Lib.hid (fun (X : World) (aX : TmAt X b p q hv t) => pmove_any aX ok n0 m0 hn0 hm0' 74 (by omega))
  have OK := Lib.hid ok
  have AA := Lib.hid a
  clear a ok hB hn hp hf hn0e hm0e ct
  rcases Nat.eq_zero_or_pos m with hm0 | hm0
  case' inr =>
    obtain ⟨x, hx1, hx63⟩ := hxf hm0
    have hxn : ((x : Int) == 63) = false := by simp; omega
  case' inl =>
    have hxn : ¬ 0 < (m : Int) := by omega
    clear hm0
  case' inr =>
    replace hm0 : 0 < (m : Int) := by omega
  all_goals
    clear hxf
    go_enter Try.func142, Try.ntmps142
    go_upto_region 1 with (fail)
    rw [HX1.out]
    go_wp2_with (first
      | (go_at_call 154; refine (CP.out).mono ?_; rintro e w1 ⟨rfl, rfl⟩)
      | (go_at_call 158; refine (CT.out).mono ?_; rintro e X2 ⟨rfl, hb2⟩; have d2 := box_cell ((hb2.block _ hsx).trans k1); have a2 := (AA.out.below b1).below hb2)
      | (go_at_call 159; refine (CM.out _ a2).mono ?_; rintro e X3 ⟨rfl, a3, o3⟩; have k3 := (o3.block _ (Nat.lt_of_lt_of_le hsx hb2.size) (by simp; omega)).trans ((hb2.block _ hsx).trans k1); have d3 := box_cell k3; have CE := Lib.hid (peraseAll_any (t := t) a3 OK.out n0 hn0))
      | (go_at_call 160; refine (CE.out).mono ?_; rintro e X4 ⟨rfl, a4, o4⟩))
    go_end0
    exact ⟨rfl, a4, (Only.on b1).trans ((Only.on hb2).trans (o3.trans o4))⟩
set_option maxRecDepth 100000 in
set_option maxHeartbeats 8000000 in
theorem pobey75 {W : World} {b p q : Nat} {hv : Value} {t : TS} (a : TmAt W b p q hv t) {g off m cap : Nat} (ok : TO0 t) {l : List UInt8} (hB : Bys W g off l) (hn : l.length = m) (hn2 : m ≤ 1000000) (hf : (m = 0 ∧ l = []) ∨ (∃ c r, l = c :: r ∧ c.toNat ≠ 63)) (hp : plainB l = true) :
    Calls Try.prog 142 #[.pointer (some ⟨b, 0, none⟩), .slice (some ⟨g, off, none⟩) m cap, .int .u8 75] W (TmPost b p q hv (t.erased (nth 0 (numsT 0 l) 0) true) W) := by
  have b1 : Below W.heap.size W (W.alloc (.cells #[.pointer (some ⟨b, 0, none⟩)] 63)) := (Below.refl _ _).alloc (Nat.le_refl _) _
  have k1 : (W.alloc (.cells #[.pointer (some ⟨b, 0, none⟩)] 63)).heap[W.heap.size]? = some (.cells #[.pointer (some ⟨b, 0, none⟩)] 63 (0, 0)) := World.alloc_heap_new W _
  have hlt := a.lt
  obtain ⟨X1, hX1⟩ : ∃ X1, W.alloc (.cells #[.pointer (some ⟨b, 0, none⟩)] 63) = X1 := ⟨_, rfl⟩
  rw [hX1] at b1 k1
  have HX1 := Lib.hid hX1
  have d1 := box_cell k1
  clear hX1
  have hxf : 0 < m → ∃ x : Nat, X1.cell? ⟨g, off, none⟩ = some (.int .u8 (x : Int)) ∧ x ≠ 63 := fun h0 => by
    rcases hf with ⟨h1, _⟩ | ⟨c, r, rfl, hc⟩
    · omega
    · refine ⟨c.toNat, ?_, hc⟩
      have hx0 := hB.at_ 0 (by simp)
      rw [Nat.add_zero] at hx0
      exact (b1.cell (p := ⟨g, off, none⟩) hB.lt).trans hx0
  have CP := plain_any (cap := cap) (hB.below b1) hn (by omega)
  rw [hp] at CP
  replace CP := Lib.hid CP
  have ct := firstTwo_any (cap := cap) (hB.below b1) hn (by omega) hp
  have hn0 := nth_nums l 0
  have hm0' := nth_nums l 1
  obtain ⟨n0, hn0e⟩ : ∃ n0, n0 = nth 0 (numsT 0 l) 0 := ⟨_, rfl⟩
  obtain ⟨m0, hm0e⟩ : ∃ m0, m0 = nth 0 (numsT 0 l) 1 := ⟨_, rfl⟩
  rw [← hn0e, ← hm0e] at ct
  rw [← hn0e] at hn0 ⊢
  rw [← hm0e] at hm0'
  have CT := Lib.hid ct
  have hsx : W.heap.size < X1.heap.size := (Array.getElem?_eq_some_iff.1 k1).1
  have CM := Lib.hid (fun (X : World) (aX : TmAt X b p q hv t) => pmove_any aX ok n0 m0 hn0 hm0' 75 (by omega))
  have OK := Lib.hid ok
  have AA := Lib.hid a
  clear a ok hB hn hp hf hn0e hm0e ct
  rcases Nat.eq_zero_or_pos m with hm0 | hm0
  case' inr =>
    obtain ⟨x, hx1, hx63⟩ := hxf hm0
    have hxn : ((x : Int) == 63) = false := by simp; omega
  case' inl =>
    have hxn : ¬ 0 < (m : Int) := by omega
    clear hm0
  case' inr =>
    replace hm0 : 0 < (m : Int) := by omega
  all_goals
    clear hxf
    go_enter Try.func142, Try.ntmps142
    go_upto_region 1 with (fail)
    rw [HX1.out]
    go_wp2_with (first
      | (go_at_call 154; refine (CP.out).mono ?_; rintro e w1 ⟨rfl, rfl⟩)
      | (go_at_call 158; refine (CT.out).mono ?_; rintro e X2 ⟨rfl, hb2⟩; have d2 := box_cell ((hb2.block _ hsx).trans k1); have a2 := (AA.out.below b1).below hb2)
      | (go_at_call 159; refine (CM.out _ a2).mono ?_; rintro e X3 ⟨rfl, a3, o3⟩; have k3 := (o3.block _ (Nat.lt_of_lt_of_le hsx hb2.size) (by simp; omega)).trans ((hb2.block _ hsx).trans k1); have d3 := box_cell k3; have CE := Lib.hid (peraseLine_any (t := t) a3 OK.out n0 hn0))
      | (go_at_call 161; refine (CE.out).mono ?_; rintro e X4 ⟨rfl, a4, o4⟩))
    go_end0
    exact ⟨rfl, a4, (Only.on b1).trans ((Only.on hb2).trans (o3.trans o4))⟩
set_option maxRecDepth 100000 in
set_option maxHeartbeats 8000000 in
theorem pobeyV {W : World} {b p q : Nat} {hv : Value} {t : TS} (a : TmAt W b p q hv t) {g off m cap : Nat} (ok : TO0 t) {l : List UInt8} (hB : Bys W g off l) (hn : l.length = m) (hn2 : m ≤ 1000000) (hf : (m = 0 ∧ l = []) ∨ (∃ c r, l = c :: r ∧ c.toNat ≠ 63)) (hp : plainB l = true) (e : Nat) (he : e < 256) (k109 : ((e : Int) == 109) = false) (k74 : ((e : Int) == 74) = false) (k75 : ((e : Int) == 75) = false) :
    Calls Try.prog 142 #[.pointer (some ⟨b, 0, none⟩), .slice (some ⟨g, off, none⟩) m cap, .int .u8 (e : Int)] W (TmPost b p q hv (t.mv (nth 0 (numsT 0 l) 0) (nth 0 (numsT 0 l) 1) e) W) := by
  have b1 : Below W.heap.size W (W.alloc (.cells #[.pointer (some ⟨b, 0, none⟩)] 63)) := (Below.refl _ _).alloc (Nat.le_refl _) _
  have k1 : (W.alloc (.cells #[.pointer (some ⟨b, 0, none⟩)] 63)).heap[W.heap.size]? = some (.cells #[.pointer (some ⟨b, 0, none⟩)] 63 (0, 0)) := World.alloc_heap_new W _
  have hlt := a.lt
  obtain ⟨X1, hX1⟩ : ∃ X1, W.alloc (.cells #[.pointer (some ⟨b, 0, none⟩)] 63) = X1 := ⟨_, rfl⟩
  rw [hX1] at b1 k1
  have HX1 := Lib.hid hX1
  have d1 := box_cell k1
  clear hX1
  have hxf : 0 < m → ∃ x : Nat, X1.cell? ⟨g, off, none⟩ = some (.int .u8 (x : Int)) ∧ x ≠ 63 := fun h0 => by
    rcases hf with ⟨h1, _⟩ | ⟨c, r, rfl, hc⟩
    · omega
    · refine ⟨c.toNat, ?_, hc⟩
      have hx0 := hB.at_ 0 (by simp)
      rw [Nat.add_zero] at hx0
      exact (b1.cell (p := ⟨g, off, none⟩) hB.lt).trans hx0
  have CP := plain_any (cap := cap) (hB.below b1) hn (by omega)
  rw [hp] at CP
  replace CP := Lib.hid CP
  have ct := firstTwo_any (cap := cap) (hB.below b1) hn (by omega) hp
  have hn0 := nth_nums l 0
  have hm0' := nth_nums l 1
  obtain ⟨n0, hn0e⟩ : ∃ n0, n0 = nth 0 (numsT 0 l) 0 := ⟨_, rfl⟩
  obtain ⟨m0, hm0e⟩ : ∃ m0, m0 = nth 0 (numsT 0 l) 1 := ⟨_, rfl⟩
  rw [← hn0e, ← hm0e] at ct
  rw [← hn0e] at hn0 ⊢
  rw [← hm0e] at hm0' ⊢
  have CT := Lib.hid ct
  have hsx : W.heap.size < X1.heap.size := (Array.getElem?_eq_some_iff.1 k1).1
  have CM := Lib.hid (fun (X : World) (aX : TmAt X b p q hv t) => pmove_any aX ok n0 m0 hn0 hm0' e (by omega))
  have OK := Lib.hid ok
  have AA := Lib.hid a
  clear a ok hB hn hp hf hn0e hm0e ct
  rcases Nat.eq_zero_or_pos m with hm0 | hm0
  case' inr =>
    obtain ⟨x, hx1, hx63⟩ := hxf hm0
    have hxn : ((x : Int) == 63) = false := by simp; omega
  case' inl =>
    have hxn : ¬ 0 < (m : Int) := by omega
    clear hm0
  case' inr =>
    replace hm0 : 0 < (m : Int) := by omega
  all_goals
    clear hxf
    go_enter Try.func142, Try.ntmps142
    go_upto_region 1 with (fail)
    rw [HX1.out]
    go_wp2_with (first
      | (go_at_call 154; refine (CP.out).mono ?_; rintro e w1 ⟨rfl, rfl⟩)
      | (go_at_call 158; refine (CT.out).mono ?_; rintro e X2 ⟨rfl, hb2⟩; have d2 := box_cell ((hb2.block _ hsx).trans k1); have a2 := (AA.out.below b1).below hb2)
      | (go_at_call 159; refine (CM.out _ a2).mono ?_; rintro e X3 ⟨rfl, a3, o3⟩; have k3 := (o3.block _ (Nat.lt_of_lt_of_le hsx hb2.size) (by simp; omega)).trans ((hb2.block _ hsx).trans k1); have d3 := box_cell k3))
    go_end0
    exact ⟨rfl, a3, (Only.on b1).trans ((Only.on hb2).trans o3)⟩
end Go.Proofs.Ytekodpcedjpnjaa
