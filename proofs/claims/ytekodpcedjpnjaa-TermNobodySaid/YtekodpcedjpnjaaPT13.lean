/- The program's terminal: obey, of styles; obey. No condition but that the counters are not at their ends. -/
import Derived.Test.YtekodpcedjpnjaaPT12
namespace Go.Proofs.Ytekodpcedjpnjaa
set_option linter.unusedVariables false
set_option linter.unusedSimpArgs false
open Go.RowKit Go.Shelf Go.Maps
attribute [local go_sem] Oper.semAt_some
/-- What the reads of a round need. -/
def StyS (W : World) (b p : Nat) (hv : Value) (t : TS) (B : Nat) (X : World) : Prop := PBk X b (pCells hv p t) ∧ X.heap[B]? = some (.cells #[.pointer (some ⟨b, 0, none⟩)] 63 (0, 0))
set_option maxRecDepth 100000 in
set_option maxHeartbeats 8000000 in
theorem pobey109 {W : World} {b p q : Nat} {hv : Value} {t : TS} (a : TmAt W b p q hv t) {g off m cap : Nat} {l : List UInt8} (hB : Bys W g off l) (hn : l.length = m) (hn2 : m ≤ 1000000) (hf : (m = 0 ∧ l = []) ∨ (∃ c r, l = c :: r ∧ c.toNat ≠ 63)) (hp : plainB l = true) (hgb : g ≠ b) :
    Calls Try.prog 142 #[.pointer (some ⟨b, 0, none⟩), .slice (some ⟨g, off, none⟩) m cap, .int .u8 109] W (TmPost b p q hv ((numsT 0 l).foldl TS.sty t) W) := by
  have b1 : Below W.heap.size W (W.alloc (.cells #[.pointer (some ⟨b, 0, none⟩)] 63)) := (Below.refl _ _).alloc (Nat.le_refl _) _
  have k1 : (W.alloc (.cells #[.pointer (some ⟨b, 0, none⟩)] 63)).heap[W.heap.size]? = some (.cells #[.pointer (some ⟨b, 0, none⟩)] 63 (0, 0)) := World.alloc_heap_new W _
  have hlt := a.lt
  obtain ⟨X1, hX1⟩ : ∃ X1, W.alloc (.cells #[.pointer (some ⟨b, 0, none⟩)] 63) = X1 := ⟨_, rfl⟩
  rw [hX1] at b1 k1
  have HX1 := Lib.hid hX1
  have d1 := box_cell k1
  clear hX1
  have hxf : 0 < m → ∃ x : Nat, X1.cell? ⟨g, off, none⟩ = some (.int .u8 (x : Int)) ∧ x ≠ 63 := fun h0 => by
    rcases hf with ⟨h1, _⟩ | ⟨c, r, rfl, hc⟩
    · omega
    · refine ⟨c.toNat, ?_, hc⟩
      have hx0 := hB.at_ 0 (by simp)
      rw [Nat.add_zero] at hx0
      exact (b1.cell (p := ⟨g, off, none⟩) hB.lt).trans hx0
  have CP := plain_any (cap := cap) (hB.below b1) hn (by omega)
  rw [hp] at CP
  replace CP := Lib.hid CP
  have hB1 := hB.below b1
  have HSEQ := Lib.hid (fun (Bx : Nat) (w : World) (hB : Bys w g off l) (hbx : Bx < w.heap.size) (hcb : w.cell? ⟨Bx, 0, none⟩ = some (.slice (some ⟨g, off, none⟩) m cap)) (mm : Nat) (hm : 1 ≤ mm) => num1_stops Bx w hB hn (by omega) hp hbx hcb mm hm)
  obtain ⟨NL, hNL⟩ : ∃ NL, NL = numsT 0 l := ⟨_, rfl⟩
  rw [← hNL] at HSEQ ⊢
  have hsx : X1.heap.size = W.heap.size + 1 := by rw [← HX1.out]; simp
  have HF := Lib.hid (And.intro k1 (And.intro hsx (And.intro hB1 (a.below b1))))
  have hgl := hB.lt
  have a1 := a.below b1
  clear hNL a hB hn hp hf
  rcases Nat.eq_zero_or_pos m with hm0 | hm0
  case' inr =>
    obtain ⟨x, hx1, hx63⟩ := hxf hm0
    have hxn : ((x : Int) == 63) = false := by simp; omega
  case' inl =>
    have hxn : ¬ 0 < (m : Int) := by omega
    clear hm0
  case' inr =>
    replace hm0 : 0 < (m : Int) := by omega
  all_goals
    clear hxf
    refine (callsIn_wide (n := 9)).1 ?_
    have h1 : 1 ≤ 9 := by omega
    refine callsIn_of_wp_marks Try.func142 rfl trivial ?_ rfl
    simp only [Try.ntmps142, List.size_toArray, List.length_cons, List.length_nil, Nat.reduceAdd, Nat.reduceSub, Array.replicate_succ, Array.replicate_zero, List.push_toArray, List.append_toArray, List.nil_append, List.cons_append]
    obtain rfl := HX1.out
    clear HX1 k1 d1 hsx hB1 a1
    gi_wp2_with (first
      | (refine ⟨trivial, ?_⟩; gi_at_call 154; refine (callsIn_wide.2 (CP.out)).mono ?_; rintro e w1 ⟨rfl, rfl⟩)
      | (refine ⟨trivial, ?_⟩; gi_at_call 156; refine (callsIn_wide.2 (numbers_any _ _ _ _)).mono ?_; rintro e w2 ⟨rfl, rfl⟩))
    obtain ⟨X1, hX1⟩ : ∃ X1, W.alloc (.cells #[.pointer (some ⟨b, 0, none⟩)] 63) = X1 := ⟨_, rfl⟩
    rw [hX1] at b1 HF ⊢
    obtain ⟨k1, hsx, hB1, a1⟩ := HF.out
    clear HF hX1
    obtain ⟨W0, hW0⟩ : ∃ W0, X1.alloc (.cells #[.slice (some ⟨g, off, none⟩) m cap] 67) = W0 := ⟨_, rfl⟩
    rw [hW0]
    have s3 : W0.heap.size = W.heap.size + 1 + 1 := by rw [← hW0]; simp [hsx]
    have b3 : Below (W.heap.size + 1) X1 W0 := by rw [← hW0]; exact (Below.refl _ _).alloc (by omega) _
    have k3 : W0.heap[W.heap.size + 1]? = some (.cells #[.slice (some ⟨g, off, none⟩) m cap] 67 (0, 0)) := by rw [← hW0, ← hsx]; exact World.alloc_heap_new X1 _
    have hBw : Below W.heap.size W W0 := b1.trans (b3.mono (by omega))
    have m1 : W0.heap[W.heap.size]? = some (.cells #[.pointer (some ⟨b, 0, none⟩)] 63 (0, 0)) := (b3.block _ (by omega)).trans k1
    have c3 : W0.cell? ⟨W.heap.size + 1, 0, none⟩ = some (.slice (some ⟨g, off, none⟩) m cap) := by rw [cell_of_row W0 _ 0 _ _ _ k3]; rfl
    have hB0 := hB1.below (b3.mono (by omega))
    have a0 := a1.below (b3.mono (by omega))
    clear hW0 b3 k1
    refine wpIn_rangeFunc_ownG rfl h1 (gf := 168) (lb := #[.pointer (some ⟨W.heap.size + 1, 0, none⟩)]) rfl trivial (enters_of Try.func168 (by kernel_rfl) rfl)
      (HSEQ.out (W.heap.size + 1) W0 hB0 (by omega) c3 _ (by omega)) KB.trans (KB.put (by omega) (by omega)) (Below.refl _ _) (fun _ => rfl)
      (NumI W b p q hv t TS.sty [(W.heap.size, .pointer (some ⟨b, 0, none⟩), 63), (W.heap.size + 1, .slice (some ⟨g, off, none⟩) m cap, 67)]) (fun _ _ _ => False)
      (NumI.own (by omega))
      (fun c s A B row hs hg hr => hs)
      ⟨⟨a0, fun x hx => by
        simp only [List.mem_cons, List.not_mem_nil, or_false] at hx
        rcases hx with rfl | rfl
        · exact m1
        · exact k3⟩, Only.of_below hBw⟩
      ?_ ?_ ?_ ?_ ?_
    rotate_left 1
    · intro l0 x W1 K hK
      gi_wp2
      exact hK
    · rintro l0 pre x V ⟨⟨aV, hbx⟩, oV⟩ _
      have k2 := hbx (W.heap.size, .pointer (some ⟨b, 0, none⟩), 63) (by simp)
      have d2 := box_cell k2
      have HFS := Lib.hid (fold_snoc TS.sty t pre x)
      have hVx := (Array.getElem?_eq_some_iff.1 (hbx (W.heap.size + 1, .slice (some ⟨g, off, none⟩) m cap, 67) (by simp))).1
      have hVx : W.heap.size + 1 < V.heap.size := hVx
      have HK3 := Lib.hid (hbx (W.heap.size + 1, .slice (some ⟨g, off, none⟩) m cap, 67) (by simp))
      have hgV : g < V.heap.size := Nat.lt_of_lt_of_le hgl oV.size
      clear hbx
      obtain ⟨t1, ht1⟩ : ∃ t1, t1 = pre.foldl TS.sty t := ⟨_, rfl⟩
      rw [← ht1] at aV HFS
      clear ht1
      have hSV : StyS W b p hv t1 W.heap.size V.drew := ⟨aV.blk, k2⟩
      have CY := Lib.hid (fun w => styled_sy t1.y x w)
      have hVl := aV.lt
      have hWl := (Array.getElem?_eq_some_iff.1 k2).1
      gi_wp2
      refine wpIn_region_mixT (l₀ := some l0) 8 [(true, 0), (true, 1), (true, 2), (true, 3), (true, 4), (true, 5), (false, 6), (true, 7), (true, 8), (false, 9)] (StyS W b p hv t1 W.heap.size) (by kernel_rfl) (by kernel_rfl) (by rfl) (by kernel_rfl) (by kernel_rfl) (by kernel_rfl) (by intro a w h; exact h) (fun _ _ _ _ _ h => h) hSV ?_
      simp only [mixL, List.getElem?_cons_succ, List.getElem?_cons_zero]
      repeat (refine' wpMix_read (v := _) rfl ?_ ?_; rotate_left 1; (intro w' hw'; obtain ⟨hw1, hw2⟩ := hw'; obtain ⟨c0, c1, c2, c3, c4, c5, c6, c7, c8, c9, c10, c11, c12, c13, c14, c15, c16, fz⟩ := hw1.cells; have d2' := box_cell hw2; go_simp; try with_reducible rfl); try simp only [Act.put, List.setIfInBounds_toArray, List.set_cons_zero, List.set_cons_succ])
      refine wpMix_act (fun K hK => ?_)
      go_wp2_with fail
      refine (CY.out _).mono ?_
      rintro e w5 ⟨rfl, hb5⟩
      have hb5' : Below V.heap.size V w5 := ((Below.refl _ _).drew).trans hb5
      have a5 := aV.below hb5'
      have hk5 := (hb5'.block _ hWl).trans k2
      go_wp2
      refine hK _ _ (fun _ => ⟨a5.blk, hk5⟩) ?_
      clear hK K
      repeat (refine' wpMix_read (v := _) rfl ?_ ?_; rotate_left 1; (intro w' hw'; obtain ⟨hw1, hw2⟩ := hw'; obtain ⟨c0, c1, c2, c3, c4, c5, c6, c7, c8, c9, c10, c11, c12, c13, c14, c15, c16, fz⟩ := hw1.cells; have d2' := box_cell hw2; go_simp; try with_reducible rfl); try simp only [Act.put, List.setIfInBounds_toArray, List.set_cons_zero, List.set_cons_succ])
      refine wpMix_act (fun K hK => ?_)
      obtain ⟨c0, c1, c2, c3, c4, c5, c6, c7, c8, c9, c10, c11, c12, c13, c14, c15, c16, fz⟩ := a5.cells
      obtain ⟨aN, oN⟩ := a5.sty x
      have HAN := Lib.hid aN
      have HON := Lib.hid oN
      clear aN oN
      go_wp2
      refine hK _ _ (fun h => absurd rfl h) ?_
      clear hK K
      refine wpMix_nil ?_
      refine ⟨?_, ?_, ⟨?_, fun y hy => ?_⟩, ?_⟩
      · exact ((others_of_below hb5').trans (((((KeepsOthers.setCell _ _ _).trans (KeepsOthers.setCell _ _ _)).trans (KeepsOthers.setCell _ _ _)).trans (KeepsOthers.setCell _ _ _)).trans (KeepsOthers.setCell _ _ _))).from _
      · exact (KB.of_below hb5' (by omega) (by omega)).trans (((((KB.setCell _ _ _ _ (by omega) hgb).trans (KB.setCell _ _ _ _ (by omega) hgb)).trans (KB.setCell _ _ _ _ (by omega) hgb)).trans (KB.setCell _ _ _ _ (by omega) hgb)).trans (KB.setCell _ _ _ _ (by omega) hgb))
      · rw [HFS.out]; exact HAN.out
      · simp only [List.mem_cons, List.not_mem_nil, or_false] at hy
        rcases hy with rfl | rfl
        · exact (HON.out.block _ (by exact (Array.getElem?_eq_some_iff.1 hk5).1) (by simp; omega)).trans hk5
        · exact (HON.out.block _ (by exact Nat.lt_of_lt_of_le hVx hb5'.size) (by simp; omega)).trans ((hb5'.block _ hVx).trans HK3.out)
      · exact oV.trans ((Only.on hb5').trans HON.out.ob)
    · rintro D ys V hD rfl ⟨⟨aV, hbx⟩, oV⟩ hK
      clear hbx
      gi_wp2
      refine ⟨by simp, .inl ⟨_, _, rfl, run_takeDeferred hK, ?_⟩⟩
      exact ⟨_, results_none rfl _ _ _, rfl, tm_put aV D _ _ hK rfl, only_put oV D _ (by omega)⟩
    · rintro D c pre V hD hpre hF hK
      exact hF.elim
theorem pobey_any {W : World} {b p q : Nat} {hv : Value} {t : TS} (a : TmAt W b p q hv t) {g off m cap : Nat} (ok : TO0 t) {l : List UInt8} (hB : Bys W g off l) (hn : l.length = m) (hn2 : m ≤ 1000000) (hc : m ≤ cap ∧ cap ≤ 9223372036854775807) (hgb : g ≠ b) (e : Nat) (he : e < 256) :
    Calls Try.prog 142 #[.pointer (some ⟨b, 0, none⟩), .slice (some ⟨g, off, none⟩) m cap, .int .u8 (e : Int)] W (TmPost b p q hv (t.obey l e) W) := by
  have hpl : ((m = 0 ∧ l = []) ∨ (∃ c r, l = c :: r ∧ c.toNat ≠ 63)) → plainB l = true → Calls Try.prog 142 #[.pointer (some ⟨b, 0, none⟩), .slice (some ⟨g, off, none⟩) m cap, .int .u8 (e : Int)] W (TmPost b p q hv (t.plain (numsT 0 l) e) W) := fun hf hp => by
    by_cases h1 : e = 74
    · subst h1; exact pobey74 a ok hB hn hn2 hf hp
    by_cases h2 : e = 75
    · subst h2; exact pobey75 a ok hB hn hn2 hf hp
    by_cases h3 : e = 109
    · subst h3
      have e1 : t.plain (numsT 0 l) 109 = (numsT 0 l).foldl TS.sty t := (fold_sty _ _).symm
      rw [e1]
      exact pobey109 a hB hn hn2 hf hp hgb
    rw [plain_mv _ _ _ h1 h2 h3]
    exact pobeyV a ok hB hn hn2 hf hp e he (by simp; omega) (by simp; omega) (by simp; omega)
  cases l with
  | nil =>
    have hm : m = 0 := by simpa using hn.symm
    exact hpl (.inl ⟨hm, rfl⟩) rfl
  | cons c r =>
    unfold TS.obey
    dsimp only
    by_cases h63 : c = 63
    · subst h63
      rw [if_pos rfl]
      obtain ⟨k, rfl⟩ : ∃ k, m = k + 1 := ⟨r.length, by simpa using hn.symm⟩
      have hr : r.length = k := by simpa using hn
      have hR := hB.rest (cap := cap) (n := k + 1) (by omega) hc.1
      have ho : (cap = 1 ∧ k = 0 ∧ (if cap = 1 then off else off + 1) = off) ∨ (¬ cap = 1 ∧ (if cap = 1 then off else off + 1) = off + 1) := by
        by_cases h : cap = 1
        · exact .inl ⟨h, by omega, if_pos h⟩
        · exact .inr ⟨h, if_neg h⟩
      cases hp : plainB r with
      | true => exact pobeyQ_true a hB hR ho hr (by omega) hc hgb hp e he
      | false => exact pobeyQ_false a hB hR ho hr (by omega) hc hgb hp e he
    · rw [if_neg h63]
      have hf : (m = 0 ∧ c :: r = []) ∨ (∃ c' r', c :: r = c' :: r' ∧ c'.toNat ≠ 63) := .inr ⟨c, r, rfl, fun h => h63 (UInt8.toNat_inj.1 h)⟩
      cases hp : plainB (c :: r) with
      | true => exact hpl hf hp
      | false => exact pobeyF a hB hn hn2 hf hp e he
end Go.Proofs.Ytekodpcedjpnjaa
