/- The program's terminal: escape, take. No condition but that the counters are not at their ends. -/
import Derived.Test.YtekodpcedjpnjaaPT14
import Derived.Test.YtekodpcedjpnjaaPT4
namespace Go.Proofs.Ytekodpcedjpnjaa
set_option linter.unusedVariables false
set_option linter.unusedSimpArgs false
open Go.RowKit Go.Shelf Go.Maps
theorem TOk.to0 {t : TS} (k : TOk t) : TO0 t := k.toTO0
set_option maxRecDepth 100000 in
set_option maxHeartbeats 8000000 in
theorem pescape_any {W : World} {b p q : Nat} {hv : Value} {t : TS} (a : TmAt W b p q hv t) (ok : TO0 t) {g off n cap : Nat} {c : UInt8} {r : List UInt8} (hc27 : c.toNat = 27) (hB : Bys W g off (c :: r)) (hn : r.length + 1 = n) (hn2 : n ≤ 1000000) (hc : n ≤ cap ∧ cap ≤ 9223372036854775807) (hgb : g ≠ b) (hgq : g ≠ q) :
    Calls Try.prog 106 #[.pointer (some ⟨b, 0, none⟩), .slice (some ⟨g, off, none⟩) n cap] W (TmRet b p q hv (t.first (c :: r)) W) := by
  obtain ⟨z, hz⟩ : ∃ z, z = t.first (c :: r) := ⟨_, rfl⟩
  rw [← hz]
  unfold TS.first at hz
  dsimp only at hz
  rw [if_pos hc27] at hz
  have aO := a.put 14 (.bool false) hv t.off rfl rfl rfl rfl
  have oO := set_only W b 14 (.bool false)
  have AA := Lib.hid a
  cases r with
  | nil =>
    obtain rfl : n = 1 := by simpa using hn.symm
    have HZ := Lib.hid hz
    clear hz hn a hB hc27
    go_enter Try.func106, Try.ntmps106
    go_wp2
    go_ret
    rw [HZ.out]
    exact ⟨rfl, AA.out, Only.refl _ _⟩
  | cons d r' =>
    dsimp only at hz
    have hn' : r'.length + 2 = n := by simpa using hn
    have hx0 := hB.at_ 1 (by simp)
    replace hx0 : W.cell? ⟨g, off + 1, none⟩ = some (.int .u8 (d.toNat : Int)) := hx0
    have hgl := hB.lt
    have hd256 := d.toNat_lt
    have hnn : ((n : Int) == 1) = false := by simp; omega
    have h1n : (1 : Int) < (n : Int) := by omega
    by_cases h91 : d.toNat = 91
    · rw [if_pos h91] at hz
      rw [h91] at hx0
      have CS := psequence_any a ok hB hn' hn2 hc hgb hgq
      rw [← hz] at CS
      replace CS := Lib.hid CS
      replace hx0 : W.cell? ⟨g, off + 1, none⟩ = some (.int .u8 91) := hx0
      clear hz hn hn' a hB hc27 h91
      go_enter Try.func106, Try.ntmps106
      go_wp2_with (go_at_call 123; refine (CS.out).mono ?_; rintro e w3 ⟨rfl, a3, o3⟩)
      go_ret
      exact ⟨rfl, a3, o3⟩
    · rw [if_neg h91] at hz
      obtain ⟨c0, c1, c2, c3, c4, c5, c6, c7, c8, c9, c10, c11, c12, c13, c14, c15, c16, fz⟩ := a.cells
      have hx1 : (W.setCell ⟨b, 14, none⟩ (.bool false)).cell? ⟨g, off + 1, none⟩ = some (.int .u8 (d.toNat : Int)) := (cell_block (set_other _ _ _ _ _ hgb)).trans hx0
      obtain ⟨x, hx⟩ : ∃ x, x = d.toNat := ⟨_, rfl⟩
      rw [← hx] at hx0 hx1 h91 hz hd256
      have nx : ((x : Int) == 91) = false := by simp; omega
      have HZ := Lib.hid hz
      clear hz hn hn' a hB hc27 h91 hx
      go_enter Try.func106, Try.ntmps106
      go_wp2
      all_goals
        go_ret
        rw [HZ.out]
        refine ⟨?_, aO, oO.ob⟩
        first
          | (rw [if_pos (by omega)]; rfl)
          | (rw [if_neg (by omega)]; rfl)
theorem first_ctl (t : TS) (c : UInt8) (r : List UInt8) (h27 : c.toNat ≠ 27) (h : c.toNat < 32 ∨ c.toNat = 127) : t.first (c :: r) = (t.control c.toNat, 1) := by
  unfold TS.first
  dsimp only
  rw [if_neg h27, if_pos h]
theorem first_more (t : TS) (c : UInt8) (r : List UInt8) (h27 : c.toNat ≠ 27) (h : ¬ (c.toNat < 32 ∨ c.toNat = 127)) (hm : moreL (c :: r) = true) : t.first (c :: r) = (t, 0) := by
  unfold TS.first
  dsimp only
  rw [if_neg h27, if_neg h, if_pos hm]
theorem first_one (t : TS) (c : UInt8) (r : List UInt8) (h27 : c.toNat ≠ 27) (h : ¬ (c.toNat < 32 ∨ c.toNat = 127)) (hm : moreL (c :: r) = false) : t.first (c :: r) = (t.rune (stepL (c :: r)).1, (stepL (c :: r)).2) := by
  unfold TS.first
  dsimp only
  rw [if_neg h27, if_neg h, if_neg (by rw [hm]; simp)]
set_option maxRecDepth 100000 in
set_option maxHeartbeats 8000000 in
theorem ptake_any {W : World} {b p q : Nat} {hv : Value} {t : TS} (a : TmAt W b p q hv t) (ok : TOk t) (hg : t.gone < 4611686018427387904) (hbl : t.bells < 4611686018427387904) {g off n cap : Nat} {c : UInt8} {r : List UInt8} (hB : Bys W g off (c :: r)) (hn : r.length + 1 = n) (hn2 : n ≤ 1000000) (hc : n ≤ cap ∧ cap ≤ 9223372036854775807) (hgb : g ≠ b) (hgq : g ≠ q) :
    Calls Try.prog 80 #[.pointer (some ⟨b, 0, none⟩), .slice (some ⟨g, off, none⟩) n cap] W (TmRet b p q hv (t.first (c :: r)) W) := by
  have hx0 := hB.at_ 0 (by simp)
  rw [Nat.add_zero] at hx0
  replace hx0 : W.cell? ⟨g, off, none⟩ = some (.int .u8 (c.toNat : Int)) := hx0
  have hn0 : (0 : Int) < (n : Int) := by omega
  have hc256 := c.toNat_lt
  have AA := Lib.hid a
  by_cases h27 : c.toNat = 27
  · have CE := Lib.hid (pescape_any a ok.to0 h27 hB hn hn2 hc hgb hgq)
    rw [h27] at hx0
    replace hx0 : W.cell? ⟨g, off, none⟩ = some (.int .u8 27) := hx0
    obtain ⟨z, hz⟩ : ∃ z, z = t.first (c :: r) := ⟨_, rfl⟩
    rw [← hz] at CE ⊢
    clear hz hn a hB h27 ok
    go_enter Try.func80, Try.ntmps80
    go_wp2_with (go_at_call 106; refine (CE.out).mono ?_; rintro e w3 ⟨rfl, a3, o3⟩)
    go_ret
    exact ⟨rfl, a3, o3⟩
  by_cases hct : c.toNat < 32 ∨ c.toNat = 127
  · rw [first_ctl t c r h27 hct]
    have CC := pcontrol_any a ok.to0 hg hbl c.toNat (by omega)
    obtain ⟨x, hx⟩ : ∃ x, x = c.toNat := ⟨_, rfl⟩
    rw [← hx] at CC hx0 h27 hct hc256 ⊢
    replace CC := Lib.hid CC
    have nx : ((x : Int) == 27) = false := by simp; omega
    clear hx h27 hn a hB ok
    by_cases h127 : (x : Int) < 32
    all_goals
      have h3 : ((x : Int) == 127) = decide (¬ (x : Int) < 32) := by
        rw [Bool.eq_iff_iff, beq_iff_eq, decide_eq_true_eq]; omega
      simp only [h127, not_true_eq_false, not_false_eq_true, decide_true, decide_false] at h3
      clear hct
      go_enter Try.func80, Try.ntmps80
      go_wp2_with (go_at_call 107; refine (CC.out).mono ?_; rintro e w3 ⟨rfl, a3, o3⟩)
      go_ret
      exact ⟨rfl, a3, o3⟩
  · have CN := next_any c r g off cap W (by rw [List.length_cons]; omega) hB
    rw [show (c :: r).length = n by simpa using hn] at CN
    replace CN := Lib.hid CN
    have HM := Lib.hid (first_more t c r h27 hct)
    have HO := Lib.hid (first_one t c r h27 hct)
    have CR := Lib.hid (fun (X : World) (hX : Below W.heap.size W X) (k : Nat) (hk : k ≤ 1114111) (hi : isR (k : Int) = true) => prune_any (a.below hX) ok hg k hk hi)
    have HI := Lib.hid (stepL_isR (c :: r))
    obtain ⟨x, hx⟩ : ∃ x, x = c.toNat := ⟨_, rfl⟩
    rw [← hx] at hx0 h27 hct hc256
    have nx : ((x : Int) == 27) = false := by simp; omega
    have n127 : ((x : Int) == 127) = false := by simp; omega
    have n32 : ¬ (x : Int) < 32 := by omega
    obtain ⟨l, hl⟩ : ∃ l, l = c :: r := ⟨_, rfl⟩
    rw [← hl] at CN HM HO HI ⊢
    clear hx h27 hct hn a hB ok hl
    go_enter Try.func80, Try.ntmps80
    go_wp2_with fail
    refine (CN.out).mono ?_
    rintro e w3 ⟨⟨rr, nn, m, rfl, hh⟩, hb3⟩
    rcases hh with ⟨rfl, _, hm⟩ | ⟨rfl, hr, hnn, hm⟩
    · have HZ := Lib.hid (HM.out hm)
      clear hm
      go_wp2
      go_ret
      rw [HZ.out]
      exact ⟨rfl, AA.out.below hb3, Only.on hb3⟩
    · have HZ := Lib.hid (HO.out hm)
      have hi := HI.out
      obtain ⟨k, hk⟩ : ∃ k, k = (stepL l).1 := ⟨_, rfl⟩
      rw [← hk] at hr hi HZ
      rw [← hnn] at HZ
      have hk2 : k ≤ 1114111 := by
        have := (isR_iff k).1 hi
        omega
      have CR2 := Lib.hid (CR.out w3 hb3 k hk2 hi)
      clear hm hk hnn CR hi
      subst hr
      go_wp2_with (go_at_call 109; refine (CR2.out).mono ?_; rintro e w4 ⟨rfl, a4, o4⟩)
      go_ret
      rw [HZ.out]
      exact ⟨rfl, a4, (Only.on hb3).trans o4⟩
end Go.Proofs.Ytekodpcedjpnjaa
