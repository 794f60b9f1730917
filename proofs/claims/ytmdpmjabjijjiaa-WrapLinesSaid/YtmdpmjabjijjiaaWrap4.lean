/- Wrap: put, add; program. No condition. -/
import Derived.Test.YtmdpmjabjijjiaaWrap3
namespace Go.Proofs.Ytmdpmjabjijjiaa
set_option linter.unusedVariables false
set_option linter.unusedSimpArgs false
open Go.RowKit Go.Shelf Go.Maps
theorem PgAt.drewN {n₀ B : Nat} {W : World} {w : Int} {st : Pg} {cs : Array Value} {lines p v : Value} (h : PgAt n₀ B W w st cs lines p v) (k : Nat) : PgAt n₀ B (W.drewN k) w st cs lines p v :=
  h.below (below_drewN (Below.refl _ _) k)
theorem pgwrite_any {n₀ B : Nat} {W : World} {w : Int} {d : List (List UInt8)} {l : List UInt8} {u : Int} {cs : Array Value} {lines p v : Value} (h : PgAt n₀ B W w (d, l, u) cs lines p v) (c : List UInt8) (hlen : l.length + c.length ≤ 100000000) :
    Calls Try.prog 92 #[.pointer (some ⟨B, 2, none⟩), .string (S c)] W fun e w' => e = .returned (.tuple #[.int .i64 c.length, .nilIface]) ∧ (∃ cs' p' v', PgAt n₀ B w' w (d, l ++ c, u) cs' lines p' v') ∧ But n₀ B W w' ∧ KeepU B W w' := by
  obtain rfl := h.lay
  refine (write_any h.sb c (by kernel_rfl) hlen).mono ?_
  rintro e w' ⟨rfl, v', hsb, hbut, hkt⟩
  exact ⟨rfl, ⟨_, .pointer (some ⟨B, 2, none⟩), v', rfl, hsb, own_keepT h.own (by decide) hkt h.sb.lt⟩, hbut, (KeepU.refl _ _).keepT hkt⟩
theorem PgAt.used {n₀ B : Nat} {W : World} {w : Int} {d : List (List UInt8)} {l : List UInt8} {u : Int} {cs : Array Value} {lines p v : Value} (h : PgAt n₀ B W w (d, l, u) cs lines p v) (u' : Int) :
    PgAt n₀ B (W.setCell ⟨B, 4, none⟩ (.int .i64 u')) w (d, l, u') #[.int .i64 w, lines, p, v, .int .i64 u'] lines p v := by
  obtain rfl := h.lay
  exact PgAt.make ((heap_setCell_same _ _ _ _ _ _ h.sb.blk).trans rfl) h.sb.pn h.sb.lt (by simp [World.setCell]; exact h.sb.le) (own_set h.sb.own h.sb.lt _) (own_set h.own h.sb.lt _)
set_option maxRecDepth 100000 in
set_option maxHeartbeats 4000000 in
theorem pgput_any {n₀ B : Nat} {W : World} {w : Int} {st : Pg} {cs : Array Value} {lines p v : Value} (h : PgAt n₀ B W w st cs lines p v) (c : List UInt8) (hc : Clu c) (hok : PgOk w st) (hl : 0 < st.2.2 → st.2.1 ≠ []) (hd : st.1.length ≤ 1000000) (hll : st.2.1.length ≤ 1000000) (hw : w ≤ 1000) :
    Calls Try.prog 132 #[.pointer (some ⟨B, 0, none⟩), .string (S c)] W (PgPost n₀ B W w (putG w st c)) := by
  have hcl := hc.len
  have hcc := hc.cols
  have CW := (fun W => cwidth_any c (by omega) W)
  rw [show widthL c = colsL c by unfold widthL; rw [hc.cut]] at CW
  have hu := hok.used
  obtain ⟨d, l, u⟩ := st
  dsimp only at hl hd hll hu
  have hlt := h.sb.lt
  have hle := h.sb.le
  unfold putG
  obtain ⟨n, hn⟩ : ∃ n, n = colsL c := ⟨_, rfl⟩
  have hput : ∀ X : Pg, putS X c = (X.1, X.2.1 ++ c, X.2.2 + n) := fun X => by unfold putS; rw [hn]
  rw [← hn] at CW hcc ⊢
  have CW := Lib.hid CW
  have HPUT := Lib.hid hput
  clear hn hput hok
  by_cases h1 : w < n
  · rw [if_pos h1]
    go_enter Try.func132, Try.ntmps132
    go_wp2_with (go_at_call 28; refine (CW.out _).mono ?_; rintro e w1 ⟨rfl, hb1⟩; have h2 := h.below hb1; obtain ⟨⟨c0, c1, c2, c3, c4⟩, f0, f1, f2, f3, f4⟩ := h2.cells)
    go_end0
    exact ⟨rfl, ⟨_, _, _, _, h2⟩, But.of_below hle hb1, (KeepU.refl _ _).below hb1⟩
  · have h1' : n ≤ w := by omega
    rw [if_neg h1]
    have hwr : IntKind.i64.wrap (w - u) = w - u := IntWalk.i64_in _ (by omega)
    clear h1
    by_cases h3 : w - u < n
    · rw [if_pos h3]
      have hen : (endG (d, l, u)).2.2 = 0 ∧ (endG (d, l, u)).2.1 = [] := ⟨endG_used _, endG_line _⟩
      have CE := Lib.hid (fun (X : World) (cs' lines' p' v') (h' : PgAt n₀ B X w (d, l, u) cs' lines' p' v') => pgend_any h' hu.1 hl hd)
      obtain ⟨E, hE⟩ : ∃ E, E = endG (d, l, u) := ⟨_, rfl⟩
      rw [← hE] at hen CE ⊢
      obtain ⟨d', l', u'⟩ := E
      dsimp only at hen
      obtain ⟨rfl, rfl⟩ := hen
      have hw0 : IntKind.i64.wrap (0 + n) = n := by rw [Int.zero_add]; exact IntWalk.i64_in _ (by omega)
      clear hE
      go_enter Try.func132, Try.ntmps132
      go_wp2_with (go_at_call 28; refine (CW.out _).mono ?_; rintro e w1 ⟨rfl, hb1⟩; have h2 := h.below hb1; obtain ⟨⟨c0, c1, c2, c3, c4⟩, f0, f1, f2, f3, f4⟩ := h2.cells)
      go_quiet (fail)
      go_wp2_with (go_at_call 107; refine (CE.out _ _ _ _ _ (h2.drewN nq)).mono ?_; rintro e w3 ⟨rfl, ⟨cs3, lines3, p3, v3, h3'⟩, hbut3, hku3⟩)
      go_wp2_with (go_at_call 92; refine (pgwrite_any h3' c (by simp; omega)).mono ?_; rintro e w4 ⟨rfl, ⟨cs4, p4, v4, h4⟩, hbut4, hku4⟩; obtain ⟨⟨d0, d1, d2, d3, d4⟩, g0, g1, g2, g3, g4⟩ := h4.cells)
      go_end0
      rw [HPUT.out]
      exact ⟨rfl, ⟨_, _, _, _, (by have := h4.used n; simpa using this)⟩, (((But.of_below hle hb1).trans (But.of_below (Nat.le_trans hle hb1.size) (below_drewN (Below.refl _ _) nq))).trans hbut3).trans hbut4 |>.setCell _ _, ((((KeepU.refl _ _).below hb1).below (below_drewN (Below.refl _ _) nq)).trans hku3).trans hku4 |>.setCell _ _⟩
    · rw [if_neg h3]
      have h3' : n ≤ w - u := by omega
      have hw0 : IntKind.i64.wrap (u + n) = u + n := IntWalk.i64_in _ (by omega)
      clear h3
      go_enter Try.func132, Try.ntmps132
      go_wp2_with (go_at_call 28; refine (CW.out _).mono ?_; rintro e w1 ⟨rfl, hb1⟩; have h2 := h.below hb1; obtain ⟨⟨c0, c1, c2, c3, c4⟩, f0, f1, f2, f3, f4⟩ := h2.cells)
      go_quiet (fail)
      go_wp2_with (go_at_call 92; refine (pgwrite_any (h2.drewN nq) c (by omega)).mono ?_; rintro e w4 ⟨rfl, ⟨cs4, p4, v4, h4⟩, hbut4, hku4⟩; obtain ⟨⟨d0, d1, d2, d3, d4⟩, g0, g1, g2, g3, g4⟩ := h4.cells)
      go_end0
      rw [HPUT.out]
      exact ⟨rfl, ⟨_, _, _, _, h4.used (u + n)⟩, (((But.of_below hle hb1).trans (But.of_below (Nat.le_trans hle hb1.size) (below_drewN (Below.refl _ _) nq))).trans hbut4).setCell _ _, ((((KeepU.refl _ _).below hb1).below (below_drewN (Below.refl _ _) nq)).trans hku4).setCell _ _⟩
end Go.Proofs.Ytmdpmjabjijjiaa
