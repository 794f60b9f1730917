/- The grid's iterator; two rows of cells compared. -/
import Derived.Test.YtekodpcedjpnjaaGridE
import Derived.Test.YtekodpcedjpnjaaGrid16
import Derived.Test.YtekodpcedjpnjaaRangeX
namespace Go.Proofs.Ytekodpcedjpnjaa
set_option linter.unusedVariables false
set_option linter.unusedSimpArgs false
open Go.RowKit Go.Maps
attribute [local go_sem] Oper.semAt_some
theorem rows_any (p : Nat) (W : World) : Calls Try.prog 54 #[.pointer (some ⟨p, 0, none⟩)] W fun e w' =>
    e = .returned (.func (.func 88) #[] #[.pointer (some ⟨W.heap.size, 0, none⟩)]) ∧ W.alloc (.cells #[.pointer (some ⟨p, 0, none⟩)] 23) = w' := by
  go_enter Try.func54, Try.ntmps54
  go_wp2
  go_ret
  exact ⟨rfl, rfl⟩
/-- What a row of the iterator is told to be. -/
def RowX (n₀ : Nat) (L : List GC) (w : Nat) (pre : List (Nat × Nat)) (x : Nat × Nat) (W : World) : Prop := x.1 = pre.length ∧ n₀ ≤ x.2 ∧ GBlk W x.2 (lineL L w x.1)
set_option maxRecDepth 100000 in
set_option maxHeartbeats 2000000 in
theorem rows1_seq {w0 : World} {p q w h : Nat} {L : List GC} (g : GridAt w0 p q w h L) (Bx n₀ : Nat) (hn₀ : n₀ ≤ w0.heap.size) (hp : p < n₀) (hq : q < n₀) (hbx : Bx < n₀)
    (hcx : w0.cell? ⟨Bx, 0, none⟩ = some (.pointer (some ⟨p, 0, none⟩))) (m : Nat) (hm : 1 ≤ m) :
    SeqX Fence.wide m Try.prog 88 #[.pointer (some ⟨Bx, 0, none⟩)] (fun x : Nat × Nat => #[.int .i64 x.1, .slice (some ⟨x.2, 0, none⟩) w w]) (Below n₀) (RowX n₀ L w) (fun ys => ys.length = h) (fun pre => pre.length ≤ h) h w0 := by
  intro l J Jx W hW0 hJ hJx hY h0
  have hW := hW0.mono hn₀
  have hh := g.h2
  clear hW0
  refine callsIn_of_wp Try.func88 rfl trivial ?_ rfl
  simp only [Try.ntmps88, List.size_toArray, List.length_cons, List.length_nil, Nat.reduceAdd, Nat.reduceSub, Array.replicate_succ, Array.replicate_zero, List.push_toArray, List.append_toArray, List.nil_append, List.cons_append]
  have hx0 := (hW.cell (p := ⟨Bx, 0, none⟩) hbx).trans hcx
  have gW : GridAt W p q w h L := ⟨(hW.block p hp).trans g.head, (hW.block q hq).trans g.blk, g.ne, g.len, g.w1, g.w2, g.h1, g.h2⟩
  have CM := Lib.hid (made_any gW)
  gi_wp2_with (refine ⟨trivial, ?_⟩; gi_at_call 53; refine (callsIn_wide.2 (CM.out)).mono ?_; rintro e w' ⟨rfl, rfl⟩)
  gi_loopw [3] (fun i wr => ∃ ys : List (Nat × Nat), ys.length ≤ h ∧ i = .int .i64 (ys.length : Nat) ∧ J ys wr ∧ Below n₀ W wr) (fun i _ => h - (intOf i).toNat)
  case atStart => exact ⟨[], Nat.zero_le _, rfl, h0, Below.refl _ _⟩
  case round =>
    obtain ⟨ys, hk, rfl, hJs, hnx⟩ := hrel
    have hbw := hW.trans hnx
    have hx := (hbw.cell (p := ⟨Bx, 0, none⟩) hbx).trans hcx
    have gr : GridAt wr p q w h L := ⟨(hbw.block p hp).trans g.head, (hbw.block q hq).trans g.blk, g.ne, g.len, g.w1, g.w2, g.h1, g.h2⟩
    obtain ⟨c0, c1, c2⟩ := gr.cells
    obtain ⟨k, hkk⟩ : ∃ k, k = ys.length := ⟨_, rfl⟩
    rw [← hkk] at hk ⊢
    have HK := Lib.hid hkk
    clear hkk hx0
    have hsz := hbw.size
    by_cases hlt : k < h
    · have CR := row_ok gr (k : Int) (by omega) (by omega)
      simp only [Int.toNat_natCast] at CR
      have CR := Lib.hid CR
      gi_wp2_with (refine ⟨trivial, ?_⟩; gi_at_call 18; refine (callsIn_wide.2 (CR.out)).mono ?_; rintro e w2 ⟨rfl, b2, l2⟩; obtain ⟨fn, tmps, assign, body, hy, hR⟩ := hY ys (k, wr.heap.size) w2 (hJ _ _ _ none hJs (grown_of_below04 l2) (fun r e => by cases e)) ⟨HK.out, by show n₀ ≤ wr.heap.size; omega, b2⟩ (by rw [← HK.out]; exact hlt); dsimp only at hy)
      refine hR.mono ?_
      rintro e W3 (⟨rfl, hJ3, hk3⟩ | ⟨rfl, hJx3⟩)
      · gi_wp2
        go_roundw
        case rel => exact ⟨ys ++ [(k, wr.heap.size)], by simp; have := HK.out; omega, by simp; have := HK.out; omega, hJ3, (hnx.trans (l2.mono (by omega))).trans hk3⟩
        case measure => simp [intOf]; omega
      · gi_wp2
        refine bodyPost_ret (results_none rfl _ _ _) rfl ?_
        exact ⟨⟨_, rfl⟩, .inr ⟨_, by simp; have := HK.out; omega, hJx3⟩⟩
    · gi_wp2
      go_end0
      exact ⟨⟨_, rfl⟩, .inl ⟨ys, by have := HK.out; omega, hJs⟩⟩
end Go.Proofs.Ytekodpcedjpnjaa
