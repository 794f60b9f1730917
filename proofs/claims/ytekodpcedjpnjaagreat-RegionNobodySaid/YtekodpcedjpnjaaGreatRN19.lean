/- The grid's iterator Rows, beside which three blocks must abide: the grid's two and the closure's box. No condition. -/
import Derived.Test.YtekodpcedjpnjaaGreatRN05
import Derived.Test.YtekodpcedjpnjaaGreatRN07
set_option linter.unusedVariables false
set_option linter.unusedSimpArgs false
namespace Go.Proofs.YtekodpcedjpnjaaGreat
open Go.RowKit Go.Maps
attribute [local go_sem] Oper.semAt_some
structure KP (A B C : Nat) (W W' : World) : Prop where
  a : W'.heap[A]? = W.heap[A]?
  b : W'.heap[B]? = W.heap[B]?
  c : W'.heap[C]? = W.heap[C]?
  size : W.heap.size ≤ W'.heap.size
theorem KP.refl (A B C : Nat) (W : World) : KP A B C W W := ⟨rfl, rfl, rfl, Nat.le_refl _⟩
theorem KP.trans {A B C : Nat} {u v w : World} (h : KP A B C u v) (k : KP A B C v w) : KP A B C u w := ⟨k.a.trans h.a, k.b.trans h.b, k.c.trans h.c, Nat.le_trans h.size k.size⟩
theorem KP.of_below {A B C n : Nat} {W W' : World} (h : Below n W W') (ha : A < n) (hb : B < n) (hc : C < n) : KP A B C W W' := ⟨h.block A ha, h.block B hb, h.block C hc, h.size⟩
theorem KP.put {A B C : Nat} {w : World} (ha : A < w.heap.size) (hb : B < w.heap.size) (hc : C < w.heap.size) (W : World) (l : Nat) (o o' : Obj) (hl : w.heap.size ≤ l) (h : W.heap[l]? = some o) (h1 : o.isCells = false) (h2 : o.isWalk = false) : KP A B C W (W.putObj l o') :=
  KP.of_below (belowK_b (Nat.le_refl _) W l o o' hl h h1 h2) ha hb hc
theorem cell_same {W W' : World} {b o : Nat} (h : W'.heap[b]? = W.heap[b]?) : W'.cell? ⟨b, o, none⟩ = W.cell? ⟨b, o, none⟩ := by unfold World.cell?; dsimp only; rw [h]
theorem rowsK_any (p : Nat) (W : World) : Calls Tryz.prog 99 #[.pointer (some ⟨p, 0, none⟩)] W fun e w' =>
    e = .returned (.func (.func 167) #[] #[.pointer (some ⟨W.heap.size, 0, none⟩)]) ∧ W.alloc (.cells #[.pointer (some ⟨p, 0, none⟩)] 138) = w' := by
  go_enter Tryz.func99, Tryz.ntmps99
  go_wp2
  go_ret
  exact ⟨rfl, rfl⟩
def RowK (n₀ : Nat) (L : List GC) (w : Nat) (pre : List (Nat × Nat)) (x : Nat × Nat) (W : World) : Prop := x.1 = pre.length ∧ n₀ ≤ x.2 ∧ GBlk W x.2 (lineL L w x.1)
set_option maxRecDepth 100000 in
set_option maxHeartbeats 2000000 in
theorem rowsK_seq {w0 : World} {p q w h : Nat} {L : List GC} (g : GridAt w0 p q w h L) (Bx : Nat) (hbx : Bx < w0.heap.size)
    (hcx : w0.cell? ⟨Bx, 0, none⟩ = some (.pointer (some ⟨p, 0, none⟩))) (m : Nat) (hm : 1 ≤ m) :
    SeqX Fence.wide m Tryz.prog 167 #[.pointer (some ⟨Bx, 0, none⟩)] (fun x : Nat × Nat => #[.int .i64 x.1, .slice (some ⟨x.2, 0, none⟩) w w]) (KP p q Bx) (RowK w0.heap.size L w) (fun ys => ys.length = h) (fun pre => pre.length ≤ h) h w0 := by
  intro l J Jx W hW0 hJ hJx hY h0
  have hp : p < w0.heap.size := (Array.getElem?_eq_some_iff.1 g.head).1
  have hq : q < w0.heap.size := g.blk.lt
  have hW := KP.of_below hW0 hp hq hbx
  have hh := g.h2
  clear hW0
  refine callsIn_of_wp Tryz.func167 rfl trivial ?_ rfl
  simp only [Tryz.ntmps167, List.size_toArray, List.length_cons, List.length_nil, Nat.reduceAdd, Nat.reduceSub, Array.replicate_succ, Array.replicate_zero, List.push_toArray, List.append_toArray, List.nil_append, List.cons_append]
  have hx0 := (cell_same hW.c).trans hcx
  have gW : GridAt W p q w h L := ⟨hW.a.trans g.head, hW.b.trans g.blk, g.ne, g.len, g.w1, g.w2, g.h1, g.h2⟩
  have CM := Lib.hid (made_any gW)
  gi_wp2_with (refine ⟨trivial, ?_⟩; gi_at_call 150; refine (callsIn_wide.2 (CM.out)).mono ?_; rintro e w' ⟨rfl, rfl⟩)
  gi_loopw [3] (fun i wr => ∃ ys : List (Nat × Nat), ys.length ≤ h ∧ i = .int .i64 (ys.length : Nat) ∧ J ys wr ∧ KP p q Bx W wr) (fun i _ => h - (intOf i).toNat)
  case atStart => exact ⟨[], Nat.zero_le _, rfl, h0, KP.refl _ _ _ _⟩
  case round =>
    obtain ⟨ys, hk, rfl, hJs, hnx⟩ := hrel
    have hbw := hW.trans hnx
    have hx := (cell_same hbw.c).trans hcx
    have gr : GridAt wr p q w h L := ⟨hbw.a.trans g.head, hbw.b.trans g.blk, g.ne, g.len, g.w1, g.w2, g.h1, g.h2⟩
    obtain ⟨c0, c1, c2⟩ := gr.cells
    obtain ⟨k, hkk⟩ : ∃ k, k = ys.length := ⟨_, rfl⟩
    rw [← hkk] at hk ⊢
    have HK := Lib.hid hkk
    clear hkk hx0
    have hsz := hbw.size
    by_cases hlt : k < h
    · have CR := row_ok gr (k : Int) (by omega) (by omega)
      simp only [Int.toNat_natCast] at CR
      have CR := Lib.hid CR
      gi_wp2_with (refine ⟨trivial, ?_⟩; gi_at_call 168; refine (callsIn_wide.2 (CR.out)).mono ?_; rintro e w2 ⟨rfl, b2, l2⟩; obtain ⟨fn, tmps, assign, body, hy, hR⟩ := hY ys (k, wr.heap.size) w2 (hJ _ _ _ none hJs (grown_of_below04 l2) (fun r e => by cases e)) ⟨HK.out, by show w0.heap.size ≤ wr.heap.size; omega, b2⟩ (by rw [← HK.out]; exact hlt); dsimp only at hy)
      refine hR.mono ?_
      rintro e W3 (⟨rfl, hJ3, hk3⟩ | ⟨rfl, hJx3⟩)
      · gi_wp2
        go_roundw
        case rel => exact ⟨ys ++ [(k, wr.heap.size)], by simp; have := HK.out; omega, by simp; have := HK.out; omega, hJ3, (hnx.trans (KP.of_below l2 (by omega) (by omega) (by omega))).trans hk3⟩
        case measure => simp [intOf]; omega
      · gi_wp2
        refine bodyPost_ret (results_none rfl _ _ _) rfl ?_
        exact ⟨⟨_, rfl⟩, .inr ⟨_, by simp; have := HK.out; omega, hJx3⟩⟩
    · gi_wp2
      go_end0
      exact ⟨⟨_, rfl⟩, .inl ⟨ys, by have := HK.out; omega, hJs⟩⟩
end Go.Proofs.YtekodpcedjpnjaaGreat
