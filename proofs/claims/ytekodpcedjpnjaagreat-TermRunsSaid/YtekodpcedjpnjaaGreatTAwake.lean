/- The program's terminal: the bytes that wait: came, taken. No condition but that they are not too many. The program's terminal: made, Write. No condition but that the counters are not at their ends and the bytes not too many. The program's terminal: New, and what it tells of itself. No condition. The law's example of a terminal: awake is true. No condition. -/
import Derived.Test.YtekodpcedjpnjaaGreatPT8
import Derived.Test.YtekodpcedjpnjaaGreatRune5
import Derived.Test.YtekodpcedjpnjaaGreatClus3
import Derived.Laws.AppendOwnNone
import Derived.Test.YtekodpcedjpnjaaGreatPT15
import Derived.Test.YtekodpcedjpnjaaGreatGrid9
import Derived.Test.YtekodpcedjpnjaaGreatGridE
import Derived.Test.YtekodpcedjpnjaaGreatStr
import Derived.Lib.SlBytesConst
namespace Go.Proofs.YtekodpcedjpnjaaGreat
set_option linter.unusedVariables false
set_option linter.unusedSimpArgs false
open Go.RowKit Go.Shelf Go.Maps
/-- The bytes that wait. -/
def Held (W : World) (n₀ : Nat) (hv : Value) (l : List UInt8) : Prop := W.ownsRow n₀ 5 1 hv l.length (u8v l)
theorem Held.type {W : World} {n₀ : Nat} {hv : Value} {l : List UInt8} (h : Held W n₀ hv l) : ∀ k, hv.ownBlock = some k → n₀ ≤ k ∧ ∃ cur, W.heap[k]? = some (.cells cur 5 (0, 0)) := own_cells h
/-- The terminal's blocks are none of the waiting bytes. -/
theorem TmAt.far {W : World} {b p q n₀ : Nat} {hv hw : Value} {t : TS} {l : List UInt8} (a : TmAt W b p q hv t) (h : Held W n₀ hw l) : hw.ownBlock ≠ some b ∧ hw.ownBlock ≠ some p ∧ hw.ownBlock ≠ some q := by
  refine ⟨fun e => ?_, fun e => ?_, fun e => ?_⟩
  · obtain ⟨_, cur, hc⟩ := h.type _ e
    rw [a.blk] at hc
    injection hc with h1
    injection h1 with _ h2
    exact absurd h2 (by decide)
  · obtain ⟨_, cur, hc⟩ := h.type _ e
    rw [a.g.head] at hc
    injection hc with h1
    injection h1 with _ h2
    exact absurd h2 (by decide)
  · obtain ⟨_, cur, hc⟩ := h.type _ e
    have hq : W.heap[q]? = _ := a.g.blk
    rw [hq] at hc
    injection hc with h1
    injection h1 with _ h2
    exact absurd h2 (by decide)
theorem TmAt.grow {W W' : World} {b p q n₀ : Nat} {hv hw : Value} {t : TS} {l : List UInt8} (a : TmAt W b p q hv t) (h : Held W n₀ hw l) (hg : W.grownBy W' hw.ownBlock) : TmAt W' b p q hv t := by
  obtain ⟨h1, h2, h3⟩ := a.far h
  have hl := a.lt
  exact ⟨(hg.block b hl.1 (fun e => h1 e.symm)).trans a.blk, { a.g with head := (hg.block p hl.2.1 (fun e => h2 e.symm)).trans a.g.head, blk := (hg.block q hl.2.2 (fun e => h3 e.symm)).trans a.g.blk }, a.bp, a.bq⟩
theorem grown_only {W W' : World} {r : Option Nat} {S : List Nat} (hg : W.grownBy W' r) (hr : ∀ k, r = some k → k ∈ S) : Only S W W' :=
  ⟨hg.os, hg.tape, hg.output, hg.size, fun k hk hs => hg.block k hk (fun e => hs (hr k e.symm))⟩
theorem Held.keep {W W' : World} {n₀ : Nat} {hv : Value} {l : List UInt8} {S : List Nat} (h : Held W n₀ hv l) (o : Only S W W') (hS : ∀ k, hv.ownBlock = some k → k ∉ S) : Held W' n₀ hv l := by
  rcases h with ⟨h0, h1 | ⟨g, cap, cur, h1, hg, hc, h2, h3, h4, h5⟩⟩
  · exact ⟨h0, .inl h1⟩
  · subst h1
    exact ⟨h0, .inr ⟨g, cap, cur, rfl, hg, o.heap hc (hS g rfl), h2, h3, h4, h5⟩⟩
theorem Held.bys {W : World} {n₀ g n c : Nat} {l : List UInt8} (h : Held W n₀ (.slice (some ⟨g, 0, none⟩) n c) l) : Bys W g 0 l ∧ l.length = n ∧ n ≤ c ∧ c ≤ maxLen := by
  have hs := own_shape h
  rcases hs with ⟨h1, _⟩ | ⟨g', c', h1, h2, h3, h4⟩
  · cases h1
  · simp only [Value.slice.injEq, Option.some.injEq, Addr.mk.injEq, true_and, and_true] at h1
    obtain ⟨rfl, rfl, rfl⟩ := h1
    obtain ⟨hr, _, hm⟩ := own_row_at h
    refine ⟨⟨h4, fun j hj => ?_⟩, rfl, h2, hm⟩
    obtain ⟨b, off, e, hb, hc⟩ := hr j (by simp [u8v]; exact hj)
    simp only [Option.some.injEq, Addr.mk.injEq] at e
    obtain ⟨rfl, rfl, _⟩ := e
    rw [hc]
    unfold u8v
    rw [nth_map _ 0 _ _ hj]
theorem bys_news {W : World} {g off : Nat} {l : List UInt8} (h : Bys W g off l) : ∀ j u, (u8v l)[j]? = some u → W.cell? ((⟨g, off, none⟩ : Addr).add j) = some u := fun j u hj => by
  have hl : j < l.length := by have := (List.getElem?_eq_some_iff.1 hj).1; simpa [u8v] using this
  have h1 := h.at_ j hl
  rw [Go.WideShapes.add_plain, h1, ← hj]
  unfold u8v
  rw [List.getElem?_map, List.getElem?_eq_getElem hl, nth_eq _ _ _ hl]
  rfl
theorem own_mem {r : Option Nat} {k : Nat} (h : r = some k) : k ∈ r.toList := by subst h; simp
theorem u8v_app (a b : List UInt8) : u8v (a ++ b) = u8v a ++ u8v b := by simp [u8v]
/-- What came or taken leaves: the bytes l wait. -/
def HeldP (b p q n₀ : Nat) (hv : Value) (t : TS) (l : List UInt8) (W : World) (e : Ending) (w' : World) : Prop :=
  e = .returned (.tuple #[]) ∧ ∃ hv', TmAt w' b p q hv' t ∧ Held w' n₀ hv' l ∧ Only (b :: hv.ownBlock.toList) W w' ∧ ∀ k, hv'.ownBlock = some k → hv.ownBlock = some k ∨ W.heap.size ≤ k
theorem TmAt.hv {W : World} {b p q : Nat} {hv : Value} {t : TS} (a : TmAt W b p q hv t) (v : Value) : TmAt (W.setCell ⟨b, 0, none⟩ v) b p q v t := a.put 0 v v t rfl rfl rfl rfl
theorem Held.set {W : World} {b p q n₀ : Nat} {hv hw : Value} {t : TS} {l : List UInt8} (h : Held W n₀ hw l) (a : TmAt W b p q hv t) (v : Value) : Held (W.setCell ⟨b, 0, none⟩ v) n₀ hw l :=
  h.keep (set_only W b 0 v) (fun k e => by simp only [List.mem_singleton]; rintro rfl; exact (a.far h).1 e)
set_option maxRecDepth 100000 in
set_option maxHeartbeats 4000000 in
theorem pcame_some {W : World} {b p q n₀ : Nat} {hv : Value} {t : TS} {l s : List UInt8} (a : TmAt W b p q hv t) (hh : Held W n₀ hv l) (hn₀ : n₀ ≤ W.heap.size) {g off n c : Nat} (hB : Bys W g off s) (hn : s.length = n) (hlen : l.length + s.length ≤ 1000000) :
    Calls Tryz.prog 111 #[.pointer (some ⟨b, 0, none⟩), .slice (some ⟨g, off, none⟩) n c] W (HeldP b p q n₀ hv t (l ++ s) W) := by
  obtain ⟨i0, hi, hz0, hz1, hz2⟩ := info_parts infoU8c
  obtain ⟨c0, c1, c2, c3, c4, c5, c6, c7, c8, c9, c10, c11, c12, c13, c14, c15, c16, fz⟩ := a.cells
  clear c1 c2 c3 c4 c5 c6 c7 c8 c9 c10 c11 c12 c13 c14 c15 c16
  have hnews := bys_news hB
  have AA := Lib.hid a
  have HH := Lib.hid hh
  have hlt := a.lt.1
  have HN := Lib.hid hn
  have hl2 : l.length + n ≤ 1000000 := by omega
  have hsh := own_shape hh
  have hfar := a.far hh
  have HFAR := Lib.hid hfar
  clear a hB hn hlen hfar
  rcases hsh with ⟨rfl, -⟩ | ⟨g', c', rfl, -⟩
  all_goals
    clear hh
    have FB := Lib.hid fz
    go_enter Tryz.func111, Tryz.ntmps111
    go_wp2_with (at_builtin; refine wpList_append_own_at _ rfl _ _ 61 rfl n₀ 5 i0 (.int .u8 0) 1 1 Tryz.underlying61 hi hz0 hz1 hz2 rfl (by decide) _ _ _ rfl HH.out ⟨g, off, none⟩ n c (u8v s) rfl (by rw [u8v_len, HN.out, Nat.mul_one]) hnews (u8v_one _) (by unfold maxLen; omega) (by omega) hn₀ ?_; intro v' w1 hown' hgrow _ hob; have a1 := AA.out.grow HH.out hgrow; have c0' := a1.cells.1; have fz' := a1.cells.2.2.2.2.2.2.2.2.2.2.2.2.2.2.2.2.2 0; have h1 : Held w1 n₀ v' (l ++ s) := (by unfold Held; rw [u8v_app, List.length_append, HN.out]; exact hown'); have HO := Lib.hid hown'; have HG := Lib.hid hgrow; have HOB := Lib.hid hob; clear hown' hgrow hob; obtain ⟨va, vc, hva⟩ := own_slice HO.out; subst hva)
    go_end0
    refine ⟨rfl, _, a1.hv _, h1.set a1 _, ?_, fun k e => ?_⟩
    · exact ((grown_only HG.out (fun k e => List.mem_cons_of_mem _ (own_mem e)) : Only (b :: _) W w1)).trans ((set_only _ _ _ _).mono (by simp))
    · rcases HOB.out with h2 | h2
      · exact .inl (h2.symm.trans e)
      · rw [h2] at e; cases e; exact .inr (Nat.le_refl _)
set_option maxRecDepth 100000 in
set_option maxHeartbeats 4000000 in
theorem pcame_none {W : World} {b p q n₀ : Nat} {hv : Value} {t : TS} {l : List UInt8} (a : TmAt W b p q hv t) (hh : Held W n₀ hv l) :
    Calls Tryz.prog 111 #[.pointer (some ⟨b, 0, none⟩), .slice none 0 0] W (HeldP b p q n₀ hv t l W) := by
  obtain ⟨i0, hi, hz0, hz1, hz2⟩ := info_parts infoU8c
  obtain ⟨c0, c1, c2, c3, c4, c5, c6, c7, c8, c9, c10, c11, c12, c13, c14, c15, c16, fz⟩ := a.cells
  clear c1 c2 c3 c4 c5 c6 c7 c8 c9 c10 c11 c12 c13 c14 c15 c16
  have AA := Lib.hid a
  have HH := Lib.hid hh
  have hsh := own_shape hh
  clear a
  rcases hsh with ⟨rfl, -⟩ | ⟨g', c', rfl, -⟩
  all_goals
    clear hh
    go_enter Tryz.func111, Tryz.ntmps111
    go_wp2_with (at_builtin; refine wpList_append_own_none rfl _ _ 61 rfl n₀ 5 i0 1 Tryz.underlying61 hi _ _ _ rfl HH.out rfl ?_)
    go_end0
    exact ⟨rfl, _, AA.out.hv _, HH.out.set AA.out _, (set_only _ _ _ _).mono (by simp), fun k e => .inl e⟩
set_option maxRecDepth 100000 in
set_option maxHeartbeats 4000000 in
theorem pcame_zero {W : World} {b p q n₀ : Nat} {hv : Value} {t : TS} {l : List UInt8} (a : TmAt W b p q hv t) (hh : Held W n₀ hv l) (hn₀ : n₀ ≤ W.heap.size) {ad : Addr} {c : Nat} (hlen : l.length ≤ 1000000) :
    Calls Tryz.prog 111 #[.pointer (some ⟨b, 0, none⟩), .slice (some ad) 0 c] W (HeldP b p q n₀ hv t l W) := by
  obtain ⟨i0, hi, hz0, hz1, hz2⟩ := info_parts infoU8c
  obtain ⟨c0, c1, c2, c3, c4, c5, c6, c7, c8, c9, c10, c11, c12, c13, c14, c15, c16, fz⟩ := a.cells
  clear c1 c2 c3 c4 c5 c6 c7 c8 c9 c10 c11 c12 c13 c14 c15 c16
  have AA := Lib.hid a
  have HH := Lib.hid hh
  have hlt := a.lt.1
  have hsh := own_shape hh
  have hfar := a.far hh
  have HFAR := Lib.hid hfar
  clear a hfar
  rcases hsh with ⟨rfl, -⟩ | ⟨g', c', rfl, -⟩
  all_goals
    clear hh
    have FB := Lib.hid fz
    go_enter Tryz.func111, Tryz.ntmps111
    go_wp2_with (at_builtin; refine wpList_append_own_at _ rfl _ _ 61 rfl n₀ 5 i0 (.int .u8 0) 1 1 Tryz.underlying61 hi hz0 hz1 hz2 rfl (by decide) _ _ _ rfl HH.out ad 0 c [] rfl rfl (fun j u hj => by simp at hj) (fun u hu => by simp at hu) (by unfold maxLen; omega) (by omega) hn₀ ?_; intro v' w1 hown' hgrow _ hob; have a1 := AA.out.grow HH.out hgrow; have c0' := a1.cells.1; have fz' := a1.cells.2.2.2.2.2.2.2.2.2.2.2.2.2.2.2.2.2 0; have h1 : Held w1 n₀ v' l := (by unfold Held; rw [Nat.add_zero, List.append_nil] at hown'; exact hown'); have HO := Lib.hid hown'; have HG := Lib.hid hgrow; have HOB := Lib.hid hob; clear hown' hgrow hob; obtain ⟨va, vc, hva⟩ := own_slice h1; subst hva)
    go_end0
    refine ⟨rfl, _, a1.hv _, h1.set a1 _, ?_, fun k e => ?_⟩
    · exact ((grown_only HG.out (fun k e => List.mem_cons_of_mem _ (own_mem e)) : Only (b :: _) W w1)).trans ((set_only _ _ _ _).mono (by simp))
    · rcases HOB.out with h2 | h2
      · exact .inl (h2.symm.trans e)
      · rw [h2] at e; cases e; exact .inr (Nat.le_refl _)
set_option maxRecDepth 100000 in
set_option maxHeartbeats 4000000 in
theorem ptaken_none {W : World} {b p q n₀ : Nat} {t : TS} (a : TmAt W b p q (.slice none 0 0) t) (hn₀ : n₀ ≤ W.heap.size) :
    Calls Tryz.prog 113 #[.pointer (some ⟨b, 0, none⟩), .int .i64 0] W (HeldP b p q n₀ (.slice none 0 0) t [] W) := by
  obtain ⟨i0, hi, hz0, hz1, hz2⟩ := info_parts infoU8c
  obtain ⟨c0, c1, c2, c3, c4, c5, c6, c7, c8, c9, c10, c11, c12, c13, c14, c15, c16, fz⟩ := a.cells
  clear c1 c2 c3 c4 c5 c6 c7 c8 c9 c10 c11 c12 c13 c14 c15 c16
  have hm := World.ownsRow_made (base := n₀) (e := 5) (size := 1) W #[] 0 hn₀ (by unfold maxLen; omega) rfl
  have b1 : Below W.heap.size W (W.alloc (.cells #[] 5)) := (Below.refl _ _).alloc (Nat.le_refl _) _
  have a1 := a.below b1
  have h1 : Held (W.alloc (.cells #[] 5)) n₀ (.slice (some ⟨W.heap.size, 0, none⟩) 0 0) [] := hm
  have HM := Lib.hid hm
  have c0a := a1.cells.1
  have fza := a1.cells.2.2.2.2.2.2.2.2.2.2.2.2.2.2.2.2.2
  clear a hm
  go_enter Tryz.func113, Tryz.ntmps113
  go_wp2_with (at_builtin; refine wpList_append_own_none rfl _ _ 61 rfl n₀ 5 i0 1 Tryz.underlying61 hi _ _ _ rfl HM.out rfl ?_)
  go_end0
  exact ⟨rfl, _, a1.hv _, h1.set a1 _, ((Only.of_below b1 : Only (b :: _) W _)).trans ((set_only _ _ _ _).mono (by simp)), fun k e => .inr (by cases e; exact Nat.le_refl _)⟩
set_option maxRecDepth 100000 in
set_option maxHeartbeats 4000000 in
theorem ptaken_some {W : World} {b p q n₀ g n c : Nat} {t : TS} {l : List UInt8} (a : TmAt W b p q (.slice (some ⟨g, 0, none⟩) n c) t) (hh : Held W n₀ (.slice (some ⟨g, 0, none⟩) n c) l) (hn₀ : n₀ ≤ W.heap.size) (k : Nat) (hk : k ≤ n) (hlen : l.length ≤ 1000000) :
    Calls Tryz.prog 113 #[.pointer (some ⟨b, 0, none⟩), .int .i64 k] W (HeldP b p q n₀ (.slice (some ⟨g, 0, none⟩) n c) t (l.drop k) W) := by
  obtain ⟨i0, hi, hz0, hz1, hz2⟩ := info_parts infoU8c
  obtain ⟨c0, c1, c2, c3, c4, c5, c6, c7, c8, c9, c10, c11, c12, c13, c14, c15, c16, fz⟩ := a.cells
  clear c1 c2 c3 c4 c5 c6 c7 c8 c9 c10 c11 c12 c13 c14 c15 c16
  obtain ⟨hB, hln, hnc, hcm⟩ := hh.bys
  unfold maxLen at hcm
  have hm := World.ownsRow_made (base := n₀) (e := 5) (size := 1) W #[] 0 hn₀ (by unfold maxLen; omega) rfl
  have b1 : Below W.heap.size W (W.alloc (.cells #[] 5)) := (Below.refl _ _).alloc (Nat.le_refl _) _
  have a1 := a.below b1
  have hB1 := (hB.drop k).below b1
  have hdl : (l.drop k).length = n - k := by rw [List.length_drop, hln]
  have hn64 : n ≤ 1000000 := by omega
  have hki : (k : Int) ≤ (n : Int) := by omega
  have hki2 : (k : Int) ≤ (c : Int) := by omega
  have FIN : ∀ (M : Nat) (v' : Value) (w1 : World), M = n - k → w1.ownsRow n₀ 5 1 v' (0 + M) ([] ++ u8v (l.drop k)) → (W.alloc (.cells #[] 5)).grownBy w1 (some W.heap.size) → (v'.ownBlock = some W.heap.size ∨ v'.ownBlock = some (W.alloc (.cells #[] 5)).heap.size) →
      TmAt w1 b p q (.slice (some ⟨g, 0, none⟩) n c) t ∧ Held w1 n₀ v' (l.drop k) ∧ Below W.heap.size W w1 ∧ (∀ j, v'.ownBlock = some j → W.heap.size ≤ j) ∧ ∃ va vc, v' = .slice va M vc := fun M v' w1 hM h1 h2 h3 => by
    rw [Nat.zero_add, List.nil_append] at h1
    have hx : Held (W.alloc (.cells #[] 5)) n₀ (.slice (some ⟨W.heap.size, 0, none⟩) 0 0) [] := hm
    refine ⟨a1.grow hx h2, ?_, b1.grown h2 (by simp) (fun j e => by cases e; exact Nat.le_refl _), fun j e => ?_, own_slice h1⟩
    · unfold Held; rw [hdl, ← hM]; exact h1
    · rcases h3 with h4 | h4
      · rw [h4] at e; cases e; exact Nat.le_refl _
      · rw [h4] at e; cases e; simp
  replace FIN := Lib.hid FIN
  have c0a := a1.cells.1
  have fza := a1.cells.2.2.2.2.2.2.2.2.2.2.2.2.2.2.2.2.2
  have HM := Lib.hid hm
  have HDL := Lib.hid hdl
  clear a hm hh hB b1 hln hlen hdl a1
  by_cases hcn : k = c
  all_goals
    have hnews : ∀ (o : Nat), (¬ k = c → o = k) → ∀ j u, (u8v (l.drop k))[j]? = some u → (W.alloc (.cells #[] 5)).cell? ((⟨g, o, none⟩ : Addr).add j) = some u := fun o ho j u hj => by
      by_cases hkc : k = c
      · have := (List.getElem?_eq_some_iff.1 hj).1
        rw [u8v_len, HDL.out] at this
        omega
      · rw [ho hkc]; exact bys_news hB1 j u hj
    go_enter Tryz.func113, Tryz.ntmps113
    go_wp2_with (at_builtin; refine wpList_append_own_at _ rfl _ _ 61 rfl n₀ 5 i0 (.int .u8 0) 1 1 Tryz.underlying61 hi hz0 hz1 hz2 rfl (by decide) _ _ _ rfl HM.out _ _ _ (u8v (l.drop k)) rfl (by rw [u8v_len, HDL.out]; omega) (hnews _ (by intro h; first | rfl | exact absurd hcn h)) (u8v_one _) (by unfold maxLen; omega) (by omega) (by simp; omega) ?_; intro v' w1 hown' hgrow _ hob; obtain ⟨a2, h2, b2, f2, va, vc, hva⟩ := FIN.out _ v' w1 (by omega) hown' hgrow hob; have c0' := a2.cells.1; have fz' := a2.cells.2.2.2.2.2.2.2.2.2.2.2.2.2.2.2.2.2 0; clear hown' hgrow hob; subst hva)
    go_end0
    try rw [← hcn]
    exact ⟨rfl, _, a2.hv _, h2.set a2 _, ((Only.of_below b2 : Only (b :: _) W _)).trans ((set_only _ _ _ _).mono (by simp)), fun j e => .inr (f2 j e)⟩
end Go.Proofs.YtekodpcedjpnjaaGreat
namespace Go.Proofs.YtekodpcedjpnjaaGreat
set_option linter.unusedVariables false
set_option linter.unusedSimpArgs false
open Go.RowKit Go.Shelf Go.Maps
theorem tmade_any {W : World} {b p q : Nat} {hv : Value} {t : TS} (a : TmAt W b p q hv t) : Calls Tryz.prog 110 #[.pointer (some ⟨b, 0, none⟩)] W fun e w' => e = .returned (.bool true) ∧ W = w' := by
  obtain ⟨c0, c1, c2, c3, c4, c5, c6, c7, c8, c9, c10, c11, c12, c13, c14, c15, c16, fz⟩ := a.cells
  go_enter Tryz.func110, Tryz.ntmps110
  go_wp2
  go_ret
  exact ⟨rfl, rfl⟩
/-- What must not be touched by what is written. -/
def Far (b q : Nat) (hv : Value) (k : Nat) : Prop := k ≠ b ∧ k ≠ q ∧ hv.ownBlock ≠ some k
/-- A part of what is written. -/
def PartV (W : World) (b q : Nat) (hv : Value) (v : Value) (s : List UInt8) : Prop :=
  (v = .slice none 0 0 ∧ s = []) ∨ (∃ ad c, v = .slice (some ad) 0 c ∧ s = []) ∨ ∃ g off n c, v = .slice (some ⟨g, off, none⟩) n c ∧ s.length = n ∧ Bys W g off s ∧ Far b q hv g
structure PartsAt (W : World) (b q : Nat) (hv : Value) (pa : Option Addr) (np : Nat) (P : List (List UInt8)) : Prop where
  len : P.length = np
  at_ : ∀ i s, P[i]? = some s → ∃ bb off v, pa = some ⟨bb, off, none⟩ ∧ bb < W.heap.size ∧ Far b q hv bb ∧ W.cell? ⟨bb, off + i, none⟩ = some v ∧ PartV W b q hv v s
def runP (x : TS × List UInt8) (s : List UInt8) : TS × List UInt8 := runT x.1 (x.2 ++ s)
/-- What Write leaves. -/
def WrSt (W : World) (b p q n₀ : Nat) (hv : Value) (x : TS × List UInt8) (w' : World) : Prop :=
  ∃ hv', TmAt w' b p q hv' x.1 ∧ Held w' n₀ hv' x.2 ∧ Only (b :: q :: hv.ownBlock.toList) W w' ∧ ∀ k, hv'.ownBlock = some k → hv.ownBlock = some k ∨ W.heap.size ≤ k
def WrPost (b p q n₀ : Nat) (hv : Value) (x : TS × List UInt8) (W : World) (e : Ending) (w' : World) : Prop := e = .returned (.tuple #[]) ∧ WrSt W b p q n₀ hv x w'
theorem Far.no {b q : Nat} {hv : Value} {k : Nat} (h : Far b q hv k) : k ∉ b :: q :: hv.ownBlock.toList := by
  intro hm
  rcases List.mem_cons.1 hm with h1 | h1
  · exact h.1 h1
  rcases List.mem_cons.1 h1 with h2 | h2
  · exact h.2.1 h2
  · apply h.2.2
    cases ho : hv.ownBlock with
    | none => rw [ho] at h2; simp at h2
    | some j => rw [ho] at h2; simp at h2; rw [h2]
/-- What was far stays far. -/
theorem Far.next {W : World} {b q : Nat} {hv hv' : Value} {k : Nat} (h : Far b q hv k) (hk : k < W.heap.size) (hh : ∀ k, hv'.ownBlock = some k → hv.ownBlock = some k ∨ W.heap.size ≤ k) : Far b q hv' k :=
  ⟨h.1, h.2.1, fun e => by rcases hh k e with h1 | h1; exact h.2.2 h1; omega⟩
/-- How much is counted, and how much waits. -/
structure Cnt (t : TS) (N : Nat) (x : TS × List UInt8) (m : Nat) : Prop where
  ok : TOk x.1
  gone : x.1.gone + x.2.length ≤ t.gone + N + m
  bells : x.1.bells + x.2.length ≤ t.bells + N + m
  len : x.2.length ≤ N + m
theorem run_cnt : ∀ (n : Nat) (t : TS) (b : List UInt8), b.length ≤ n → (runT t b).1.gone + (runT t b).2.length ≤ t.gone + b.length ∧ (runT t b).1.bells + (runT t b).2.length ≤ t.bells + b.length ∧ (runT t b).2.length ≤ b.length
  | n, t, b, hn => by
    by_cases h : (t.first b).2 = 0
    · rw [run_wait t b h]; exact ⟨Nat.le_refl _, Nat.le_refl _, Nat.le_refl _⟩
    · have hl := (t.first_le b).1
      have hc := t.first_cnt b
      cases n with
      | zero => omega
      | succ n =>
        rw [run_step t b h]
        have ih := run_cnt n (t.first b).1 (b.drop (t.first b).2) (by rw [List.length_drop]; omega)
        rw [List.length_drop] at ih
        omega
theorem Cnt.next {t : TS} {N m : Nat} {x : TS × List UInt8} (h : Cnt t N x m) (s : List UInt8) : Cnt t N (runP x s) (m + s.length) := by
  have h1 := run_cnt _ x.1 (x.2 ++ s) (Nat.le_refl _)
  rw [List.length_append] at h1
  have h2 := h.gone
  have h3 := h.bells
  have h4 := h.len
  unfold runP
  exact ⟨h.ok.run _, by omega, by omega, by omega⟩
theorem flat_take (P : List (List UInt8)) (i : Nat) (h : i < P.length) : (P.take (i + 1)).flatten.length = (P.take i).flatten.length + (nth [] P i).length ∧ (P.take (i + 1)).flatten.length ≤ P.flatten.length := by
  constructor
  · rw [List.take_succ_eq_append_getElem h, List.flatten_append, List.length_append, nth_eq _ _ _ h]; simp
  · conv => rhs; rw [← List.take_append_drop (i + 1) P, List.flatten_append, List.length_append]
    omega
theorem fold_take (P : List (List UInt8)) (x : TS × List UInt8) (i : Nat) (h : i < P.length) : (P.take (i + 1)).foldl runP x = runP ((P.take i).foldl runP x) (nth [] P i) := by
  rw [List.take_succ_eq_append_getElem h, List.foldl_append, nth_eq _ _ _ h]; rfl
theorem only_chain {S T : List Nat} {W A B : World} (h : Only S W A) (k : Only T A B) (hT : ∀ s ∈ T, s ∈ S ∨ W.heap.size ≤ s) : Only S W B :=
  ⟨k.os.trans h.os, k.tape.trans h.tape, k.output.trans h.output, Nat.le_trans h.size k.size, fun i hi hs => (k.block i (Nat.lt_of_lt_of_le hi h.size) (fun ht => (hT i ht).elim hs (fun hle => by omega))).trans (h.block i hi hs)⟩
theorem own_in {W : World} {hv hv' : Value} {S : List Nat} (h : ∀ k, hv'.ownBlock = some k → hv.ownBlock = some k ∨ W.heap.size ≤ k) (hS : ∀ k, hv.ownBlock = some k → k ∈ S ∨ W.heap.size ≤ k) : ∀ k ∈ hv'.ownBlock.toList, k ∈ S ∨ W.heap.size ≤ k := fun k hk => by
  have : hv'.ownBlock = some k := by
    cases ho : hv'.ownBlock with
    | none => rw [ho] at hk; simp at hk
    | some j => rw [ho] at hk; simp at hk; rw [hk]
  rcases h k this with h1 | h1
  · exact hS k h1
  · exact .inr h1
/-- Where the bytes are taken one after the other. -/
def InSt (X : World) (b p q g n : Nat) (hv : Value) (t : TS) (L : List UInt8) (k : Nat) (t' : TS) (wx : World) : Prop :=
  (k ≤ n ∧ TOk t' ∧ runT t L = runT t' (L.drop k) ∧ t'.gone ≤ t.gone + k ∧ t'.bells ≤ t.bells + k) ∧ TmAt wx b p q hv t' ∧ Only [b, q] X wx
def InEnd (X : World) (b p q n : Nat) (hv : Value) (t : TS) (L : List UInt8) (v : Value) (wx : World) : Prop :=
  ∃ (k : Nat) (t' : TS), v = .int .i64 k ∧ (k ≤ n ∧ runT t L = (t', L.drop k)) ∧ TmAt wx b p q hv t' ∧ Only [b, q] X wx
set_option maxRecDepth 100000 in
set_option maxHeartbeats 8000000 in
theorem pwrite_any {W : World} {b p q n₀ : Nat} {hv : Value} {t : TS} {l : List UInt8} (a : TmAt W b p q hv t) (hh : Held W n₀ hv l) (ok : TOk t) (hn₀ : n₀ ≤ W.heap.size) {pa : Option Addr} {np pc : Nat} {P : List (List UInt8)} (hP : PartsAt W b q hv pa np P)
    (hlen : l.length + P.flatten.length ≤ 100000) (hg : t.gone + 100000 < 4611686018427387904) (hbl : t.bells + 100000 < 4611686018427387904) (hnp : np ≤ 1000000) :
    Calls Tryz.prog 49 #[.pointer (some ⟨b, 0, none⟩), .slice pa np pc] W (WrPost b p q n₀ hv (P.foldl runP (t, l)) W) := by
  have CM := Lib.hid (tmade_any a)
  have h0 : WrSt W b p q n₀ hv (t, l) W := ⟨hv, a, hh, Only.refl _ _, fun k e => .inl e⟩
  have HC0 : Hid (Cnt t l.length (t, l) 0) := Lib.hid ⟨ok, by simp, by simp, by simp⟩
  have HFAR := Lib.hid hP
  have HN := Lib.hid hP.len
  have HLEN := Lib.hid hlen
  clear a hh ok hP hlen
  go_enter Tryz.func49, Tryz.ntmps49
  go_wp2_with (go_at_call 110; refine (CM.out).mono ?_; rintro e w1 ⟨rfl, rfl⟩)
  go_loopw [13] (fun x wr => ∃ i : Nat, i ≤ np ∧ x = .int .i64 i ∧ Hid (Cnt t l.length ((P.take i).foldl runP (t, l)) (P.take i).flatten.length) ∧ WrSt W b p q n₀ hv ((P.take i).foldl runP (t, l)) wr) (fun x _ => np - (intOf x).toNat)
  case atStart => exact ⟨0, Nat.zero_le _, rfl, HC0, h0⟩
  case round =>
    obtain ⟨i, hi, rfl, hcnt, hst⟩ := hrel
    by_cases hlt : i < np
    · have hiP : i < P.length := by rw [HN.out]; exact hlt
      have hPi : P[i]? = some (nth [] P i) := by rw [nth_eq _ _ _ hiP, List.getElem?_eq_getElem hiP]
      obtain ⟨bb, off, v, rfl, hbb, hfar, hcell, hpart⟩ := HFAR.out.at_ i _ hPi
      obtain ⟨hfl1, hfl2⟩ := flat_take P i hiP
      have hcn := hcnt.out.next (nth [] P i)
      rw [← hfl1] at hcn
      have hfold := fold_take P (t, l) i hiP
      obtain ⟨s, hs⟩ : ∃ s, s = nth [] P i := ⟨_, rfl⟩
      rw [← hs] at hpart hcn hfold hfl1
      rw [← hfold] at hcn
      have HCN := Lib.hid hcn
      obtain ⟨x, hx⟩ : ∃ x, x = (P.take i).foldl runP (t, l) := ⟨_, rfl⟩
      rw [← hx] at hfold hcnt hst
      have HFOLD := Lib.hid hfold
      obtain ⟨hv1, a1, h1, o1, f1⟩ := hst
      have hWs := o1.size
      obtain ⟨x1, x2⟩ := x
      dsimp only at a1 h1
      have hcg := hcnt.out.gone
      have hcb := hcnt.out.bells
      have hcl := hcnt.out.len
      have hcok := hcnt.out.ok
      dsimp only at hcg hcb hcl hcok
      have hl100 := HLEN.out
      have hxs : x2.length + s.length ≤ 100000 := by omega
      have hxg : x1.gone + (x2.length + s.length) < 4611686018427387904 := by omega
      have hxb : x1.bells + (x2.length + s.length) < 4611686018427387904 := by omega
      have hcellR : wr.cell? ⟨bb, off + i, none⟩ = some v := (cell_block (o1.block bb hbb hfar.no)).trans hcell
      have CA : Calls Tryz.prog 111 #[.pointer (some ⟨b, 0, none⟩), v] wr (HeldP b p q n₀ hv1 x1 (x2 ++ s) wr) := by
        rcases hpart with ⟨rfl, rfl⟩ | ⟨ad, c, rfl, rfl⟩ | ⟨g, o, n, c, rfl, hn, hB, hfg⟩
        · rw [List.append_nil]; exact pcame_none a1 h1
        · rw [List.append_nil]; exact pcame_zero a1 h1 (by omega) (by omega)
        · exact pcame_some a1 h1 (by omega) (hB.of_block (o1.block g hB.lt hfg.no) hWs) hn (by omega)
      have HCA := Lib.hid CA
      have HO1 := Lib.hid (And.intro o1 f1)
      clear hPi hfl1 hfl2 hcn hfold hx hs hcell hiP CA hpart hcg hcb hcl hl100 hcnt o1 f1 h1
      obtain ⟨L, hL⟩ : ∃ L, L = x2 ++ s := ⟨_, rfl⟩
      have hLl : L.length = x2.length + s.length := by rw [hL, List.length_append]
      rw [← hL] at HCA
      rw [← hLl] at hxs hxg hxb
      have HL := Lib.hid hL
      obtain ⟨n, hn⟩ : ∃ n, n = L.length := ⟨_, rfl⟩
      rw [← hn] at hxs hxg hxb
      have HNL := Lib.hid hn
      clear hL hLl hn
      have hlti : (i : Int) < (np : Int) := by omega
      go_upto_block 2 with (go_at_call 111; refine (HCA.out).mono ?_; rintro e w2 ⟨rfl, hv2, a2, h2, o2, f2⟩)
      have HO2 := Lib.hid (And.intro o2 f2)
      have HH2 := Lib.hid h2
      have hw2 := o2.size
      clear o2 f2
      go_cut [6] (fun y wx => InEnd w2 b p q n hv2 x1 L y wx)
      case first =>
        have AA2 := Lib.hid a2
        have hshape := own_shape h2
        have hh2 := h2
        clear h2
        rcases hshape with ⟨ehv, hl0⟩ | ⟨g, c, ehv, hgc⟩
        · have hL0 : L = [] := List.eq_nil_of_length_eq_zero hl0
          have HE : Hid (InEnd w2 b p q n hv2 x1 L (.int .i64 0) w2) := Lib.hid ⟨0, x1, rfl, ⟨Nat.zero_le _, by rw [hL0]; rfl⟩, a2, Only.refl _ _⟩
          obtain ⟨c0, c1, c2, c3, c4, c5, c6, c7, c8, c9, c10, c11, c12, c13, c14, c15, c16, fz⟩ := a2.cells
          rw [ehv] at c0
          clear hh2 hl0 hL0 ehv
          go_wp2
          go_loop [6] (fun y => y = .int .i64 0) (fun _ => 0)
          case atStart => rfl
          case round =>
            obtain rfl := hrel
            go_wp2
            go_meet
            exact HE.out
        · rw [ehv] at hh2
          obtain ⟨hB2, hLn, hnc, hcm⟩ := hh2.bys
          unfold maxLen at hcm
          have hfar2 := a2.far HH2.out
          rw [ehv] at hfar2
          have hgb : g ≠ b := fun e => hfar2.1 (by rw [e]; rfl)
          have hgq : g ≠ q := fun e => hfar2.2.2 (by rw [e]; rfl)
          have hn := HNL.out
          rw [← hn] at hnc ehv
          have HB2 := Lib.hid hB2
          have EHV := Lib.hid ehv
          obtain ⟨c0, c1, c2, c3, c4, c5, c6, c7, c8, c9, c10, c11, c12, c13, c14, c15, c16, fz⟩ := a2.cells
          rw [ehv] at c0
          have st0 : InSt w2 b p q g n hv2 x1 L 0 x1 w2 := ⟨⟨Nat.zero_le _, hcok, rfl, Nat.le_refl _, Nat.le_refl _⟩, a2, Only.refl _ _⟩
          clear hh2 hB2 hLn hfar2 hn hgc ehv
          go_wp2
          go_loopw [6] (fun y wx => ∃ (k : Nat) (t' : TS), y = .int .i64 k ∧ InSt w2 b p q g n hv2 x1 L k t' wx) (fun y _ => n - (intOf y).toNat)
          case atStart => exact ⟨0, x1, rfl, st0⟩
          case round =>
            obtain ⟨k, t', rfl, ⟨hk, hok, hrun, hgo, hbe⟩, aV, oV⟩ := hrel
            have HRUN := Lib.hid hrun
            clear hrun c0 c1 c2 c3 c4 c5 c6 c7 c8 c9 c10 c11 c12 c13 c14 c15 c16 fz st0
            obtain ⟨c0, c1, c2, c3, c4, c5, c6, c7, c8, c9, c10, c11, c12, c13, c14, c15, c16, fz⟩ := aV.cells
            rw [EHV.out] at c0
            by_cases hkn : k < n
            · obtain ⟨ch, r, hcr⟩ : ∃ ch r, L.drop k = ch :: r := ⟨L[k]'(by rw [← HNL.out]; exact hkn), L.drop (k + 1), List.drop_eq_getElem_cons (by rw [← HNL.out]; exact hkn)⟩
              have hrl : r.length + 1 = n - k := by
                have := congrArg List.length hcr
                rw [List.length_drop, ← HNL.out, List.length_cons] at this
                omega
              have hBk := (HB2.out.drop k).of_block (oV.block g HB2.out.lt (by simp; exact ⟨hgb, hgq⟩)) oV.size
              rw [hcr] at hBk
              have CT := ptake_any (cap := c - k) aV hok (by omega) (by omega) hBk hrl (by omega) (by omega) hgb hgq
              rw [← hcr] at CT
              have hfle := t'.first_le (L.drop k)
              rw [List.length_drop, ← HNL.out] at hfle
              have hcnt' := t'.first_cnt (L.drop k)
              have hokf := hok.first (L.drop k)
              have hstep := run_step t' (L.drop k)
              have hwait := run_wait t' (L.drop k)
              obtain ⟨z, hz⟩ : ∃ z, z = t'.first (L.drop k) := ⟨_, rfl⟩
              rw [← hz] at CT hfle hcnt' hokf hstep hwait
              obtain ⟨tn, m⟩ := z
              dsimp only at CT hfle hcnt' hokf hstep hwait
              replace CT := Lib.hid CT
              have HSTEP := Lib.hid hstep
              have HWAIT := Lib.hid hwait
              have hkc : ¬ k = c := by omega
              have hkci : (k : Int) ≤ (n : Int) := by omega
              have hkcj : (k : Int) ≤ (c : Int) := by omega
              have HAV := Lib.hid aV
              clear hcr hrl hBk hz hstep hwait aV
              go_wp2_with fail
              refine (CT.out).mono ?_
              rintro e w4 ⟨rfl, a4, o4⟩
              dsimp only at a4
              have oV4 := oV.trans o4
              by_cases hm : m = 0
              · have hw := HWAIT.out hm
                have ht := (hfle.2 hm).1
                have HE : Hid (InEnd w2 b p q n hv2 x1 L (.int .i64 (k : Int)) w4) := Lib.hid ⟨k, t', rfl, ⟨hk, by rw [HRUN.out]; exact hw⟩, by rw [← ht]; exact a4, oV4⟩
                subst hm
                clear hw ht hfle
                go_wp2
                go_meet
                exact HE.out
              · have hmi : ((m : Int) == 0) = false := by simp; omega
                have hru : runT x1 L = runT tn (L.drop (k + m)) := by
                  rw [HRUN.out, HSTEP.out hm, List.drop_drop]
                have st1 : InSt w2 b p q g n hv2 x1 L (k + m) tn w4 := ⟨⟨by omega, hokf, hru, by omega, by omega⟩, a4, oV4⟩
                have HST1 := Lib.hid st1
                have hkm : k + m ≤ n := by omega
                have hm0 : 0 < m := by omega
                clear hru st1 hm hfle hcnt' hgo hbe
                go_wp2
                go_roundw
                case rel => exact ⟨k + m, tn, by go_num, HST1.out⟩
                case measure => simp [intOf]; omega
            · obtain rfl : k = n := by omega
              have HE : Hid (InEnd w2 b p q k hv2 x1 L (.int .i64 (k : Int)) wr) := Lib.hid ⟨k, t', rfl, ⟨Nat.le_refl _, by
                have hd : L.drop k = [] := List.drop_eq_nil_of_le (by rw [← HNL.out]; exact Nat.le_refl _)
                rw [HRUN.out, hd]; rfl⟩, aV, oV⟩
              go_wp2
              go_meet
              exact HE.out
      case rest =>
        obtain ⟨k, t', rfl, ⟨hk, hrun⟩, aE, oE⟩ := hcut
        have hfar2 := a2.far h2
        have hE : Held wc n₀ hv2 L := h2.keep oE (fun j e hj => by
          simp only [List.mem_cons, List.not_mem_nil, or_false] at hj
          rcases hj with rfl | rfl
          · exact hfar2.1 e
          · exact hfar2.2.2 e)
        have hEs := oE.size
        have CK : Calls Tryz.prog 113 #[.pointer (some ⟨b, 0, none⟩), .int .i64 (k : Int)] wc (HeldP b p q n₀ hv2 t' (L.drop k) wc) := by
          rcases own_shape hE with ⟨rfl, hl0⟩ | ⟨g, c, rfl, _⟩
          · have hL0 : L = [] := List.eq_nil_of_length_eq_zero hl0
            have hk0 : k = 0 := by have := HNL.out; omega
            subst hk0
            rw [hL0]
            exact ptaken_none aE (by omega)
          · exact ptaken_some aE hE (by omega) k (by rw [← HNL.out]; exact hk) (by rw [← HNL.out]; omega)
        have FIN : Hid (∀ w5, (∃ hv', TmAt w5 b p q hv' t' ∧ Held w5 n₀ hv' (L.drop k) ∧ Only (b :: hv2.ownBlock.toList) wc w5 ∧ ∀ k, hv'.ownBlock = some k → hv2.ownBlock = some k ∨ wc.heap.size ≤ k) → WrSt W b p q n₀ hv ((P.take (i + 1)).foldl runP (t, l)) w5) := Lib.hid (fun w5 ⟨hv5, a5, h5, o5, f5⟩ => by
          obtain ⟨o1, f1⟩ := HO1.out
          obtain ⟨o2, f2⟩ := HO2.out
          have hx : (P.take (i + 1)).foldl runP (t, l) = (t', L.drop k) := by
            rw [HFOLD.out]
            unfold runP
            dsimp only
            rw [← HL.out]
            exact hrun
          rw [hx]
          have f12 : ∀ j, hv2.ownBlock = some j → hv.ownBlock = some j ∨ W.heap.size ≤ j := fun j e => by
            rcases f2 j e with h | h
            · exact f1 j h
            · exact .inr (by omega)
          have hS : ∀ k, hv.ownBlock = some k → k ∈ b :: q :: hv.ownBlock.toList ∨ W.heap.size ≤ k := fun k e => .inl (List.mem_cons_of_mem _ (List.mem_cons_of_mem _ (own_mem e)))
          have c1 := only_chain o1 o2 (fun s hs => by
            rcases List.mem_cons.1 hs with h | h
            · exact .inl (by rw [h]; simp)
            · exact own_in f1 hS s h)
          have c2 := only_chain c1 oE (fun s hs => .inl (by
            simp only [List.mem_cons, List.not_mem_nil, or_false] at hs
            rcases hs with rfl | rfl <;> simp))
          have c3 := only_chain c2 o5 (fun s hs => by
            rcases List.mem_cons.1 hs with h | h
            · exact .inl (by rw [h]; simp)
            · exact own_in f12 hS s h)
          exact ⟨hv5, a5, h5, c3, fun j e => by
            rcases f5 j e with h | h
            · exact f12 j h
            · exact .inr (by omega)⟩)
        have HCK := Lib.hid CK
        clear CK hrun hE hfar2 a2 h2 aE oE
        refine (‹∀ (a : Act) (w : World), Code.wp Tryz.prog _ _ a w → _›) _ _ ?_
        go_wp2_with (go_at_call 113; refine (HCK.out).mono ?_; rintro e w5 ⟨rfl, h5⟩)
        go_roundw
        case rel => exact ⟨i + 1, hlt, by go_num, HCN, FIN.out w5 h5⟩
        case measure => simp [intOf]; omega
    · obtain rfl : i = np := by omega
      have HT : Hid (P.take i = P) := Lib.hid (List.take_of_length_le (by rw [HN.out]; exact Nat.le_refl _))
      go_wp2
      go_end0
      refine ⟨rfl, ?_⟩
      rw [HT.out] at hst
      exact hst
end Go.Proofs.YtekodpcedjpnjaaGreat
namespace Go.Proofs.YtekodpcedjpnjaaGreat
set_option linter.unusedVariables false
set_option linter.unusedSimpArgs false
open Go.RowKit Go.Shelf Go.Maps
set_option maxRecDepth 100000 in
set_option maxHeartbeats 4000000 in
theorem tnew_ok (w h : Nat) (hd : 1 ≤ w ∧ w ≤ 500 ∧ 1 ≤ h ∧ h ≤ 500) (W : World) : Calls Tryz.prog 47 #[.int .i64 w, .int .i64 h] W fun e w' =>
    ∃ b p q, e = .returned (.tuple #[.pointer (some ⟨b, 0, none⟩), .int .i64 0]) ∧ TmAt w' b p q (.slice none 0 0) (TS.new w h) ∧ (W.heap.size ≤ b ∧ W.heap.size ≤ p ∧ W.heap.size ≤ q) ∧ Below W.heap.size W w' := by
  have CN := Lib.hid (new_ok (w : Int) (h : Int) (by omega) W)
  obtain ⟨h1, h2, h3, h4⟩ := hd
  go_enter Tryz.func47, Tryz.ntmps47
  go_wp2_with fail
  refine (CN.out).mono ?_
  rintro e X ⟨p, rfl, hp, g, hb⟩
  simp only [Int.toNat_natCast] at g
  have hpl : p < X.heap.size := (Array.getElem?_eq_some_iff.1 g.head).1
  have hql := g.blk.lt
  have hbs := hb.size
  have b1 : Below X.heap.size X (X.alloc (.cells (pCells (.slice none 0 0) p (TS.new w h)) 185)) := (Below.refl _ _).alloc (Nat.le_refl _) _
  have aN : TmAt (X.alloc (.cells (pCells (.slice none 0 0) p (TS.new w h)) 185)) X.heap.size p W.heap.size (.slice none 0 0) (TS.new w h) := by
    refine ⟨World.alloc_heap_new X _, ?_, by omega, by omega⟩
    have g2 := g.only (Only.of_below b1 : Only [] X _) (by simp) (by simp)
    have e1 : (TS.new w h).R.flatten = List.replicate (w * h) GC.blank := blank_flat w h
    rw [e1]
    exact g2
  have HAN := Lib.hid aN
  have HB := Lib.hid (bto hb b1 hbs)
  clear aN b1 CN
  go_wp2
  go_ret2
  exact ⟨_, _, _, rfl, HAN.out, ⟨hbs, hp, Nat.le_refl _⟩, HB.out⟩
set_option maxRecDepth 100000 in
set_option maxHeartbeats 4000000 in
theorem tnew_bad (w h : Int) (hd : ¬ (1 ≤ w ∧ w ≤ 500 ∧ 1 ≤ h ∧ h ≤ 500)) (W : World) : Calls Tryz.prog 47 #[.int .i64 w, .int .i64 h] W fun e w' => e = .returned (.tuple #[.pointer none, .int .i64 50]) ∧ W = w' := by
  by_cases h1 : w < 1
  · clear hd
    go_enter Tryz.func47, Tryz.ntmps47
    go_wp2
    go_ret2
    exact ⟨rfl, rfl⟩
  by_cases h2 : 500 < w
  · clear hd
    go_enter Tryz.func47, Tryz.ntmps47
    go_wp2
    go_ret2
    exact ⟨rfl, rfl⟩
  by_cases h3 : h < 1
  · clear hd
    go_enter Tryz.func47, Tryz.ntmps47
    go_wp2
    go_ret2
    exact ⟨rfl, rfl⟩
  have h4 : 500 < h := by omega
  clear hd
  go_enter Tryz.func47, Tryz.ntmps47
  go_wp2
  go_ret2
  exact ⟨rfl, rfl⟩
set_option maxRecDepth 100000 in
set_option maxHeartbeats 4000000 in
theorem tpending_any {W : World} {b p q : Nat} {hv : Value} {t : TS} (a : TmAt W b p q hv t) : Calls Tryz.prog 57 #[.pointer (some ⟨b, 0, none⟩)] W fun e w' => e = .returned (.bool t.pend) ∧ W = w' := by
  have CM := Lib.hid (tmade_any a)
  obtain ⟨c0, c1, c2, c3, c4, c5, c6, c7, c8, c9, c10, c11, c12, c13, c14, c15, c16, fz⟩ := a.cells
  clear a
  go_enter Tryz.func57, Tryz.ntmps57
  go_wp2_with (go_at_call 110; refine (CM.out).mono ?_; rintro e w1 ⟨rfl, rfl⟩)
  go_ret
  exact ⟨rfl, rfl⟩
set_option maxRecDepth 100000 in
set_option maxHeartbeats 4000000 in
theorem tmarked_any {W : World} {b p q : Nat} {hv : Value} {t : TS} (a : TmAt W b p q hv t) : Calls Tryz.prog 116 #[.pointer (some ⟨b, 0, none⟩)] W fun e w' => e = .returned (.bool t.marked) ∧ W = w' := by
  have CM := Lib.hid (tmade_any a)
  obtain ⟨c0, c1, c2, c3, c4, c5, c6, c7, c8, c9, c10, c11, c12, c13, c14, c15, c16, fz⟩ := a.cells
  clear a
  go_enter Tryz.func116, Tryz.ntmps116
  go_wp2_with (go_at_call 110; refine (CM.out).mono ?_; rintro e w1 ⟨rfl, rfl⟩)
  go_ret
  exact ⟨rfl, rfl⟩
set_option maxRecDepth 100000 in
set_option maxHeartbeats 4000000 in
theorem tbells_any {W : World} {b p q : Nat} {hv : Value} {t : TS} (a : TmAt W b p q hv t) : Calls Tryz.prog 117 #[.pointer (some ⟨b, 0, none⟩)] W fun e w' => e = .returned (.int .i64 (t.bells : Int)) ∧ W = w' := by
  have CM := Lib.hid (tmade_any a)
  obtain ⟨c0, c1, c2, c3, c4, c5, c6, c7, c8, c9, c10, c11, c12, c13, c14, c15, c16, fz⟩ := a.cells
  clear a
  go_enter Tryz.func117, Tryz.ntmps117
  go_wp2_with (go_at_call 110; refine (CM.out).mono ?_; rintro e w1 ⟨rfl, rfl⟩)
  go_ret
  exact ⟨rfl, rfl⟩
set_option maxRecDepth 100000 in
set_option maxHeartbeats 4000000 in
theorem tgone_any {W : World} {b p q : Nat} {hv : Value} {t : TS} (a : TmAt W b p q hv t) : Calls Tryz.prog 118 #[.pointer (some ⟨b, 0, none⟩)] W fun e w' => e = .returned (.int .i64 (t.gone : Int)) ∧ W = w' := by
  have CM := Lib.hid (tmade_any a)
  obtain ⟨c0, c1, c2, c3, c4, c5, c6, c7, c8, c9, c10, c11, c12, c13, c14, c15, c16, fz⟩ := a.cells
  clear a
  go_enter Tryz.func118, Tryz.ntmps118
  go_wp2_with (go_at_call 110; refine (CM.out).mono ?_; rintro e w1 ⟨rfl, rfl⟩)
  go_ret
  exact ⟨rfl, rfl⟩
set_option maxRecDepth 100000 in
set_option maxHeartbeats 4000000 in
theorem tseen_any {W : World} {b p q : Nat} {hv : Value} {t : TS} (a : TmAt W b p q hv t) : Calls Tryz.prog 115 #[.pointer (some ⟨b, 0, none⟩)] W fun e w' => e = .returned (.bool t.seen) ∧ W = w' := by
  have CM := Lib.hid (tmade_any a)
  obtain ⟨c0, c1, c2, c3, c4, c5, c6, c7, c8, c9, c10, c11, c12, c13, c14, c15, c16, fz⟩ := a.cells
  clear a
  go_enter Tryz.func115, Tryz.ntmps115
  go_wp2_with (go_at_call 110; refine (CM.out).mono ?_; rintro e w1 ⟨rfl, rfl⟩)
  go_ret
  exact ⟨ret_bool (by simp), rfl⟩
set_option maxRecDepth 100000 in
set_option maxHeartbeats 4000000 in
theorem twaits_any {n₀ : Nat} {l : List UInt8} {W : World} {b p q : Nat} {hv : Value} {t : TS} (a : TmAt W b p q hv t) (hh : Held W n₀ hv l) : Calls Tryz.prog 58 #[.pointer (some ⟨b, 0, none⟩)] W fun e w' => e = .returned (.int .i64 (l.length : Nat)) ∧ W = w' := by
  have CM := Lib.hid (tmade_any a)
  obtain ⟨c0, c1, c2, c3, c4, c5, c6, c7, c8, c9, c10, c11, c12, c13, c14, c15, c16, fz⟩ := a.cells
  obtain ⟨n, hn⟩ : ∃ n, n = l.length := ⟨_, rfl⟩
  obtain ⟨va, vc, hva⟩ := own_slice hh
  rw [← hn] at hva ⊢
  rw [hva] at c0
  clear a hh hn hva
  go_enter Tryz.func58, Tryz.ntmps58
  go_wp2_with (go_at_call 110; refine (CM.out).mono ?_; rintro e w1 ⟨rfl, rfl⟩)
  go_ret
  exact ⟨rfl, rfl⟩
set_option maxRecDepth 100000 in
set_option maxHeartbeats 4000000 in
theorem tcursor_any {W : World} {b p q : Nat} {hv : Value} {t : TS} (a : TmAt W b p q hv t) : Calls Tryz.prog 55 #[.pointer (some ⟨b, 0, none⟩)] W fun e w' => e = .returned (.tuple #[.int .i64 (t.row : Int), .int .i64 (t.col : Int)]) ∧ Below W.heap.size W w' := by
  have CM := Lib.hid (tmade_any a)
  obtain ⟨c0, c1, c2, c3, c4, c5, c6, c7, c8, c9, c10, c11, c12, c13, c14, c15, c16, fz⟩ := a.cells
  clear a
  go_enter Tryz.func55, Tryz.ntmps55
  go_wp2_with (go_at_call 110; refine (CM.out).mono ?_; rintro e w1 ⟨rfl, rfl⟩)
  refine wp_region_still_lit (by kernel_rfl) (by kernel_rfl) ?_
  repeat still_step
  refine wpStill_nil ?_
  go_wp2
  go_ret2
  exact ⟨rfl, (Below.refl _ _).drew⟩
set_option maxRecDepth 100000 in
set_option maxHeartbeats 4000000 in
theorem tsize_any {W : World} {b p q : Nat} {hv : Value} {t : TS} (a : TmAt W b p q hv t)  : Calls Tryz.prog 56 #[.pointer (some ⟨b, 0, none⟩)] W fun e w' => e = .returned (.tuple #[.int .i64 (t.W : Int), .int .i64 (t.H : Int)]) ∧ Below W.heap.size W w' := by
  have CM := Lib.hid (tmade_any a)
  have CG := Lib.hid (gsize_any a.g)
  obtain ⟨c0, c1, c2, c3, c4, c5, c6, c7, c8, c9, c10, c11, c12, c13, c14, c15, c16, fz⟩ := a.cells
  clear a
  go_enter Tryz.func56, Tryz.ntmps56
  go_wp2_with (first
    | (go_at_call 110; refine (CM.out).mono ?_; rintro e w1 ⟨rfl, rfl⟩)
    | (refine (CG.out).mono ?_; rintro e w2 ⟨rfl, hb⟩))
  go_ret2
  exact ⟨rfl, hb⟩
set_option maxRecDepth 100000 in
set_option maxHeartbeats 4000000 in
theorem ttext_any {W : World} {b p q : Nat} {hv : Value} {t : TS} (a : TmAt W b p q hv t) (ok : TO0 t) (r : Nat) (hr : r < t.H) : Calls Tryz.prog 120 #[.pointer (some ⟨b, 0, none⟩), .int .i64 (r : Int)] W fun e w' => e = .returned (.string (S (trimL (textL (lineL t.R.flatten t.W r))))) ∧ Below W.heap.size W w' := by
  have CM := Lib.hid (tmade_any a)
  have CG := Lib.hid (gtext_ok a.g (fun c hc => ok.ro.flat c hc) (r : Int) (by omega) (by omega))
  obtain ⟨c0, c1, c2, c3, c4, c5, c6, c7, c8, c9, c10, c11, c12, c13, c14, c15, c16, fz⟩ := a.cells
  clear a
  go_enter Tryz.func120, Tryz.ntmps120
  go_wp2_with (first
    | (go_at_call 110; refine (CM.out).mono ?_; rintro e w1 ⟨rfl, rfl⟩)
    | (refine (CG.out).mono ?_; rintro e w2 ⟨rfl, hb⟩))
  go_ret
  exact ⟨rfl, hb⟩
set_option maxRecDepth 100000 in
set_option maxHeartbeats 4000000 in
theorem trow_any {W : World} {b p q : Nat} {hv : Value} {t : TS} (a : TmAt W b p q hv t) (r : Nat) (hr : r < t.H) : Calls Tryz.prog 119 #[.pointer (some ⟨b, 0, none⟩), .int .i64 (r : Int)] W fun e w' => e = .returned (.slice (some ⟨W.heap.size, 0, none⟩) t.W t.W) ∧ GBlk w' W.heap.size (lineL t.R.flatten t.W r) ∧ Below W.heap.size W w' := by
  have CM := Lib.hid (tmade_any a)
  have CG := Lib.hid (row_ok a.g (r : Int) (by omega) (by omega))
  obtain ⟨c0, c1, c2, c3, c4, c5, c6, c7, c8, c9, c10, c11, c12, c13, c14, c15, c16, fz⟩ := a.cells
  clear a
  go_enter Tryz.func119, Tryz.ntmps119
  go_wp2_with (first
    | (go_at_call 110; refine (CM.out).mono ?_; rintro e w1 ⟨rfl, rfl⟩)
    | (refine (CG.out).mono ?_; rintro e w2 ⟨rfl, g2, hb⟩))
  go_ret
  exact ⟨rfl, g2, hb⟩
end Go.Proofs.YtekodpcedjpnjaaGreat
namespace Go.Proofs.YtekodpcedjpnjaaGreat
set_option linter.unusedVariables false
set_option linter.unusedSimpArgs false
open Go.RowKit Go.Shelf Go.Maps
def awP : List (List UInt8) := [[97, 98, 99], [100, 7]]
theorem aw_run : (awP.foldl runP (TS.new 3 2, [])).1.row = 1 ∧ (awP.foldl runP (TS.new 3 2, [])).1.col = 1 ∧ (awP.foldl runP (TS.new 3 2, [])).1.bells = 1 ∧ (awP.foldl runP (TS.new 3 2, [])).1.seen = true ∧
    trimL (textL (lineL (awP.foldl runP (TS.new 3 2, [])).1.R.flatten (awP.foldl runP (TS.new 3 2, [])).1.W 0)) = [97, 98, 99] ∧ trimL (textL (lineL (awP.foldl runP (TS.new 3 2, [])).1.R.flatten (awP.foldl runP (TS.new 3 2, [])).1.W 1)) = [100] ∧ (awP.foldl runP (TS.new 3 2, [])).1.H = 2 := by
  refine ⟨by kernel_rfl, by kernel_rfl, by kernel_rfl, by kernel_rfl, by kernel_rfl, by kernel_rfl, by kernel_rfl⟩
theorem runP_ok {x : TS × List UInt8} (k : TOk x.1) (s : List UInt8) : TOk (runP x s).1 := k.run _
set_option maxRecDepth 100000 in
set_option maxHeartbeats 4000000 in
theorem awake05_any (W : World) : Calls Tryz.prog 51 #[] W fun e w' => e = .returned (.bool true) ∧ Below W.heap.size W w' := by
  have CN := Lib.hid (tnew_ok 3 2 (by omega) W)
  have CB := Lib.hid (fun X => tnew_bad 0 1 (by omega) X)
  have ok0 : TOk (TS.new 3 2) := TOk.new (by omega) (by omega) (by omega) (by omega)
  have okx : TOk (awP.foldl runP (TS.new 3 2, [])).1 := runP_ok (runP_ok ok0 _) _
  obtain ⟨r1, r2, r3, r4, r5, r6, r7⟩ := aw_run
  obtain ⟨x, hx⟩ : ∃ x, x = awP.foldl runP (TS.new 3 2, []) := ⟨_, rfl⟩
  rw [← hx] at okx r1 r2 r3 r4 r5 r6 r7
  have HX := Lib.hid hx
  have HR := Lib.hid (And.intro okx (And.intro r1 (And.intro r2 (And.intro r3 (And.intro r4 (And.intro r5 (And.intro r6 r7)))))))
  clear hx okx r1 r2 r3 r4 r5 r6 r7
  have q1 : ((S [97, 98, 99]).toList == [97, 98, 99]) = true := by rw [S_toList]; rfl
  have q2 : ((S [100]).toList == [100]) = true := by rw [S_toList]; rfl
  have kc := fun (w : World) (C : Array Value) (n c : Nat) => Lib.run_convert_bytes_const (P := Tryz.prog) w 61 5 C n c Tryz.underlying61 Tryz.underlying5
  go_enter Tryz.func51, Tryz.ntmps51
  go_wp2_with fail
  refine (CN.out).mono ?_
  rintro e X ⟨b, p, q, rfl, a, hz, hb⟩
  have hl := a.lt
  have hXs := hb.size
  have OK0 := Lib.hid ok0
  clear ok0 CN
  have kc2 : (convert 61 61 (.slice (some ⟨X.heap.size + 1, 0, none⟩) 2 2)).run Tryz.prog ((X.alloc (.cells #[.int .u8 97, .int .u8 98, .int .u8 99] 5 (3, 4))).alloc (.cells #[.int .u8 100, .int .u8 7] 5)) = .ok (.slice (some ⟨X.heap.size + 1, 0, none⟩) 2 2) ((X.alloc (.cells #[.int .u8 97, .int .u8 98, .int .u8 99] 5 (3, 4))).alloc (.cells #[.int .u8 100, .int .u8 7] 5 (2, 3))) := by
    have h := kc (X.alloc (.cells #[.int .u8 97, .int .u8 98, .int .u8 99] 5 (3, 4))) #[.int .u8 100, .int .u8 7] 2 2
    rw [World.size_alloc] at h
    exact h
  obtain ⟨Y1, hY1⟩ : ∃ Y, X.alloc (.cells #[.int .u8 97, .int .u8 98, .int .u8 99] 5 (3, 4)) = Y := ⟨_, rfl⟩
  obtain ⟨Y2, hY2⟩ : ∃ Y, Y1.alloc (.cells #[.int .u8 100, .int .u8 7] 5 (2, 3)) = Y := ⟨_, rfl⟩
  obtain ⟨Y3, hY3⟩ : ∃ Y, Y2.alloc (.cells #[.slice (some ⟨X.heap.size, 0, none⟩) 3 3, .slice (some ⟨X.heap.size + 1, 0, none⟩) 2 2] 61) = Y := ⟨_, rfl⟩
  have s1 : Y1.heap.size = X.heap.size + 1 := by rw [← hY1]; simp
  have s2 : Y2.heap.size = X.heap.size + 1 + 1 := by rw [← hY2]; simp [s1]
  have s3 : Y3.heap.size = X.heap.size + 1 + 1 + 1 := by rw [← hY3]; simp [s2]
  have b1 : Below X.heap.size X Y1 := by rw [← hY1]; exact (Below.refl _ _).alloc (Nat.le_refl _) _
  have b2 : Below (X.heap.size + 1) Y1 Y2 := by rw [← hY2]; exact (Below.refl _ _).alloc (by omega) _
  have b3 : Below (X.heap.size + 1 + 1) Y2 Y3 := by rw [← hY3]; exact (Below.refl _ _).alloc (by omega) _
  have k1 : Y3.heap[X.heap.size]? = some (.cells #[.int .u8 97, .int .u8 98, .int .u8 99] 5 (3, 4)) := (b3.block _ (by omega)).trans ((b2.block _ (by omega)).trans (by rw [← hY1]; exact World.alloc_heap_new X _))
  have k2 : Y3.heap[X.heap.size + 1]? = some (.cells #[.int .u8 100, .int .u8 7] 5 (2, 3)) := (b3.block _ (by omega)).trans (by rw [← hY2, ← s1]; exact World.alloc_heap_new Y1 _)
  have k3 : Y3.heap[X.heap.size + 1 + 1]? = some (.cells #[.slice (some ⟨X.heap.size, 0, none⟩) 3 3, .slice (some ⟨X.heap.size + 1, 0, none⟩) 2 2] 61 (0, 0)) := by rw [← hY3, ← s2]; exact World.alloc_heap_new Y2 _
  have hB3 : Below X.heap.size X Y3 := (b1.trans (b2.mono (by omega))).trans (b3.mono (by omega))
  have a3 := a.below hB3
  have hBW : Below W.heap.size W Y3 := bto hb hB3 hXs
  have P1 : PartsAt Y3 b q (.slice none 0 0) (some ⟨X.heap.size + 1 + 1, 0, none⟩) 2 awP := ⟨rfl, fun i s hs => by
    have hno : ∀ k, (Value.slice none 0 0).ownBlock ≠ some k := fun k => by simp [Value.ownBlock]
    match i, hs with
    | 0, hs =>
      simp only [awP, List.getElem?_cons_zero, Option.some.injEq] at hs
      subst hs
      refine ⟨_, _, _, rfl, by omega, ⟨by omega, by omega, hno _⟩, by rw [cell_of_row Y3 _ _ _ _ _ k3]; rfl, .inr (.inr ⟨_, _, _, _, rfl, rfl, ⟨by omega, fun j hj => ?_⟩, ⟨by omega, by omega, hno _⟩⟩)⟩
      rw [cell_of_row Y3 _ _ _ _ _ k1]
      match j, hj with
      | 0, _ => rfl
      | 1, _ => rfl
      | 2, _ => rfl
    | 1, hs =>
      simp only [awP, List.getElem?_cons_succ, List.getElem?_cons_zero, Option.some.injEq] at hs
      subst hs
      refine ⟨_, _, _, rfl, by omega, ⟨by omega, by omega, hno _⟩, by rw [cell_of_row Y3 _ _ _ _ _ k3]; rfl, .inr (.inr ⟨_, _, _, _, rfl, rfl, ⟨by omega, fun j hj => ?_⟩, ⟨by omega, by omega, hno _⟩⟩)⟩
      rw [cell_of_row Y3 _ _ _ _ _ k2]
      match j, hj with
      | 0, _ => rfl
      | 1, _ => rfl
    | i + 2, hs => simp [awP] at hs⟩
  have hh3 : Held Y3 W.heap.size (.slice none 0 0) [] := World.ownsRow_nil _ _ _ _
  have cw := pwrite_any (np := 2) (pc := 2) a3 hh3 OK0.out (by omega) P1 (by decide) (by decide) (by decide) (by omega)
  rw [← HX.out] at cw
  have CW := Lib.hid cw
  have HY1 := Lib.hid hY1
  have HY2 := Lib.hid hY2
  have HY3 := Lib.hid hY3
  clear hY1 hY2 hY3 s1 s2 s3 b1 b2 b3 k1 k2 k3 P1 cw hh3 a3
  go_wp2_with fail
  rw [HY1.out, HY2.out, HY3.out]
  refine (CW.out).mono ?_
  rintro e Z ⟨rfl, hv5, a5, h5, o5, f5⟩
  obtain ⟨okx, r1, r2, r3, r4, r5, r6, r7⟩ := HR.out
  have B5 : Below W.heap.size W Z := hBW.trans (o5.below (by simp [Value.ownBlock]; omega) hBW.size)
  have CC := Lib.hid (fun (V : World) (hV : Below Z.heap.size Z V) => (tcursor_any (a5.below hV)))
  have CT0 := Lib.hid (fun (V : World) (hV : Below Z.heap.size Z V) => (ttext_any (a5.below hV) okx.to0 0 (by omega)))
  have CT1 := Lib.hid (fun (V : World) (hV : Below Z.heap.size Z V) => (ttext_any (a5.below hV) okx.to0 1 (by omega)))
  have CBe := Lib.hid (fun (V : World) (hV : Below Z.heap.size Z V) => (tbells_any (a5.below hV)))
  have CSe := Lib.hid (fun (V : World) (hV : Below Z.heap.size Z V) => (tseen_any (a5.below hV)))
  rw [r1, r2] at CC
  rw [r5] at CT0
  rw [r6] at CT1
  rw [r3] at CBe
  rw [r4] at CSe
  clear okx r1 r2 r3 r4 r5 r6 r7 a a5 h5 f5 o5
  go_wp2_with (first
    | (go_at_call 55; refine (CC.out _ (Below.refl _ _)).mono ?_; rintro e Z1 ⟨rfl, hz1⟩)
    | (go_at_call 47; refine (CB.out _).mono ?_; rintro e Z2 ⟨rfl, rfl⟩)
    | (go_at_call_of 120 (Value.int IntKind.i64 0); refine (CT0.out _ hz1).mono ?_; rintro e Z3 ⟨rfl, hz3⟩; have B3 := bto hz1 hz3 hz1.size)
    | (go_at_call_of 120 (Value.int IntKind.i64 1); refine (CT1.out _ B3).mono ?_; rintro e Z4 ⟨rfl, hz4⟩; have B4 := bto B3 hz4 B3.size)
    | (go_at_call 117; refine (CBe.out _ B4).mono ?_; rintro e Z5 ⟨rfl, rfl⟩)
    | (go_at_call 115; refine (CSe.out _ B4).mono ?_; rintro e Z6 ⟨rfl, rfl⟩))
  go_ret
  exact ⟨rfl, bto B5 B4 B5.size⟩
end Go.Proofs.YtekodpcedjpnjaaGreat
