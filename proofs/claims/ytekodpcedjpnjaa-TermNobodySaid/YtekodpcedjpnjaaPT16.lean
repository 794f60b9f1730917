/- The program's terminal: the bytes that wait: came, taken. No condition but that they are not too many. -/
import Derived.Test.YtekodpcedjpnjaaPT1
import Derived.Test.YtekodpcedjpnjaaRune5
import Derived.Test.YtekodpcedjpnjaaClus3
import Derived.Laws.AppendOwnNone
namespace Go.Proofs.Ytekodpcedjpnjaa
set_option linter.unusedVariables false
set_option linter.unusedSimpArgs false
open Go.RowKit Go.Shelf Go.Maps
theorem grown_setCell (W : World) (b o : Nat) (v : Value) : W.grownBy (W.setCell ⟨b, o, none⟩ v) (some b) :=
  ⟨rfl, rfl, rfl, by simp [World.setCell], fun k _ hne => Below.heap_setCell _ _ _ _ (fun e => hne (by rw [e]))⟩
/-- The bytes that wait. -/
def Held (W : World) (n₀ : Nat) (hv : Value) (l : List UInt8) : Prop := W.ownsRow n₀ 5 1 hv l.length (u8v l)
theorem Held.type {W : World} {n₀ : Nat} {hv : Value} {l : List UInt8} (h : Held W n₀ hv l) : ∀ k, hv.ownBlock = some k → n₀ ≤ k ∧ ∃ cur, W.heap[k]? = some (.cells cur 5 (0, 0)) := own_cells h
/-- The terminal's blocks are none of the waiting bytes. -/
theorem TmAt.far {W : World} {b p q n₀ : Nat} {hv hw : Value} {t : TS} {l : List UInt8} (a : TmAt W b p q hv t) (h : Held W n₀ hw l) : hw.ownBlock ≠ some b ∧ hw.ownBlock ≠ some p ∧ hw.ownBlock ≠ some q := by
  refine ⟨fun e => ?_, fun e => ?_, fun e => ?_⟩
  · obtain ⟨_, cur, hc⟩ := h.type _ e
    rw [a.blk] at hc
    injection hc with h1
    injection h1 with _ h2
    exact absurd h2 (by decide)
  · obtain ⟨_, cur, hc⟩ := h.type _ e
    rw [a.g.head] at hc
    injection hc with h1
    injection h1 with _ h2
    exact absurd h2 (by decide)
  · obtain ⟨_, cur, hc⟩ := h.type _ e
    have hq : W.heap[q]? = _ := a.g.blk
    rw [hq] at hc
    injection hc with h1
    injection h1 with _ h2
    exact absurd h2 (by decide)
theorem TmAt.grow {W W' : World} {b p q n₀ : Nat} {hv hw : Value} {t : TS} {l : List UInt8} (a : TmAt W b p q hv t) (h : Held W n₀ hw l) (hg : W.grownBy W' hw.ownBlock) : TmAt W' b p q hv t := by
  obtain ⟨h1, h2, h3⟩ := a.far h
  have hl := a.lt
  exact ⟨(hg.block b hl.1 (fun e => h1 e.symm)).trans a.blk, { a.g with head := (hg.block p hl.2.1 (fun e => h2 e.symm)).trans a.g.head, blk := (hg.block q hl.2.2 (fun e => h3 e.symm)).trans a.g.blk }, a.bp, a.bq⟩
theorem grown_only {W W' : World} {r : Option Nat} {S : List Nat} (hg : W.grownBy W' r) (hr : ∀ k, r = some k → k ∈ S) : Only S W W' :=
  ⟨hg.os, hg.tape, hg.output, hg.size, fun k hk hs => hg.block k hk (fun e => hs (hr k e.symm))⟩
theorem Held.keep {W W' : World} {n₀ : Nat} {hv : Value} {l : List UInt8} {S : List Nat} (h : Held W n₀ hv l) (o : Only S W W') (hS : ∀ k, hv.ownBlock = some k → k ∉ S) : Held W' n₀ hv l := by
  rcases h with ⟨h0, h1 | ⟨g, cap, cur, h1, hg, hc, h2, h3, h4, h5⟩⟩
  · exact ⟨h0, .inl h1⟩
  · subst h1
    exact ⟨h0, .inr ⟨g, cap, cur, rfl, hg, o.heap hc (hS g rfl), h2, h3, h4, h5⟩⟩
theorem Held.bys {W : World} {n₀ g n c : Nat} {l : List UInt8} (h : Held W n₀ (.slice (some ⟨g, 0, none⟩) n c) l) : Bys W g 0 l ∧ l.length = n ∧ n ≤ c ∧ c ≤ maxLen := by
  have hs := own_shape h
  rcases hs with ⟨h1, _⟩ | ⟨g', c', h1, h2, h3, h4⟩
  · cases h1
  · simp only [Value.slice.injEq, Option.some.injEq, Addr.mk.injEq, true_and, and_true] at h1
    obtain ⟨rfl, rfl, rfl⟩ := h1
    obtain ⟨hr, _, hm⟩ := own_row_at h
    refine ⟨⟨h4, fun j hj => ?_⟩, rfl, h2, hm⟩
    obtain ⟨b, off, e, hb, hc⟩ := hr j (by simp [u8v]; exact hj)
    simp only [Option.some.injEq, Addr.mk.injEq] at e
    obtain ⟨rfl, rfl, _⟩ := e
    rw [hc]
    unfold u8v
    rw [nth_map _ 0 _ _ hj]
theorem bys_news {W : World} {g off : Nat} {l : List UInt8} (h : Bys W g off l) : ∀ j u, (u8v l)[j]? = some u → W.cell? ((⟨g, off, none⟩ : Addr).add j) = some u := fun j u hj => by
  have hl : j < l.length := by have := (List.getElem?_eq_some_iff.1 hj).1; simpa [u8v] using this
  have h1 := h.at_ j hl
  rw [Go.WideShapes.add_plain, h1, ← hj]
  unfold u8v
  rw [List.getElem?_map, List.getElem?_eq_getElem hl, nth_eq _ _ _ hl]
  rfl
theorem own_mem {r : Option Nat} {k : Nat} (h : r = some k) : k ∈ r.toList := by subst h; simp
theorem u8v_app (a b : List UInt8) : u8v (a ++ b) = u8v a ++ u8v b := by simp [u8v]
/-- What came or taken leaves: the bytes l wait. -/
def HeldP (b p q n₀ : Nat) (hv : Value) (t : TS) (l : List UInt8) (W : World) (e : Ending) (w' : World) : Prop :=
  e = .returned (.tuple #[]) ∧ ∃ hv', TmAt w' b p q hv' t ∧ Held w' n₀ hv' l ∧ Only (b :: hv.ownBlock.toList) W w' ∧ ∀ k, hv'.ownBlock = some k → hv.ownBlock = some k ∨ W.heap.size ≤ k
theorem TmAt.hv {W : World} {b p q : Nat} {hv : Value} {t : TS} (a : TmAt W b p q hv t) (v : Value) : TmAt (W.setCell ⟨b, 0, none⟩ v) b p q v t := a.put 0 v v t rfl rfl rfl rfl
theorem Held.set {W : World} {b p q n₀ : Nat} {hv hw : Value} {t : TS} {l : List UInt8} (h : Held W n₀ hw l) (a : TmAt W b p q hv t) (v : Value) : Held (W.setCell ⟨b, 0, none⟩ v) n₀ hw l :=
  h.keep (set_only W b 0 v) (fun k e => by simp only [List.mem_singleton]; rintro rfl; exact (a.far h).1 e)
set_option maxRecDepth 100000 in
set_option maxHeartbeats 4000000 in
theorem pcame_some {W : World} {b p q n₀ : Nat} {hv : Value} {t : TS} {l s : List UInt8} (a : TmAt W b p q hv t) (hh : Held W n₀ hv l) (hn₀ : n₀ ≤ W.heap.size) {g off n c : Nat} (hB : Bys W g off s) (hn : s.length = n) (hlen : l.length + s.length ≤ 1000000) :
    Calls Try.prog 79 #[.pointer (some ⟨b, 0, none⟩), .slice (some ⟨g, off, none⟩) n c] W (HeldP b p q n₀ hv t (l ++ s) W) := by
  obtain ⟨i0, hi, hz0, hz1, hz2⟩ := info_parts infoU8c
  obtain ⟨c0, c1, c2, c3, c4, c5, c6, c7, c8, c9, c10, c11, c12, c13, c14, c15, c16, fz⟩ := a.cells
  clear c1 c2 c3 c4 c5 c6 c7 c8 c9 c10 c11 c12 c13 c14 c15 c16
  have hnews := bys_news hB
  have AA := Lib.hid a
  have HH := Lib.hid hh
  have hlt := a.lt.1
  have HN := Lib.hid hn
  have hl2 : l.length + n ≤ 1000000 := by omega
  have hsh := own_shape hh
  have hfar := a.far hh
  have HFAR := Lib.hid hfar
  clear a hB hn hlen hfar
  rcases hsh with ⟨rfl, -⟩ | ⟨g', c', rfl, -⟩
  all_goals
    clear hh
    have FB := Lib.hid fz
    go_enter Try.func79, Try.ntmps79
    go_wp2_with (at_builtin; refine wpList_append_own_at _ rfl _ _ 67 rfl n₀ 5 i0 (.int .u8 0) 1 1 Try.underlying67 hi hz0 hz1 hz2 rfl (by decide) _ _ _ rfl HH.out ⟨g, off, none⟩ n c (u8v s) rfl (by rw [u8v_len, HN.out, Nat.mul_one]) hnews (u8v_one _) (by unfold maxLen; omega) (by omega) hn₀ ?_; intro v' w1 hown' hgrow _ hob; have a1 := AA.out.grow HH.out hgrow; have c0' := a1.cells.1; have fz' := a1.cells.2.2.2.2.2.2.2.2.2.2.2.2.2.2.2.2.2 0; have h1 : Held w1 n₀ v' (l ++ s) := (by unfold Held; rw [u8v_app, List.length_append, HN.out]; exact hown'); have HO := Lib.hid hown'; have HG := Lib.hid hgrow; have HOB := Lib.hid hob; clear hown' hgrow hob; obtain ⟨va, vc, hva⟩ := own_slice HO.out; subst hva)
    go_end0
    refine ⟨rfl, _, a1.hv _, h1.set a1 _, ?_, fun k e => ?_⟩
    · exact ((grown_only HG.out (fun k e => List.mem_cons_of_mem _ (own_mem e)) : Only (b :: _) W w1)).trans ((set_only _ _ _ _).mono (by simp))
    · rcases HOB.out with h2 | h2
      · exact .inl (h2.symm.trans e)
      · rw [h2] at e; cases e; exact .inr (Nat.le_refl _)
set_option maxRecDepth 100000 in
set_option maxHeartbeats 4000000 in
theorem pcame_none {W : World} {b p q n₀ : Nat} {hv : Value} {t : TS} {l : List UInt8} (a : TmAt W b p q hv t) (hh : Held W n₀ hv l) :
    Calls Try.prog 79 #[.pointer (some ⟨b, 0, none⟩), .slice none 0 0] W (HeldP b p q n₀ hv t l W) := by
  obtain ⟨i0, hi, hz0, hz1, hz2⟩ := info_parts infoU8c
  obtain ⟨c0, c1, c2, c3, c4, c5, c6, c7, c8, c9, c10, c11, c12, c13, c14, c15, c16, fz⟩ := a.cells
  clear c1 c2 c3 c4 c5 c6 c7 c8 c9 c10 c11 c12 c13 c14 c15 c16
  have AA := Lib.hid a
  have HH := Lib.hid hh
  have hsh := own_shape hh
  clear a
  rcases hsh with ⟨rfl, -⟩ | ⟨g', c', rfl, -⟩
  all_goals
    clear hh
    go_enter Try.func79, Try.ntmps79
    go_wp2_with (at_builtin; refine wpList_append_own_none rfl _ _ 67 rfl n₀ 5 i0 1 Try.underlying67 hi _ _ _ rfl HH.out rfl ?_)
    go_end0
    exact ⟨rfl, _, AA.out.hv _, HH.out.set AA.out _, (set_only _ _ _ _).mono (by simp), fun k e => .inl e⟩
set_option maxRecDepth 100000 in
set_option maxHeartbeats 4000000 in
theorem ptaken_none {W : World} {b p q n₀ : Nat} {t : TS} (a : TmAt W b p q (.slice none 0 0) t) (hn₀ : n₀ ≤ W.heap.size) :
    Calls Try.prog 81 #[.pointer (some ⟨b, 0, none⟩), .int .i64 0] W (HeldP b p q n₀ (.slice none 0 0) t [] W) := by
  obtain ⟨i0, hi, hz0, hz1, hz2⟩ := info_parts infoU8c
  obtain ⟨c0, c1, c2, c3, c4, c5, c6, c7, c8, c9, c10, c11, c12, c13, c14, c15, c16, fz⟩ := a.cells
  clear c1 c2 c3 c4 c5 c6 c7 c8 c9 c10 c11 c12 c13 c14 c15 c16
  have hm := World.ownsRow_made (base := n₀) (e := 5) (size := 1) W #[] 0 hn₀ (by unfold maxLen; omega) rfl
  have b1 : Below W.heap.size W (W.alloc (.cells #[] 5)) := (Below.refl _ _).alloc (Nat.le_refl _) _
  have a1 := a.below b1
  have h1 : Held (W.alloc (.cells #[] 5)) n₀ (.slice (some ⟨W.heap.size, 0, none⟩) 0 0) [] := hm
  have HM := Lib.hid hm
  have c0a := a1.cells.1
  have fza := a1.cells.2.2.2.2.2.2.2.2.2.2.2.2.2.2.2.2.2
  clear a hm
  go_enter Try.func81, Try.ntmps81
  go_wp2_with (at_builtin; refine wpList_append_own_none rfl _ _ 67 rfl n₀ 5 i0 1 Try.underlying67 hi _ _ _ rfl HM.out rfl ?_)
  go_end0
  exact ⟨rfl, _, a1.hv _, h1.set a1 _, ((Only.of_below b1 : Only (b :: _) W _)).trans ((set_only _ _ _ _).mono (by simp)), fun k e => .inr (by cases e; exact Nat.le_refl _)⟩
set_option maxRecDepth 100000 in
set_option maxHeartbeats 4000000 in
theorem ptaken_some {W : World} {b p q n₀ g n c : Nat} {t : TS} {l : List UInt8} (a : TmAt W b p q (.slice (some ⟨g, 0, none⟩) n c) t) (hh : Held W n₀ (.slice (some ⟨g, 0, none⟩) n c) l) (hn₀ : n₀ ≤ W.heap.size) (k : Nat) (hk : k ≤ n) (hlen : l.length ≤ 1000000) :
    Calls Try.prog 81 #[.pointer (some ⟨b, 0, none⟩), .int .i64 k] W (HeldP b p q n₀ (.slice (some ⟨g, 0, none⟩) n c) t (l.drop k) W) := by
  obtain ⟨i0, hi, hz0, hz1, hz2⟩ := info_parts infoU8c
  obtain ⟨c0, c1, c2, c3, c4, c5, c6, c7, c8, c9, c10, c11, c12, c13, c14, c15, c16, fz⟩ := a.cells
  clear c1 c2 c3 c4 c5 c6 c7 c8 c9 c10 c11 c12 c13 c14 c15 c16
  obtain ⟨hB, hln, hnc, hcm⟩ := hh.bys
  unfold maxLen at hcm
  have hm := World.ownsRow_made (base := n₀) (e := 5) (size := 1) W #[] 0 hn₀ (by unfold maxLen; omega) rfl
  have b1 : Below W.heap.size W (W.alloc (.cells #[] 5)) := (Below.refl _ _).alloc (Nat.le_refl _) _
  have a1 := a.below b1
  have hB1 := (hB.drop k).below b1
  have hdl : (l.drop k).length = n - k := by rw [List.length_drop, hln]
  have hn64 : n ≤ 1000000 := by omega
  have hki : (k : Int) ≤ (n : Int) := by omega
  have hki2 : (k : Int) ≤ (c : Int) := by omega
  have FIN : ∀ (M : Nat) (v' : Value) (w1 : World), M = n - k → w1.ownsRow n₀ 5 1 v' (0 + M) ([] ++ u8v (l.drop k)) → (W.alloc (.cells #[] 5)).grownBy w1 (some W.heap.size) → (v'.ownBlock = some W.heap.size ∨ v'.ownBlock = some (W.alloc (.cells #[] 5)).heap.size) →
      TmAt w1 b p q (.slice (some ⟨g, 0, none⟩) n c) t ∧ Held w1 n₀ v' (l.drop k) ∧ Below W.heap.size W w1 ∧ (∀ j, v'.ownBlock = some j → W.heap.size ≤ j) ∧ ∃ va vc, v' = .slice va M vc := fun M v' w1 hM h1 h2 h3 => by
    rw [Nat.zero_add, List.nil_append] at h1
    have hx : Held (W.alloc (.cells #[] 5)) n₀ (.slice (some ⟨W.heap.size, 0, none⟩) 0 0) [] := hm
    refine ⟨a1.grow hx h2, ?_, b1.grown h2 (by simp) (fun j e => by cases e; exact Nat.le_refl _), fun j e => ?_, own_slice h1⟩
    · unfold Held; rw [hdl, ← hM]; exact h1
    · rcases h3 with h4 | h4
      · rw [h4] at e; cases e; exact Nat.le_refl _
      · rw [h4] at e; cases e; simp
  replace FIN := Lib.hid FIN
  have c0a := a1.cells.1
  have fza := a1.cells.2.2.2.2.2.2.2.2.2.2.2.2.2.2.2.2.2
  have HM := Lib.hid hm
  have HDL := Lib.hid hdl
  clear a hm hh hB b1 hln hlen hdl a1
  by_cases hcn : k = c
  all_goals
    have hnews : ∀ (o : Nat), (¬ k = c → o = k) → ∀ j u, (u8v (l.drop k))[j]? = some u → (W.alloc (.cells #[] 5)).cell? ((⟨g, o, none⟩ : Addr).add j) = some u := fun o ho j u hj => by
      by_cases hkc : k = c
      · have := (List.getElem?_eq_some_iff.1 hj).1
        rw [u8v_len, HDL.out] at this
        omega
      · rw [ho hkc]; exact bys_news hB1 j u hj
    go_enter Try.func81, Try.ntmps81
    go_wp2_with (at_builtin; refine wpList_append_own_at _ rfl _ _ 67 rfl n₀ 5 i0 (.int .u8 0) 1 1 Try.underlying67 hi hz0 hz1 hz2 rfl (by decide) _ _ _ rfl HM.out _ _ _ (u8v (l.drop k)) rfl (by rw [u8v_len, HDL.out]; omega) (hnews _ (by intro h; first | rfl | exact absurd hcn h)) (u8v_one _) (by unfold maxLen; omega) (by omega) (by simp; omega) ?_; intro v' w1 hown' hgrow _ hob; obtain ⟨a2, h2, b2, f2, va, vc, hva⟩ := FIN.out _ v' w1 (by omega) hown' hgrow hob; have c0' := a2.cells.1; have fz' := a2.cells.2.2.2.2.2.2.2.2.2.2.2.2.2.2.2.2.2 0; clear hown' hgrow hob; subst hva)
    go_end0
    try rw [← hcn]
    exact ⟨rfl, _, a2.hv _, h2.set a2 _, ((Only.of_below b2 : Only (b :: _) W _)).trans ((set_only _ _ _ _).mono (by simp)), fun j e => .inr (f2 j e)⟩
end Go.Proofs.Ytekodpcedjpnjaa
