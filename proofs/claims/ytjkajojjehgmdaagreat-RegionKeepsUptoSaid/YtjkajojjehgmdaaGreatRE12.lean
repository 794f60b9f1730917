/- The contracts of strings.Builder's copyCheck and WriteString, wherever the builder lies in its block. -/
import Derived.Lib.Builder
import Derived.Lib.AppendStr
import Derived.Lib.UnsafeStr
import Derived.RegionTactic
import Derived.Test.YtjkajojjehgmdaaGreatRE04
import Derived.Test.YtjkajojjehgmdaaGreatRE11
set_option linter.unusedVariables false
set_option linter.unusedSimpArgs false
namespace Go.Proofs.YtjkajojjehgmdaaGreat
open Go.RowKit Go.Shelf Go.Maps
structure SB (n₀ b o : Nat) (T : TypeId) (W : World) (cs : Array Value) (p v : Value) (bs : List UInt8) : Prop where
 blk : W.heap[b]? = some (.cells cs T (0, 0))
 hp : cs[o]? = some p
 hv : cs[o + 1]? = some v
 pn : p = .pointer none ∨ p = .pointer (some ⟨b, o, none⟩)
 lt : b < n₀
 le : n₀ ≤ W.heap.size
 own : W.ownsRow n₀ 5 1 v bs.length (u8v bs)
theorem SB.cells {n₀ b o : Nat} {T : TypeId} {W : World} {cs : Array Value} {p v : Value} {bs : List UInt8} (h : SB n₀ b o T W cs p v bs) :
    W.cell? ⟨b, o, none⟩ = some p ∧ W.cell? ⟨b, o + 1, none⟩ = some v ∧ W.frozen? ⟨b, o, none⟩ = false ∧ W.frozen? ⟨b, o + 1, none⟩ = false := by
 have hb := h.blk
 unfold World.cell? World.frozen?
 dsimp only
 rw [hb]
 refine ⟨by simpa using h.hp, by simpa using h.hv, by simp, by simp⟩
theorem set_self {cs : Array Value} {o : Nat} {p : Value} (h : cs[o]? = some p) : cs.setIfInBounds o p = cs := by
 apply Array.ext_getElem?
 intro i
 rw [Array.getElem?_setIfInBounds]
 by_cases e : o = i
 ·subst e
  have := (Array.getElem?_eq_some_iff.1 h)
  simp [this.1, this.2]
 ·simp [e]
def KeepT (b : Nat) (W W' : World) : Prop := ∀ k o, W.heap[k]? = some o → k ≠ b → (∀ cur fr, o ≠ .cells cur 5 fr) → W'.heap[k]? = some o
theorem KeepT.refl (b : Nat) (W : World) : KeepT b W W := fun _ _ h _ _ => h
theorem KeepT.trans {b : Nat} {A B C : World} (h : KeepT b A B) (k : KeepT b B C) : KeepT b A C := fun j o h1 h2 h3 => k j o (h j o h1 h2 h3) h2 h3
theorem KeepT.setCell {b : Nat} {A W : World} (h : KeepT b A W) (o : Nat) (v : Value) : KeepT b A (W.setCell ⟨b, o, none⟩ v) := fun j q h1 h2 h3 => (Below.heap_setCell _ _ _ _ (by exact h2)).trans (h j q h1 h2 h3)
theorem KeepT.of_below {b : Nat} {W W' : World} (h : Below W.heap.size W W') : KeepT b W W' := fun k o h1 _ _ => (h.block k (Array.getElem?_eq_some_iff.1 h1).1).trans h1
theorem KeepT.grown {b n₀ : Nat} {W W' : World} {v : Value} {n : Nat} {xs : List Value} (ho : W.ownsRow n₀ 5 1 v n xs) (hg : W.grownBy W' v.ownBlock) : KeepT b W W' := fun k o h1 _ h3 => by
 refine (hg.block k (Array.getElem?_eq_some_iff.1 h1).1 (fun e => ?_)).trans h1
 obtain ⟨_, cur, h2⟩ := own_cells ho k e.symm
 rw [h1] at h2
 exact h3 cur (0, 0) (by injection h2)
theorem infoBld : (Tryz.prog.info? 114).map (fun i => i.size) = some 2 := by kernel_rfl
set_option maxRecDepth 100000 in
set_option maxHeartbeats 1000000 in
theorem copyCheck_any {n₀ b o : Nat} {T : TypeId} {W : World} {cs : Array Value} {p v : Value} {bs : List UInt8} (h : SB n₀ b o T W cs p v bs)
    (hl : liesAt Tryz.prog Tryz.prog.depth T (cs.size / Tryz.prog.cellsOf T) o 114 1 = true) :
    Calls Tryz.prog 103 #[.pointer (some ⟨b, o, none⟩)] W fun e w' => e = .returned (.tuple #[]) ∧
     (SB n₀ b o T w' (cs.setIfInBounds o (.pointer (some ⟨b, o, none⟩))) (.pointer (some ⟨b, o, none⟩)) v bs ∧ But n₀ b W w' ∧ KeepT b W w') := by
 obtain ⟨j, hj, hjs⟩ := Option.map_eq_some_iff.1 infoBld
 obtain ⟨c0, c1, f0, f1⟩ := h.cells
 have ho : o < cs.size := (Array.getElem?_eq_some_iff.1 h.hp).1
 rcases h.pn with rfl | rfl
 ·have hsh : W.shape? b = some (T, cs.size) := by unfold World.shape?; rw [h.blk]
  have r1 := Lib.run_to_unsafe (P := Tryz.prog) W ⟨b, o, none⟩ Tryz.underlying112 Tryz.underlying201 hj (by rw [hjs]; decide) hsh ho
  have r3 := Lib.run_from_unsafe (P := Tryz.prog) W ⟨b, o, none⟩ Tryz.underlying201 Tryz.underlying112 hj hsh hl
  go_enter Tryz.func103, Tryz.ntmps103
  go_wp2
  rw [run_callFunc_extern Tryz.func140 (by kernel_rfl) (by kernel_rfl) (by kernel_rfl) (e := Extern.AbiNoEscape.same) (by kernel_rfl)]
  rw [Lib.run_noEscape]
  simp only [Result.andThen]
  rw [Oper.upon_value]
  go_wp2
  go_end0
  refine ⟨rfl, ⟨(heap_setCell_same _ _ _ _ _ _ h.blk).trans rfl, ?_, ?_, .inr rfl, h.lt, by simp [World.setCell]; exact h.le, own_set h.own h.lt _⟩, (But.refl _ _ _).setCell _ _, (KeepT.refl _ _).setCell _ _⟩
  ·simp [ho]
  ·rw [Array.getElem?_setIfInBounds]; simp [h.hv]
 ·have r1 := Lib.run_neq_ptr_same (P := Tryz.prog) W ⟨b, o, none⟩ Tryz.underlying112 hj
  go_enter Tryz.func103, Tryz.ntmps103
  go_wp2
  go_end0
  refine ⟨rfl, ?_, But.refl _ _ _, KeepT.refl _ _⟩
  rw [set_self h.hp]
  exact ⟨h.blk, h.hp, h.hv, .inr rfl, h.lt, h.le, h.own⟩
theorem SB.app {n₀ b o : Nat} {T : TypeId} {W w2 : World} {cs : Array Value} {p v : Value} {bs : List UInt8} (h : SB n₀ b o T W cs p v bs) (hg : W.grownBy w2 v.ownBlock) :
    w2.heap[b]? = some (.cells cs T (0, 0)) ∧ But n₀ b W w2 ∧ n₀ ≤ w2.heap.size := by
 have hlt := h.lt
 have hle := h.le
 refine ⟨(hg.block b (by omega) (fun e => by have := (own_row h.own b e.symm).1; omega)).trans h.blk, (But.refl _ _ _).grown h.le hg (fun k e => ?_), Nat.le_trans hle hg.size⟩
 obtain ⟨h1, cur, e', h2⟩ := own_row h.own k e
 exact ⟨h1, _, h2, rfl⟩
theorem blk_at {W : World} {b o : Nat} {cs : Array Value} {T : TypeId} {x : Value} (hb : W.heap[b]? = some (.cells cs T (0, 0))) (hx : cs[o]? = some x) : W.cell? ⟨b, o, none⟩ = some x ∧ W.frozen? ⟨b, o, none⟩ = false := by
 unfold World.cell? World.frozen?
 dsimp only
 rw [hb]
 exact ⟨by simpa using hx, by simp⟩
theorem strCells_u8v (l : List UInt8) : Lib.strCells (S l) = u8v l := by
 unfold Lib.strCells u8v S
 rfl
set_option maxRecDepth 100000 in
set_option maxHeartbeats 2000000 in
theorem write_any {n₀ b o : Nat} {T : TypeId} {W : World} {cs : Array Value} {p v : Value} {bs : List UInt8} (h : SB n₀ b o T W cs p v bs) (l : List UInt8)
    (hl : liesAt Tryz.prog Tryz.prog.depth T (cs.size / Tryz.prog.cellsOf T) o 114 1 = true) (hlen : bs.length + l.length ≤ 100000000) :
    Calls Tryz.prog 67 #[.pointer (some ⟨b, o, none⟩), .string (S l)] W fun e w' => e = .returned (.tuple #[.int .i64 l.length, .nilIface]) ∧
     ∃ v', SB n₀ b o T w' ((cs.setIfInBounds o (.pointer (some ⟨b, o, none⟩))).setIfInBounds (o + 1) v') (.pointer (some ⟨b, o, none⟩)) v' (bs ++ l) ∧ But n₀ b W w' ∧ KeepT b W w' := by
 obtain ⟨i0, hi, hz0, hz1, hz2⟩ := info_parts infoU8c
 have CK := Lib.hid (copyCheck_any h hl)
 have hls := S_size l
 have hsz : (cs.setIfInBounds o (.pointer (some ⟨b, o, none⟩))).size = cs.size := by simp
 have ho1 : o + 1 < cs.size := (Array.getElem?_eq_some_iff.1 h.hv).1
 go_enter Tryz.func67, Tryz.ntmps67
 go_wp2_with (first
  | (go_at_call 103; refine (CK.out).mono ?_; rintro e w1 ⟨rfl, h1, hbut1, hkt1⟩; obtain ⟨c0, c1, f0, f1⟩ := h1.cells; obtain ⟨a, c, rfl⟩ := own_slice h1.own)
  | (at_builtin; refine Lib.wpList_append_own_string _ rfl (.tmp 12) (.tmp 13) 22 9 rfl n₀ 5 i0 Tryz.underlying22 Tryz.underlying9 hi hz0 hz1 hz2 (.slice a bs.length c) bs.length (u8v bs) rfl h1.own (S l) rfl (by rw [hls]; unfold maxLen; omega) (by rw [hls]; omega) h1.le ?_; intro v' w2 hown' hgrow _; obtain ⟨hblk2, hbut2, hle2⟩ := h1.app hgrow; have hkt2 : KeepT b w1 w2 := KeepT.grown h1.own hgrow; obtain ⟨d0, e0⟩ := blk_at hblk2 h1.hp; obtain ⟨d1, e1⟩ := blk_at hblk2 h1.hv; rw [hls, strCells_u8v, ← u8v_append] at hown'; obtain ⟨a', c', rfl⟩ := own_slice hown'))
 go_ret2
 refine ⟨rfl, .slice a' (bs.length + l.length) c', ⟨(heap_setCell_same _ _ _ _ _ _ hblk2).trans rfl, ?_, ?_, .inr rfl, h.lt, by simp [World.setCell]; exact hle2, by rw [List.length_append]; exact own_set hown' h.lt _⟩, (hbut1.trans hbut2).setCell _ _, (hkt1.trans hkt2).setCell _ _⟩
 ·have ho : o < cs.size := by omega
  rw [Array.getElem?_setIfInBounds]; simp [ho]
 ·simp [ho1]
theorem cellsU8 : Tryz.prog.cellsOf 5 = 1 := by kernel_rfl
def StrRet (n₀ : Nat) (W : World) (l : List UInt8) (e : Ending) (w' : World) : Prop := e = .returned (.string (S l)) ∧ Below n₀ W w' ∧ KeepsOthers W w'
theorem others_freeze (W : World) (p : Addr) (n : Nat) : KeepsOthers W (W.freeze p n) := by
 unfold World.freeze
 split
 ·exact KeepsOthers.refl _
 ·refine ⟨by simp, fun k o hk ho => ?_⟩
  simp only [Array.getElem?_modify]
  by_cases e : p.block = k
  ·rw [if_pos e, hk]
   cases o <;> first | rfl | cases ho
  ·rw [if_neg e]; exact hk
set_option maxRecDepth 100000 in
set_option maxHeartbeats 2000000 in
theorem string_one {n₀ b o : Nat} {T : TypeId} {W : World} {cs : Array Value} {p v : Value} {bs : List UInt8} (h : SB n₀ b o T W cs p v bs) (h0 : bs ≠ []) :
    Calls Tryz.prog 68 #[.pointer (some ⟨b, o, none⟩)] W (StrRet n₀ W bs) := by
 obtain ⟨g, c, cur, rfl, hbg, hg, hnc, hcm, hcs, htake⟩ : ∃ g cap cur, v = .slice (some ⟨g, 0, none⟩) bs.length cap ∧ n₀ ≤ g ∧ W.heap[g]? = some (.cells cur 5 (0, 0)) ∧ bs.length ≤ cap ∧ cap ≤ maxLen ∧ cur.size = cap * 1 ∧ cur.toList.take (bs.length * 1) = u8v bs := by
  rcases h.own.2 with ⟨_, hz⟩ | ⟨g, cap, cur, hv, r⟩
  ·exact absurd (List.length_eq_zero_iff.1 hz) h0
  ·exact ⟨g, cap, cur, hv, r⟩
 have hl0 : bs.length ≠ 0 := by simpa using h0
 have c1 : W.drew.cell? ⟨b, o + 1, none⟩ = some (.slice (some ⟨g, 0, none⟩) bs.length c) := h.cells.2.1
 have hSD : (Builtin.unsafeSliceData_ #[22] 161 #[.slice (some ⟨g, 0, none⟩) bs.length c]).run Tryz.prog W.drew = .ok (.pointer (some ⟨g, 0, none⟩)) W.drew := Lib.run_unsafeSliceData_row _ _ _ _ _ _ (by omega)
 have hUS : (Builtin.unsafeString_ #[161, 3] 9 #[.pointer (some ⟨g, 0, none⟩), .int .i64 bs.length]).run Tryz.prog W.drew = .ok (.string (S bs)) (W.drew.freeze ⟨g, 0, none⟩ bs.length) := by
  refine Lib.run_unsafeString_row W.drew 161 3 9 5 Tryz.underlying161 cellsU8 g cur.size (by have hg' : W.drew.heap[g]? = some (.cells cur 5 (0, 0)) := hg; simp [World.shape?, hg']) bs h0 (by omega) (by unfold maxLen at hcm; omega) ?_
  intro j x hx
  exact h.own.cells (g := g) rfl j (.int .u8 x.toNat) (by simp [u8v, hx])
 have hfin := And.intro (Lib.below_freeze (Below.drew (Below.refl n₀ W)) (p := ⟨g, 0, none⟩) hbg bs.length) ((KeepsOthers.drew W).trans (others_freeze W.drew ⟨g, 0, none⟩ bs.length))
 have HF := Lib.hid hfin
 clear hfin hl0 h0 hg hcs htake hcm hnc hbg
 go_enter Tryz.func68, Tryz.ntmps68
 go_wp2
 go_region
 all_goals (go_wp2; go_ret; exact ⟨rfl, HF.out⟩)
set_option maxRecDepth 100000 in
set_option maxHeartbeats 2000000 in
theorem string_nil {n₀ b o : Nat} {T : TypeId} {W : World} {cs : Array Value} {p v : Value} (h : SB n₀ b o T W cs p v []) :
    Calls Tryz.prog 68 #[.pointer (some ⟨b, o, none⟩)] W (StrRet n₀ W []) := by
 have hUS : ∀ (w : World) (q : Option Addr), (Builtin.unsafeString_ #[161, 3] 9 #[.pointer q, .int .i64 0]).run Tryz.prog w = .ok (.string .empty) w := fun w q => Lib.run_unsafeString_none w _ _ _ q
 have hle := h.le
 have c1 : W.drew.cell? ⟨b, o + 1, none⟩ = some v := h.cells.2.1
 rcases h.own.2 with ⟨rfl, _⟩ | ⟨g, cap, cur, rfl, hbg, hg, _, _, _, _⟩
 ·have hSD : (Builtin.unsafeSliceData_ #[22] 161 #[.slice none 0 0]).run Tryz.prog W.drew = .ok (.pointer none) W.drew := rfl
  go_enter Tryz.func68, Tryz.ntmps68
  go_wp2
  go_region
  all_goals (go_wp2; go_ret; exact ⟨rfl, Below.drew (Below.refl n₀ W), KeepsOthers.drew W⟩)
 ·have c1 : W.drew.cell? ⟨b, o + 1, none⟩ = some (.slice (some ⟨g, 0, none⟩) 0 cap) := c1
  by_cases hc0 : cap = 0
  ·subst hc0
   have hSD : (Builtin.unsafeSliceData_ #[22] 161 #[.slice (some ⟨g, 0, none⟩) 0 0]).run Tryz.prog W.drew = .ok (.pointer (some ⟨W.drew.heap.size, 0, none⟩)) (W.drew.alloc (.view ⟨g, 0, none⟩ 5)) :=
    Lib.run_unsafeSliceData_zero W.drew _ _ 5 Tryz.underlying161 ⟨g, 0, none⟩ 0 (5, cur.size) (by have hg' : W.drew.heap[g]? = some (.cells cur 5 (0, 0)) := hg; simp [World.shape?, hg'])
   have hblt : b < W.heap.size := by have := h.lt; omega
   have c2 : (W.drew.alloc (.view ⟨g, 0, none⟩ 5)).cell? ⟨b, o + 1, none⟩ = some (.slice (some ⟨g, 0, none⟩) 0 0) := cell_alloc_l _ c1
   have c3 : (W.alloc (.view ⟨g, 0, none⟩ 5)).drew.cell? ⟨b, o + 1, none⟩ = some (.slice (some ⟨g, 0, none⟩) 0 0) := c2
   have c0 : W.cell? ⟨b, o + 1, none⟩ = some (.slice (some ⟨g, 0, none⟩) 0 0) := c1
   go_enter Tryz.func68, Tryz.ntmps68
   go_wp2
   go_region
   all_goals (go_wp2; go_ret; exact ⟨rfl, (Below.drew (Below.refl n₀ W)).alloc hle _, (KeepsOthers.drew W).trans (KeepsOthers.alloc _ _)⟩)
  ·have hSD : (Builtin.unsafeSliceData_ #[22] 161 #[.slice (some ⟨g, 0, none⟩) 0 cap]).run Tryz.prog W.drew = .ok (.pointer (some ⟨g, 0, none⟩)) W.drew := Lib.run_unsafeSliceData_row _ _ _ _ _ _ hc0
   clear hc0
   go_enter Tryz.func68, Tryz.ntmps68
   go_wp2
   go_region
   all_goals (go_wp2; go_ret; exact ⟨rfl, Below.drew (Below.refl n₀ W), KeepsOthers.drew W⟩)
theorem string_any {n₀ b o : Nat} {T : TypeId} {W : World} {cs : Array Value} {p v : Value} {bs : List UInt8} (h : SB n₀ b o T W cs p v bs) :
    Calls Tryz.prog 68 #[.pointer (some ⟨b, o, none⟩)] W (StrRet n₀ W bs) := by
 by_cases h0 : bs = []
 ·subst h0; exact string_nil h
 ·exact string_one h h0
end Go.Proofs.YtjkajojjehgmdaaGreat
