/- DERIVED: THE SHELF's CONTRACTS AT THIS DUMP, IN PLAIN WORDS (tools/lay-plain.mjs out of 'TryzShelf.lean', which tools/lay-shelf.mjs wrote): THE SAME DECLARATIONS UNDER THE SAME NAMES: 'import', 'namespace', 'open', 'def', 'theorem' AND NOTHING ELSE: no command of the shelf's: FOR A HAND-IN. Each laying: the table of numbers ('.._ren') and one theorem, a field a fact of the dump's own or the kernel's comparison; each contract: ONE APPLICATION. The columns of a cluster; the iterator over a text's clusters. The contracts of Count, Is, Width, Columns, Join, Clean and Flat. The contract of Fit: the first clusters that have room. -/
import Derived.Shelf.Strings.Builder1
import Derived.Shelf.Strings.Builder2
import Derived.Shelf.Strings.OnBuilder
import Derived.Shelf.Strings.BuilderF
import Derived.Shelf.Strings.BuilderK
import Derived.Shelf.Strings.Builder2Cap
import Derived.Shelf.Strings.Prefix
import Derived.Shelf.Bits.Mul64
import Derived.Shelf.Strings.Repeat
import Derived.Shelf.Strings.BuilderCap
import Derived.Test.YtjkajojjehgmdaaGreatProg
import Derived.Deep.RegionHeld3
import Derived.Test.YtjkajojjehgmdaaGreatRE02
import Derived.Test.YtjkajojjehgmdaaGreatRE11
import Derived.Test.YtjkajojjehgmdaaGreatRE12
set_option linter.unusedVariables false
set_option linter.unusedSimpArgs false
namespace Go.Proofs
open Go.Shelf
def Tryz.lays156_ren : Go.Shelf.Ren := ⟨fun | 156 => 139 | 165 => 80 | 166 => 67 | 169 => 68 | 240 => 103 | 241 => 113 | 276 => 140 | 277 => 153 | n => n, fun | 31 => 51 | 9 => 9 | 3 => 3 | 4 => 4 | 0 => 0 | 20 => 20 | 72 => 114 | 76 => 119 | 70 => 112 | 37 => 22 | 75 => 118 | 127 => 161 | 164 => 201 | 5 => 5 | 80 => 80 | n => n, fun | n => n⟩
theorem Tryz.lays156 : Go.Proofs.Lays.n156 Tryz.prog Tryz.lays156_ren := {
 mixed := by kernel_rfl
 f156 := Tryz.func139.trans (congrArg some (by kernel_rfl))
 f165 := Tryz.func80.trans (congrArg some (by kernel_rfl))
 f166 := Tryz.func67.trans (congrArg some (by kernel_rfl))
 f169 := Tryz.func68.trans (congrArg some (by kernel_rfl))
 f240 := Tryz.func103.trans (congrArg some (by kernel_rfl))
 f241 := Tryz.func113.trans (congrArg some (by kernel_rfl))
 f276 := Tryz.func140.trans (congrArg some (by kernel_rfl))
 f277 := Tryz.func153.trans (congrArg some (by kernel_rfl))
 t0 := Tryz.underlying0
 a0 := Tryz.isAgg0
 z0 := Tryz.sizeOf0
 v0 := Tryz.zeroValue0
 t3 := Tryz.underlying3
 a3 := Tryz.isAgg3
 z3 := Tryz.sizeOf3
 v3 := Tryz.zeroValue3
 t4 := Tryz.underlying4
 a4 := Tryz.isAgg4
 z4 := Tryz.sizeOf4
 v4 := Tryz.zeroValue4
 t9 := Tryz.underlying9
 a9 := Tryz.isAgg9
 z9 := Tryz.sizeOf9
 v9 := Tryz.zeroValue9
 t20 := Tryz.underlying20
 a20 := Tryz.isAgg20
 z20 := Tryz.sizeOf20
 v20 := Tryz.zeroValue20
 t31 := Tryz.underlying51
 a31 := Tryz.isAgg51
 z31 := Tryz.sizeOf51
 v31 := Tryz.zeroValue51
 t37 := Tryz.underlying22
 a37 := Tryz.isAgg22
 z37 := Tryz.sizeOf22
 v37 := Tryz.zeroValue22
 t70 := Tryz.underlying112
 a70 := Tryz.isAgg112
 z70 := Tryz.sizeOf112
 v70 := Tryz.zeroValue112
 t72 := Tryz.underlying114
 a72 := Tryz.isAgg114
 z72 := Tryz.sizeOf114
 v72 := Tryz.zeroValue114
 t75 := Tryz.underlying118
 a75 := Tryz.isAgg118
 z75 := Tryz.sizeOf118
 v75 := Tryz.zeroValue118
 t76 := Tryz.underlying119
 a76 := Tryz.isAgg119
 z76 := Tryz.sizeOf119
 v76 := Tryz.zeroValue119
 t127 := Tryz.underlying161
 a127 := Tryz.isAgg161
 z127 := Tryz.sizeOf161
 v127 := Tryz.zeroValue161
 t164 := Tryz.underlying201
 a164 := Tryz.isAgg201
 z164 := Tryz.sizeOf201
 v164 := Tryz.zeroValue201 }
theorem Tryz.Builder_Extra_156 : Builder.Extra Tryz.prog Tryz.lays156_ren := {
 sizeBuilder := by kernel_rfl
 liesBuilder := by kernel_rfl
 t5 := Tryz.underlying5
 a5 := Tryz.isAgg5
 z5 := Tryz.sizeOf5
 v5 := Tryz.zeroValue5
 infoByte := by kernel_rfl
 cellsByte := by kernel_rfl
 sizeByte := by kernel_rfl
 neB5 := by decide }
open Go.RowKit in
theorem Tryz.strings_Join_none (a : Option Addr) (c : Nat) (sep : ByteArray) (w : World) :
    Calls Tryz.prog 139 #[.slice a 0 c, .string sep] w fun e w' => e = .returned (.string ⟨#[]⟩) ∧ w' = w := Any.strings_Join_none Tryz.lays156 Tryz.Builder_Extra_156 a c sep w
open Go.RowKit in
theorem Tryz.strings_Join (bk o c : Nat) (xs : List ByteArray) (sep : ByteArray) (w : World) (hcells : ∀ (j : Nat) x, xs[j]? = some x → w.cell? ⟨bk, o + j, none⟩ = some (.string x)) (hbk : bk < w.heap.size) (hN : xs.length ≤ 140737488355328) (hcap : xs.length ≤ c) (hlen : (Lib.join (xs.map (·.data.toList)) sep.data.toList).length ≤ 140737488355328) :
    Calls Tryz.prog 139 #[.slice (some ⟨bk, o, none⟩) xs.length c, .string sep] w fun e w' => e = .returned (.string ⟨(Lib.join (xs.map (·.data.toList)) sep.data.toList).toArray⟩) ∧ Below w.heap.size w w' := Any.strings_Join Tryz.lays156 Tryz.Builder_Extra_156 bk o c xs sep w hcells hbk hN hcap hlen
def Tryz.lays105_ren : Go.Shelf.Ren := ⟨fun | 105 => 56 | 212 => 78 | 99 => 79 | 165 => 80 | 166 => 67 | 170 => 81 | 169 => 68 | 263 => 110 | 264 => 111 | 206 => 112 | 240 => 103 | 241 => 113 | 276 => 140 | 277 => 153 | n => n, fun | 9 => 9 | 3 => 3 | 4 => 4 | 20 => 20 | 0 => 0 | 46 => 129 | 109 => 130 | 5 => 5 | 72 => 114 | 76 => 119 | 51 => 173 | 146 => 174 | 53 => 176 | 148 => 177 | 70 => 112 | 37 => 22 | 75 => 118 | 127 => 161 | 164 => 201 | 80 => 80 | n => n, fun | n => n⟩
theorem Tryz.lays105 : Go.Proofs.Lays.n105 Tryz.prog Tryz.lays105_ren := {
 mixed := by kernel_rfl
 f99 := Tryz.func79.trans (congrArg some (by kernel_rfl))
 f105 := Tryz.func56.trans (congrArg some (by kernel_rfl))
 f165 := Tryz.func80.trans (congrArg some (by kernel_rfl))
 f166 := Tryz.func67.trans (congrArg some (by kernel_rfl))
 f169 := Tryz.func68.trans (congrArg some (by kernel_rfl))
 f170 := Tryz.func81.trans (congrArg some (by kernel_rfl))
 f206 := Tryz.func112.trans (congrArg some (by kernel_rfl))
 f212 := Tryz.func78.trans (congrArg some (by kernel_rfl))
 f240 := Tryz.func103.trans (congrArg some (by kernel_rfl))
 f241 := Tryz.func113.trans (congrArg some (by kernel_rfl))
 f263 := Tryz.func110.trans (congrArg some (by kernel_rfl))
 f264 := Tryz.func111.trans (congrArg some (by kernel_rfl))
 f276 := Tryz.func140.trans (congrArg some (by kernel_rfl))
 f277 := Tryz.func153.trans (congrArg some (by kernel_rfl))
 t0 := Tryz.underlying0
 a0 := Tryz.isAgg0
 z0 := Tryz.sizeOf0
 v0 := Tryz.zeroValue0
 t3 := Tryz.underlying3
 a3 := Tryz.isAgg3
 z3 := Tryz.sizeOf3
 v3 := Tryz.zeroValue3
 t4 := Tryz.underlying4
 a4 := Tryz.isAgg4
 z4 := Tryz.sizeOf4
 v4 := Tryz.zeroValue4
 t5 := Tryz.underlying5
 a5 := Tryz.isAgg5
 z5 := Tryz.sizeOf5
 v5 := Tryz.zeroValue5
 t9 := Tryz.underlying9
 a9 := Tryz.isAgg9
 z9 := Tryz.sizeOf9
 v9 := Tryz.zeroValue9
 t20 := Tryz.underlying20
 a20 := Tryz.isAgg20
 z20 := Tryz.sizeOf20
 v20 := Tryz.zeroValue20
 t37 := Tryz.underlying22
 a37 := Tryz.isAgg22
 z37 := Tryz.sizeOf22
 v37 := Tryz.zeroValue22
 t46 := Tryz.underlying129
 a46 := Tryz.isAgg129
 z46 := Tryz.sizeOf129
 v46 := Tryz.zeroValue129
 t51 := Tryz.underlying173
 a51 := Tryz.isAgg173
 z51 := Tryz.sizeOf173
 v51 := Tryz.zeroValue173
 t53 := Tryz.underlying176
 a53 := Tryz.isAgg176
 z53 := Tryz.sizeOf176
 v53 := Tryz.zeroValue176
 t70 := Tryz.underlying112
 a70 := Tryz.isAgg112
 z70 := Tryz.sizeOf112
 v70 := Tryz.zeroValue112
 t72 := Tryz.underlying114
 a72 := Tryz.isAgg114
 z72 := Tryz.sizeOf114
 v72 := Tryz.zeroValue114
 t75 := Tryz.underlying118
 a75 := Tryz.isAgg118
 z75 := Tryz.sizeOf118
 v75 := Tryz.zeroValue118
 t76 := Tryz.underlying119
 a76 := Tryz.isAgg119
 z76 := Tryz.sizeOf119
 v76 := Tryz.zeroValue119
 t109 := Tryz.underlying130
 a109 := Tryz.isAgg130
 z109 := Tryz.sizeOf130
 v109 := Tryz.zeroValue130
 t127 := Tryz.underlying161
 a127 := Tryz.isAgg161
 z127 := Tryz.sizeOf161
 v127 := Tryz.zeroValue161
 t146 := Tryz.underlying174
 a146 := Tryz.isAgg174
 z146 := Tryz.sizeOf174
 v146 := Tryz.zeroValue174
 t148 := Tryz.underlying177
 a148 := Tryz.isAgg177
 z148 := Tryz.sizeOf177
 v148 := Tryz.zeroValue177
 t164 := Tryz.underlying201
 a164 := Tryz.isAgg201
 z164 := Tryz.sizeOf201
 v164 := Tryz.zeroValue201 }
theorem Tryz.Builder_Extra_105 : Builder.Extra Tryz.prog Tryz.lays105_ren := {
 sizeBuilder := by kernel_rfl
 liesBuilder := by kernel_rfl
 t5 := Tryz.underlying5
 a5 := Tryz.isAgg5
 z5 := Tryz.sizeOf5
 v5 := Tryz.zeroValue5
 infoByte := by kernel_rfl
 cellsByte := by kernel_rfl
 sizeByte := by kernel_rfl
 neB5 := by decide }
open Go.RowKit Go.Lib in
theorem Tryz.strings_Repeat (s : ByteArray) (c : Nat) (w : World) (hc : c ≤ 9223372036854775807) (hlen : s.size * c ≤ 140737488355328) :
    Calls Tryz.prog 56 #[.string s, .int .i64 c] w fun e w' => e = .returned (.string ⟨(Lib.repeatL s.data.toList c).toArray⟩) ∧ Below w.heap.size w w' := Any.strings_Repeat Tryz.lays105 Tryz.Builder_Extra_105 s c w hc hlen
end Go.Proofs
namespace Go.Proofs.YtjkajojjehgmdaaGreat
open Go.RowKit Go.Shelf Go.Maps
attribute [local go_sem] Oper.semAt_some
set_option maxRecDepth 100000 in
set_option maxHeartbeats 4000000 in
theorem colsOf_any (l : List UInt8) (hl : l.length ≤ 1100000) (w : World) : Calls Tryz.prog 101 #[.string (S l)] w fun e w' => e = .returned (.int .i64 (colsL l)) ∧ Below w.heap.size w w' := by
 have CA := Lib.hid (fun W => rall_any l W)
 have HE := Lib.hid (eachL_runes l)
 obtain ⟨z, hz⟩ : ∃ z, z = colsL l := ⟨_, rfl⟩
 rw [← hz]
 have HZ := Lib.hid hz
 clear hz
 refine (callsIn_wide (n := 9)).1 ?_
 have h1 : 1 ≤ 9 := by omega
 refine callsIn_of_wp_marks Tryz.func101 rfl trivial ?_ rfl
 simp only [Tryz.ntmps101, List.size_toArray, List.length_cons, List.length_nil, Nat.reduceAdd, Nat.reduceSub, Array.replicate_succ, Array.replicate_zero, List.push_toArray, List.append_toArray, List.nil_append, List.cons_append]
 gi_wp2_with (refine ⟨trivial, ?_⟩; gi_at_call 137; refine (callsIn_wide.2 (CA.out _)).mono ?_; rintro e w2 ⟨Bx, b, cap, rfl, hbx, hbl, hcell, hcap, hbys, hbel⟩)
 have hc0 := cell_new_l w (.int .i64 0) 3
 have hsz : (w.alloc (.cells #[.int .i64 0] 3)).heap.size = w.heap.size + 1 := by simp
 have hbw : Below w.heap.size w (w.alloc (.cells #[.int .i64 0] 3)) := (Below.refl _ _).alloc (Nat.le_refl _) _
 generalize w.alloc (.cells #[.int .i64 0] 3) = w1 at hc0 hsz hbw hbx hbl hbel
 have hlt0 : w.heap.size < w1.heap.size := by omega
 have hc2 := (hbel.cell (p := ⟨w.heap.size, 0, none⟩) hlt0).trans hc0.1
 have hf2 := (hbel.frozen (p := ⟨w.heap.size, 0, none⟩) hlt0).trans hc0.2
 have hle1 := hbel.size
 have hw2 : Below w.heap.size w w2 := bto hbw hbel (by omega)
 have hbB := hbx.2
 have hbl2 := hbys.lt
 refine wpIn_rangeFunc_ownG rfl h1 (gf := 187) (lb := #[.pointer (some ⟨Bx, 0, none⟩)]) rfl trivial (enters_of Tryz.func187 (by kernel_rfl) rfl)
  (each1_stops l Bx b cap w2 hbB hcell hcap hbys (by omega) _ (by omega)) KB.trans (KB.put hbB hbl2) (Below.refl _ _) (fun _ => rfl)
  (fun pre W => (pre = [] ∧ W.cell? ⟨w.heap.size, 0, none⟩ = some (.int .i64 0) ∧ W.frozen? ⟨w.heap.size, 0, none⟩ = false) ∧ Below w.heap.size w W)
  (fun c pre W => (c = .ret ∧ ∃ x, pre = [x] ∧ W.cell? ⟨w.heap.size, 0, none⟩ = some (.int .i64 (colsB (x.r : Int)))) ∧ Below w.heap.size w W)
  (OwnFrom.and (Own.from (fun s A B row hs hg hr => ⟨hs.1, cell_kept hs.2.1 hg hr, (frozen_kept hs.2.1 hg hr).trans hs.2.2⟩) _) (ownFrom_below (Nat.le_refl _) (by omega)))
  (fun c => OwnFrom.and (Own.from (fun s A B row hs hg hr => ⟨hs.1, by obtain ⟨x, h1, h2⟩ := hs.2; exact ⟨x, h1, cell_kept h2 hg hr⟩⟩) _) (ownFrom_below (Nat.le_refl _) (by omega)))
  ⟨⟨rfl, hc2, hf2⟩, hw2⟩
  ?_ ?_ ?_ ?_ ?_
 rotate_left 1
 ·intro L x W K hK
  gi_wp2
  exact hK
 ·rintro L pre x W ⟨⟨rfl, hcw, hfw⟩, hB⟩ hpl
  have CO := Lib.hid (fun W => of_any (x.r : Int) W)
  obtain ⟨q, hq⟩ : ∃ q, q = colsB (x.r : Int) := ⟨_, rfl⟩
  rw [← hq] at CO
  have HQ := Lib.hid hq
  clear hq
  gi_wp2_with (refine ⟨trivial, ?_⟩; gi_at_call 138; refine (callsIn_wide.2 (CO.out _)).mono ?_; rintro e w3 ⟨rfl, hb3⟩; have hc3 := (hb3.cell (p := ⟨w.heap.size, 0, none⟩) (World.block_lt_of_cell? _ _ hcw)).trans hcw; have hf3 := (hb3.frozen (p := ⟨w.heap.size, 0, none⟩) (World.block_lt_of_cell? _ _ hcw)).trans hfw)
  exact ⟨((others_of_below hb3).trans (KeepsOthers.setCell _ _ _)).from _, ⟨rfl, x, rfl, by rw [← HQ.out]; exact World.cell?_setCell_same' _ _ _ (by rw [hc3]; rfl)⟩, (bto hB hb3 hB.size).setCell (p := ⟨w.heap.size, 0, none⟩) (Nat.le_refl _) _⟩
 ·rintro D ys W hD rfl ⟨⟨hne, hcw, hfw⟩, hB⟩ hK
  gi_wp2
  have hK' := (KeepsOthers.setCell W ⟨w.heap.size, 0, none⟩ (.int .i64 0)).same D _ hK rfl
  refine ⟨by simp, .inl ⟨_, _, rfl, run_takeDeferred hK', ?_⟩⟩
  have hc5 := cell_kept (World.cell?_setCell_same' W ⟨w.heap.size, 0, none⟩ (.int .i64 0) (by rw [hcw]; rfl)) (grownBy_putObj' _ D (.deferred none)) (fun r e => by cases e; exact ⟨_, hK', rfl⟩)
  have hz0 : z = 0 := by
   rw [HZ.out]
   have := HE.out
   rw [hne, List.map_nil] at this
   unfold colsL
   rw [← this]
  refine ⟨.int .i64 0, ?_, by rw [hz0], (hB.setCell (p := ⟨w.heap.size, 0, none⟩) (Nat.le_refl _) _).trans (belowK_b (w := w) (Nat.le_refl _) _ D _ _ (by omega) hK' rfl rfl)⟩
  simp [results, Tryz.f101, go_sem, hc5]
 ·rintro D c pre W hD hpre ⟨⟨rfl, x, rfl, hcw⟩, hB⟩ hK
  gi_wp2
  refine ⟨by simp, .inl ⟨_, _, rfl, run_takeDeferred hK, ?_⟩⟩
  have hc5 := cell_kept hcw (grownBy_putObj' _ D (.deferred none)) (fun r e => by cases e; exact ⟨_, hK, rfl⟩)
  have hz0 : z = colsB (x.r : Int) := by
   rw [HZ.out]
   have h2 := HE.out
   obtain ⟨t, ht⟩ := hpre
   rw [← ht] at h2
   unfold colsL
   rw [← h2]
   rfl
  refine ⟨.int .i64 (colsB (x.r : Int)), ?_, by rw [hz0], hB.trans (belowK_b (w := w) (Nat.le_refl _) W D _ _ (by omega) hK rfl rfl)⟩
  simp [results, Tryz.f101, go_sem, hc5]
theorem call_any (l : List UInt8) (w : World) : Calls Tryz.prog 100 #[.string (S l)] w fun e w' => e = .returned (.func (.func 136) #[] #[.pointer (some ⟨w.heap.size, 0, none⟩)]) ∧ w.alloc (.cells #[.string (S l)] 9) = w' := by
 go_enter Tryz.func100, Tryz.ntmps100
 go_wp2
 go_ret
 exact ⟨rfl, rfl⟩
def encC (L : List (List UInt8)) (i : Nat) : Array Value := #[.int .i64 (sumC (L.take i)), .string (S (nth [] L i))]
theorem sumC_take (L : List (List UInt8)) (k : Nat) (h : k < L.length) : sumC (L.take (k + 1)) = sumC (L.take k) + colsL (nth [] L k) := by
 rw [List.take_succ_eq_append_getElem h, sumC_append, nth_eq _ _ _ h]
 simp [sumC]
theorem sumC_take_bd (L : List (List UInt8)) (k : Nat) : 0 ≤ sumC (L.take k) ∧ sumC (L.take k) ≤ 2 * L.length := by
 have := sumC_bd (L.take k)
 have := List.length_take_le k L
 have : (L.take k).length ≤ L.length := by rw [List.length_take]; omega
 omega
theorem strV_nth (L : List (List UInt8)) (j : Nat) (h : j < L.length) : nth undef (strV L) j = .string (S (nth [] L j)) := nth_map _ _ _ _ h
theorem nth_clu {l : List UInt8} {k : Nat} (h : k < (cutL l).length) : Clu (nth [] (cutL l) k) := by
 rw [nth_eq _ _ _ h]; exact clu_mem (List.getElem_mem h)
theorem range_prefix {k n : Nat} (h : k ≤ n) : List.range k <+: List.range n := by
 rw [List.prefix_iff_eq_take]
 apply List.ext_getElem
 ·simp; omega
 ·intro i h1 h2; simp
set_option maxRecDepth 100000 in
set_option maxHeartbeats 4000000 in
theorem call1_seq (l : List UInt8) (hl : l.length ≤ 1100000) (Bx : Nat) (w : World) (hbx : Bx < w.heap.size) (hcx : w.cell? ⟨Bx, 0, none⟩ = some (.string (S l))) (mm : Nat) (hm : 1 ≤ mm) :
    SeqG Fence.wide mm Tryz.prog 136 #[.pointer (some ⟨Bx, 0, none⟩)] (encC (cutL l)) (KB Bx Bx) (fun g pre x W => (x = pre.length ∧ x < (cutL l).length) ∧ ∃ cur, W.heap[g]? = some (.cells cur 9 (0, 0))) (fun ys => ys = List.range (cutL l).length) (fun pre => pre <+: List.range (cutL l).length) (cutL l).length w := by
 intro L J Jx W hW0 hJ hJx hY h0
 have hW := KB.of_below hW0 hbx hbx
 have hxW := (cell_block hW.a).trans hcx
 have hbxW : Bx < W.heap.size := by have := hW.size; omega
 clear hW0
 have CC := Lib.hid (fun W => cut_any l hl W)
 have hzl := cutL_len l
 refine callsIn_of_wp Tryz.func136 rfl trivial ?_ rfl
 simp only [Tryz.ntmps136, List.size_toArray, List.length_cons, List.length_nil, Nat.reduceAdd, Nat.reduceSub, Array.replicate_succ, Array.replicate_zero, List.push_toArray, List.append_toArray, List.nil_append, List.cons_append]
 gi_wp2_with (refine ⟨trivial, ?_⟩; gi_at_call 130; refine (callsIn_wide.2 (CC.out _)).mono ?_; rintro e w1 ⟨a, n, c, hn, hnc, hcm, rfl, hrow, hb1, g, hg, ha⟩)
 rw [← hn] at hzl hY ⊢
 have HN := Lib.hid hn
 clear hn
 have hb1k := KB.of_below hb1 hbxW hbxW
 have hJ0 := hJ g [] W w1 none (h0 g hg) (grown_of_below hb1) (fun r e => by cases e)
 clear h0
 gi_loopw [9, 3] (fun i s wr => ∃ k : Nat, k ≤ n ∧ i = .int .i64 (k : Int) ∧ s = .int .i64 (sumC ((cutL l).take k)) ∧ J g (List.range k) wr ∧ KB Bx Bx W wr ∧ w1.heap.size ≤ wr.heap.size ∧ (0 < n → wr.heap[g]? = w1.heap[g]?))
  (fun i _ _ => n - (intOf i).toNat)
 case atStart => exact ⟨0, Nat.zero_le _, rfl, by simp [sumC], hJ0, hb1k, Nat.le_refl _, fun _ => rfl⟩
 case round =>
  obtain ⟨k, hk, rfl, rfl, hJs, hnx, hsz, hgb⟩ := hrel
  by_cases hlt : k < n
  ·have hgb := hgb (by omega)
   obtain ⟨ha, cur, hcur⟩ := ha (by omega)
   subst ha
   have hkL : k < (cutL l).length := by rw [← HN.out]; exact hlt
   obtain ⟨b', off', eb, hbl, hck⟩ := hrow k (by rw [strV_len]; exact hkL)
   simp only [Option.some.injEq, Addr.mk.injEq] at eb
   obtain ⟨rfl, rfl, _⟩ := eb
   rw [strV_nth _ _ hkL] at hck
   rw [Nat.zero_add] at hck
   have hckr := (cell_block hgb).trans hck
   have HST := Lib.hid (sumC_take (cutL l) k hkL)
   have hclu := nth_clu hkL
   have hcl := hclu.len
   have hbd := sumC_take_bd (cutL l) k
   have hcb := hclu.cols
   obtain ⟨fn, tmps, assign, body, hy, hR⟩ := hY g (List.range k) k wr hg hJs ⟨⟨by simp, hlt⟩, cur, hgb.trans hcur⟩ (by rw [List.length_range]; exact hlt)
   dsimp only [encC] at hy
   obtain ⟨C, hC⟩ : ∃ C, C = nth [] (cutL l) k := ⟨_, rfl⟩
   obtain ⟨s, hs⟩ : ∃ s, s = sumC ((cutL l).take k) := ⟨_, rfl⟩
   rw [← hC] at hckr hy hcl hcb HST
   rw [← hs] at hbd hy HST ⊢
   have CO := Lib.hid (fun W => colsOf_any C (by omega) W)
   obtain ⟨q, hq⟩ : ∃ q, q = colsL C := ⟨_, rfl⟩
   rw [← hq] at CO hcb HST
   have hzl2 : 2 * (cutL l).length ≤ 2200000 := by rw [← HN.out]; omega
   have hsb : 0 ≤ s ∧ s ≤ 2200000 := by omega
   have hcap0 : 0 < c := by omega
   clear hC hs hq hclu hcl hbd hrow hck hkL hzl2
   gi_wp2
   refine hR.mono ?_
   rintro e W3 (⟨rfl, hJ3, hk3, hg3⟩ | ⟨rfl, hJx3⟩)
   ·gi_wp2_with (refine ⟨trivial, ?_⟩; gi_at_call 101; refine (callsIn_wide.2 (CO.out _)).mono ?_; rintro e w4 ⟨rfl, hb4⟩)
    have hs3 := hk3.size
    have hs0 := hnx.size
    go_roundw
    case rel => exact ⟨k + 1, by omega, by go_num, by rw [HST.out], by rw [List.range_succ]; exact hJ g _ _ _ none hJ3 (grown_of_below hb4) (fun r e => by cases e), (hnx.trans hk3).trans (KB.of_below hb4 (by omega) (by omega)), by have := hb4.size; omega, fun _ => (hb4.block g (by omega)).trans (hg3.trans hgb)⟩
    case measure => simp [intOf]; omega
   ·gi_wp2
    refine bodyPost_ret (results_none rfl _ _ _) rfl ?_
    exact ⟨⟨_, rfl⟩, g, .inr ⟨List.range (k + 1), by rw [← HN.out]; exact range_prefix (by omega), by rw [List.range_succ]; exact hJx3⟩⟩
  ·obtain rfl : k = n := by omega
   gi_wp2
   go_end0
   exact ⟨⟨_, rfl⟩, g, .inl ⟨_, by rw [HN.out], hJs⟩⟩
end Go.Proofs.YtjkajojjehgmdaaGreat
namespace Go.Proofs.YtjkajojjehgmdaaGreat
open Go.RowKit Go.Shelf Go.Maps
attribute [local go_sem] Oper.semAt_some
def isCl (l : List UInt8) : Bool := decide (cutL l = [l])
theorem isCl_clu {l : List UInt8} (h : isCl l = true) : Clu l := by
 have := of_decide_eq_true h
 exact clu_mem (l := l) (by rw [this]; simp)
theorem isCl_of {l : List UInt8} (h : Clu l) : isCl l = true := decide_eq_true h.cut
set_option maxRecDepth 100000 in
set_option maxHeartbeats 1000000 in
theorem is_any' (l : List UInt8) (hl : l.length ≤ 1100000) (w : World) : Calls Tryz.prog 94 #[.string (S l)] w fun e w' => e = .returned (.bool (isCl l)) ∧ Below w.heap.size w w' := by
 have CC := Lib.hid (fun W => cut_any l hl W)
 obtain ⟨z, hz⟩ : ∃ z, z = isCl l := ⟨_, rfl⟩
 rw [← hz]
 unfold isCl at hz
 by_cases h1 : (cutL l).length = 1
 ·obtain ⟨x, hx⟩ := List.length_eq_one_iff.1 h1
  rw [hx] at hz CC
  have HZ := Lib.hid hz
  clear hz h1 hx
  go_enter Tryz.func94, Tryz.ntmps94
  go_wp2_with (go_at_call 130; refine (CC.out _).mono ?_; rintro e w1 ⟨a, n, c, hn, hnc, hcm, rfl, hrow, hb1, _⟩; obtain ⟨b0, o0, rfl, hb0, hc0⟩ := hrow 0 (by simp [strV]); rw [Nat.add_zero] at hc0; obtain rfl : n = 1 := hn; replace hc0 : w1.cell? ⟨b0, o0, none⟩ = some (.string (S x)) := hc0)
  go_ret
  refine ⟨ret_bool ?_, hb1⟩
  rw [HZ.out, S_eq]
  simp
 ·have hz0 : z = false := by
   rw [hz]
   refine decide_eq_false (fun e => h1 (by rw [e]; rfl))
  subst hz0
  obtain ⟨m, hm⟩ : ∃ m, m = (cutL l).length := ⟨_, rfl⟩
  have hne : ((m : Int) == 1) = false := by simp; omega
  have HM := Lib.hid hm
  clear hz h1 hm
  go_enter Tryz.func94, Tryz.ntmps94
  go_wp2_with (go_at_call 130; refine (CC.out _).mono ?_; rintro e w1 ⟨a, n, c, hn, hnc, hcm, rfl, hrow, hb1, _⟩; rw [← HM.out] at hn; subst hn)
  go_ret
  exact ⟨rfl, hb1⟩
def widthL (l : List UInt8) : Int := match cutL l with | c :: _ => colsL c | [] => 0
theorem widthL_0 {l : List UInt8} (h : cutL l = []) : widthL l = 0 := by unfold widthL; rw [h]
theorem widthL_1 {l : List UInt8} (h : 0 < (cutL l).length) : widthL l = colsL (nth [] (cutL l) 0) := by
 unfold widthL
 match hc : cutL l with
 | [] => rw [hc] at h; simp at h
 | c :: t => rfl
theorem two_allocs (w : World) (v1 v2 : Value) (t1 t2 : TypeId) (W : World) (hW : (w.alloc (.cells #[v1] t1)).alloc (.cells #[v2] t2) = W) :
    W.cell? ⟨w.heap.size, 0, none⟩ = some v1 ∧ W.frozen? ⟨w.heap.size, 0, none⟩ = false ∧ W.cell? ⟨w.heap.size + 1, 0, none⟩ = some v2 ∧ Below w.heap.size w W ∧ W.heap.size = w.heap.size + 1 + 1 := by
 have c1 := cell_new_l w v1 t1
 have c2 := cell_new_l (w.alloc (.cells #[v1] t1)) v2 t2
 rw [World.size_alloc] at c2
 subst hW
 exact ⟨cell_alloc_l _ c1.1, frozen_alloc_l _ c1.1 c1.2, c2.1, ((Below.refl _ _).alloc (Nat.le_refl _) _).alloc (by simp) _, by simp⟩
theorem ghost_own {B : Nat} (n : Nat) (g x : Nat) : OwnFrom B (fun (p : List Nat) W => (x = p.length ∧ x < n) ∧ ∃ cur, W.heap[g]? = some (.cells cur 9 (0, 0))) := fun s W W' row hs hg hr => ⟨hs.1, by
 obtain ⟨cur, h⟩ := hs.2
 exact ⟨cur, (grownBy_keeps_cells hg (fun r e => (hr r e).2) h rfl).trans h⟩⟩
set_option maxRecDepth 100000 in
set_option maxHeartbeats 4000000 in
theorem cwidth_any (l : List UInt8) (hl : l.length ≤ 1100000) (w : World) : Calls Tryz.prog 95 #[.string (S l)] w fun e w' => e = .returned (.int .i64 (widthL l)) ∧ Below w.heap.size w w' := by
 have CA := Lib.hid (fun W => call_any l W)
 have HW0 := Lib.hid (@widthL_0 l)
 have HW1 := Lib.hid (@widthL_1 l)
 obtain ⟨z, hz⟩ : ∃ z, z = widthL l := ⟨_, rfl⟩
 rw [← hz] at HW0 HW1 ⊢
 clear hz
 refine (callsIn_wide (n := 9)).1 ?_
 have h1 : 1 ≤ 9 := by omega
 refine callsIn_of_wp_marks Tryz.func95 rfl trivial ?_ rfl
 simp only [Tryz.ntmps95, List.size_toArray, List.length_cons, List.length_nil, Nat.reduceAdd, Nat.reduceSub, Array.replicate_succ, Array.replicate_zero, List.push_toArray, List.append_toArray, List.nil_append, List.cons_append]
 gi_wp2_with (refine ⟨trivial, ?_⟩; gi_at_call 100; refine (callsIn_wide.2 (CA.out _)).mono ?_; rintro e w2 ⟨rfl, hw2⟩)
 obtain ⟨hc0, hf0, hcx, hb2, hs2⟩ := two_allocs w _ _ _ _ w2 hw2
 clear hw2
 refine wpIn_rangeFunc_GH rfl h1 (gf := 136) (lb := #[.pointer (some ⟨w.heap.size + 1, 0, none⟩)]) rfl trivial (enters_of Tryz.func136 (by kernel_rfl) rfl)
  (call1_seq l hl (w.heap.size + 1) w2 (by omega) hcx _ (by omega)) KB.trans (KB.put (by omega) (by omega)) (Below.refl _ _) (fun _ => rfl)
  (fun _ pre W => (pre = [] ∧ W.cell? ⟨w.heap.size, 0, none⟩ = some (.int .i64 0) ∧ W.frozen? ⟨w.heap.size, 0, none⟩ = false) ∧ Below w.heap.size w W)
  (fun _ c pre W => (c = .ret ∧ pre = [0] ∧ 0 < (cutL l).length ∧ W.cell? ⟨w.heap.size, 0, none⟩ = some (.int .i64 (colsL (nth [] (cutL l) 0)))) ∧ Below w.heap.size w W)
  (fun g => OwnFrom.and (Own.from (fun s A B row hs hg hr => ⟨hs.1, cell_kept hs.2.1 hg hr, (frozen_kept hs.2.1 hg hr).trans hs.2.2⟩) _) (ownFrom_below (Nat.le_refl _) (by omega)))
  (fun g c => OwnFrom.and (Own.from (fun s A B row hs hg hr => ⟨hs.1, hs.2.1, hs.2.2.1, cell_kept hs.2.2.2 hg hr⟩) _) (ownFrom_below (Nat.le_refl _) (by omega)))
  (fun g x => ghost_own _ g x)
  (fun g hg => ⟨⟨rfl, hc0, hf0⟩, hb2⟩)
  ?_ ?_ ?_ ?_ ?_
 rotate_left 1
 ·intro L x W K hK
  dsimp only [encC]
  gi_wp2
  exact hK
 ·rintro L g pre x W hL1 hL2 hg ⟨⟨rfl, hcw, hfw⟩, hB⟩ ⟨⟨hx, hxl⟩, cur, hcur⟩ hpl
  obtain rfl : x = 0 := hx
  have hclu := nth_clu hxl
  have hcl := hclu.len
  have CO := Lib.hid (fun W => colsOf_any (nth [] (cutL l) 0) (by omega) W)
  obtain ⟨q, hq⟩ : ∃ q, q = colsL (nth [] (cutL l) 0) := ⟨_, rfl⟩
  rw [← hq] at CO
  have HQ := Lib.hid hq
  have HX := Lib.hid hxl
  clear hq hclu hcl hxl hpl
  gi_wp2_with (refine ⟨trivial, ?_⟩; gi_at_call 101; refine (callsIn_wide.2 (CO.out _)).mono ?_; rintro e w3 ⟨rfl, hb3⟩; have hc3 := (hb3.cell (p := ⟨w.heap.size, 0, none⟩) (World.block_lt_of_cell? _ _ hcw)).trans hcw; have hf3 := (hb3.frozen (p := ⟨w.heap.size, 0, none⟩) (World.block_lt_of_cell? _ _ hcw)).trans hfw)
  exact ⟨((others_of_below hb3).trans (KeepsOthers.setCell _ _ _)).from _, ⟨rfl, rfl, HX.out, by rw [← HQ.out]; exact World.cell?_setCell_same' _ _ _ (by rw [hc3]; rfl)⟩, (bto hB hb3 hB.size).setCell (p := ⟨w.heap.size, 0, none⟩) (Nat.le_refl _) _⟩
 ·rintro D g ys W hD hys ⟨⟨rfl, hcw, hfw⟩, hB⟩ hK
  have hL0 : cutL l = [] := by
   have := congrArg List.length hys
   rw [List.length_range] at this
   exact List.length_eq_zero_iff.1 this.symm
  have hz0 := HW0.out hL0
  clear hys hL0
  gi_wp2
  have hK' := (KeepsOthers.setCell W ⟨w.heap.size, 0, none⟩ (.int .i64 0)).same D _ hK rfl
  refine ⟨by simp, .inl ⟨_, _, rfl, run_takeDeferred hK', ?_⟩⟩
  have hc5 := cell_kept (World.cell?_setCell_same' W ⟨w.heap.size, 0, none⟩ (.int .i64 0) (by rw [hcw]; rfl)) (grownBy_putObj' _ D (.deferred none)) (fun r e => by cases e; exact ⟨_, hK', rfl⟩)
  refine ⟨.int .i64 0, ?_, by rw [hz0], (hB.setCell (p := ⟨w.heap.size, 0, none⟩) (Nat.le_refl _) _).trans (belowK_b (w := w) (Nat.le_refl _) _ D _ _ (by omega) hK' rfl rfl)⟩
  simp [results, Tryz.f95, go_sem, hc5]
 ·rintro D g c pre W hD hpre ⟨⟨rfl, rfl, hl0, hcw⟩, hB⟩ hK
  have hz0 := HW1.out hl0
  gi_wp2
  refine ⟨by simp, .inl ⟨_, _, rfl, run_takeDeferred hK, ?_⟩⟩
  have hc5 := cell_kept hcw (grownBy_putObj' _ D (.deferred none)) (fun r e => by cases e; exact ⟨_, hK, rfl⟩)
  refine ⟨.int .i64 (colsL (nth [] (cutL l) 0)), ?_, by rw [hz0], hB.trans (belowK_b (w := w) (Nat.le_refl _) W D _ _ (by omega) hK rfl rfl)⟩
  simp [results, Tryz.f95, go_sem, hc5]
theorem conv_newB (W : World) (l : List UInt8) : (convert 22 9 (.slice (some ⟨W.heap.size, 0, none⟩) l.length l.length)).run Tryz.prog (W.alloc (.cells (u8v l).toArray 5)) = .ok (.string (S l)) (W.alloc (.cells (u8v l).toArray 5)) := by
 have := run_convert_bytes_arg (P := Tryz.prog) (W.alloc (.cells (u8v l).toArray 5)) 22 5 Tryz.underlying22 Tryz.underlying5 W.heap.size 0 l.length l.length (l.map fun b => (b.toNat : Int)) (by simp)
  (fun i hi => ?_) 9 Tryz.underlying9
 ·rw [strOfNums_Sc] at this; exact this
 ·have h0 : (W.alloc (.cells (u8v l).toArray 5)).heap[W.heap.size]? = some (.cells (u8v l).toArray 5) := World.alloc_heap_new W _
  unfold World.cell?
  dsimp only
  rw [h0]
  simp [u8v, hi]
theorem join_empty (xs : List (List UInt8)) : Lib.join xs [] = xs.flatten := by
 cases xs with
 | nil => rfl
 | cons x r => rw [Lib.join_cons]; simp [Lib.joinTail]
theorem flat_len (L : List (List UInt8)) (m : Nat) (h : ∀ c ∈ L, c.length ≤ m) : L.flatten.length ≤ m * L.length := by
 induction L with
 | nil => simp
 | cons c L ih =>
  have h1 := h c (by simp)
  have h2 := ih (fun x hx => h x (by simp [hx]))
  rw [List.flatten_cons, List.length_append, List.length_cons, Nat.mul_succ]
  omega
theorem clean_len (l : List UInt8) : (cleanL l).length ≤ 64 * l.length := by
 have h1 := flat_len (cutL l) 64 (fun c hc => (clu_mem hc).len.2)
 have h2 := cutL_len l
 unfold cleanL
 exact Nat.le_trans h1 (Nat.mul_le_mul (Nat.le_refl _) h2)
theorem sjoin_any (L : List (List UInt8)) (a : Option Addr) (n c : Nat) (w : World) (hn : (n == L.length) = true) (hnc : n ≤ c) (hrow : RowAt w.heap.size w a (strV L)) (hL : L.length ≤ 100000000) (hlen : L.flatten.length ≤ 100000000) :
    Calls Tryz.prog 139 #[.slice a n c, .string ⟨#[]⟩] w fun e w' => e = .returned (.string (S L.flatten)) ∧ Below w.heap.size w w' := by
 obtain rfl : n = L.length := by simpa using hn
 by_cases h0 : L = []
 ·subst h0
  exact (Tryz.strings_Join_none a c ⟨#[]⟩ w).mono fun e w' ⟨h1, h2⟩ => ⟨h1, h2 ▸ Below.refl _ _⟩
 ·have hpos : 0 < L.length := List.length_pos_iff.2 h0
  obtain ⟨b, off, rfl, hb, _⟩ := hrow 0 (by rw [strV_len]; exact hpos)
  have hd : (L.map S).map (·.data.toList) = L := by
   rw [List.map_map]
   conv => rhs; rw [← List.map_id L]
   apply List.map_congr_left
   intro x _
   simp [S]
  have hj : Lib.join ((L.map S).map (·.data.toList)) (⟨#[]⟩ : ByteArray).data.toList = L.flatten := by rw [hd]; exact join_empty L
  have := Tryz.strings_Join b off c (L.map S) ⟨#[]⟩ w (fun j x hx => by
   obtain ⟨y, hy, rfl⟩ := List.mem_map.1 (List.mem_of_getElem? hx)
   have hjl : j < L.length := by
    rcases Nat.lt_or_ge j L.length with h' | h'
    ·exact h'
    ·rw [List.getElem?_eq_none (by simpa using h')] at hx; cases hx
   obtain ⟨b', off', e, _, hc⟩ := hrow j (by rw [strV_len]; exact hjl)
   simp only [Option.some.injEq, Addr.mk.injEq] at e
   obtain ⟨rfl, rfl, _⟩ := e
   rw [hc, strV_nth _ _ hjl, nth_eq _ _ _ hjl]
   rw [List.getElem?_map, List.getElem?_eq_getElem hjl] at hx
   simpa using hx) hb (by simp; omega) (by simpa using hnc) (by rw [hj]; omega)
  rw [hj, List.length_map] at this
  exact this
set_option maxRecDepth 100000 in
theorem clean_any (l : List UInt8) (hl : l.length ≤ 1100000) (w : World) : Calls Tryz.prog 102 #[.string (S l)] w fun e w' => e = .returned (.string (S (cleanL l))) ∧ Below w.heap.size w w' := by
 have CC := Lib.hid (fun W => cut_any l hl W)
 have hL := cutL_len l
 have hF : (cutL l).flatten.length ≤ 100000000 := Nat.le_trans (clean_len l) (by omega)
 go_enter Tryz.func102, Tryz.ntmps102
 go_wp2_with (first
  | (go_at_call 130; refine (CC.out _).mono ?_; rintro e w1 ⟨a, n, c, hn, hnc, hcm, rfl, hrow, hb1, _⟩; have HN := Lib.hid hn; clear hn)
  | (go_at_call 139; refine (sjoin_any (cutL l) _ _ _ _ (by rw [HN.out]; simp) hnc hrow (by omega) hF).mono ?_; rintro e w2 ⟨rfl, hb2⟩))
 go_ret
 exact ⟨rfl, bnext hb1 hb2⟩
def blankB (c : UInt8) : UInt8 := if c = 9 ∨ c = 10 ∨ c = 13 then 32 else c
def blanksL (l : List UInt8) : List UInt8 := l.map blankB
def flatL (l : List UInt8) : List UInt8 := cleanL (blanksL l)
def flatTo (l : List UInt8) (k : Nat) : List UInt8 := (l.take k).map blankB ++ l.drop k
theorem flatTo_len (l : List UInt8) (k : Nat) : (flatTo l k).length = l.length := by unfold flatTo; simp; omega
theorem flatTo_end (l : List UInt8) : flatTo l l.length = blanksL l := by unfold flatTo blanksL; simp
theorem flatTo_at (l : List UInt8) (k : Nat) (h : k < l.length) : nth 0 (flatTo l k) k = nth 0 l k := by
 unfold flatTo nth
 rw [List.getD_eq_getElem?_getD, List.getElem?_append_right (by simp; omega)]
 simp [List.getD]
 rw [show k + (k - min k l.length) = k by omega]
theorem flatTo_next (l : List UInt8) (k j : Nat) (h : k < l.length) (hj : j < l.length) : nth 0 (flatTo l (k + 1)) j = if j = k then blankB (nth 0 l k) else nth 0 (flatTo l k) j := by
 have e : flatTo l (k + 1) = (flatTo l k).set k (blankB (nth 0 l k)) := by
  unfold flatTo
  rw [List.take_succ_eq_append_getElem h, List.map_append, List.append_assoc, List.set_append_right _ _ (by simp; omega)]
  have e0 : k - ((l.take k).map blankB).length = 0 := by simp; omega
  rw [e0, nth_eq _ _ _ h, List.map_cons, List.map_nil]
  rw [List.drop_eq_getElem_cons h]
  rfl
 rw [e]
 unfold nth
 rw [List.getD_eq_getElem?_getD, List.getD_eq_getElem?_getD, List.getElem?_set]
 have hl := flatTo_len l k
 by_cases hjk : k = j
 ·subst hjk; simp [hl, h]
 ·rw [if_neg hjk, if_neg (fun e => hjk e.symm), List.getD_eq_getElem?_getD]
structure BysW (w : World) (b : Nat) (l : List UInt8) : Prop where
 lt : b < w.heap.size
 at_ : ∀ j, j < l.length → w.cell? ⟨b, j, none⟩ = some (.int .u8 ((nth 0 l j).toNat : Int)) ∧ w.frozen? ⟨b, j, none⟩ = false
theorem BysW.put {w : World} {b : Nat} {l l' : List UInt8} (h : BysW w b l) (k : Nat) (c : UInt8) (hk : k < l.length) (hl : l'.length = l.length) (hn : ∀ j, j < l.length → nth 0 l' j = if j = k then c else nth 0 l j) : BysW (w.setCell ⟨b, k, none⟩ (.int .u8 (c.toNat : Int))) b l' := by
 refine ⟨by simp [World.setCell]; exact h.lt, fun j hj => ?_⟩
 rw [hl] at hj
 refine ⟨?_, by rw [World.frozen?_setCell]; exact (h.at_ j hj).2⟩
 rw [hn j hj]
 by_cases e : j = k
 ·subst e
  rw [if_pos rfl]
  exact World.cell?_setCell_same' _ _ _ (by rw [(h.at_ j hj).1]; rfl)
 ·rw [if_neg e, World.cell?_setCell_other _ _ _ _ (fun e' => e (by simpa using congrArg Addr.off e'.symm))]
  exact (h.at_ j hj).1
theorem BysW.conv {w : World} {b cap : Nat} {l : List UInt8} (h : BysW w b l) : (convert 22 9 (.slice (some ⟨b, 0, none⟩) l.length cap)).run Tryz.prog w = .ok (.string (S l)) w := by
 have := run_convert_bytes_arg (P := Tryz.prog) w 22 5 Tryz.underlying22 Tryz.underlying5 b 0 l.length cap (l.map fun b => (b.toNat : Int)) (by simp)
  (fun i hi => ?_) 9 Tryz.underlying9
 ·rw [strOfNums_Sc] at this; exact this
 ·have hi' : i < l.length := by simpa using hi
  rw [Nat.zero_add, (h.at_ i hi').1, nth_eq _ _ _ hi']
  simp [hi']
theorem blankB_yes (c : UInt8) (h : c.toNat = 9 ∨ c.toNat = 10 ∨ c.toNat = 13) : blankB c = 32 := by
 unfold blankB
 rw [if_pos]
 rcases h with h | h | h
 ·exact .inl (UInt8.toNat_inj.1 h)
 ·exact .inr (.inl (UInt8.toNat_inj.1 h))
 ·exact .inr (.inr (UInt8.toNat_inj.1 h))
theorem blankB_no (c : UInt8) (h : ¬ (c.toNat = 9 ∨ c.toNat = 10 ∨ c.toNat = 13)) : blankB c = c := by
 unfold blankB
 rw [if_neg]
 rintro (h1 | h1 | h1) <;> exact h (by rw [h1]; simp)
set_option maxRecDepth 100000 in
set_option maxHeartbeats 2000000 in
theorem flat_any (l : List UInt8) (hl : l.length ≤ 1100000) (w : World) : Calls Tryz.prog 66 #[.string (S l)] w fun e w' => e = .returned (.string (S (flatL l))) ∧ Below w.heap.size w w' := by
 obtain ⟨cap, W1, hrun, hb1, hs1, hB, hcap, hfz⟩ := bytes_conv w l
 have CL := Lib.hid (fun W => clean_any (blanksL l) (by unfold blanksL; simpa using hl) W)
 have hB0 : BysW W1 w.heap.size (flatTo l 0) := ⟨by omega, fun j hj => by
  have hj' : j < l.length := by rwa [flatTo_len] at hj
  have := hB.at_ j hj'
  rw [Nat.zero_add] at this
  exact ⟨by rw [this]; simp [flatTo], hfz j hj'⟩⟩
 have HL := Lib.hid (fun k => flatTo_len l k)
 have HA := Lib.hid (fun k h => flatTo_at l k h)
 have HX := Lib.hid (fun k j h hj => flatTo_next l k j h hj)
 have HE := Lib.hid (flatTo_end l)
 clear hB hfz
 go_enter Tryz.func66, Tryz.ntmps66
 go_wp2
 go_loopw [10] (fun i wr => ∃ k : Nat, k ≤ l.length ∧ i = .int .i64 (k : Int) ∧ BysW wr w.heap.size (flatTo l k) ∧ Below w.heap.size w wr) (fun i _ => l.length - (intOf i).toNat)
 case atStart => exact ⟨0, Nat.zero_le _, rfl, hB0, hb1⟩
 case round =>
  obtain ⟨k, hk, rfl, hBk, hbr⟩ := hrel
  by_cases hlt : k < l.length
  ·obtain ⟨ck, fk⟩ := hBk.at_ k (by rw [HL.out]; exact hlt)
   rw [HA.out k hlt] at ck
   obtain ⟨x, hx⟩ : ∃ x, x = nth 0 l k := ⟨_, rfl⟩
   rw [← hx] at ck
   have HXX := Lib.hid hx
   clear hx
   by_cases hbl : x.toNat = 9 ∨ x.toNat = 10 ∨ x.toNat = 13
   ·have hput := hBk.put (l' := flatTo l (k + 1)) k 32 (by rw [HL.out]; exact hlt) (by rw [HL.out, HL.out]) (fun j hj => by rw [HX.out k j hlt (by rw [HL.out] at hj; exact hj), ← HXX.out, blankB_yes x hbl])
    have hput : Hid (BysW (wr.setCell ⟨w.heap.size, k, none⟩ (.int .u8 32)) w.heap.size (flatTo l (k + 1))) := Lib.hid hput
    rcases hbl with h | h | h
    all_goals
     rw [h] at ck
     clear h
     go_wp2
     go_roundw
     case rel => exact ⟨k + 1, by omega, by go_num, hput.out, hbr.setCell (p := ⟨w.heap.size, k, none⟩) (Nat.le_refl _) _⟩
     case measure => simp [intOf]; omega
   ·have hn1 : ((x.toNat : Int) == 9) = false := by simp; omega
    have hn2 : ((x.toNat : Int) == 10) = false := by simp; omega
    have hn3 : ((x.toNat : Int) == 13) = false := by simp; omega
    have hput : Hid (BysW wr w.heap.size (flatTo l (k + 1))) := Lib.hid ⟨hBk.lt, fun j hj => by
     rw [HL.out] at hj
     have := hBk.at_ j (by rw [HL.out]; exact hj)
     rw [HX.out k j hlt hj]
     by_cases e : j = k
     ·subst e
      rw [if_pos rfl, ← HXX.out, blankB_no x hbl]
      exact ⟨ck, this.2⟩
     ·rw [if_neg e]; exact this⟩
    clear hbl
    go_wp2
    go_roundw
    case rel => exact ⟨k + 1, by omega, by go_num, hput.out, hbr⟩
    case measure => simp [intOf]; omega
  ·obtain rfl : k = l.length := by omega
   rw [HE.out] at hBk
   have hcv := hBk.conv (cap := cap)
   have hbl : (blanksL l).length = l.length := by unfold blanksL; simp
   rw [hbl] at hcv
   clear hbl
   go_wp2_with (go_at_call 102; refine (CL.out _).mono ?_; rintro e w2 ⟨rfl, hb2⟩)
   go_ret
   exact ⟨rfl, bto hbr hb2 hbr.size⟩
end Go.Proofs.YtjkajojjehgmdaaGreat
namespace Go.Proofs.YtjkajojjehgmdaaGreat
open Go.RowKit Go.Shelf Go.Maps
attribute [local go_sem] Oper.semAt_some
theorem fitK_end : ∀ (L : List (List UInt8)) (n : Int), (∀ i, i < L.length → ¬ n - sumC (L.take i) < colsL (nth [] L i)) → fitK L n = L.length
 | [], _, _ => rfl
 | c :: L, n, h => by
  have h0 := h 0 (by simp)
  simp only [List.take_zero, nth, List.getD_cons_zero, sumC, List.foldr_nil, Int.sub_zero] at h0
  have ih := fitK_end L (n - colsL c) (by
   intro i hi
   have := h (i + 1) (by simp; omega)
   rw [List.take_succ_cons, sumC_cons] at this
   have e : nth [] (c :: L) (i + 1) = nth [] L i := rfl
   rw [e] at this
   omega)
  unfold fitK
  rw [if_neg h0, ih, List.length_cons]
theorem fitK_stop : ∀ (L : List (List UInt8)) (n : Int) (k : Nat), k < L.length → (∀ i, i < k → ¬ n - sumC (L.take i) < colsL (nth [] L i)) → n - sumC (L.take k) < colsL (nth [] L k) → fitK L n = k
 | [], _, k, hk, _, _ => by simp at hk
 | c :: L, n, 0, _, _, h2 => by
  simp only [List.take_zero, nth, List.getD_cons_zero, sumC, List.foldr_nil, Int.sub_zero] at h2
  unfold fitK
  rw [if_pos h2]
 | c :: L, n, k + 1, hk, h, h2 => by
  have h0 := h 0 (by omega)
  simp only [List.take_zero, nth, List.getD_cons_zero, sumC, List.foldr_nil, Int.sub_zero] at h0
  have ih := fitK_stop L (n - colsL c) k (by simpa using hk) (by
   intro i hi
   have := h (i + 1) (by omega)
   rw [List.take_succ_cons, sumC_cons] at this
   have e : nth [] (c :: L) (i + 1) = nth [] L i := rfl
   rw [e] at this
   omega) (by
   rw [List.take_succ_cons, sumC_cons] at h2
   have e : nth [] (c :: L) (k + 1) = nth [] L k := rfl
   rw [e] at h2
   omega)
  unfold fitK
  rw [if_neg h0, ih]
def fitT (l : List UInt8) (n : Int) : List UInt8 := ((cutL l).take (fitK (cutL l) n)).flatten
def fitN (l : List UInt8) (n : Int) : Int := sumC ((cutL l).take (fitK (cutL l) n))
theorem SB.drew {n₀ b o : Nat} {T : TypeId} {W : World} {cs : Array Value} {p v : Value} {bs : List UInt8} (h : SB n₀ b o T W cs p v bs) : SB n₀ b o T W.drew cs p v bs := ⟨h.blk, h.hp, h.hv, h.pn, h.lt, h.le, h.own⟩
theorem SB.kept {n₀ b o : Nat} {T : TypeId} {W W' : World} {cs : Array Value} {p v : Value} {bs : List UInt8} (h : SB n₀ b o T W cs p v bs) {row : Option Nat} (hg : W.grownBy W' row) (hr : ∀ k, row = some k → ∃ o : Obj, W.heap[k]? = some o ∧ o.isCells = false) : SB n₀ b o T W' cs p v bs := by
 refine ⟨(grownBy_keeps_cells hg hr h.blk rfl).trans h.blk, h.hp, h.hv, h.pn, h.lt, Nat.le_trans h.le hg.size, h.own.kept hg ?_⟩
 cases hv : v.ownBlock with
 | none => exact .inl rfl
 | some q =>
  refine .inr (fun e' => ?_)
  obtain ⟨_, cur, h2⟩ := own_cells h.own q hv
  obtain ⟨o', h3, h4⟩ := hr q e'.symm
  rw [h2] at h3; cases h3; cases h4
theorem SB.below {n₀ b o : Nat} {T : TypeId} {W W' : World} {cs : Array Value} {p v : Value} {bs : List UInt8} (h : SB n₀ b o T W cs p v bs) (hb : Below W.heap.size W W') : SB n₀ b o T W' cs p v bs :=
 h.kept (grown_of_below hb) (fun k e => by cases e)
def SBx (n₀ b : Nat) (W : World) (bs : List UInt8) : Prop := ∃ cs p v, SB n₀ b 0 114 W cs p v bs ∧ cs.size = 2
theorem liesBld {cs : Array Value} (h : cs.size = 2) : liesAt Tryz.prog Tryz.prog.depth 114 (cs.size / Tryz.prog.cellsOf 114) 0 114 1 = true := by
 rw [h]; kernel_rfl
theorem SBx.kept {n₀ b : Nat} {W W' : World} {bs : List UInt8} (h : SBx n₀ b W bs) {row : Option Nat} (hg : W.grownBy W' row) (hr : ∀ k, row = some k → ∃ o : Obj, W.heap[k]? = some o ∧ o.isCells = false) : SBx n₀ b W' bs := by
 obtain ⟨cs, p, v, h, hs⟩ := h
 exact ⟨cs, p, v, h.kept hg hr, hs⟩
theorem SBx.below {n₀ b : Nat} {W W' : World} {bs : List UInt8} (h : SBx n₀ b W bs) (hb : Below W.heap.size W W') : SBx n₀ b W' bs := h.kept (grown_of_below hb) (fun k e => by cases e)
theorem SBx.new {n₀ b : Nat} {W : World} (hb : W.heap[b]? = some (.cells #[.pointer none, .slice none 0 0] 114 (0, 0))) (hlt : b < n₀) (hle : n₀ ≤ W.heap.size) : SBx n₀ b W [] :=
 ⟨_, _, _, ⟨hb, rfl, rfl, .inl rfl, hlt, hle, World.ownsRow_nil _ _ _ _⟩, rfl⟩
theorem SBx.write {n₀ b : Nat} {W : World} {bs : List UInt8} (h : SBx n₀ b W bs) (l : List UInt8) (hlen : bs.length + l.length ≤ 100000000) :
    Calls Tryz.prog 67 #[.pointer (some ⟨b, 0, none⟩), .string (S l)] W fun e w' => e = .returned (.tuple #[.int .i64 l.length, .nilIface]) ∧ (SBx n₀ b w' (bs ++ l) ∧ But n₀ b W w' ∧ KeepT b W w') := by
 obtain ⟨cs, p, v, h, hs⟩ := h
 exact (write_any h l (liesBld hs) hlen).mono fun e w' ⟨h1, v', h2, h3, h4⟩ => ⟨h1, ⟨_, _, v', h2, by simpa using hs⟩, h3, h4⟩
theorem SBx.string {n₀ b : Nat} {W : World} {bs : List UInt8} (h : SBx n₀ b W bs) : Calls Tryz.prog 68 #[.pointer (some ⟨b, 0, none⟩)] W (StrRet n₀ W bs) := by
 obtain ⟨cs, p, v, h, hs⟩ := h
 exact string_any h
theorem SBx.set {n₀ b : Nat} {W : World} {bs : List UInt8} (h : SBx n₀ b W bs) {k : Nat} (off : Nat) (v : Value) (hk : k < n₀) (hne : k ≠ b) : SBx n₀ b (W.setCell ⟨k, off, none⟩ v) bs := by
 obtain ⟨cs, p, u, h, hs⟩ := h
 exact ⟨cs, p, u, ⟨(Below.heap_setCell _ _ _ _ (by exact Ne.symm hne)).trans h.blk, h.hp, h.hv, h.pn, h.lt, by simp [World.setCell]; exact h.le, own_set h.own hk v⟩, hs⟩
theorem SBx.drew {n₀ b : Nat} {W : World} {bs : List UInt8} (h : SBx n₀ b W bs) : SBx n₀ b W.drew bs := by
 obtain ⟨cs, p, u, h, hs⟩ := h
 exact ⟨cs, p, u, h.drew, hs⟩
theorem take_flat (L : List (List UInt8)) (k : Nat) (h : k < L.length) : (L.take (k + 1)).flatten = (L.take k).flatten ++ nth [] L k := by
 rw [List.take_succ_eq_append_getElem h, List.flatten_append, nth_eq _ _ _ h]; simp
theorem four_allocs (w : World) (v1 v3 v4 : Value) (vs : Array Value) (t1 t2 t3 t4 : TypeId) (W : World) (hW : (((w.alloc (.cells #[v1] t1)).alloc (.cells vs t2)).alloc (.cells #[v3] t3)).alloc (.cells #[v4] t4) = W) :
    W.cell? ⟨w.heap.size, 0, none⟩ = some v1 ∧ W.heap[w.heap.size + 1]? = some (.cells vs t2 (0, 0)) ∧ (W.cell? ⟨w.heap.size + 1 + 1, 0, none⟩ = some v3 ∧ W.frozen? ⟨w.heap.size + 1 + 1, 0, none⟩ = false) ∧ W.cell? ⟨w.heap.size + 1 + 1 + 1, 0, none⟩ = some v4 ∧ Below w.heap.size w W ∧ W.heap.size = w.heap.size + 1 + 1 + 1 + 1 := by
 obtain ⟨X1, h1⟩ : ∃ X1, w.alloc (.cells #[v1] t1) = X1 := ⟨_, rfl⟩
 obtain ⟨X2, h2⟩ : ∃ X2, X1.alloc (.cells vs t2) = X2 := ⟨_, rfl⟩
 obtain ⟨X3, h3⟩ : ∃ X3, X2.alloc (.cells #[v3] t3) = X3 := ⟨_, rfl⟩
 rw [h1, h2, h3] at hW
 have s1 : X1.heap.size = w.heap.size + 1 := by rw [← h1]; simp
 have s2 : X2.heap.size = w.heap.size + 1 + 1 := by rw [← h2]; simp [s1]
 have s3 : X3.heap.size = w.heap.size + 1 + 1 + 1 := by rw [← h3]; simp [s2]
 have c0 := cell_new_l w v1 t1
 have c1 : X2.heap[w.heap.size + 1]? = some (.cells vs t2 (0, 0)) := by rw [← s1, ← h2]; exact World.alloc_heap_new X1 _
 have c2 := cell_new_l X2 v3 t3
 have c3 := cell_new_l X3 v4 t4
 rw [h1] at c0
 rw [h3, s2] at c2
 rw [hW, s3] at c3
 have l0 := h3 ▸ cell_alloc_l (.cells #[v3] t3) (h2 ▸ cell_alloc_l (.cells vs t2) c0.1)
 refine ⟨hW ▸ cell_alloc_l _ l0, ?_, ⟨hW ▸ cell_alloc_l _ c2.1, hW ▸ frozen_alloc_l _ c2.1 c2.2⟩, c3.1, ?_, by rw [← hW]; simp [s3]⟩
 ·rw [← hW, Below.heap_alloc _ _ _ (by omega), ← h3, Below.heap_alloc _ _ _ (by omega)]; exact c1
 ·rw [← hW, ← h3, ← h2, ← h1]
  exact ((((Below.refl _ _).alloc (Nat.le_refl _) _).alloc (by simp) _).alloc (by simp; omega) _).alloc (by simp; omega) _
def FitI (w : World) (n₀ : Nat) (L : List (List UInt8)) (most : Int) (pre : List Nat) (W : World) : Prop :=
 SBx n₀ (w.heap.size + 1) W ((L.take pre.length).flatten) ∧ (W.cell? ⟨w.heap.size, 0, none⟩ = some (.int .i64 most) ∧ W.cell? ⟨w.heap.size + 1 + 1, 0, none⟩ = some (.int .i64 (sumC (L.take pre.length))) ∧ W.frozen? ⟨w.heap.size + 1 + 1, 0, none⟩ = false) ∧
 ((pre = [] ∨ sumC (L.take pre.length) ≤ most) ∧ (∀ i, i < pre.length → colsL (nth [] L i) ≤ most - sumC (L.take i))) ∧ Below w.heap.size w W
theorem FitI.own {w : World} {n₀ : Nat} {L : List (List UInt8)} {most : Int} {B : Nat} (hB : w.heap.size ≤ B) : OwnFrom B (FitI w n₀ L most) := fun s X Y row ⟨h1, ⟨h2, h3, h4⟩, h5, h6⟩ hg hr =>
 ⟨h1.kept hg (fun k e => (hr k e).2), ⟨cell_kept h2 hg (fun k e => (hr k e).2), cell_kept h3 hg (fun k e => (hr k e).2), (frozen_kept h3 hg (fun k e => (hr k e).2)).trans h4⟩, h5, ownFrom_below (β := List Nat) (n₀ := w.heap.size) (w₀ := w) (Nat.le_refl _) hB s X Y row h6 hg hr⟩
set_option maxRecDepth 100000 in
set_option maxHeartbeats 8000000 in
theorem fitc_any (l : List UInt8) (most : Int) (hl : l.length ≤ 1100000) (hm : -9223372036854775808 ≤ most ∧ most ≤ 9223372036854775807) (w : World) : Calls Tryz.prog 65 #[.string (S l), .int .i64 most] w fun e w' => e = .returned (.tuple #[.string (S (fitT l most)), .int .i64 (fitN l most)]) ∧ Below w.heap.size w w' := by
 have CA := Lib.hid (fun W => call_any l W)
 have hzl := cutL_len l
 obtain ⟨T, hT⟩ : ∃ T, T = fitT l most := ⟨_, rfl⟩
 obtain ⟨N, hN⟩ : ∃ N, N = fitN l most := ⟨_, rfl⟩
 rw [← hT, ← hN]
 have HT := Lib.hid hT
 have HN := Lib.hid hN
 clear hT hN
 refine (callsIn_wide (n := 9)).1 ?_
 have h1 : 1 ≤ 9 := by omega
 refine callsIn_of_wp_marks Tryz.func65 rfl trivial ?_ rfl
 simp only [Tryz.ntmps65, List.size_toArray, List.length_cons, List.length_nil, Nat.reduceAdd, Nat.reduceSub, Array.replicate_succ, Array.replicate_zero, List.push_toArray, List.append_toArray, List.nil_append, List.cons_append]
 gi_wp2_with (refine ⟨trivial, ?_⟩; gi_at_call 100; refine (callsIn_wide.2 (CA.out _)).mono ?_; rintro e w2 ⟨rfl, hw2⟩)
 obtain ⟨hc0, hblk, ⟨hc2, hf2⟩, hcx, hb2, hs2⟩ := four_allocs w _ _ _ _ _ _ _ _ w2 hw2
 clear hw2
 refine wpIn_rangeFunc_GH rfl h1 (gf := 136) (lb := #[.pointer (some ⟨w.heap.size + 1 + 1 + 1, 0, none⟩)]) rfl trivial (enters_of Tryz.func136 (by kernel_rfl) rfl)
  (call1_seq l hl (w.heap.size + 1 + 1 + 1) w2 (by omega) hcx _ (by omega)) KB.trans (KB.put (by omega) (by omega)) (Below.refl _ _) (fun _ => rfl)
  (fun _ => FitI w w2.heap.size (cutL l) most)
  (fun _ c pre W => ∃ q, c = .exit 0 ∧ pre = q ++ [q.length] ∧ q.length < (cutL l).length ∧ most - sumC ((cutL l).take q.length) < colsL (nth [] (cutL l) q.length) ∧ FitI w w2.heap.size (cutL l) most q W)
  (fun g => FitI.own (by omega))
  (fun g c s X Y row hs hg hr => by obtain ⟨q, e1, e2, e3, e4, h⟩ := hs; exact ⟨q, e1, e2, e3, e4, FitI.own (by omega) q X Y row h hg hr⟩)
  (fun g x => ghost_own _ g x)
  (fun g hg => ⟨SBx.new hblk (by omega) (Nat.le_refl _), ⟨hc0, by simpa [sumC] using hc2, hf2⟩, ⟨.inl rfl, fun i hi => by simp at hi⟩, hb2⟩)
  ?_ ?_ ?_ ?_ ?_
 rotate_left 1
 ·intro L x W K hK
  dsimp only [encC]
  gi_wp2
  exact hK
 ·rintro L g pre x W hL1 hL2 hg ⟨hsb, ⟨hcm, hcn, hfn⟩, ⟨hle, hall⟩, hB⟩ ⟨⟨rfl, hxl⟩, cur, hcur⟩ hpl
  have hclu := nth_clu hxl
  have hcl := hclu.len
  have hcb := hclu.cols
  have hbd := sumC_take_bd (cutL l) pre.length
  have HST := Lib.hid (sumC_take (cutL l) pre.length hxl)
  have HTF := Lib.hid (take_flat (cutL l) pre.length hxl)
  have hbl : ((cutL l).take pre.length).flatten.length ≤ 64 * l.length := by
   refine Nat.le_trans (flat_len _ 64 (fun c hc => (clu_mem (List.mem_of_mem_take hc)).len.2)) ?_
   have : ((cutL l).take pre.length).length ≤ l.length := by rw [List.length_take]; omega
   exact Nat.mul_le_mul (Nat.le_refl _) this
  obtain ⟨s, hs⟩ : ∃ s, s = sumC ((cutL l).take pre.length) := ⟨_, rfl⟩
  obtain ⟨C, hC⟩ : ∃ C, C = nth [] (cutL l) pre.length := ⟨_, rfl⟩
  have CO := Lib.hid (fun W => colsOf_any C (by rw [hC]; omega) W)
  have CW := Lib.hid (fun W (h : SBx w2.heap.size (w.heap.size + 1) W ((cutL l).take pre.length).flatten) => h.write C (by rw [hC]; omega))
  obtain ⟨q, hq⟩ : ∃ q, q = colsL C := ⟨_, rfl⟩
  rw [← hC, ← hq] at HST hcb
  rw [← hC] at HTF ⊢
  rw [← hq] at CO
  rw [← hs] at HST hbd hcn hle ⊢
  have hsb0 : 0 ≤ s ∧ s ≤ 2200000 := by omega
  have hle2 : s = 0 ∨ s ≤ most := by
   rcases hle with h | h
   ·left; rw [hs, h]; rfl
   ·exact .inr h
  have hlt0 := World.block_lt_of_cell? _ _ hcm
  have hlt2 := World.block_lt_of_cell? _ _ hcn
  have hglt := (Array.getElem?_eq_some_iff.1 hcur).1
  have hx0 : w.heap.size + 1 + 1 + 1 < W.heap.size := by omega
  have HALL := Lib.hid hall
  have HS := Lib.hid hs
  have HQ := Lib.hid (show colsL (nth [] (cutL l) pre.length) = q by rw [hq, hC])
  have HX := Lib.hid hxl
  have HLE := Lib.hid hle
  have hwr : IntKind.i64.wrap (most - s) = most - s := IntWalk.i64_in _ (by omega)
  clear hall hs hq hC hclu hcl hbl hbd hpl hxl hle
  have y0 : w.heap.size < w2.heap.size := by omega
  have y1 : w.heap.size ≠ w.heap.size + 1 := by omega
  have y2 : w.heap.size + 1 + 1 < w2.heap.size := by omega
  have y3 : w.heap.size + 1 + 1 ≠ w.heap.size + 1 := by omega
  by_cases hc : most - s < q
  ·gi_wp2_with (refine ⟨trivial, ?_⟩; gi_at_call 101; refine (callsIn_wide.2 (CO.out _)).mono ?_; rintro e w3 ⟨rfl, hb3⟩; have hcm3 := (hb3.cell (p := ⟨w.heap.size, 0, none⟩) hlt0).trans hcm; have hcn3 := (hb3.cell (p := ⟨w.heap.size + 1 + 1, 0, none⟩) hlt2).trans hcn; have hfn3 := (hb3.frozen (p := ⟨w.heap.size + 1 + 1, 0, none⟩) hlt2).trans hfn)
   exact ⟨(others_of_below hb3).from _, pre, rfl, rfl, HX.out, by rw [HQ.out, ← HS.out]; exact hc, hsb.below hb3, ⟨hcm3, by rw [← HS.out]; exact hcn3, hfn3⟩, ⟨by rw [← HS.out]; exact HLE.out, HALL.out⟩, bto hB hb3 hB.size⟩
  ·have hc' : q ≤ most - s := by omega
   gi_wp2_with (first
    | (refine ⟨trivial, ?_⟩; gi_at_call 101; refine (callsIn_wide.2 (CO.out _)).mono ?_; rintro e w3 ⟨rfl, hb3⟩; have hcm3 := (hb3.cell (p := ⟨w.heap.size, 0, none⟩) hlt0).trans hcm; have hcn3 := (hb3.cell (p := ⟨w.heap.size + 1 + 1, 0, none⟩) hlt2).trans hcn; have hfn3 := (hb3.frozen (p := ⟨w.heap.size + 1 + 1, 0, none⟩) hlt2).trans hfn)
    | (refine ⟨trivial, ?_⟩; gi_at_call 67; refine (callsIn_wide.2 (CW.out _ (hsb.below hb3))).mono ?_; rintro e w4 ⟨rfl, hsb4, hbut4, hkt4⟩; have hcm4 := (cell_block (hbut4.block _ y0 y1)).trans hcm3; have hcn4 := (cell_block (hbut4.block _ y2 y3)).trans hcn3; have hfn4 := (frozen_block (hbut4.block _ y2 y3)).trans hfn3))
   have hcur3 := (hb3.block g hglt).trans hcur
   have hcur4 := hkt4 g _ hcur3 (by omega) (fun c f e => by injection e with _ e2; cases e2)
   have hk4 : KB (w.heap.size + 1 + 1 + 1) (w.heap.size + 1 + 1 + 1) W w4 := (KB.of_below hb3 hx0 hx0).trans (hbut4.kb (by omega) (by omega) (by omega) (by omega))
   have hg4 : w4.heap[g]? = W.heap[g]? := hcur4.trans hcur.symm
   have hB4 : Below w.heap.size w w4 := (bto hB hb3 hB.size).trans (hbut4.below (by omega) (by omega))
   refine ⟨(((others_of_below hb3).trans hbut4.others).trans (KeepsOthers.setCell _ _ _)).from _, ⟨hk4.trans (KB.setCell _ _ _ _ (by omega) (by omega)), (Below.heap_setCell _ _ _ _ (by show g ≠ w.heap.size + 1 + 1; omega)).trans hg4⟩, ?_⟩
   unfold FitI
   rw [List.length_append, show ([pre.length] : List Nat).length = 1 from rfl, HST.out, HTF.out]
   refine ⟨hsb4.set _ _ y2 y3, ⟨?_, ?_, ?_⟩, ⟨.inr (by omega), fun i hi => ?_⟩, hB4.setCell (p := ⟨w.heap.size + 1 + 1, 0, none⟩) (by show _ ≤ w.heap.size + 1 + 1; omega) _⟩
   ·rw [cell_block (Below.heap_setCell _ _ _ _ (by show w.heap.size ≠ w.heap.size + 1 + 1; omega))]; exact hcm4
   ·exact World.cell?_setCell_same' _ _ _ (by rw [hcn4]; rfl)
   ·rw [World.frozen?_setCell]; exact hfn4
   ·by_cases e : i = pre.length
    ·rw [e, HQ.out, ← HS.out]; exact hc'
    ·exact HALL.out i (by omega)
 ·rintro D g ys W hD hys ⟨hsb, ⟨hcm, hcn, hfn⟩, ⟨hle, hall⟩, hB⟩ hK
  have hyl : ys.length = (cutL l).length := by rw [hys, List.length_range]
  have hk : fitK (cutL l) most = (cutL l).length := fitK_end _ _ (fun i hi => by have := hall i (by omega); omega)
  have hsT : ((cutL l).take ys.length).flatten = T := by rw [HT.out, hyl]; unfold fitT; rw [hk]
  have hsN : sumC ((cutL l).take ys.length) = N := by rw [HN.out, hyl]; unfold fitN; rw [hk]
  rw [hsT] at hsb
  rw [hsN] at hcn
  have CS := Lib.hid hsb.drew.string
  have y2 : w.heap.size + 1 + 1 < w2.heap.size := by omega
  clear hys hyl hk hsT hsN hle hall
  gi_wp2
  refine wpIn_wide.2 ?_
  go_region_held3 (fun w' => w'.cell? ⟨w.heap.size + 1 + 1, 0, none⟩ = some (.int .i64 N)) (first | assumption | go_keep) ((go_at_call 68; refine (CS.out).mono ?_; rintro e w5 ⟨rfl, hb5, ho5⟩; have hcn5 := (hb5.cell (p := ⟨w.heap.size + 1 + 1, 0, none⟩) y2).trans hcn))
  have hK5 : w5.heap[D]? = some (.deferred (some [])) := ho5.same D _ (by exact hK) rfl
  gi_wp2
  refine ⟨by simp, .inl ⟨_, _, rfl, run_takeDeferred hK5, ?_⟩⟩
  refine ⟨_, results_tmp2 rfl _ _ _, rfl, ?_⟩
  have hb5' : Below w.heap.size W w5 := (show Below w2.heap.size W w5 from ⟨hb5.os, hb5.tape, hb5.output, hb5.size, hb5.block⟩).mono (by omega)
  exact (hB.trans hb5').trans (belowK_b (w := w) (Nat.le_refl _) w5 D _ _ (by omega) hK5 rfl rfl)
 ·rintro D g c pre W hD hpre ⟨q, rfl, rfl, hql, hlt, hsb, ⟨hcm, hcn, hfn⟩, ⟨hle, hall⟩, hB⟩ hK
  have hk : fitK (cutL l) most = q.length := fitK_stop _ _ _ hql (fun i hi => by have := hall i hi; omega) hlt
  have hsT : ((cutL l).take q.length).flatten = T := by rw [HT.out]; unfold fitT; rw [hk]
  have hsN : sumC ((cutL l).take q.length) = N := by rw [HN.out]; unfold fitN; rw [hk]
  rw [hsT] at hsb
  rw [hsN] at hcn
  have CS := Lib.hid hsb.drew.string
  have y2 : w.heap.size + 1 + 1 < w2.heap.size := by omega
  clear hpre hql hlt hk hsT hsN hle hall
  gi_wp2
  refine wpIn_wide.2 ?_
  go_region_held3 (fun w' => w'.cell? ⟨w.heap.size + 1 + 1, 0, none⟩ = some (.int .i64 N)) (first | assumption | go_keep) ((go_at_call 68; refine (CS.out).mono ?_; rintro e w5 ⟨rfl, hb5, ho5⟩; have hcn5 := (hb5.cell (p := ⟨w.heap.size + 1 + 1, 0, none⟩) y2).trans hcn))
  have hK5 : w5.heap[D]? = some (.deferred (some [])) := ho5.same D _ (by exact hK) rfl
  gi_wp2
  refine ⟨by simp, .inl ⟨_, _, rfl, run_takeDeferred hK5, ?_⟩⟩
  refine ⟨_, results_tmp2 rfl _ _ _, rfl, ?_⟩
  have hb5' : Below w.heap.size W w5 := (show Below w2.heap.size W w5 from ⟨hb5.os, hb5.tape, hb5.output, hb5.size, hb5.block⟩).mono (by omega)
  exact (hB.trans hb5').trans (belowK_b (w := w) (Nat.le_refl _) w5 D _ _ (by omega) hK5 rfl rfl)
end Go.Proofs.YtjkajojjehgmdaaGreat
