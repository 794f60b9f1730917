/- A rune's bytes: the contracts of isRune, six, Bytes, and of the reference's. A rune's bytes: for any number; and the reference's. The first rune of bytes: the contracts of shapeOf, Next and step. The first rune of bytes: the contracts of Next and step. The runes of bytes, one by one: the contracts of the iterators. -/
import Derived.Laws.IdiomStrings
import Derived.Test.YtekodpcedjpnjaaGreatRN01
import Derived.Test.YtekodpcedjpnjaaGreatRN02
import Derived.Test.YtekodpcedjpnjaaGreatRN13
import Derived.Test.YtekodpcedjpnjaaGreatRN14
set_option linter.unusedVariables false
set_option linter.unusedSimpArgs false
namespace Go.Proofs.YtekodpcedjpnjaaGreat
open Go.RowKit
theorem wrap_u8_nat (m : Nat) : IntKind.u8.wrap (m : Int) = ((m % 256 : Nat) : Int) := by
  rw [IntKind.wrap_u8]; omega
set_option maxRecDepth 100000 in
theorem six_any (n k : Nat) (hn : n ≤ 1114111) (hk : k = 0 ∨ k = 6 ∨ k = 12) (w : World) : Calls Tryz.prog 262 #[.int .i32 n, .int .u64 k] w fun e w' => e = .returned (.int .u8 ((128 + n / 2 ^ k % 64 : Nat) : Int)) ∧ w = w' := by
  have h0 := wrap_u8_nat (n / 2 ^ k)
  have h1 := and63 (n / 2 ^ k % 256) (Nat.mod_lt _ (by omega))
  have h2 := or128 (n / 2 ^ k % 256 % 64) (Nat.mod_lt _ (by omega))
  have h3 : (n : Int).fdiv ((2 ^ k : Nat) : Int) = ((n / 2 ^ k : Nat) : Int) := by
    rw [Int.fdiv_eq_ediv_of_nonneg _ (Int.natCast_nonneg _), Int.natCast_ediv]
  rcases hk with rfl | rfl | rfl
  all_goals
    simp only [Nat.reducePow] at h0 h1 h2 h3 ⊢
    go_enter Tryz.func262, Tryz.ntmps262
    go_wp2
    go_ret
    exact ⟨ret_int (by omega), rfl⟩
set_option maxRecDepth 100000 in
theorem isRune_any (r : Int) (w : World) : Calls Tryz.prog 261 #[.int .i32 r] w fun e w' => e = .returned (.bool (isR r)) ∧ w = w' := by
  obtain ⟨z, hz⟩ : ∃ z, z = isR r := ⟨_, rfl⟩
  rw [← hz]
  have HZ := Lib.hid hz
  clear hz
  go_enter Tryz.func261, Tryz.ntmps261
  go_wp2
  all_goals go_ret
  all_goals refine ⟨ret_bool ?_, rfl⟩
  all_goals rw [HZ.out]
  all_goals unfold isR
  all_goals first | exact (decide_eq_true (by omega)).symm | exact (decide_eq_false (by omega)).symm | (rw [Bool.eq_iff_iff]; simp only [decide_eq_true_eq, Bool.or_eq_true, Bool.and_eq_true]; omega)
def u8v (l : List UInt8) : List Value := l.map fun b => .int .u8 b.toNat
def NewB (l : List UInt8) (w : World) (e : Ending) (w' : World) : Prop := ∃ n, n = l.length ∧ e = .returned (.slice (some ⟨w.heap.size, 0, none⟩) n n) ∧ w.alloc (.cells (u8v l).toArray 5) = w'
theorem byteB_nat (n : Nat) (h : n < 256) : (byteB n).toNat = n := by simp [byteB]; omega
end Go.Proofs.YtekodpcedjpnjaaGreat
namespace Go.Proofs.YtekodpcedjpnjaaGreat
open Go.RowKit
set_option maxRecDepth 100000 in
set_option maxHeartbeats 2000000 in
theorem rbytes_bad (r : Int) (hr : isR r = false) (w : World) : Calls Tryz.prog 229 #[.int .i32 r] w (NewB (bytesN 65533) w) := by
  have CI := isRune_any r w
  rw [hr] at CI
  have CI := Lib.hid CI
  have hsix : ∀ k : Nat, (k = 0 ∨ k = 6 ∨ k = 12) → ∀ W : World, Calls Tryz.prog 262 #[.int .i32 65533, .int .u64 k] W fun e w' => e = .returned (.int .u8 ((128 + 65533 / 2 ^ k % 64 : Nat) : Int)) ∧ W = w' := fun k hk W => six_any 65533 k (by omega) hk W
  have C0 := hsix 0 (by omega)
  have C6 := hsix 6 (by omega)
  simp only [Nat.reducePow, Nat.reduceDiv, Nat.reduceMod, Nat.reduceAdd] at C0 C6
  have C0 := Lib.hid C0
  have C6 := Lib.hid C6
  clear hsix hr
  go_enter Tryz.func229, Tryz.ntmps229
  go_wp2_with (go_at_call 261; refine (CI.out).mono ?_; rintro e w1 ⟨rfl, rfl⟩)
  refine (C6.out _).mono ?_
  rintro e w1 ⟨rfl, rfl⟩
  go_wp2_with fail
  refine (C0.out _).mono ?_
  rintro e w1 ⟨rfl, rfl⟩
  go_wp2_with fail
  go_ret
  refine ⟨3, rfl, rfl, ?_⟩
  refine congrArg (fun a => w.alloc (.cells a 5)) ?_
  kernel_rfl
set_option maxRecDepth 100000 in
theorem refIs1_any (r : Int) (w : World) : Calls Tryz.prog 205 #[.int .i32 r] w fun e w' => e = .returned (.bool (isR r)) ∧ w = w' := by
  obtain ⟨z, hz⟩ : ∃ z, z = isR r := ⟨_, rfl⟩
  rw [← hz]
  have HZ := Lib.hid hz
  clear hz
  go_enter Tryz.func205, Tryz.ntmps205
  go_wp2
  all_goals go_ret
  all_goals refine ⟨ret_bool ?_, rfl⟩
  all_goals rw [HZ.out]
  all_goals unfold isR
  all_goals first | exact (decide_eq_true (by omega)).symm | exact (decide_eq_false (by omega)).symm | (rw [Bool.eq_iff_iff]; simp only [decide_eq_true_eq, Bool.or_eq_true, Bool.and_eq_true]; omega)
set_option maxRecDepth 100000 in
theorem low_any (r : Int) (h0 : 0 ≤ r) (h1 : r ≤ 1114111) (w : World) : Calls Tryz.prog 206 #[.int .i32 r] w fun e w' => e = .returned (.int .u8 (128 + r % 64)) ∧ w = w' := by
  have ht : r.tmod 64 = r % 64 := Int.tmod_eq_emod_of_nonneg h0
  have hb : 0 ≤ r % 64 ∧ r % 64 < 64 := by omega
  go_enter Tryz.func206, Tryz.ntmps206
  go_wp2
  go_ret
  exact ⟨ret_int (by omega), rfl⟩
theorem runeN_le (r : Int) : runeN r ≤ 1114111 := by
  unfold runeN isR
  split
  · rename_i h; have := of_decide_eq_true h; omega
  · omega
set_option maxRecDepth 100000 in
set_option maxHeartbeats 2000000 in
theorem refBytes_bad (r : Int) (hr : isR r = false) (w : World) : Calls Tryz.prog 159 #[.int .i32 r] w (NewB (bytesN 65533) w) := by
  have CI := refIs1_any r w
  rw [hr] at CI
  have CI := Lib.hid CI
  have C0 := Lib.hid (fun W => low_any 65533 (by omega) (by omega) W)
  have C6 := Lib.hid (fun W => low_any 1023 (by omega) (by omega) W)
  clear hr
  go_enter Tryz.func159, Tryz.ntmps159
  go_wp2_with (go_at_call 205; refine (CI.out).mono ?_; rintro e w1 ⟨rfl, rfl⟩)
  refine (C6.out _).mono ?_
  rintro e w1 ⟨rfl, rfl⟩
  go_wp2_with fail
  refine (C0.out _).mono ?_
  rintro e w1 ⟨rfl, rfl⟩
  go_wp2_with fail
  go_ret
  refine ⟨3, rfl, rfl, ?_⟩
  refine congrArg (fun a => w.alloc (.cells a 5)) ?_
  kernel_rfl
set_option maxRecDepth 100000 in
set_option maxHeartbeats 2000000 in
theorem refBytes_any (r : Int) (w : World) : Calls Tryz.prog 159 #[.int .i32 r] w (NewB (bytesR r) w) := by
  obtain ⟨n, hnN⟩ : ∃ n, n = runeN r := ⟨_, rfl⟩
  obtain ⟨q, hnr⟩ : ∃ q : Int, q = (n : Int) := ⟨_, rfl⟩
  have hn : n ≤ 1114111 := hnN ▸ runeN_le r
  have CI := refIs1_any r w
  have hbR : bytesR r = bytesN n := by unfold bytesR; rw [hnN]
  rw [hbR]
  clear hbR
  have hkey : (isR r = true ∧ r = q) ∨ (isR r = false ∧ q = 65533) := by
    rw [hnr, hnN]
    unfold runeN
    by_cases h : isR r = true
    · rw [if_pos h]
      unfold isR at h
      have := of_decide_eq_true h
      exact .inl ⟨by unfold isR; exact decide_eq_true this, by omega⟩
    · rw [if_neg h]
      exact .inr ⟨by simpa using h, rfl⟩
  have hq0 : 0 ≤ q := by omega
  have hq1 : q ≤ 1114111 := by omega
  have CL := fun (k : Int) (h0 : 0 ≤ k) (h1 : k ≤ 1114111) (W : World) => low_any k h0 h1 W
  have C0 := Lib.hid (CL q hq0 hq1)
  have C6 := Lib.hid (CL (q / 64) (by omega) (by omega))
  have C12 := Lib.hid (CL (q / 4096) (by omega) (by omega))
  have t6 : q.tdiv 64 = q / 64 := Int.tdiv_eq_ediv_of_nonneg hq0
  have t12 : q.tdiv 4096 = q / 4096 := Int.tdiv_eq_ediv_of_nonneg hq0
  have t18 : q.tdiv 262144 = q / 262144 := Int.tdiv_eq_ediv_of_nonneg hq0
  have HH := Lib.hid (And.intro hnr hn)
  have hex : ∀ l : List UInt8, bytesN n = l → ∀ vs : Array Value, (u8v l).toArray = vs → ∀ W e, e = .returned (.slice (some ⟨W.heap.size, 0, none⟩) l.length l.length) → NewB (bytesN n) W e (W.alloc (.cells vs 5)) := fun l h vs hv W e he => by
    rw [h]; exact ⟨_, rfl, he, by rw [hv]⟩
  have HEX := Lib.hid hex
  clear hex CL hnN hnr
  have hcase : n < 128 ∨ (¬ n < 128 ∧ n < 2048) ∨ (¬ n < 128 ∧ ¬ n < 2048 ∧ n < 65536) ∨ (¬ n < 128 ∧ ¬ n < 2048 ∧ ¬ n < 65536) := by omega
  rcases hcase with h1 | hcase | hcase | hcase
  · have hb : bytesN n = [byteB n] := by unfold bytesN; rw [if_pos h1]
    have d1 : q < 128 := by have := HH.out; omega
    have HH2 := Lib.hid (And.intro hb h1)
    clear hb h1 t6 t12 t18 hn
    rcases hkey with ⟨hi, rfl⟩ | ⟨hi, hq⟩
    · rw [hi] at CI
      have CI := Lib.hid CI
      clear hi
      go_enter Tryz.func159, Tryz.ntmps159
      go_wp2_with (go_at_call 205; refine (CI.out).mono ?_; rintro e w1 ⟨rfl, rfl⟩)
      go_ret
      obtain ⟨hnr, hn⟩ := HH.out
      obtain ⟨hb, h1⟩ := HH2.out
      refine HEX.out _ hb _ ?_ w _ rfl
      simp only [u8v, List.map_cons, List.map_nil, byteB_nat n (by omega), hnr]
    · omega
  · have hb : bytesN n = [byteB (192 + n / 64), byteB (128 + n % 64)] := by unfold bytesN; rw [if_neg hcase.1, if_pos hcase.2]
    have d1 : 128 ≤ q := by have := HH.out; omega
    have d2 : q < 2048 := by have := HH.out; omega
    have HH2 := Lib.hid (And.intro hb hcase)
    clear hb hcase hn t12 t18
    rcases hkey with ⟨hi, rfl⟩ | ⟨hi, hq⟩
    · rw [hi] at CI
      have CI := Lib.hid CI
      clear hi
      go_enter Tryz.func159, Tryz.ntmps159
      go_wp2_with (go_at_call 205; refine (CI.out).mono ?_; rintro e w1 ⟨rfl, rfl⟩)
      refine (C0.out _).mono ?_
      rintro e w1 ⟨rfl, rfl⟩
      go_wp2_with fail
      go_ret
      obtain ⟨hnr, hn⟩ := HH.out
      obtain ⟨hb, hcase⟩ := HH2.out
      refine HEX.out _ hb _ ?_ w _ rfl
      unfold u8v
      rw [List.map_cons, List.map_cons, List.map_nil, byteB_nat (192 + n / 64) (by omega), byteB_nat (128 + n % 64) (by omega)]
      simp only [Int.natCast_add, Int.natCast_ediv, Int.natCast_emod, Int.cast_ofNat_Int, hnr]
    · omega
  · have hb : bytesN n = [byteB (224 + n / 4096), byteB (128 + n / 64 % 64), byteB (128 + n % 64)] := by unfold bytesN; rw [if_neg hcase.1, if_neg hcase.2.1, if_pos hcase.2.2]
    have d1 : 128 ≤ q := by have := HH.out; omega
    have d2 : 2048 ≤ q := by have := HH.out; omega
    have d3 : q < 65536 := by have := HH.out; omega
    have HH2 := Lib.hid (And.intro hb hcase)
    clear hb hcase hn t18
    rcases hkey with ⟨hi, rfl⟩ | ⟨hi, hq⟩
    · rw [hi] at CI
      have CI := Lib.hid CI
      clear hi
      go_enter Tryz.func159, Tryz.ntmps159
      go_wp2_with (go_at_call 205; refine (CI.out).mono ?_; rintro e w1 ⟨rfl, rfl⟩)
      refine (C6.out _).mono ?_
      rintro e w1 ⟨rfl, rfl⟩
      go_wp2_with fail
      refine (C0.out _).mono ?_
      rintro e w1 ⟨rfl, rfl⟩
      go_wp2_with fail
      go_ret
      obtain ⟨hnr, hn⟩ := HH.out
      obtain ⟨hb, hcase⟩ := HH2.out
      refine HEX.out _ hb _ ?_ w _ rfl
      unfold u8v
      rw [List.map_cons, List.map_cons, List.map_cons, List.map_nil, byteB_nat (224 + n / 4096) (by omega), byteB_nat (128 + n / 64 % 64) (by omega), byteB_nat (128 + n % 64) (by omega)]
      simp only [Int.natCast_add, Int.natCast_ediv, Int.natCast_emod, Int.cast_ofNat_Int, hnr]
    · have hnn : n = 65533 := by have := HH.out.1; omega
      rw [hnn]
      exact refBytes_bad r hi w
  · have hb : bytesN n = [byteB (240 + n / 262144), byteB (128 + n / 4096 % 64), byteB (128 + n / 64 % 64), byteB (128 + n % 64)] := by unfold bytesN; rw [if_neg hcase.1, if_neg hcase.2.1, if_neg hcase.2.2]
    have d1 : 128 ≤ q := by have := HH.out; omega
    have d2 : 2048 ≤ q := by have := HH.out; omega
    have d3 : 65536 ≤ q := by have := HH.out; omega
    have HH2 := Lib.hid (And.intro hb hcase)
    clear hb hcase hn 
    rcases hkey with ⟨hi, rfl⟩ | ⟨hi, hq⟩
    · rw [hi] at CI
      have CI := Lib.hid CI
      clear hi
      go_enter Tryz.func159, Tryz.ntmps159
      go_wp2_with (go_at_call 205; refine (CI.out).mono ?_; rintro e w1 ⟨rfl, rfl⟩)
      refine (C12.out _).mono ?_
      rintro e w1 ⟨rfl, rfl⟩
      go_wp2_with fail
      refine (C6.out _).mono ?_
      rintro e w1 ⟨rfl, rfl⟩
      go_wp2_with fail
      refine (C0.out _).mono ?_
      rintro e w1 ⟨rfl, rfl⟩
      go_wp2_with fail
      go_ret
      obtain ⟨hnr, hn⟩ := HH.out
      obtain ⟨hb, hcase⟩ := HH2.out
      refine HEX.out _ hb _ ?_ w _ rfl
      unfold u8v
      rw [List.map_cons, List.map_cons, List.map_cons, List.map_cons, List.map_nil, byteB_nat (240 + n / 262144) (by omega), byteB_nat (128 + n / 4096 % 64) (by omega), byteB_nat (128 + n / 64 % 64) (by omega), byteB_nat (128 + n % 64) (by omega)]
      simp only [Int.natCast_add, Int.natCast_ediv, Int.natCast_emod, Int.cast_ofNat_Int, hnr]
    · omega
end Go.Proofs.YtekodpcedjpnjaaGreat
namespace Go.Proofs.YtekodpcedjpnjaaGreat
open Go.RowKit
end Go.Proofs.YtekodpcedjpnjaaGreat
namespace Go.Proofs.YtekodpcedjpnjaaGreat
open Go.RowKit
structure Bys (w : World) (b off : Nat) (l : List UInt8) : Prop where
  lt : b < w.heap.size
  at_ : ∀ j, j < l.length → w.cell? ⟨b, off + j, none⟩ = some (.int .u8 ((nth 0 l j).toNat : Int))
theorem Bys.below {w w' : World} {b off : Nat} {l : List UInt8} (h : Bys w b off l) (hb : Below w.heap.size w w') : Bys w' b off l :=
  ⟨by have := hb.size; have := h.lt; omega, fun j hj => (hb.cell (p := ⟨b, off + j, none⟩) h.lt).trans (h.at_ j hj)⟩
def NextP (l : List UInt8) (e : Ending) : Prop := ∃ (r : Int) (n : Nat) (m : Bool), e = .returned (.tuple #[.int .i32 r, .int .i64 n, .bool m]) ∧ (m = true ∧ stepL l = (65533, 1) ∧ moreL l = true ∨ m = false ∧ r = (stepL l).1 ∧ n = (stepL l).2 ∧ moreL l = false)
theorem nextP_more {l : List UInt8} (h : stepL l = (65533, 1)) (h' : moreL l = true) : NextP l (.returned (.tuple #[.int .i32 0, .int .i64 0, .bool true])) := ⟨0, 0, true, rfl, .inl ⟨rfl, h, h'⟩⟩
theorem nextP_bad {l : List UInt8} (h : stepL l = (65533, 1)) (h' : moreL l = false) : NextP l (.returned (.tuple #[.int .i32 65533, .int .i64 1, .bool false])) := ⟨65533, 1, false, rfl, .inr ⟨rfl, by rw [h]; rfl, by rw [h], h'⟩⟩
theorem nextP_ok {l : List UInt8} {r n : Nat} (h : stepL l = (r, n)) (h' : moreL l = false) : NextP l (.returned (.tuple #[.int .i32 r, .int .i64 n, .bool false])) := ⟨r, n, false, rfl, .inr ⟨rfl, by rw [h], by rw [h], h'⟩⟩
end Go.Proofs.YtekodpcedjpnjaaGreat
namespace Go.Proofs.YtekodpcedjpnjaaGreat
open Go.RowKit Go.Shelf Go.Maps
attribute [local go_sem] Oper.semAt_some
theorem bytes_conv (w : World) (l : List UInt8) : ∃ cap W1, (convert 9 61 (.string (S l))).run Tryz.prog w = .ok (.slice (some ⟨w.heap.size, 0, none⟩) l.length cap) W1 ∧
    Below w.heap.size w W1 ∧ W1.heap.size = w.heap.size + 1 ∧ Bys W1 w.heap.size 0 l ∧ l.length ≤ cap ∧ (∀ j, j < l.length → W1.frozen? ⟨w.heap.size, j, none⟩ = false) := by
  have h := run_bytes_of_string (P := Tryz.prog) w 9 61 5 (S l) Tryz.underlying9 Tryz.underlying61 Tryz.underlying5
  obtain ⟨cap, hcap⟩ : ∃ cap, cap = grownCap w (S l).size 0 5 := ⟨_, rfl⟩
  have hge : l.length ≤ cap := by rw [hcap, ← S_size]; exact grownCap_ge _ _ _ _
  rw [← hcap, S_size] at h
  obtain ⟨W1, hW1⟩ : ∃ W1, W1 = w.drew.alloc (.cells (bytesRow (S l) cap) 5 ((bytesRow (S l) cap).size, (bytesRow (S l) cap).size + 1)) := ⟨_, rfl⟩
  rw [← hW1] at h
  have hn : W1.heap[w.heap.size]? = some (.cells (bytesRow (S l) cap) 5 ((bytesRow (S l) cap).size, (bytesRow (S l) cap).size + 1)) := by
    rw [hW1]; exact World.alloc_heap_new w.drew _
  have hsz : W1.heap.size = w.heap.size + 1 := by rw [hW1]; exact World.size_alloc w.drew _
  have hrow : ∀ j, j < l.length → (bytesRow (S l) cap)[j]? = some (.int .u8 ((nth 0 l j).toNat : Int)) := by
    intro j hj
    unfold bytesRow
    rw [Array.getElem?_append_left (by simp [S]; exact hj)]
    simp [S, nth, hj]
  have hrs : l.length ≤ (bytesRow (S l) cap).size := by simp [bytesRow, S]
  refine ⟨cap, W1, h, ?_, hsz, ⟨by omega, fun j hj => ?_⟩, hge, fun j hj => ?_⟩
  · rw [hW1]
    exact ((Below.refl _ w).drew).alloc (Nat.le_refl _) _
  · unfold World.cell?
    dsimp only
    rw [hn, Nat.zero_add]
    exact hrow j hj
  · unfold World.frozen?
    dsimp only
    rw [hn]
    simp
    omega
theorem Bys.of_block {W W' : World} {b off : Nat} {l : List UInt8} (h : Bys W b off l) (hb : W'.heap[b]? = W.heap[b]?) (hs : W.heap.size ≤ W'.heap.size) : Bys W' b off l :=
  ⟨Nat.lt_of_lt_of_le h.lt hs, fun j hj => (cell_block hb).trans (h.at_ j hj)⟩
theorem Bys.drop {W : World} {b : Nat} {l : List UInt8} (h : Bys W b 0 l) (k : Nat) : Bys W b k (l.drop k) :=
  ⟨h.lt, fun j hj => by
    rw [List.length_drop] at hj
    have := h.at_ (k + j) (by omega)
    rw [Nat.zero_add] at this
    rw [this]
    simp [nth, List.getD]⟩
end Go.Proofs.YtekodpcedjpnjaaGreat
