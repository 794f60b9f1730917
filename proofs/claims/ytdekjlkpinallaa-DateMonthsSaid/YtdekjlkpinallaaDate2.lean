/- Numbers in so many digits, of the program and of its reference. -/
import Derived.Test.YtdekjlkpinallaaDate1
namespace Go.Proofs.Ytdekjlkpinallaa
open Go.RowKit Go.Maps
/-- The digits that have been laid: the cells of block B from place q on. -/
structure DLaid (B k : Nat) (w : World) (q : Nat) (suf : List UInt8) : Prop where
  blk : ∃ cs : Array Value, w.heap[B]? = some (.cells cs 5 (0, 0)) ∧ cs.size = k ∧ cs.toList.drop q = suf.map fun b => Value.int .u8 b.toNat
theorem DLaid.cell {B k : Nat} {w : World} {q : Nat} {suf : List UInt8} (h : DLaid B k w q suf) {p : Nat} (hp : p < k) : (∃ v, w.cell? ⟨B, p, none⟩ = some v) ∧ w.frozen? ⟨B, p, none⟩ = false := by
  obtain ⟨cs, h1, h2, _⟩ := h.blk
  unfold World.cell? World.frozen?
  dsimp only
  rw [h1]
  refine ⟨⟨cs[p]'(by omega), ?_⟩, by simp⟩
  simp [h2, hp]
theorem drop_set (l : List Value) (q : Nat) (v : Value) (hq : q < l.length) : (l.set q v).drop q = v :: l.drop (q + 1) := by
  rw [List.drop_eq_getElem_cons (by simpa using hq)]
  rw [List.getElem_set_self]
  congr 1
  apply List.ext_getElem
  · simp
  · intro i h1 h2
    simp only [List.getElem_drop]
    rw [List.getElem_set_ne (by omega)]
theorem DLaid.put {B k : Nat} {w : World} {q : Nat} {suf : List UInt8} (h : DLaid B k w (q + 1) suf) (hq : q < k) (b : UInt8) (v : Int) (hv : v = b.toNat) : DLaid B k (w.setCell ⟨B, q, none⟩ (.int .u8 v)) q (b :: suf) := by
  obtain ⟨cs, h1, h2, h3⟩ := h.blk
  refine ⟨cs.setIfInBounds q (.int .u8 v), ?_, by simpa using h2, ?_⟩
  · unfold World.setCell
    dsimp only
    rw [Array.getElem?_modify, h1]
    simp
  · rw [Array.toList_setIfInBounds, drop_set _ _ _ (by simp; omega), h3, hv]
    rfl
theorem DLaid.conv {B k : Nat} {w : World} {l : List UInt8} (h : DLaid B k w 0 l) (hk : k = l.length) :
    (convert 53 9 (.slice (some ⟨B, 0, none⟩) k k)).run Try.prog w = .ok (.string (S l)) w := by
  obtain ⟨cs, h1, h2, h3⟩ := h.blk
  have := run_convert_bytes_arg (P := Try.prog) w 53 5 Try.underlying53 Try.underlying5 B 0 k k (l.map fun b => (b.toNat : Int)) (by simp [hk])
    (fun i hi => ?_) 9 Try.underlying9
  · rw [strOfNums_S] at this; exact this
  · unfold World.cell?
    dsimp only
    rw [h1]
    have h4 : (cs.toList.drop 0)[i]? = (l.map fun b => Value.int .u8 b.toNat)[i]? := by rw [h3]
    rw [List.getElem?_drop, List.getElem?_map] at h4
    simp only [Option.isSome_none, Bool.false_eq_true, if_false]
    rw [← Array.getElem?_toList, h4]
    simp [show i < l.length by omega]
/-- make([]byte, n). -/
theorem run_bmake (W : World) (n : Nat) (hn : n ≤ 1000) :
    ∃ cs : Array Value, cs.size = n ∧ (Instr.makeSlice 53 (.int .i64 (n : Int)) (.int .i64 (n : Int))).run Try.prog W = .ok (.slice (some ⟨W.heap.size, 0, none⟩) n n) (W.alloc (.cells cs 5)) := by
  have hs : (Try.prog.info? 5).map (fun i => (i.zero, i.size, decide (i.bytes ≤ 1))) = some (some (.int .u8 0), 1, true) := by kernel_rfl
  cases hq : Try.prog.info? 5 with
  | none => rw [hq] at hs; cases hs
  | some i =>
    rw [hq] at hs
    simp only [Option.map_some, Option.some.injEq, Prod.mk.injEq, decide_eq_true_eq] at hs
    obtain ⟨h1, h2, h3⟩ := hs
    have := run_make (P := Try.prog) W 53 5 i (.int .u8 0) Try.underlying53 hq h1 .i64 .i64 n n (by omega) (by omega) (by have : i.bytes * n ≤ 1 * 1000 := Nat.mul_le_mul h3 hn; rw [← Int.natCast_mul]; omega) (by omega)
    refine ⟨_, ?_, this⟩
    simp [madeCells, h2]
set_option maxRecDepth 100000 in
set_option maxHeartbeats 1000000 in
theorem digits_at (n : Nat) (hn : n ≤ 9999) (k : Nat) (hk : k ≤ 4) (w : World) : Calls Try.prog 65 #[.int .i64 n, .int .i64 k] w fun e w' => e = .returned (.string (S (dig k n))) ∧ Below w.heap.size w w' := by
  obtain ⟨cs, hcs, hmk⟩ := run_bmake w k (by omega)
  have h0 : DLaid w.heap.size k (w.alloc (.cells cs 5)) k [] := ⟨cs, World.alloc_heap_new w _, hcs, by simp [hcs]⟩
  have hb0 : Below w.heap.size w (w.alloc (.cells cs 5)) := (Below.refl _ _).alloc (Nat.le_refl _) _
  generalize w.alloc (.cells cs 5) = W0 at hmk h0 hb0
  clear hcs
  go_enter Try.func65, Try.ntmps65
  go_wp2
  go_loopw [0, 6] (fun v i wr => ∃ (m q : Nat) (suf : List UInt8), v = .int .i64 m ∧ i = .int .i64 ((q : Int) - 1) ∧ q ≤ k ∧ m ≤ 9999 ∧ dig k n = dig q m ++ suf ∧ q + suf.length = k ∧ DLaid w.heap.size k wr q suf ∧ Below w.heap.size w wr)
    (fun _ i _ => (intOf i + 1).toNat)
  case atStart => exact ⟨n, k, [], rfl, rfl, Nat.le_refl _, hn, by simp, by simp, h0, hb0⟩
  case round =>
    obtain ⟨m, q, suf, rfl, rfl, hq, hm, hd, hlen, hl, hb⟩ := hrel
    have Hd := Lib.hid hd
    have Hlen := Lib.hid hlen
    clear hd hlen hmk
    by_cases h0 : q = 0
    · subst h0
      have hcv := hl.conv (by have := Hlen.out; omega)
      go_wp2
      go_ret
      exact ⟨ret_str (by rw [Hd.out]; rfl), hb⟩
    · obtain ⟨p, rfl⟩ : ∃ p, q = p + 1 := ⟨q - 1, by omega⟩
      obtain ⟨⟨v, hc⟩, hf⟩ := hl.cell (p := p) (by omega)
      have hput := hl.put (by omega) (digB (m % 10)) (48 + (m : Int) % 10) (by rw [digB_nat _ (by omega)]; omega)
      have hbs := hb.setCell (p := ⟨w.heap.size, p, none⟩) (Nat.le_refl _) (.int .u8 (48 + (m : Int) % 10))
      have e0 : ((p + 1 : Nat) : Int) - 1 = (p : Int) := by omega
      rw [e0]
      go_wp2
      go_roundw
      case rel => exact ⟨m / 10, p, _, by go_num, rfl, by omega, by omega, by rw [Hd.out, dig]; simp, by have := Hlen.out; simp; omega, hput, hbs⟩
      case measure => simp [intOf]
theorem digits_any (n : Int) (h0 : 0 ≤ n) (h1 : n ≤ 9999) (k : Nat) (hk : k ≤ 4) (w : World) : Calls Try.prog 65 #[.int .i64 n, .int .i64 k] w fun e w' => e = .returned (.string (S (dig k n.toNat))) ∧ Below w.heap.size w w' := by
  obtain ⟨n, rfl⟩ := Int.eq_ofNat_of_zero_le h0
  exact digits_at n (by omega) k hk w
set_option maxRecDepth 100000 in
set_option maxHeartbeats 1000000 in
theorem refDigits_at (n : Nat) (hn : n ≤ 9999) (k : Nat) (hk : k ≤ 4) (w : World) : Calls Try.prog 39 #[.int .i64 n, .int .i64 k] w fun e w' => e = .returned (.string (S (dig k n))) ∧ Below w.heap.size w w' := by
  go_enter Try.func39, Try.ntmps39
  go_wp2
  go_loopw [0, 5, 6] (fun v s i wr => ∃ (m j : Nat) (suf : List UInt8), v = .int .i64 m ∧ s = .string (S suf) ∧ i = .int .i64 j ∧ j ≤ k ∧ m ≤ 9999 ∧ dig k n = dig (k - j) m ++ suf ∧ suf.length = j ∧ Below w.heap.size w wr)
    (fun _ _ i _ => k - (intOf i).toNat)
  case atStart => exact ⟨n, 0, [], rfl, rfl, rfl, Nat.zero_le _, hn, by simp, rfl, Below.refl _ _⟩
  case round =>
    obtain ⟨m, j, suf, rfl, rfl, rfl, hj, hm, hd, hlen, hb⟩ := hrel
    have Hd := Lib.hid hd
    have hsz := S_size suf
    have Hlen := Lib.hid hlen
    have hsz2 : (S suf).size ≤ 4 := by omega
    clear hd hlen hsz
    by_cases h0 : j = k
    · go_wp2
      go_ret
      exact ⟨ret_str (by rw [Hd.out, h0]; simp [dig]), hb⟩
    · have hjk : j < k := by omega
      have hcv := conv_one wr (digB (m % 10)) (48 + (m : Int) % 10) (by rw [digB_nat _ (by omega)]; omega)
      have hs1 : (S [digB (m % 10)]).size = 1 := by rw [S_size]; rfl
      have hjk2 : (j : Int) < k := by omega
      clear h0
      go_wp2
      go_roundw
      case rel => exact ⟨m / 10, j + 1, digB (m % 10) :: suf, by go_num, by rw [S_append]; rfl, by go_num, by omega, by omega, by rw [Hd.out, show k - j = (k - (j + 1)) + 1 by omega, dig]; simp, by have := Hlen.out; simp; omega, hb.alloc hb.size _⟩
      case measure => simp [intOf]; omega
theorem refDigits_any (n : Int) (h0 : 0 ≤ n) (h1 : n ≤ 9999) (k : Nat) (hk : k ≤ 4) (w : World) : Calls Try.prog 39 #[.int .i64 n, .int .i64 k] w fun e w' => e = .returned (.string (S (dig k n.toNat))) ∧ Below w.heap.size w w' := by
  obtain ⟨n, rfl⟩ := Int.eq_ofNat_of_zero_le h0
  exact refDigits_at n (by omega) k hk w
end Go.Proofs.Ytdekjlkpinallaa
