/- The contracts of the numbers in decimal, of the program and of its reference. -/
import Derived.Test.YtcihcjlaamfjfaaEMath
import Derived.Test.YtcihcjlaamfjfaaProg
import Derived.KernelRfl
import Derived.Deep.RegionWith
namespace Go.Proofs.Ytcihcjlaamfjfaa
open Go.RowKit
/-- The digits that have been laid: the last of the twenty cells of block B. -/
structure Laid (B : Nat) (w : World) (q : Nat) (suf : List UInt8) : Prop where
  blk : ∃ cs : Array Value, w.heap[B]? = some (.cells cs 141 (0, 0)) ∧ cs.size = 20 ∧ cs.toList.drop (q + 1) = suf.map fun b => Value.int .u8 b.toNat
theorem Laid.cell {B : Nat} {w : World} {q : Nat} {suf : List UInt8} (h : Laid B w q suf) (hq : q < 20) : (∃ v, w.cell? ⟨B, q, none⟩ = some v) ∧ w.frozen? ⟨B, q, none⟩ = false := by
  obtain ⟨cs, h1, h2, _⟩ := h.blk
  unfold World.cell? World.frozen?
  dsimp only
  rw [h1]
  refine ⟨⟨cs[q]'(by omega), ?_⟩, by simp⟩
  simp [h2, hq]
theorem drop_set (l : List Value) (q : Nat) (v : Value) (hq : q < l.length) : (l.set q v).drop q = v :: l.drop (q + 1) := by
  rw [List.drop_eq_getElem_cons (by simpa using hq)]
  rw [List.getElem_set_self]
  congr 1
  apply List.ext_getElem
  · simp
  · intro i h1 h2
    simp only [List.getElem_drop]
    rw [List.getElem_set_ne (by omega)]
theorem Laid.put {B : Nat} {w : World} {q' q : Nat} {suf : List UInt8} (h : Laid B w q' suf) (hq' : q' = q + 1) (hq : q + 1 < 20) (b : UInt8) (v : Int) (hv : v = b.toNat) : Laid B (w.setCell ⟨B, q', none⟩ (.int .u8 v)) q (b :: suf) := by
  subst hq'
  obtain ⟨cs, h1, h2, h3⟩ := h.blk
  refine ⟨cs.setIfInBounds (q + 1) (.int .u8 v), ?_, by simpa using h2, ?_⟩
  · unfold World.setCell
    dsimp only
    rw [Array.getElem?_modify, h1]
    simp
  · rw [Array.toList_setIfInBounds, drop_set _ _ _ (by simp; omega), h3, hv]
    rfl
theorem Laid.zero (w : World) : Laid w.heap.size (w.alloc (.cells (Array.replicate 20 (.int .u8 0)) 141)) 19 [] :=
  ⟨_, World.alloc_heap_new w _, by simp, by simp⟩
theorem slice20 (B q : Nat) (hq : q < 20) (W : World) : (Instr.sliceAt 141 (.pointer (some ⟨B, 0, none⟩)) (some (.int .i64 q)) none none).run Try.prog W = .ok (.slice (some ⟨B, q, none⟩) (20 - q) (20 - q)) W := by
  have h : q = 0 ∨ q = 1 ∨ q = 2 ∨ q = 3 ∨ q = 4 ∨ q = 5 ∨ q = 6 ∨ q = 7 ∨ q = 8 ∨ q = 9 ∨ q = 10 ∨ q = 11 ∨ q = 12 ∨ q = 13 ∨ q = 14 ∨ q = 15 ∨ q = 16 ∨ q = 17 ∨ q = 18 ∨ q = 19 := by omega
  rcases h with rfl | rfl | rfl | rfl | rfl | rfl | rfl | rfl | rfl | rfl | rfl | rfl | rfl | rfl | rfl | rfl | rfl | rfl | rfl | rfl 
  all_goals (show _ = _; kernel_rfl)
theorem strOfNums_S (l : List UInt8) : strOfNums (l.map fun b => (b.toNat : Int)) = S l := by
  unfold strOfNums S
  rw [List.map_map]
  congr 2
  conv => rhs; rw [← List.map_id l]
  apply List.map_congr_left
  intro b _
  simp
theorem Laid.conv {B : Nat} {w : World} {p q : Nat} {l : List UInt8} (h : Laid B w p l) (hp : p + 1 = q) (hl : 20 - q = l.length) :
    (convert 110 9 (.slice (some ⟨B, q, none⟩) (20 - q) (20 - q))).run Try.prog w = .ok (.string (S l)) w := by
  subst hp
  obtain ⟨cs, h1, h2, h3⟩ := h.blk
  have := run_convert_bytes_arg (P := Try.prog) w 110 5 Try.underlying110 Try.underlying5 B (p + 1) (20 - (p + 1)) (20 - (p + 1)) (l.map fun b => (b.toNat : Int)) (by simp [hl])
    (fun i hi => ?_) 9 Try.underlying9
  · rw [strOfNums_S] at this; exact this
  · unfold World.cell?
    dsimp only
    rw [h1]
    have h4 : (cs.toList.drop (p + 1))[i]? = (l.map fun b => Value.int .u8 b.toNat)[i]? := by rw [h3]
    rw [List.getElem?_drop, List.getElem?_map] at h4
    simp only [Option.isSome_none, Bool.false_eq_true, if_false]
    rw [← Array.getElem?_toList, h4]
    simp [show i < l.length by omega]
set_option maxRecDepth 100000 in
set_option maxHeartbeats 1000000 in
theorem decimal_any (n : Nat) (hn : n ≤ 9999) (w : World) : Calls Try.prog 117 #[.int .i64 n] w fun e w' => e = .returned (.string (S (decL n))) ∧ Below w.heap.size w w' := by
  go_enter Try.func117, Try.ntmps117
  go_wp2
  go_loopw [0, 4] (fun v i wr => ∃ (m q : Nat) (suf : List UInt8), v = .int .i64 m ∧ i = .int .i64 ((q : Int) + 1) ∧ (q = 19 ∧ m ≤ 9999 ∨ q = 18 ∧ m ≤ 999 ∨ q = 17 ∧ m ≤ 99 ∨ q = 16 ∧ m ≤ 9) ∧ decL n = decL m ++ suf ∧ q + suf.length = 19 ∧ Laid w.heap.size wr q suf ∧ Below w.heap.size w wr)
    (fun v _ _ => (intOf v).toNat)
  case atStart => exact ⟨n, 19, [], rfl, rfl, .inl ⟨rfl, hn⟩, by simp, by simp, Laid.zero w, (Below.refl _ _).alloc (Nat.le_refl _) _⟩
  case round =>
    obtain ⟨m, q, suf, rfl, rfl, hqm, hd, hlen, hl, hb⟩ := hrel
    have hq : q < 20 := by omega
    have hm : m ≤ 9999 := by omega
    obtain ⟨⟨v, hc⟩, hf⟩ := hl.cell hq
    have Hd := Lib.hid hd
    have Hqm := Lib.hid hqm
    clear hd hqm
    obtain ⟨p, hp⟩ : ∃ p, q = p + 1 := ⟨q - 1, by have := Hqm.out; omega⟩
    have Hp := Lib.hid hp
    clear hp
    have hput := hl.put Hp.out (by have := Hp.out; omega) (digB (m % 10)) (48 + (m : Int) % 10) (by rw [digB_nat _ (by omega)]; omega)
    have hsl := slice20 w.heap.size q hq (wr.setCell ⟨w.heap.size, q, none⟩ (.int .u8 (48 + (m : Int) % 10)))
    have Hlen := Lib.hid hlen
    clear hlen
    have hcv := hput.conv Hp.out.symm (by have := Hp.out; have := Hlen.out; simp; omega)
    have hbs := hb.setCell (p := ⟨w.heap.size, q, none⟩) (Nat.le_refl _) (.int .u8 (48 + (m : Int) % 10))
    by_cases hz : m / 10 = 0
    · have hz2 : ((m : Int) / 10 == 0) = true := by simp; omega
      have Hz := Lib.hid hz
      clear hz
      go_wp2
      go_ret
      exact ⟨ret_str (by rw [Hd.out, decL_small (by have := Hz.out; omega), Nat.mod_eq_of_lt (by have := Hz.out; omega)]; rfl), hbs⟩
    · have hz2 : ((m : Int) / 10 == 0) = false := by simp; omega
      have Hz := Lib.hid hz
      clear hz
      go_wp2
      go_roundw
      case rel => exact ⟨m / 10, p, _, by go_num, congrArg (Value.int .i64) (by have := Hp.out; omega), by have := Hp.out; have := Hqm.out; have := Hz.out; omega, by rw [Hd.out, decL_big (by have := Hz.out; omega)]; simp, by have := Hp.out; have := Hlen.out; simp; omega, hput, hbs⟩
      case measure => have := Hz.out; simp [intOf]; omega

/-- A new slice of bytes, as a string. -/
theorem conv_new (W : World) (l : List UInt8) (n : Nat) (hn : n = l.length) : (convert 110 9 (.slice (some ⟨W.heap.size, 0, none⟩) n n)).run Try.prog (W.alloc (.cells (l.map fun b => Value.int .u8 b.toNat).toArray 5)) =
    .ok (.string (S l)) (W.alloc (.cells (l.map fun b => Value.int .u8 b.toNat).toArray 5)) := by
  subst hn
  have hb := World.alloc_heap_new W (.cells (l.map fun b => Value.int .u8 b.toNat).toArray 5)
  have := run_convert_bytes_arg (P := Try.prog) (W.alloc (.cells (l.map fun b => Value.int .u8 b.toNat).toArray 5)) 110 5 Try.underlying110 Try.underlying5 W.heap.size 0 l.length l.length (l.map fun b => (b.toNat : Int)) (by simp)
    (fun i hi => ?_) 9 Try.underlying9
  · rw [strOfNums_S] at this; exact this
  · unfold World.cell?
    dsimp only
    rw [hb]
    simp [hi]
theorem conv_one (W : World) (b : UInt8) (c : Int) (hc : c = b.toNat) : (convert 110 9 (.slice (some ⟨W.heap.size, 0, none⟩) 1 1)).run Try.prog (W.alloc (.cells #[.int .u8 c] 5)) = .ok (.string (S [b])) (W.alloc (.cells #[.int .u8 c] 5)) := by
  subst hc; exact conv_new W [b] 1 rfl
theorem conv_cell (b : UInt8) (c : Int) (hc : c = b.toNat) (W : World) (r : Nat) (h : W.cell? ⟨r, 0, none⟩ = some (.int .u8 c)) :
    (convert 110 9 (.slice (some ⟨r, 0, none⟩) 1 1)).run Try.prog W = .ok (.string (S [b])) W := by
  have := run_convert_bytes_arg (P := Try.prog) W 110 5 Try.underlying110 Try.underlying5 r 0 1 1 [(b.toNat : Int)] rfl
    (fun i hi => by obtain rfl : i = 0 := by omega
                    rw [hc] at h; simpa using h) 9 Try.underlying9
  rw [this]
  exact congrArg (fun s => Result.ok (Value.string s) W) (strOfNums_S [b])

set_option maxRecDepth 100000 in
set_option maxHeartbeats 400000 in
theorem num_at (k : Nat) : ∀ (a : Int) (w : World), 0 ≤ a → a.toNat < 10 ^ (k + 1) → a ≤ 9999 → Calls Try.prog 86 #[.int .i64 a] w fun e w' => e = .returned (.string (S (decL a.toNat))) ∧ Below w.heap.size w w' := by
  induction k with
  | zero =>
    intro a w h0 hn _
    obtain ⟨n, rfl⟩ := Int.eq_ofNat_of_zero_le h0
    rw [Int.toNat_natCast] at hn ⊢
    have h10 : n < 10 := by simpa using hn
    clear hn h0
    have hcv := conv_one w (digB n) (48 + (n : Int)) (by rw [digB_nat n h10]; omega)
    have hd := Lib.hid (decL_small h10)
    go_enter Try.func86, Try.ntmps86
    go_wp2_with fail
    go_ret
    exact ⟨ret_str (by rw [hd.out]), (Below.refl _ _).alloc (Nat.le_refl _) _⟩
  | succ k ih =>
    intro a w h0 hn hm
    obtain ⟨n, rfl⟩ := Int.eq_ofNat_of_zero_le h0
    rw [Int.toNat_natCast] at hn ⊢
    have Ih := Lib.hid ih
    clear ih h0
    by_cases h10 : n < 10
    · have hcv := conv_one w (digB n) (48 + (n : Int)) (by rw [digB_nat n h10]; omega)
      have hd := Lib.hid (decL_small h10)
      clear hn
      go_enter Try.func86, Try.ntmps86
      go_wp2_with fail
      go_ret
      exact ⟨ret_str (by rw [hd.out]), (Below.refl _ _).alloc (Nat.le_refl _) _⟩
    · have hd := Lib.hid (decL_big h10)
      have hn2 : ((n : Int) / 10).toNat < 10 ^ (k + 1) := by
        have e : ((n : Int) / 10).toNat = n / 10 := by omega
        rw [e]; rw [Nat.pow_succ] at hn; omega
      have Hn2 := Lib.hid hn2
      clear hn hn2
      have hsz := decL_le (n / 10) (by omega)
      have hcv := conv_cell (digB (n % 10)) (48 + (n : Int) % 10) (by rw [digB_nat _ (by omega)]; omega)
      have hs1 := S_size (decL (n / 10))
      have hs2 := S_size [digB (n % 10)]
      have hs3 : (S (decL (n / 10))).size ≤ 4 := by omega
      have hs4 : (S [digB (n % 10)]).size ≤ 4 := by rw [hs2]; simp
      have he := Lib.hid (show ((n : Int) / 10).toNat = n / 10 by omega)
      clear hs1 hs2
      go_enter Try.func86, Try.ntmps86
      go_wp2_with fail
      have e1 : (n : Int).tdiv 10 = (n : Int) / 10 := Int.tdiv_eq_ediv_of_nonneg (by omega)
      have e2 : (n : Int).tmod 10 = (n : Int) % 10 := Int.tmod_eq_emod_of_nonneg (by omega)
      have e3 : IntKind.i64.wrap ((n : Int) / 10) = (n : Int) / 10 := IntWalk.i64_in _ (by omega)
      have e4 : IntKind.i64.wrap ((n : Int) % 10) = (n : Int) % 10 := IntWalk.i64_in _ (by omega)
      have e5 : IntKind.i64.wrap (48 + (n : Int) % 10) = 48 + (n : Int) % 10 := IntWalk.i64_in _ (by omega)
      have e6 : IntKind.u8.wrap (48 + (n : Int) % 10) = 48 + (n : Int) % 10 := IntWalk.u8_in _ (by omega)
      go_region_with (go_at_call 86; refine (Ih.out _ _ (by omega) Hn2.out (by omega)).mono ?_; rw [he.out]; rintro e w1 ⟨rfl, hb1⟩; obtain ⟨hc1, hf1⟩ := bcell hb1)
      all_goals
        clear e1 e2 e3 e4 e5 e6 hcv hs3 hs4
        go_wp2
        go_ret
        refine ⟨ret_str (by rw [hd.out, S_append]), ?_⟩
        first
          | exact (bnext (Below.refl _ w).drew hb1).alloc (by have := (bnext (Below.refl _ w).drew hb1).size; omega) _
          | exact bnext ((Below.refl _ w).alloc (Nat.le_refl _) _).drew hb1
theorem num_any (a : Int) (w : World) (h0 : 0 ≤ a) (h1 : a ≤ 9999) : Calls Try.prog 86 #[.int .i64 a] w fun e w' => e = .returned (.string (S (decL a.toNat))) ∧ Below w.heap.size w w' :=
  num_at 3 a w h0 (by omega) h1
theorem dec_any (a : Int) (w : World) (h0 : 0 ≤ a) (h1 : a ≤ 9999) : Calls Try.prog 117 #[.int .i64 a] w fun e w' => e = .returned (.string (S (decL a.toNat))) ∧ Below w.heap.size w w' := by
  obtain ⟨n, rfl⟩ := Int.eq_ofNat_of_zero_le h0
  exact decimal_any n (by omega) w
end Go.Proofs.Ytcihcjlaamfjfaa
