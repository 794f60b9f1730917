/- The plain law of control sequences: numbers in decimal, moves, columns. No program in sight. No condition. Strings and their lists of bytes: equality, emptiness. No condition. The contracts of the numbers in decimal, of the program and of its reference. The plain law of runes in bytes: bits as arithmetic; the rune at a text's beginning; a rune's bytes. No program in sight. No condition. The plain law of a text's first rune, byte by byte. No program in sight. No condition. The plain law of clusters: runes written and read again; a text's clusters; cleaning twice is cleaning once. No program in sight. No condition. -/
import Derived.Test.YtekodpcedjpnjaaGreatProg
import Derived.KernelRfl
import Derived.Deep.RegionWith
import Derived.Test.YtekodpcedjpnjaaGreatRC02
import Derived.Test.YtekodpcedjpnjaaGreatRC03
set_option linter.unusedVariables false
set_option linter.unusedSimpArgs false
namespace Go.Proofs.YtekodpcedjpnjaaGreat
def S (l : List UInt8) : ByteArray := ⟨l.toArray⟩
theorem S_append (a b : List UInt8) : S a ++ S b = S (a ++ b) := ByteArray.mk_append_mk a b
theorem S_size (l : List UInt8) : (S l).size = l.length := by simp [S, ByteArray.size]
def digB (n : Nat) : UInt8 := UInt8.ofNat (48 + n)
theorem digB_nat (n : Nat) (h : n < 10) : (digB n).toNat = 48 + n := by simp [digB]; omega
def decL (n : Nat) : List UInt8 := if n < 10 then [digB n] else decL (n / 10) ++ [digB (n % 10)]
theorem decL_small {n : Nat} (h : n < 10) : decL n = [digB n] := by rw [decL, if_pos h]
theorem decL_big {n : Nat} (h : ¬ n < 10) : decL n = decL (n / 10) ++ [digB (n % 10)] := by rw [decL, if_neg h]
theorem decL_len (k : Nat) : ∀ n, n < 10 ^ (k + 1) → (decL n).length ≤ k + 1 := by
  induction k with
  | zero => intro n h; rw [decL_small (by simpa using h)]; simp
  | succ k ih =>
    intro n h
    by_cases h1 : n < 10
    · rw [decL_small h1]; simp
    · rw [decL_big h1]
      have := ih (n / 10) (by rw [Nat.pow_succ] at h; omega)
      simp; omega
theorem decL_le (n : Nat) (h : n ≤ 9999) : (decL n).length ≤ 4 := decL_len 3 n (by omega)
def byL (n : Int) (e : UInt8) : List UInt8 := if n < 1 then [] else [27, 91] ++ decL (min n 9999).toNat ++ [e]
theorem byL_len (n : Int) (e : UInt8) : (byL n e).length ≤ 7 := by
  unfold byL; split
  · simp
  · have := decL_le (min n 9999).toNat (by omega)
    simp; omega
def colL (n : Int) : List UInt8 := if n < 0 then [] else [27, 91] ++ decL (min n 9998 + 1).toNat ++ [71]
theorem colL_len (n : Int) : (colL n).length ≤ 7 := by
  unfold colL; split
  · simp
  · have := decL_le (min n 9998 + 1).toNat (by omega)
    simp; omega
theorem colL_by (n : Int) (h : 0 ≤ n) : byL (min n 9998 + 1) 71 = colL n := by
  unfold byL colL
  rw [if_neg (by omega), if_neg (by omega)]
  congr 4; omega
def heldI (n : Int) : Int := max 0 (min n 9998)
def moveL (row col toRow toCol : Int) : List UInt8 :=
  let s := byL (row - toRow) 65 ++ byL (toRow - row) 66
  if col = toCol then s else if toCol = 0 then s ++ [13] else
  let step := byL (toCol - col) 67 ++ byL (col - toCol) 68
  if (colL toCol).length < step.length then s ++ colL toCol else s ++ step
def sepTo (l : List Int) : Nat → List UInt8
  | 0 => []
  | k + 1 => sepTo l k ++ (if k = 0 then [] else [59]) ++ decL (min (nth 0 l k) 9999).toNat
theorem sepTo_len (l : List Int) (k : Nat) : (sepTo l k).length ≤ 5 * k := by
  induction k with
  | zero => simp [sepTo]
  | succ k ih =>
    have h := decL_le (min (nth 0 l k) 9999).toNat (by omega)
    simp only [sepTo, List.length_append]
    split
    · simp; omega
    · simp; omega
def seqL (l : List Int) (e : List UInt8) : List UInt8 := [27, 91] ++ sepTo l l.length ++ e
theorem seqL_one (n : Int) (e : UInt8) (h : 1 ≤ n) : seqL [n] [e] = byL n e := by
  unfold seqL byL
  rw [if_neg (by omega)]
  simp [sepTo, nth]
end Go.Proofs.YtekodpcedjpnjaaGreat
namespace Go.Proofs.YtekodpcedjpnjaaGreat
theorem S_toList (a : List UInt8) : (S a).toList = a := by rw [ByteArray.toList_eq]; simp [S]
theorem S_eq (a b : List UInt8) : ((S a).toList == (S b).toList) = decide (a = b) := by
  rw [S_toList, S_toList, Bool.eq_iff_iff, beq_iff_eq, decide_eq_true_eq]
theorem S_back (s : ByteArray) : ∃ l, s = S l := ⟨s.data.toList, by simp [S]⟩
end Go.Proofs.YtekodpcedjpnjaaGreat
namespace Go.Proofs.YtekodpcedjpnjaaGreat
open Go.RowKit
structure Laid (B : Nat) (w : World) (q : Nat) (suf : List UInt8) : Prop where
  blk : ∃ cs : Array Value, w.heap[B]? = some (.cells cs 329 (0, 0)) ∧ cs.size = 20 ∧ cs.toList.drop (q + 1) = suf.map fun b => Value.int .u8 b.toNat
theorem Laid.cell {B : Nat} {w : World} {q : Nat} {suf : List UInt8} (h : Laid B w q suf) (hq : q < 20) : (∃ v, w.cell? ⟨B, q, none⟩ = some v) ∧ w.frozen? ⟨B, q, none⟩ = false := by
  obtain ⟨cs, h1, h2, _⟩ := h.blk
  unfold World.cell? World.frozen?
  dsimp only
  rw [h1]
  refine ⟨⟨cs[q]'(by omega), ?_⟩, by simp⟩
  simp [h2, hq]
theorem drop_set (l : List Value) (q : Nat) (v : Value) (hq : q < l.length) : (l.set q v).drop q = v :: l.drop (q + 1) := by
  rw [List.drop_eq_getElem_cons (by simpa using hq)]
  rw [List.getElem_set_self]
  congr 1
  apply List.ext_getElem
  · simp
  · intro i h1 h2
    simp only [List.getElem_drop]
    rw [List.getElem_set_ne (by omega)]
theorem Laid.put {B : Nat} {w : World} {q' q : Nat} {suf : List UInt8} (h : Laid B w q' suf) (hq' : q' = q + 1) (hq : q + 1 < 20) (b : UInt8) (v : Int) (hv : v = b.toNat) : Laid B (w.setCell ⟨B, q', none⟩ (.int .u8 v)) q (b :: suf) := by
  subst hq'
  obtain ⟨cs, h1, h2, h3⟩ := h.blk
  refine ⟨cs.setIfInBounds (q + 1) (.int .u8 v), ?_, by simpa using h2, ?_⟩
  · unfold World.setCell
    dsimp only
    rw [Array.getElem?_modify, h1]
    simp
  · rw [Array.toList_setIfInBounds, drop_set _ _ _ (by simp; omega), h3, hv]
    rfl
theorem Laid.zero (w : World) : Laid w.heap.size (w.alloc (.cells (Array.replicate 20 (.int .u8 0)) 329)) 19 [] :=
  ⟨_, World.alloc_heap_new w _, by simp, by simp⟩
theorem slice20 (B q : Nat) (hq : q < 20) (W : World) : (Instr.sliceAt 329 (.pointer (some ⟨B, 0, none⟩)) (some (.int .i64 q)) none none).run Tryz.prog W = .ok (.slice (some ⟨B, q, none⟩) (20 - q) (20 - q)) W := by
  have h : q = 0 ∨ q = 1 ∨ q = 2 ∨ q = 3 ∨ q = 4 ∨ q = 5 ∨ q = 6 ∨ q = 7 ∨ q = 8 ∨ q = 9 ∨ q = 10 ∨ q = 11 ∨ q = 12 ∨ q = 13 ∨ q = 14 ∨ q = 15 ∨ q = 16 ∨ q = 17 ∨ q = 18 ∨ q = 19 := by omega
  rcases h with rfl | rfl | rfl | rfl | rfl | rfl | rfl | rfl | rfl | rfl | rfl | rfl | rfl | rfl | rfl | rfl | rfl | rfl | rfl | rfl 
  all_goals (show _ = _; kernel_rfl)
theorem strOfNums_S (l : List UInt8) : strOfNums (l.map fun b => (b.toNat : Int)) = S l := by
  unfold strOfNums S
  rw [List.map_map]
  congr 2
  conv => rhs; rw [← List.map_id l]
  apply List.map_congr_left
  intro b _
  simp
theorem Laid.conv {B : Nat} {w : World} {p q : Nat} {l : List UInt8} (h : Laid B w p l) (hp : p + 1 = q) (hl : 20 - q = l.length) :
    (convert 61 9 (.slice (some ⟨B, q, none⟩) (20 - q) (20 - q))).run Tryz.prog w = .ok (.string (S l)) w := by
  subst hp
  obtain ⟨cs, h1, h2, h3⟩ := h.blk
  have := run_convert_bytes_arg (P := Tryz.prog) w 61 5 Tryz.underlying61 Tryz.underlying5 B (p + 1) (20 - (p + 1)) (20 - (p + 1)) (l.map fun b => (b.toNat : Int)) (by simp [hl])
    (fun i hi => ?_) 9 Tryz.underlying9
  · rw [strOfNums_S] at this; exact this
  · unfold World.cell?
    dsimp only
    rw [h1]
    have h4 : (cs.toList.drop (p + 1))[i]? = (l.map fun b => Value.int .u8 b.toNat)[i]? := by rw [h3]
    rw [List.getElem?_drop, List.getElem?_map] at h4
    simp only [Option.isSome_none, Bool.false_eq_true, if_false]
    rw [← Array.getElem?_toList, h4]
    simp [show i < l.length by omega]
set_option maxRecDepth 100000 in
set_option maxHeartbeats 1000000 in
theorem decimal_any (n : Nat) (hn : n ≤ 9999) (w : World) : Calls Tryz.prog 272 #[.int .i64 n] w fun e w' => e = .returned (.string (S (decL n))) ∧ Below w.heap.size w w' := by
  go_enter Tryz.func272, Tryz.ntmps272
  go_wp2
  go_loopw [0, 4] (fun v i wr => ∃ (m q : Nat) (suf : List UInt8), v = .int .i64 m ∧ i = .int .i64 ((q : Int) + 1) ∧ (q = 19 ∧ m ≤ 9999 ∨ q = 18 ∧ m ≤ 999 ∨ q = 17 ∧ m ≤ 99 ∨ q = 16 ∧ m ≤ 9) ∧ decL n = decL m ++ suf ∧ q + suf.length = 19 ∧ Laid w.heap.size wr q suf ∧ Below w.heap.size w wr)
    (fun v _ _ => (intOf v).toNat)
  case atStart => exact ⟨n, 19, [], rfl, rfl, .inl ⟨rfl, hn⟩, by simp, by simp, Laid.zero w, (Below.refl _ _).alloc (Nat.le_refl _) _⟩
  case round =>
    obtain ⟨m, q, suf, rfl, rfl, hqm, hd, hlen, hl, hb⟩ := hrel
    have hq : q < 20 := by omega
    have hm : m ≤ 9999 := by omega
    obtain ⟨⟨v, hc⟩, hf⟩ := hl.cell hq
    have Hd := Lib.hid hd
    have Hqm := Lib.hid hqm
    clear hd hqm
    obtain ⟨p, hp⟩ : ∃ p, q = p + 1 := ⟨q - 1, by have := Hqm.out; omega⟩
    have Hp := Lib.hid hp
    clear hp
    have hput := hl.put Hp.out (by have := Hp.out; omega) (digB (m % 10)) (48 + (m : Int) % 10) (by rw [digB_nat _ (by omega)]; omega)
    have hsl := slice20 w.heap.size q hq (wr.setCell ⟨w.heap.size, q, none⟩ (.int .u8 (48 + (m : Int) % 10)))
    have Hlen := Lib.hid hlen
    clear hlen
    have hcv := hput.conv Hp.out.symm (by have := Hp.out; have := Hlen.out; simp; omega)
    have hbs := hb.setCell (p := ⟨w.heap.size, q, none⟩) (Nat.le_refl _) (.int .u8 (48 + (m : Int) % 10))
    by_cases hz : m / 10 = 0
    · have hz2 : ((m : Int) / 10 == 0) = true := by simp; omega
      have Hz := Lib.hid hz
      clear hz
      go_wp2
      go_ret
      exact ⟨ret_str (by rw [Hd.out, decL_small (by have := Hz.out; omega), Nat.mod_eq_of_lt (by have := Hz.out; omega)]; rfl), hbs⟩
    · have hz2 : ((m : Int) / 10 == 0) = false := by simp; omega
      have Hz := Lib.hid hz
      clear hz
      go_wp2
      go_roundw
      case rel => exact ⟨m / 10, p, _, by go_num, congrArg (Value.int .i64) (by have := Hp.out; omega), by have := Hp.out; have := Hqm.out; have := Hz.out; omega, by rw [Hd.out, decL_big (by have := Hz.out; omega)]; simp, by have := Hp.out; have := Hlen.out; simp; omega, hput, hbs⟩
      case measure => have := Hz.out; simp [intOf]; omega
theorem dec_any (a : Int) (w : World) (h0 : 0 ≤ a) (h1 : a ≤ 9999) : Calls Tryz.prog 272 #[.int .i64 a] w fun e w' => e = .returned (.string (S (decL a.toNat))) ∧ Below w.heap.size w w' := by
  obtain ⟨n, rfl⟩ := Int.eq_ofNat_of_zero_le h0
  exact decimal_any n (by omega) w
end Go.Proofs.YtekodpcedjpnjaaGreat
namespace Go.Proofs.YtekodpcedjpnjaaGreat
open Go.RowKit
theorem and_u8 : ∀ c : Fin 256, bits .and .u8 (c.val : Int) 31 = ((c.val % 32 : Nat) : Int) ∧ bits .and .u8 (c.val : Int) 15 = ((c.val % 16 : Nat) : Int) ∧ bits .and .u8 (c.val : Int) 7 = ((c.val % 8 : Nat) : Int) ∧ bits .and .u8 (c.val : Int) 63 = ((c.val % 64 : Nat) : Int) := by
  decide +kernel
theorem or_u8 : ∀ c : Fin 64, bits .or .u8 128 (c.val : Int) = 128 + (c.val : Int) ∧ (c.val < 32 → bits .or .u8 192 (c.val : Int) = 192 + (c.val : Int)) ∧ (c.val < 16 → bits .or .u8 224 (c.val : Int) = 224 + (c.val : Int)) ∧ (c.val < 8 → bits .or .u8 240 (c.val : Int) = 240 + (c.val : Int)) := by
  decide +kernel
theorem and31 (c : Nat) (h : c < 256) : bits .and .u8 (c : Int) 31 = ((c % 32 : Nat) : Int) := (and_u8 ⟨c, h⟩).1
theorem and15 (c : Nat) (h : c < 256) : bits .and .u8 (c : Int) 15 = ((c % 16 : Nat) : Int) := (and_u8 ⟨c, h⟩).2.1
theorem and7 (c : Nat) (h : c < 256) : bits .and .u8 (c : Int) 7 = ((c % 8 : Nat) : Int) := (and_u8 ⟨c, h⟩).2.2.1
theorem and63 (c : Nat) (h : c < 256) : bits .and .u8 (c : Int) 63 = ((c % 64 : Nat) : Int) := (and_u8 ⟨c, h⟩).2.2.2
theorem or128 (c : Nat) (h : c < 64) : bits .or .u8 128 (c : Int) = 128 + (c : Int) := (or_u8 ⟨c, h⟩).1
theorem or192 (c : Nat) (h : c < 32) : bits .or .u8 192 (c : Int) = 192 + (c : Int) := (or_u8 ⟨c, by omega⟩).2.1 h
theorem or224 (c : Nat) (h : c < 16) : bits .or .u8 224 (c : Int) = 224 + (c : Int) := (or_u8 ⟨c, by omega⟩).2.2.1 h
theorem or240 (c : Nat) (h : c < 8) : bits .or .u8 240 (c : Int) = 240 + (c : Int) := (or_u8 ⟨c, by omega⟩).2.2.2 h
theorem or_i32 (a x : Nat) (ha : a < 2 ^ 24) (hx : x < 64) : bits .or .i32 ((a * 64 : Nat) : Int) (x : Int) = ((a * 64 + x : Nat) : Int) := by
  unfold bits
  have h1 : (BitVec.ofInt 32 ((a * 64 : Nat) : Int)).toNat = a * 64 := by
    rw [BitVec.ofInt_natCast, BitVec.toNat_ofNat]
    exact Nat.mod_eq_of_lt (by omega)
  have h2 : (BitVec.ofInt 32 ((x : Nat) : Int)).toNat = x := by
    rw [BitVec.ofInt_natCast, BitVec.toNat_ofNat]
    exact Nat.mod_eq_of_lt (by omega)
  have h3 : a * 64 ||| x = a * 64 + x := by
    have := Nat.shiftLeft_add_eq_or_of_lt (i := 6) (b := x) (by omega) a
    rw [Nat.shiftLeft_eq] at this
    exact this.symm
  show IntKind.i32.wrap ((BitVec.ofInt 32 ((a * 64 : Nat) : Int) ||| BitVec.ofInt 32 ((x : Nat) : Int)).toNat : Int) = _
  rw [BitVec.toNat_or, h1, h2, h3]
  exact IntWalk.i32_in _ (by omega)
def lo1 (c : Nat) : Nat := if c = 224 then 160 else if c = 240 then 144 else 128
def hi1 (c : Nat) : Nat := if c = 237 then 159 else if c = 244 then 143 else 191
def tail1 (b : UInt8) (lo hi : Nat) : Bool := decide (lo ≤ b.toNat ∧ b.toNat ≤ hi)
def stepL : List UInt8 → Nat × Nat
  | [] => (65533, 1)
  | c :: t =>
    if c.toNat < 128 then (c.toNat, 1)
    else if c.toNat < 194 then (65533, 1)
    else if c.toNat < 224 then
      match t with
      | b :: _ => if tail1 b 128 191 then (c.toNat % 32 * 64 + b.toNat % 64, 2) else (65533, 1)
      | _ => (65533, 1)
    else if c.toNat < 240 then
      match t with
      | b :: d :: _ => if tail1 b (lo1 c.toNat) (hi1 c.toNat) && tail1 d 128 191 then ((c.toNat % 16 * 64 + b.toNat % 64) * 64 + d.toNat % 64, 3) else (65533, 1)
      | _ => (65533, 1)
    else if c.toNat < 245 then
      match t with
      | b :: d :: e :: _ => if tail1 b (lo1 c.toNat) (hi1 c.toNat) && (tail1 d 128 191 && tail1 e 128 191) then (((c.toNat % 8 * 64 + b.toNat % 64) * 64 + d.toNat % 64) * 64 + e.toNat % 64, 4) else (65533, 1)
      | _ => (65533, 1)
    else (65533, 1)
theorem stepL_pos (l : List UInt8) : 1 ≤ (stepL l).2 := by
  unfold stepL
  repeat' split
  all_goals simp
def isR (r : Int) : Bool := decide (0 ≤ r ∧ r ≤ 1114111 ∧ (r < 55296 ∨ 57343 < r))
def runeN (r : Int) : Nat := if isR r then r.toNat else 65533
def byteB (n : Nat) : UInt8 := UInt8.ofNat n
def bytesN (n : Nat) : List UInt8 :=
  if n < 128 then [byteB n] else if n < 2048 then [byteB (192 + n / 64), byteB (128 + n % 64)] else if n < 65536 then [byteB (224 + n / 4096), byteB (128 + n / 64 % 64), byteB (128 + n % 64)]
  else [byteB (240 + n / 262144), byteB (128 + n / 4096 % 64), byteB (128 + n / 64 % 64), byteB (128 + n % 64)]
def bytesR (r : Int) : List UInt8 := bytesN (runeN r)
theorem bytesN_len (n : Nat) : 1 ≤ (bytesN n).length ∧ (bytesN n).length ≤ 4 := by
  unfold bytesN
  repeat' split
  all_goals simp
def runesF : Nat → List UInt8 → List Nat
  | 0, _ => []
  | _ + 1, [] => []
  | n + 1, c :: t => (stepL (c :: t)).1 :: runesF n ((c :: t).drop (stepL (c :: t)).2)
def runesL (l : List UInt8) : List Nat := runesF l.length l
theorem runesF_more : ∀ (n m : Nat) (l : List UInt8), l.length ≤ n → l.length ≤ m → runesF n l = runesF m l
  | 0, 0, _, _, _ => rfl
  | 0, m + 1, [], _, _ => rfl
  | 0, m + 1, _ :: _, h, _ => by simp at h
  | n + 1, 0, [], _, _ => rfl
  | n + 1, 0, _ :: _, _, h => by simp at h
  | n + 1, m + 1, [], _, _ => rfl
  | n + 1, m + 1, c :: t, h1, h2 => by
    simp only [List.length_cons] at h1 h2
    unfold runesF
    have hp := stepL_pos (c :: t)
    have hl : ((c :: t).drop (stepL (c :: t)).2).length ≤ t.length := by rw [List.length_drop, List.length_cons]; omega
    rw [runesF_more n m _ (by omega) (by omega)]
theorem runesL_nil : runesL [] = [] := rfl
theorem runesL_step (l : List UInt8) (h : l ≠ []) : runesL l = (stepL l).1 :: runesL (l.drop (stepL l).2) := by
  match l, h with
  | c :: t, _ =>
    unfold runesL
    have hp := stepL_pos (c :: t)
    have hl : ((c :: t).drop (stepL (c :: t)).2).length ≤ t.length := by rw [List.length_drop, List.length_cons]; omega
    show runesF (t.length + 1) (c :: t) = _
    rw [runesF]
    rw [runesF_more t.length _ _ hl (Nat.le_refl _)]
end Go.Proofs.YtekodpcedjpnjaaGreat
namespace Go.Proofs.YtekodpcedjpnjaaGreat
open Go.RowKit
def manyL (c : Nat) : Nat := if c < 128 then 1 else if c < 194 then 0 else if c < 224 then 2 else if c < 240 then 3 else if c < 245 then 4 else 0
def bitsL (c : Nat) : Nat := if c < 128 then c else if c < 224 then c % 32 else if c < 240 then c % 16 else c % 8
def okAt (c : Nat) (t : List UInt8) (j : Nat) : Prop := j < t.length ∧ (if j = 0 then lo1 c else 128) ≤ (nth 0 t j).toNat ∧ (nth 0 t j).toNat ≤ (if j = 0 then hi1 c else 191)
def accN (c : Nat) (t : List UInt8) : Nat → Nat
  | 0 => bitsL c
  | k + 1 => accN c t k * 64 + (nth 0 t k).toNat % 64
theorem bitsL_le (c : Nat) (h : 2 ≤ manyL c) : bitsL c < 32 := by
  unfold bitsL
  unfold manyL at h
  repeat' split
  all_goals first | omega | (rw [if_pos (by omega)] at h; omega)
theorem manyL_le (c : Nat) : manyL c ≤ 4 := by unfold manyL; (repeat' split) <;> omega
theorem accN_lt (c : Nat) (t : List UInt8) (h : 2 ≤ manyL c) : ∀ k, k ≤ 3 → accN c t k < 2 ^ (5 + 6 * k)
  | 0, _ => by have := bitsL_le c h; simpa [accN] using this
  | k + 1, hk => by
    have ih := accN_lt c t h k (by omega)
    unfold accN
    have : 2 ^ (5 + 6 * (k + 1)) = 2 ^ (5 + 6 * k) * 64 := by rw [show 5 + 6 * (k + 1) = 5 + 6 * k + 6 by omega, Nat.pow_add]
    omega
theorem step_many0 (c : UInt8) (t : List UInt8) (h : manyL c.toNat = 0) : stepL (c :: t) = (65533, 1) := by
  unfold manyL at h
  unfold stepL
  dsimp only
  have h1 : ¬ c.toNat < 128 := fun q => by rw [if_pos q] at h; omega
  rw [if_neg h1] at h ⊢
  by_cases h2 : c.toNat < 194
  · rw [if_pos h2]
  · rw [if_neg h2] at h ⊢
    have h3 : ¬ c.toNat < 224 := fun q => by rw [if_pos q] at h; omega
    rw [if_neg h3] at h ⊢
    have h4 : ¬ c.toNat < 240 := fun q => by rw [if_pos q] at h; omega
    rw [if_neg h4] at h ⊢
    have h5 : ¬ c.toNat < 245 := fun q => by rw [if_pos q] at h; omega
    rw [if_neg h5]
theorem step_bad (c : UInt8) (t : List UInt8) (j : Nat) (h : j + 1 < manyL c.toNat) (hb : ¬ okAt c.toNat t j) : stepL (c :: t) = (65533, 1) := by
  unfold manyL at h
  unfold okAt lo1 hi1 at hb
  unfold stepL tail1 lo1 hi1
  dsimp only
  by_cases h1 : c.toNat < 128
  · rw [if_pos h1] at h; omega
  · rw [if_neg h1] at h ⊢
    by_cases h2 : c.toNat < 194
    · rw [if_pos h2] at h; omega
    · rw [if_neg h2] at h ⊢
      by_cases h3 : c.toNat < 224
      · rw [if_pos h3] at h ⊢
        obtain rfl : j = 0 := by omega
        match t with
        | [] => rfl
        | b :: _ =>
          simp only [nth, List.getD_cons_zero, List.length_cons, if_true, Nat.zero_lt_succ, true_and] at hb ⊢
          rw [if_neg]
          rw [decide_eq_true_eq]
          rw [if_neg (by omega), if_neg (by omega), if_neg (by omega), if_neg (by omega)] at hb
          exact hb
      · rw [if_neg h3] at h ⊢
        by_cases h4 : c.toNat < 240
        · rw [if_pos h4] at h ⊢
          match t with
          | [] => rfl
          | [_] => rfl
          | b :: d :: _ =>
            dsimp only
            rw [if_neg]
            rw [Bool.and_eq_true, decide_eq_true_eq, decide_eq_true_eq]
            have hj : j = 0 ∨ j = 1 := by omega
            rcases hj with rfl | rfl
            · simp [nth] at hb
              intro hx; exact absurd (hb hx.1.1) (by omega)
            · simp [nth] at hb
              intro hx; exact absurd (hb hx.2.1) (by omega)
        · rw [if_neg h4] at h ⊢
          by_cases h5 : c.toNat < 245
          · rw [if_pos h5] at h ⊢
            match t with
            | [] => rfl
            | [_] => rfl
            | [_, _] => rfl
            | b :: d :: e :: _ =>
              dsimp only
              rw [if_neg]
              rw [Bool.and_eq_true, Bool.and_eq_true, decide_eq_true_eq, decide_eq_true_eq, decide_eq_true_eq]
              have hj : j = 0 ∨ j = 1 ∨ j = 2 := by omega
              rcases hj with rfl | rfl | rfl
              · simp [nth] at hb
                intro hx; exact absurd (hb hx.1.1) (by omega)
              · simp [nth] at hb
                intro hx; exact absurd (hb hx.2.1.1) (by omega)
              · simp [nth] at hb
                intro hx; exact absurd (hb hx.2.2.1) (by omega)
          · rw [if_neg h5] at h; omega
theorem step_ok (c : UInt8) (t : List UInt8) (h : 1 ≤ manyL c.toNat) (hb : ∀ j, j + 1 < manyL c.toNat → okAt c.toNat t j) : stepL (c :: t) = (accN c.toNat t (manyL c.toNat - 1), manyL c.toNat) := by
  unfold manyL at h hb ⊢
  unfold okAt lo1 hi1 at hb
  unfold stepL tail1 lo1 hi1
  dsimp only
  by_cases h1 : c.toNat < 128
  · rw [if_pos h1, if_pos h1]; simp [accN, bitsL, h1]
  · rw [if_neg h1] at h hb ⊢
    rw [if_neg h1]
    by_cases h2 : c.toNat < 194
    · rw [if_pos h2] at h; omega
    · rw [if_neg h2] at h hb ⊢
      rw [if_neg h2]
      by_cases h3 : c.toNat < 224
      · rw [if_pos h3] at h hb ⊢
        rw [if_pos h3]
        have hb0 := hb 0 (by omega)
        match t with
        | [] => simp at hb0
        | b :: _ =>
          simp only [nth, List.getD_cons_zero, List.length_cons, if_true, Nat.zero_lt_succ, true_and] at hb0 ⊢
          rw [if_neg (by omega), if_neg (by omega), if_neg (by omega), if_neg (by omega)] at hb0
          rw [if_pos (by rw [decide_eq_true_eq]; exact hb0)]
          simp [accN, bitsL, h1, h3, nth]
      · rw [if_neg h3] at h hb ⊢
        rw [if_neg h3]
        by_cases h4 : c.toNat < 240
        · rw [if_pos h4] at h hb ⊢
          rw [if_pos h4]
          have hb0 := hb 0 (by omega)
          have hb1 := hb 1 (by omega)
          match t with
          | [] => simp at hb0
          | [_] => simp at hb1
          | b :: d :: _ =>
            simp [nth] at hb0 hb1
            dsimp only
            rw [if_pos (by rw [Bool.and_eq_true, decide_eq_true_eq, decide_eq_true_eq]; exact ⟨hb0, hb1⟩)]
            simp [accN, bitsL, h1, h3, h4, nth]
        · rw [if_neg h4] at h hb ⊢
          rw [if_neg h4]
          by_cases h5 : c.toNat < 245
          · rw [if_pos h5] at h hb ⊢
            rw [if_pos h5]
            have hb0 := hb 0 (by omega)
            have hb1 := hb 1 (by omega)
            have hb2 := hb 2 (by omega)
            match t with
            | [] => simp at hb0
            | [_] => simp at hb1
            | [_, _] => simp at hb2
            | b :: d :: e :: _ =>
              simp [nth] at hb0 hb1 hb2
              dsimp only
              rw [if_pos (by rw [Bool.and_eq_true, Bool.and_eq_true, decide_eq_true_eq, decide_eq_true_eq, decide_eq_true_eq]; exact ⟨hb0, hb1, hb2⟩)]
              simp [accN, bitsL, h1, h3, h4, nth]
          · rw [if_neg h5] at h; omega
instance decOkAt (c : Nat) (t : List UInt8) (j : Nat) : Decidable (okAt c t j) := by unfold okAt; infer_instance
def moreL : List UInt8 → Bool
  | [] => true
  | c :: t => decide (t.length + 1 < manyL c.toNat ∧ ∀ j, j < t.length → okAt c.toNat t j)
theorem more_no {c : UInt8} {t : List UInt8} (h : manyL c.toNat ≤ t.length + 1) : moreL (c :: t) = false := by unfold moreL; exact decide_eq_false (fun h2 => by omega)
theorem more_bad {c : UInt8} {t : List UInt8} {j : Nat} (h1 : j < t.length) (h : ¬ okAt c.toNat t j) : moreL (c :: t) = false := by unfold moreL; exact decide_eq_false (fun h2 => h (h2.2 j h1))
theorem more_yes {c : UInt8} {t : List UInt8} (h1 : t.length + 1 < manyL c.toNat) (h : ∀ j, j < t.length → okAt c.toNat t j) : moreL (c :: t) = true := by unfold moreL; exact decide_eq_true ⟨h1, h⟩
end Go.Proofs.YtekodpcedjpnjaaGreat
namespace Go.Proofs.YtekodpcedjpnjaaGreat
theorem byteB_nat' (n : Nat) (h : n < 256) : (byteB n).toNat = n := by simp [byteB]; omega
theorem isR_iff (n : Nat) : isR n = true ↔ n ≤ 1114111 ∧ (n < 55296 ∨ 57343 < n) := by
  unfold isR; rw [decide_eq_true_eq]; omega
theorem step_bytes (n : Nat) (h : isR n = true) (t : List UInt8) : stepL (bytesN n ++ t) = (n, (bytesN n).length) := by
  rw [isR_iff] at h
  unfold bytesN
  by_cases h1 : n < 128
  · rw [if_pos h1]
    simp only [List.cons_append, List.nil_append, stepL, byteB_nat' n (by omega), if_pos h1, List.length_cons, List.length_nil]
  · rw [if_neg h1]
    by_cases h2 : n < 2048
    · rw [if_pos h2]
      have e1 := byteB_nat' (192 + n / 64) (by omega)
      have e2 := byteB_nat' (128 + n % 64) (by omega)
      simp only [List.cons_append, List.nil_append, stepL, e1, e2, tail1, List.length_cons, List.length_nil]
      rw [if_neg (by omega), if_neg (by omega), if_pos (by omega), if_pos (by rw [decide_eq_true_eq]; omega)]
      rw [Prod.mk.injEq]; exact ⟨by omega, rfl⟩
    · rw [if_neg h2]
      by_cases h3 : n < 65536
      · rw [if_pos h3]
        have e1 := byteB_nat' (224 + n / 4096) (by omega)
        have e2 := byteB_nat' (128 + n / 64 % 64) (by omega)
        have e3 := byteB_nat' (128 + n % 64) (by omega)
        simp only [List.cons_append, List.nil_append, stepL, e1, e2, e3, tail1, List.length_cons, List.length_nil]
        rw [if_neg (by omega), if_neg (by omega), if_neg (by omega), if_pos (by omega), if_pos (by
          rw [Bool.and_eq_true, decide_eq_true_eq, decide_eq_true_eq]
          unfold lo1 hi1
          (repeat' split) <;> omega)]
        rw [Prod.mk.injEq]; exact ⟨by omega, rfl⟩
      · rw [if_neg h3]
        have e1 := byteB_nat' (240 + n / 262144) (by omega)
        have e2 := byteB_nat' (128 + n / 4096 % 64) (by omega)
        have e3 := byteB_nat' (128 + n / 64 % 64) (by omega)
        have e4 := byteB_nat' (128 + n % 64) (by omega)
        simp only [List.cons_append, List.nil_append, stepL, e1, e2, e3, e4, tail1, List.length_cons, List.length_nil]
        rw [if_neg (by omega), if_neg (by omega), if_neg (by omega), if_neg (by omega), if_pos (by omega), if_pos (by
          rw [Bool.and_eq_true, Bool.and_eq_true, decide_eq_true_eq, decide_eq_true_eq, decide_eq_true_eq]
          unfold lo1 hi1
          (repeat' split) <;> omega)]
        rw [Prod.mk.injEq]; exact ⟨by omega, rfl⟩
theorem stepL_isR (l : List UInt8) : isR (stepL l).1 = true := by
  rw [isR_iff]
  have hb : ∀ c : UInt8, c.toNat < 256 := fun c => c.toNat_lt
  match l with
  | [] => simp [stepL]
  | c :: t =>
    unfold stepL
    dsimp only
    by_cases h1 : c.toNat < 128
    · rw [if_pos h1]; dsimp only; omega
    · rw [if_neg h1]
      by_cases h2 : c.toNat < 194
      · rw [if_pos h2]; omega
      · rw [if_neg h2]
        by_cases h3 : c.toNat < 224
        · rw [if_pos h3]
          match t with
          | [] => simp
          | b :: _ =>
            dsimp only
            split
            · dsimp only; omega
            · simp
        · rw [if_neg h3]
          by_cases h4 : c.toNat < 240
          · rw [if_pos h4]
            match t with
            | [] => simp
            | [_] => simp
            | b :: d :: _ =>
              dsimp only
              split
              · rename_i h
                rw [Bool.and_eq_true] at h
                unfold tail1 at h
                simp only [decide_eq_true_eq] at h
                obtain ⟨⟨k1, k2⟩, k3, k4⟩ := h
                unfold lo1 at k1
                unfold hi1 at k2
                dsimp only
                have hb' := hb b
                by_cases q : c.toNat = 237
                · rw [if_pos q] at k2
                  rw [if_neg (by omega), if_neg (by omega)] at k1
                  omega
                · clear k1 k2
                  omega
              · simp
          · rw [if_neg h4]
            by_cases h5 : c.toNat < 245
            · rw [if_pos h5]
              match t with
              | [] => simp
              | [_] => simp
              | [_, _] => simp
              | b :: d :: e :: _ =>
                dsimp only
                split
                · rename_i h
                  rw [Bool.and_eq_true, Bool.and_eq_true] at h
                  unfold tail1 at h
                  simp only [decide_eq_true_eq] at h
                  obtain ⟨⟨k1, k2⟩, ⟨k3, k4⟩, k5, k6⟩ := h
                  unfold lo1 at k1
                  unfold hi1 at k2
                  dsimp only
                  rw [if_neg (by omega)] at k1
                  rw [if_neg (by omega)] at k2
                  have hb' := hb b
                  by_cases q : c.toNat = 240
                  · rw [if_pos q] at k1
                    rw [if_neg (by omega)] at k2
                    omega
                  · rw [if_neg q] at k1
                    by_cases q2 : c.toNat = 244
                    · rw [if_pos q2] at k2; omega
                    · rw [if_neg q2] at k2; omega
                · simp
            · rw [if_neg h5]; omega
theorem runesF_isR : ∀ (n : Nat) (l : List UInt8), ∀ r ∈ runesF n l, isR r = true
  | 0, _, r, h => by simp [runesF] at h
  | _ + 1, [], r, h => by simp [runesF] at h
  | n + 1, c :: t, r, h => by
    unfold runesF at h
    rcases List.mem_cons.1 h with rfl | h
    · exact stepL_isR _
    · exact runesF_isR n _ r h
theorem runesL_isR (l : List UInt8) : ∀ r ∈ runesL l, isR r = true := runesF_isR _ _
def encL (rs : List Nat) : List UInt8 := rs.flatMap bytesN
theorem encL_cons (r : Nat) (rs : List Nat) : encL (r :: rs) = bytesN r ++ encL rs := rfl
theorem encL_append (a b : List Nat) : encL (a ++ b) = encL a ++ encL b := by simp [encL]
theorem encL_one (r : Nat) : encL [r] = bytesN r := by simp [encL]
theorem runes_enc (rs : List Nat) (h : ∀ r ∈ rs, isR r = true) (t : List UInt8) : runesL (encL rs ++ t) = rs ++ runesL t := by
  induction rs with
  | nil => rfl
  | cons r rs ih =>
    have hl := bytesN_len r
    have hne : encL (r :: rs) ++ t ≠ [] := by
      rw [encL_cons]; intro e
      have := congrArg List.length e
      simp only [encL_cons, List.length_append, List.length_nil] at this; omega
    rw [runesL_step _ hne, encL_cons, List.append_assoc, step_bytes r (h r (by simp))]
    simp only [List.drop_left, List.cons_append]
    rw [ih (fun x hx => h x (by simp [hx]))]
theorem runes_enc0 (rs : List Nat) (h : ∀ r ∈ rs, isR r = true) : runesL (encL rs) = rs := by
  have := runes_enc rs h []
  rw [List.append_nil, runesL_nil, List.append_nil] at this
  exact this
def joinB (r : Int) : Bool := decide (colsB r = 0) && (isR r && !ctrlB r)
def stepG (out : List (List Nat)) (r : Nat) : List (List Nat) :=
  if 0 < colsB r then out ++ [[r]]
  else if joinB r && (!out.isEmpty && decide ((encL (out.getLastD [])).length + (bytesN r).length ≤ 64)) then out.dropLast ++ [out.getLastD [] ++ [r]]
  else out
def cutG (rs : List Nat) : List (List Nat) := rs.foldl stepG []
def cutL (l : List UInt8) : List (List UInt8) := (cutG (runesL l)).map encL
theorem cutG_snoc (rs : List Nat) (r : Nat) : cutG (rs ++ [r]) = stepG (cutG rs) r := by simp [cutG]
theorem stepG_two (out : List (List Nat)) (r : Nat) : stepG out r = out ∨ (stepG out r = out ++ [[r]] ∧ 0 < colsB r) ∨ (∃ o c, out = o ++ [c] ∧ stepG out r = o ++ [c ++ [r]] ∧ joinB r = true ∧ (encL c).length + (bytesN r).length ≤ 64) := by
  unfold stepG
  split
  · rename_i h; exact .inr (.inl ⟨rfl, h⟩)
  · split
    · rename_i h
      rw [Bool.and_eq_true, Bool.and_eq_true] at h
      obtain ⟨h1, h2, h3⟩ := h
      have hne : out ≠ [] := by intro e; subst e; simp at h2
      obtain ⟨o, c, rfl⟩ : ∃ o c, out = o ++ [c] := ⟨out.dropLast, out.getLast hne, (List.dropLast_concat_getLast hne).symm⟩
      refine .inr (.inr ⟨o, c, rfl, by simp, h1, ?_⟩)
      have := of_decide_eq_true h3
      simpa using this
    · exact .inl rfl
structure Cl (c : List Nat) : Prop where
  base : ∃ r t, c = r :: t ∧ 0 < colsB r
  rune : ∀ r ∈ c, isR r = true
  len : (encL c).length ≤ 64
  one : cutG c = [c]
theorem stepG_behind (o X : List (List Nat)) (r : Nat) (hX : X ≠ []) : stepG (o ++ X) r = o ++ stepG X r := by
  obtain ⟨Y, c, rfl⟩ : ∃ Y c, X = Y ++ [c] := ⟨X.dropLast, X.getLast hX, (List.dropLast_concat_getLast hX).symm⟩
  unfold stepG
  rw [← List.append_assoc]
  simp only [List.getLastD_concat, List.dropLast_concat, List.isEmpty_iff, List.append_eq_nil_iff, List.cons_ne_self, and_false, Bool.not_eq_true', decide_eq_false_iff_not, not_false_eq_true]
  split
  · simp
  · split
    · rename_i h1 h2
      rw [if_pos (by simpa using h2)]; simp
    · rename_i h1 h2
      rw [if_neg (by simpa using h2)]; simp
theorem stepG_ne (X : List (List Nat)) (r : Nat) (hX : X ≠ []) : stepG X r ≠ [] := by
  rcases stepG_two X r with e | ⟨e, _⟩ | ⟨o, c, _, e, _⟩ <;> rw [e]
  · exact hX
  · simp
  · simp
theorem foldG_behind (o : List (List Nat)) : ∀ (rs : List Nat) (X : List (List Nat)), X ≠ [] → rs.foldl stepG (o ++ X) = o ++ rs.foldl stepG X
  | [], _, _ => rfl
  | r :: rs, X, hX => by
    rw [List.foldl_cons, List.foldl_cons, stepG_behind o X r hX, foldG_behind o rs _ (stepG_ne X r hX)]
theorem stepG_base (o : List (List Nat)) (r : Nat) (h : 0 < colsB r) : stepG o r = o ++ [[r]] := by unfold stepG; rw [if_pos h]
theorem Cl.fold {c : List Nat} (h : Cl c) (o : List (List Nat)) : c.foldl stepG o = o ++ [c] := by
  obtain ⟨r, t, e, hb⟩ := h.base
  have h1 := h.one
  unfold cutG at h1
  rw [e, List.foldl_cons, stepG_base _ _ hb, List.nil_append] at h1
  rw [e, List.foldl_cons, stepG_base _ _ hb, foldG_behind o t _ (by simp), h1]
theorem fold_flat : ∀ (out o : List (List Nat)), (∀ c ∈ out, Cl c) → out.flatten.foldl stepG o = o ++ out
  | [], o, _ => by simp
  | c :: out, o, h => by
    rw [List.flatten_cons, List.foldl_append, (h c (by simp)).fold, fold_flat out _ (fun x hx => h x (by simp [hx]))]
    simp
theorem cut_flat {out : List (List Nat)} (h : ∀ c ∈ out, Cl c) : cutG out.flatten = out := by
  have := fold_flat out [] h
  rwa [List.nil_append] at this
theorem Cl.step {out : List (List Nat)} (h : ∀ c ∈ out, Cl c) {r : Nat} (hr : isR r = true) : ∀ c ∈ stepG out r, Cl c := by
  rcases stepG_two out r with e | ⟨e, hc⟩ | ⟨o, c, eo, e, hj, hl⟩
  · rw [e]; exact h
  · rw [e]; intro c' hc'
    rcases List.mem_append.1 hc' with h1 | h1
    · exact h c' h1
    · rw [List.mem_singleton.1 h1]
      have := bytesN_len r
      refine ⟨⟨r, [], rfl, hc⟩, fun x hx => by rw [List.mem_singleton.1 hx]; exact hr, by rw [encL_one]; omega, ?_⟩
      show [r].foldl stepG [] = _
      rw [List.foldl_cons, List.foldl_nil, stepG_base _ _ hc]; rfl
  · subst eo
    rw [e]; intro c' hc'
    rcases List.mem_append.1 hc' with h1 | h1
    · exact h c' (by simp [h1])
    · rw [List.mem_singleton.1 h1]
      have hcl := h c (by simp)
      refine ⟨?_, ?_, by rw [encL_append, encL_one, List.length_append]; exact hl, ?_⟩
      · obtain ⟨b, t, rfl, hb⟩ := hcl.base
        exact ⟨b, t ++ [r], rfl, hb⟩
      · intro x hx
        rcases List.mem_append.1 hx with h2 | h2
        · exact hcl.rune x h2
        · rw [List.mem_singleton.1 h2]; exact hr
      · rw [cutG_snoc, hcl.one]
        have := stepG_behind o [c] r (by simp)
        rw [e] at this
        exact (List.append_cancel_left this).symm
theorem foldl_clus : ∀ (rs : List Nat) (out : List (List Nat)), (∀ r ∈ rs, isR r = true) → (∀ c ∈ out, Cl c) → ∀ c ∈ rs.foldl stepG out, Cl c
  | [], _, _, h => h
  | r :: rs, _, hr, h => foldl_clus rs _ (fun x hx => hr x (by simp [hx])) (Cl.step h (hr r (by simp)))
theorem cutG_clus (rs : List Nat) (h : ∀ r ∈ rs, isR r = true) : ∀ c ∈ cutG rs, Cl c := foldl_clus rs [] h (by simp)
theorem cut_clus (l : List UInt8) : ∀ c ∈ cutG (runesL l), Cl c := cutG_clus _ (runesL_isR l)
theorem map_flat (out : List (List Nat)) : (out.map encL).flatten = encL out.flatten := by
  induction out with
  | nil => rfl
  | cons c out ih => rw [List.map_cons, List.flatten_cons, List.flatten_cons, encL_append, ih]
def Clu (c : List UInt8) : Prop := ∃ g, Cl g ∧ c = encL g
theorem clu_mem {l c : List UInt8} (h : c ∈ cutL l) : Clu c := by
  obtain ⟨g, hg, rfl⟩ := List.mem_map.1 h
  exact ⟨g, cut_clus l g hg, rfl⟩
theorem clus_map : ∀ (out : List (List UInt8)), (∀ c ∈ out, Clu c) → ∃ gs : List (List Nat), (∀ g ∈ gs, Cl g) ∧ out = gs.map encL
  | [], _ => ⟨[], by simp, rfl⟩
  | c :: out, h => by
    obtain ⟨g, hg, rfl⟩ := h c (by simp)
    obtain ⟨gs, hgs, rfl⟩ := clus_map out (fun x hx => h x (by simp [hx]))
    exact ⟨g :: gs, by
      intro x hx
      rcases List.mem_cons.1 hx with rfl | hx
      · exact hg
      · exact hgs x hx, rfl⟩
theorem flat_isR {gs : List (List Nat)} (h : ∀ g ∈ gs, Cl g) : ∀ r ∈ gs.flatten, isR r = true := by
  intro r hr
  obtain ⟨c, hc, hrc⟩ := List.mem_flatten.1 hr
  exact (h c hc).rune r hrc
theorem cutL_flat {out : List (List UInt8)} (h : ∀ c ∈ out, Clu c) : cutL out.flatten = out := by
  obtain ⟨gs, hgs, rfl⟩ := clus_map out h
  unfold cutL
  rw [map_flat, runes_enc0 _ (flat_isR hgs), cut_flat hgs]
def cleanL (l : List UInt8) : List UInt8 := (cutL l).flatten
def colsL (l : List UInt8) : Int := match runesL l with | r :: _ => colsB r | [] => 0
theorem colsL_bd (l : List UInt8) : 0 ≤ colsL l ∧ colsL l ≤ 2 := by
  unfold colsL; split
  · exact cols_bd _
  · omega
theorem Clu.cols {c : List UInt8} (h : Clu c) : 1 ≤ colsL c ∧ colsL c ≤ 2 := by
  obtain ⟨g, hg, rfl⟩ := h
  obtain ⟨r, t, e, hb⟩ := hg.base
  unfold colsL
  rw [runes_enc0 _ hg.rune, e]
  have := cols_bd r
  dsimp only; omega
theorem Clu.len {c : List UInt8} (h : Clu c) : 1 ≤ c.length ∧ c.length ≤ 64 := by
  obtain ⟨g, hg, rfl⟩ := h
  obtain ⟨r, t, e, hb⟩ := hg.base
  refine ⟨?_, hg.len⟩
  rw [e, encL_cons, List.length_append]; have := bytesN_len r; omega
theorem Clu.cut {c : List UInt8} (h : Clu c) : cutL c = [c] := by
  have := cutL_flat (out := [c]) (by intro x hx; rw [List.mem_singleton.1 hx]; exact h)
  simpa using this
def sumC (l : List (List UInt8)) : Int := l.foldr (fun c n => colsL c + n) 0
theorem sumC_cons (c : List UInt8) (l : List (List UInt8)) : sumC (c :: l) = colsL c + sumC l := rfl
theorem sumC_append (a b : List (List UInt8)) : sumC (a ++ b) = sumC a + sumC b := by
  induction a with
  | nil => simp [sumC]
  | cons c a ih => rw [List.cons_append, sumC_cons, sumC_cons, ih]; omega
theorem sumC_bd (l : List (List UInt8)) : 0 ≤ sumC l ∧ sumC l ≤ 2 * l.length := by
  induction l with
  | nil => simp [sumC]
  | cons c l ih => rw [sumC_cons, List.length_cons]; have := colsL_bd c; omega
def fitK : List (List UInt8) → Int → Nat
  | [], _ => 0
  | c :: l, n => if n < colsL c then 0 else fitK l (n - colsL c) + 1
theorem stepL_le (l : List UInt8) (h : l ≠ []) : (stepL l).2 ≤ l.length := by
  match l, h with
  | c :: t, _ =>
    unfold stepL
    repeat' split
    all_goals first | (simp; done) | (rename_i e _; rw [e]; simp)
theorem runesF_len : ∀ (n : Nat) (l : List UInt8), (runesF n l).length ≤ n
  | 0, _ => by simp [runesF]
  | _ + 1, [] => by simp [runesF]
  | n + 1, c :: t => by unfold runesF; have := runesF_len n ((c :: t).drop (stepL (c :: t)).2); simp; omega
theorem runesL_len (l : List UInt8) : (runesL l).length ≤ l.length := runesF_len _ _
theorem stepG_len (out : List (List Nat)) (r : Nat) : (stepG out r).length ≤ out.length + 1 := by
  rcases stepG_two out r with e | ⟨e, _⟩ | ⟨o, c, eo, e, _⟩ <;> rw [e]
  · omega
  · simp
  · subst eo; simp
theorem cutG_len (rs : List Nat) : (cutG rs).length ≤ rs.length := by
  have : ∀ (rs : List Nat) (o : List (List Nat)), (rs.foldl stepG o).length ≤ o.length + rs.length := by
    intro rs
    induction rs with
    | nil => intro o; simp
    | cons r rs ih => intro o; rw [List.foldl_cons]; have := ih (stepG o r); have := stepG_len o r; simp; omega
  simpa [cutG] using this rs []
theorem cutL_len (l : List UInt8) : (cutL l).length ≤ l.length := by
  unfold cutL; rw [List.length_map]; exact Nat.le_trans (cutG_len _) (runesL_len l)
end Go.Proofs.YtekodpcedjpnjaaGreat
