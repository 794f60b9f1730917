/- The plain law of control sequences: numbers in decimal, moves, columns. No program in sight. No condition. The contracts of the numbers in decimal, of the program and of its reference. The plain law of runes in bytes: bits as arithmetic; the rune at a text's beginning; a rune's bytes. No program in sight. No condition. The plain law of a text's first rune, byte by byte. No program in sight. No condition. The contracts of sequences and moves, of the program and of its reference. -/
import Derived.Test.YtekodpcedjpnjaaGreatProg
import Derived.KernelRfl
import Derived.Deep.RegionWith
import Derived.Test.YtekodpcedjpnjaaGreatRN01
set_option linter.unusedVariables false
set_option linter.unusedSimpArgs false
namespace Go.Proofs.YtekodpcedjpnjaaGreat
def S (l : List UInt8) : ByteArray := ⟨l.toArray⟩
theorem S_append (a b : List UInt8) : S a ++ S b = S (a ++ b) := ByteArray.mk_append_mk a b
theorem S_size (l : List UInt8) : (S l).size = l.length := by simp [S, ByteArray.size]
def digB (n : Nat) : UInt8 := UInt8.ofNat (48 + n)
theorem digB_nat (n : Nat) (h : n < 10) : (digB n).toNat = 48 + n := by simp [digB]; omega
def decL (n : Nat) : List UInt8 := if n < 10 then [digB n] else decL (n / 10) ++ [digB (n % 10)]
theorem decL_small {n : Nat} (h : n < 10) : decL n = [digB n] := by rw [decL, if_pos h]
theorem decL_big {n : Nat} (h : ¬ n < 10) : decL n = decL (n / 10) ++ [digB (n % 10)] := by rw [decL, if_neg h]
theorem decL_len (k : Nat) : ∀ n, n < 10 ^ (k + 1) → (decL n).length ≤ k + 1 := by
  induction k with
  | zero => intro n h; rw [decL_small (by simpa using h)]; simp
  | succ k ih =>
    intro n h
    by_cases h1 : n < 10
    · rw [decL_small h1]; simp
    · rw [decL_big h1]
      have := ih (n / 10) (by rw [Nat.pow_succ] at h; omega)
      simp; omega
theorem decL_le (n : Nat) (h : n ≤ 9999) : (decL n).length ≤ 4 := decL_len 3 n (by omega)
def byL (n : Int) (e : UInt8) : List UInt8 := if n < 1 then [] else [27, 91] ++ decL (min n 9999).toNat ++ [e]
theorem byL_len (n : Int) (e : UInt8) : (byL n e).length ≤ 7 := by
  unfold byL; split
  · simp
  · have := decL_le (min n 9999).toNat (by omega)
    simp; omega
def sepTo (l : List Int) : Nat → List UInt8
  | 0 => []
  | k + 1 => sepTo l k ++ (if k = 0 then [] else [59]) ++ decL (min (nth 0 l k) 9999).toNat
theorem sepTo_len (l : List Int) (k : Nat) : (sepTo l k).length ≤ 5 * k := by
  induction k with
  | zero => simp [sepTo]
  | succ k ih =>
    have h := decL_le (min (nth 0 l k) 9999).toNat (by omega)
    simp only [sepTo, List.length_append]
    split
    · simp; omega
    · simp; omega
def seqL (l : List Int) (e : List UInt8) : List UInt8 := [27, 91] ++ sepTo l l.length ++ e
theorem seqL_one (n : Int) (e : UInt8) (h : 1 ≤ n) : seqL [n] [e] = byL n e := by
  unfold seqL byL
  rw [if_neg (by omega)]
  simp [sepTo, nth]
end Go.Proofs.YtekodpcedjpnjaaGreat
namespace Go.Proofs.YtekodpcedjpnjaaGreat
open Go.RowKit
structure Laid (B : Nat) (w : World) (q : Nat) (suf : List UInt8) : Prop where
  blk : ∃ cs : Array Value, w.heap[B]? = some (.cells cs 329 (0, 0)) ∧ cs.size = 20 ∧ cs.toList.drop (q + 1) = suf.map fun b => Value.int .u8 b.toNat
theorem Laid.cell {B : Nat} {w : World} {q : Nat} {suf : List UInt8} (h : Laid B w q suf) (hq : q < 20) : (∃ v, w.cell? ⟨B, q, none⟩ = some v) ∧ w.frozen? ⟨B, q, none⟩ = false := by
  obtain ⟨cs, h1, h2, _⟩ := h.blk
  unfold World.cell? World.frozen?
  dsimp only
  rw [h1]
  refine ⟨⟨cs[q]'(by omega), ?_⟩, by simp⟩
  simp [h2, hq]
theorem drop_set (l : List Value) (q : Nat) (v : Value) (hq : q < l.length) : (l.set q v).drop q = v :: l.drop (q + 1) := by
  rw [List.drop_eq_getElem_cons (by simpa using hq)]
  rw [List.getElem_set_self]
  congr 1
  apply List.ext_getElem
  · simp
  · intro i h1 h2
    simp only [List.getElem_drop]
    rw [List.getElem_set_ne (by omega)]
theorem Laid.put {B : Nat} {w : World} {q' q : Nat} {suf : List UInt8} (h : Laid B w q' suf) (hq' : q' = q + 1) (hq : q + 1 < 20) (b : UInt8) (v : Int) (hv : v = b.toNat) : Laid B (w.setCell ⟨B, q', none⟩ (.int .u8 v)) q (b :: suf) := by
  subst hq'
  obtain ⟨cs, h1, h2, h3⟩ := h.blk
  refine ⟨cs.setIfInBounds (q + 1) (.int .u8 v), ?_, by simpa using h2, ?_⟩
  · unfold World.setCell
    dsimp only
    rw [Array.getElem?_modify, h1]
    simp
  · rw [Array.toList_setIfInBounds, drop_set _ _ _ (by simp; omega), h3, hv]
    rfl
theorem Laid.zero (w : World) : Laid w.heap.size (w.alloc (.cells (Array.replicate 20 (.int .u8 0)) 329)) 19 [] :=
  ⟨_, World.alloc_heap_new w _, by simp, by simp⟩
theorem slice20 (B q : Nat) (hq : q < 20) (W : World) : (Instr.sliceAt 329 (.pointer (some ⟨B, 0, none⟩)) (some (.int .i64 q)) none none).run Tryz.prog W = .ok (.slice (some ⟨B, q, none⟩) (20 - q) (20 - q)) W := by
  have h : q = 0 ∨ q = 1 ∨ q = 2 ∨ q = 3 ∨ q = 4 ∨ q = 5 ∨ q = 6 ∨ q = 7 ∨ q = 8 ∨ q = 9 ∨ q = 10 ∨ q = 11 ∨ q = 12 ∨ q = 13 ∨ q = 14 ∨ q = 15 ∨ q = 16 ∨ q = 17 ∨ q = 18 ∨ q = 19 := by omega
  rcases h with rfl | rfl | rfl | rfl | rfl | rfl | rfl | rfl | rfl | rfl | rfl | rfl | rfl | rfl | rfl | rfl | rfl | rfl | rfl | rfl 
  all_goals (show _ = _; kernel_rfl)
theorem strOfNums_S (l : List UInt8) : strOfNums (l.map fun b => (b.toNat : Int)) = S l := by
  unfold strOfNums S
  rw [List.map_map]
  congr 2
  conv => rhs; rw [← List.map_id l]
  apply List.map_congr_left
  intro b _
  simp
theorem Laid.conv {B : Nat} {w : World} {p q : Nat} {l : List UInt8} (h : Laid B w p l) (hp : p + 1 = q) (hl : 20 - q = l.length) :
    (convert 61 9 (.slice (some ⟨B, q, none⟩) (20 - q) (20 - q))).run Tryz.prog w = .ok (.string (S l)) w := by
  subst hp
  obtain ⟨cs, h1, h2, h3⟩ := h.blk
  have := run_convert_bytes_arg (P := Tryz.prog) w 61 5 Tryz.underlying61 Tryz.underlying5 B (p + 1) (20 - (p + 1)) (20 - (p + 1)) (l.map fun b => (b.toNat : Int)) (by simp [hl])
    (fun i hi => ?_) 9 Tryz.underlying9
  · rw [strOfNums_S] at this; exact this
  · unfold World.cell?
    dsimp only
    rw [h1]
    have h4 : (cs.toList.drop (p + 1))[i]? = (l.map fun b => Value.int .u8 b.toNat)[i]? := by rw [h3]
    rw [List.getElem?_drop, List.getElem?_map] at h4
    simp only [Option.isSome_none, Bool.false_eq_true, if_false]
    rw [← Array.getElem?_toList, h4]
    simp [show i < l.length by omega]
set_option maxRecDepth 100000 in
set_option maxHeartbeats 1000000 in
theorem decimal_any (n : Nat) (hn : n ≤ 9999) (w : World) : Calls Tryz.prog 272 #[.int .i64 n] w fun e w' => e = .returned (.string (S (decL n))) ∧ Below w.heap.size w w' := by
  go_enter Tryz.func272, Tryz.ntmps272
  go_wp2
  go_loopw [0, 4] (fun v i wr => ∃ (m q : Nat) (suf : List UInt8), v = .int .i64 m ∧ i = .int .i64 ((q : Int) + 1) ∧ (q = 19 ∧ m ≤ 9999 ∨ q = 18 ∧ m ≤ 999 ∨ q = 17 ∧ m ≤ 99 ∨ q = 16 ∧ m ≤ 9) ∧ decL n = decL m ++ suf ∧ q + suf.length = 19 ∧ Laid w.heap.size wr q suf ∧ Below w.heap.size w wr)
    (fun v _ _ => (intOf v).toNat)
  case atStart => exact ⟨n, 19, [], rfl, rfl, .inl ⟨rfl, hn⟩, by simp, by simp, Laid.zero w, (Below.refl _ _).alloc (Nat.le_refl _) _⟩
  case round =>
    obtain ⟨m, q, suf, rfl, rfl, hqm, hd, hlen, hl, hb⟩ := hrel
    have hq : q < 20 := by omega
    have hm : m ≤ 9999 := by omega
    obtain ⟨⟨v, hc⟩, hf⟩ := hl.cell hq
    have Hd := Lib.hid hd
    have Hqm := Lib.hid hqm
    clear hd hqm
    obtain ⟨p, hp⟩ : ∃ p, q = p + 1 := ⟨q - 1, by have := Hqm.out; omega⟩
    have Hp := Lib.hid hp
    clear hp
    have hput := hl.put Hp.out (by have := Hp.out; omega) (digB (m % 10)) (48 + (m : Int) % 10) (by rw [digB_nat _ (by omega)]; omega)
    have hsl := slice20 w.heap.size q hq (wr.setCell ⟨w.heap.size, q, none⟩ (.int .u8 (48 + (m : Int) % 10)))
    have Hlen := Lib.hid hlen
    clear hlen
    have hcv := hput.conv Hp.out.symm (by have := Hp.out; have := Hlen.out; simp; omega)
    have hbs := hb.setCell (p := ⟨w.heap.size, q, none⟩) (Nat.le_refl _) (.int .u8 (48 + (m : Int) % 10))
    by_cases hz : m / 10 = 0
    · have hz2 : ((m : Int) / 10 == 0) = true := by simp; omega
      have Hz := Lib.hid hz
      clear hz
      go_wp2
      go_ret
      exact ⟨ret_str (by rw [Hd.out, decL_small (by have := Hz.out; omega), Nat.mod_eq_of_lt (by have := Hz.out; omega)]; rfl), hbs⟩
    · have hz2 : ((m : Int) / 10 == 0) = false := by simp; omega
      have Hz := Lib.hid hz
      clear hz
      go_wp2
      go_roundw
      case rel => exact ⟨m / 10, p, _, by go_num, congrArg (Value.int .i64) (by have := Hp.out; omega), by have := Hp.out; have := Hqm.out; have := Hz.out; omega, by rw [Hd.out, decL_big (by have := Hz.out; omega)]; simp, by have := Hp.out; have := Hlen.out; simp; omega, hput, hbs⟩
      case measure => have := Hz.out; simp [intOf]; omega
theorem dec_any (a : Int) (w : World) (h0 : 0 ≤ a) (h1 : a ≤ 9999) : Calls Tryz.prog 272 #[.int .i64 a] w fun e w' => e = .returned (.string (S (decL a.toNat))) ∧ Below w.heap.size w w' := by
  obtain ⟨n, rfl⟩ := Int.eq_ofNat_of_zero_le h0
  exact decimal_any n (by omega) w
end Go.Proofs.YtekodpcedjpnjaaGreat
namespace Go.Proofs.YtekodpcedjpnjaaGreat
open Go.RowKit
theorem and_u8 : ∀ c : Fin 256, bits .and .u8 (c.val : Int) 31 = ((c.val % 32 : Nat) : Int) ∧ bits .and .u8 (c.val : Int) 15 = ((c.val % 16 : Nat) : Int) ∧ bits .and .u8 (c.val : Int) 7 = ((c.val % 8 : Nat) : Int) ∧ bits .and .u8 (c.val : Int) 63 = ((c.val % 64 : Nat) : Int) := by
  decide +kernel
theorem or_u8 : ∀ c : Fin 64, bits .or .u8 128 (c.val : Int) = 128 + (c.val : Int) ∧ (c.val < 32 → bits .or .u8 192 (c.val : Int) = 192 + (c.val : Int)) ∧ (c.val < 16 → bits .or .u8 224 (c.val : Int) = 224 + (c.val : Int)) ∧ (c.val < 8 → bits .or .u8 240 (c.val : Int) = 240 + (c.val : Int)) := by
  decide +kernel
theorem and63 (c : Nat) (h : c < 256) : bits .and .u8 (c : Int) 63 = ((c % 64 : Nat) : Int) := (and_u8 ⟨c, h⟩).2.2.2
theorem or128 (c : Nat) (h : c < 64) : bits .or .u8 128 (c : Int) = 128 + (c : Int) := (or_u8 ⟨c, h⟩).1
def lo1 (c : Nat) : Nat := if c = 224 then 160 else if c = 240 then 144 else 128
def hi1 (c : Nat) : Nat := if c = 237 then 159 else if c = 244 then 143 else 191
def tail1 (b : UInt8) (lo hi : Nat) : Bool := decide (lo ≤ b.toNat ∧ b.toNat ≤ hi)
def stepL : List UInt8 → Nat × Nat
  | [] => (65533, 1)
  | c :: t =>
    if c.toNat < 128 then (c.toNat, 1)
    else if c.toNat < 194 then (65533, 1)
    else if c.toNat < 224 then
      match t with
      | b :: _ => if tail1 b 128 191 then (c.toNat % 32 * 64 + b.toNat % 64, 2) else (65533, 1)
      | _ => (65533, 1)
    else if c.toNat < 240 then
      match t with
      | b :: d :: _ => if tail1 b (lo1 c.toNat) (hi1 c.toNat) && tail1 d 128 191 then ((c.toNat % 16 * 64 + b.toNat % 64) * 64 + d.toNat % 64, 3) else (65533, 1)
      | _ => (65533, 1)
    else if c.toNat < 245 then
      match t with
      | b :: d :: e :: _ => if tail1 b (lo1 c.toNat) (hi1 c.toNat) && (tail1 d 128 191 && tail1 e 128 191) then (((c.toNat % 8 * 64 + b.toNat % 64) * 64 + d.toNat % 64) * 64 + e.toNat % 64, 4) else (65533, 1)
      | _ => (65533, 1)
    else (65533, 1)
theorem stepL_pos (l : List UInt8) : 1 ≤ (stepL l).2 := by
  unfold stepL
  repeat' split
  all_goals simp
def isR (r : Int) : Bool := decide (0 ≤ r ∧ r ≤ 1114111 ∧ (r < 55296 ∨ 57343 < r))
def runeN (r : Int) : Nat := if isR r then r.toNat else 65533
def byteB (n : Nat) : UInt8 := UInt8.ofNat n
def bytesN (n : Nat) : List UInt8 :=
  if n < 128 then [byteB n] else if n < 2048 then [byteB (192 + n / 64), byteB (128 + n % 64)] else if n < 65536 then [byteB (224 + n / 4096), byteB (128 + n / 64 % 64), byteB (128 + n % 64)]
  else [byteB (240 + n / 262144), byteB (128 + n / 4096 % 64), byteB (128 + n / 64 % 64), byteB (128 + n % 64)]
def bytesR (r : Int) : List UInt8 := bytesN (runeN r)
def runesF : Nat → List UInt8 → List Nat
  | 0, _ => []
  | _ + 1, [] => []
  | n + 1, c :: t => (stepL (c :: t)).1 :: runesF n ((c :: t).drop (stepL (c :: t)).2)
def runesL (l : List UInt8) : List Nat := runesF l.length l
end Go.Proofs.YtekodpcedjpnjaaGreat
namespace Go.Proofs.YtekodpcedjpnjaaGreat
open Go.RowKit
def manyL (c : Nat) : Nat := if c < 128 then 1 else if c < 194 then 0 else if c < 224 then 2 else if c < 240 then 3 else if c < 245 then 4 else 0
def bitsL (c : Nat) : Nat := if c < 128 then c else if c < 224 then c % 32 else if c < 240 then c % 16 else c % 8
def okAt (c : Nat) (t : List UInt8) (j : Nat) : Prop := j < t.length ∧ (if j = 0 then lo1 c else 128) ≤ (nth 0 t j).toNat ∧ (nth 0 t j).toNat ≤ (if j = 0 then hi1 c else 191)
def accN (c : Nat) (t : List UInt8) : Nat → Nat
  | 0 => bitsL c
  | k + 1 => accN c t k * 64 + (nth 0 t k).toNat % 64
theorem manyL_le (c : Nat) : manyL c ≤ 4 := by unfold manyL; (repeat' split) <;> omega
theorem step_many0 (c : UInt8) (t : List UInt8) (h : manyL c.toNat = 0) : stepL (c :: t) = (65533, 1) := by
  unfold manyL at h
  unfold stepL
  dsimp only
  have h1 : ¬ c.toNat < 128 := fun q => by rw [if_pos q] at h; omega
  rw [if_neg h1] at h ⊢
  by_cases h2 : c.toNat < 194
  · rw [if_pos h2]
  · rw [if_neg h2] at h ⊢
    have h3 : ¬ c.toNat < 224 := fun q => by rw [if_pos q] at h; omega
    rw [if_neg h3] at h ⊢
    have h4 : ¬ c.toNat < 240 := fun q => by rw [if_pos q] at h; omega
    rw [if_neg h4] at h ⊢
    have h5 : ¬ c.toNat < 245 := fun q => by rw [if_pos q] at h; omega
    rw [if_neg h5]
theorem step_bad (c : UInt8) (t : List UInt8) (j : Nat) (h : j + 1 < manyL c.toNat) (hb : ¬ okAt c.toNat t j) : stepL (c :: t) = (65533, 1) := by
  unfold manyL at h
  unfold okAt lo1 hi1 at hb
  unfold stepL tail1 lo1 hi1
  dsimp only
  by_cases h1 : c.toNat < 128
  · rw [if_pos h1] at h; omega
  · rw [if_neg h1] at h ⊢
    by_cases h2 : c.toNat < 194
    · rw [if_pos h2] at h; omega
    · rw [if_neg h2] at h ⊢
      by_cases h3 : c.toNat < 224
      · rw [if_pos h3] at h ⊢
        obtain rfl : j = 0 := by omega
        match t with
        | [] => rfl
        | b :: _ =>
          simp only [nth, List.getD_cons_zero, List.length_cons, if_true, Nat.zero_lt_succ, true_and] at hb ⊢
          rw [if_neg]
          rw [decide_eq_true_eq]
          rw [if_neg (by omega), if_neg (by omega), if_neg (by omega), if_neg (by omega)] at hb
          exact hb
      · rw [if_neg h3] at h ⊢
        by_cases h4 : c.toNat < 240
        · rw [if_pos h4] at h ⊢
          match t with
          | [] => rfl
          | [_] => rfl
          | b :: d :: _ =>
            dsimp only
            rw [if_neg]
            rw [Bool.and_eq_true, decide_eq_true_eq, decide_eq_true_eq]
            have hj : j = 0 ∨ j = 1 := by omega
            rcases hj with rfl | rfl
            · simp [nth] at hb
              intro hx; exact absurd (hb hx.1.1) (by omega)
            · simp [nth] at hb
              intro hx; exact absurd (hb hx.2.1) (by omega)
        · rw [if_neg h4] at h ⊢
          by_cases h5 : c.toNat < 245
          · rw [if_pos h5] at h ⊢
            match t with
            | [] => rfl
            | [_] => rfl
            | [_, _] => rfl
            | b :: d :: e :: _ =>
              dsimp only
              rw [if_neg]
              rw [Bool.and_eq_true, Bool.and_eq_true, decide_eq_true_eq, decide_eq_true_eq, decide_eq_true_eq]
              have hj : j = 0 ∨ j = 1 ∨ j = 2 := by omega
              rcases hj with rfl | rfl | rfl
              · simp [nth] at hb
                intro hx; exact absurd (hb hx.1.1) (by omega)
              · simp [nth] at hb
                intro hx; exact absurd (hb hx.2.1.1) (by omega)
              · simp [nth] at hb
                intro hx; exact absurd (hb hx.2.2.1) (by omega)
          · rw [if_neg h5] at h; omega
theorem step_ok (c : UInt8) (t : List UInt8) (h : 1 ≤ manyL c.toNat) (hb : ∀ j, j + 1 < manyL c.toNat → okAt c.toNat t j) : stepL (c :: t) = (accN c.toNat t (manyL c.toNat - 1), manyL c.toNat) := by
  unfold manyL at h hb ⊢
  unfold okAt lo1 hi1 at hb
  unfold stepL tail1 lo1 hi1
  dsimp only
  by_cases h1 : c.toNat < 128
  · rw [if_pos h1, if_pos h1]; simp [accN, bitsL, h1]
  · rw [if_neg h1] at h hb ⊢
    rw [if_neg h1]
    by_cases h2 : c.toNat < 194
    · rw [if_pos h2] at h; omega
    · rw [if_neg h2] at h hb ⊢
      rw [if_neg h2]
      by_cases h3 : c.toNat < 224
      · rw [if_pos h3] at h hb ⊢
        rw [if_pos h3]
        have hb0 := hb 0 (by omega)
        match t with
        | [] => simp at hb0
        | b :: _ =>
          simp only [nth, List.getD_cons_zero, List.length_cons, if_true, Nat.zero_lt_succ, true_and] at hb0 ⊢
          rw [if_neg (by omega), if_neg (by omega), if_neg (by omega), if_neg (by omega)] at hb0
          rw [if_pos (by rw [decide_eq_true_eq]; exact hb0)]
          simp [accN, bitsL, h1, h3, nth]
      · rw [if_neg h3] at h hb ⊢
        rw [if_neg h3]
        by_cases h4 : c.toNat < 240
        · rw [if_pos h4] at h hb ⊢
          rw [if_pos h4]
          have hb0 := hb 0 (by omega)
          have hb1 := hb 1 (by omega)
          match t with
          | [] => simp at hb0
          | [_] => simp at hb1
          | b :: d :: _ =>
            simp [nth] at hb0 hb1
            dsimp only
            rw [if_pos (by rw [Bool.and_eq_true, decide_eq_true_eq, decide_eq_true_eq]; exact ⟨hb0, hb1⟩)]
            simp [accN, bitsL, h1, h3, h4, nth]
        · rw [if_neg h4] at h hb ⊢
          rw [if_neg h4]
          by_cases h5 : c.toNat < 245
          · rw [if_pos h5] at h hb ⊢
            rw [if_pos h5]
            have hb0 := hb 0 (by omega)
            have hb1 := hb 1 (by omega)
            have hb2 := hb 2 (by omega)
            match t with
            | [] => simp at hb0
            | [_] => simp at hb1
            | [_, _] => simp at hb2
            | b :: d :: e :: _ =>
              simp [nth] at hb0 hb1 hb2
              dsimp only
              rw [if_pos (by rw [Bool.and_eq_true, Bool.and_eq_true, decide_eq_true_eq, decide_eq_true_eq, decide_eq_true_eq]; exact ⟨hb0, hb1, hb2⟩)]
              simp [accN, bitsL, h1, h3, h4, nth]
          · rw [if_neg h5] at h; omega
instance decOkAt (c : Nat) (t : List UInt8) (j : Nat) : Decidable (okAt c t j) := by unfold okAt; infer_instance
def moreL : List UInt8 → Bool
  | [] => true
  | c :: t => decide (t.length + 1 < manyL c.toNat ∧ ∀ j, j < t.length → okAt c.toNat t j)
theorem more_no {c : UInt8} {t : List UInt8} (h : manyL c.toNat ≤ t.length + 1) : moreL (c :: t) = false := by unfold moreL; exact decide_eq_false (fun h2 => by omega)
end Go.Proofs.YtekodpcedjpnjaaGreat
namespace Go.Proofs.YtekodpcedjpnjaaGreat
open Go.RowKit
def i64s (L : List Int) : List Value := L.map (Value.int .i64)
theorem i64s_length (L : List Int) : (i64s L).length = L.length := by simp [i64s]
theorem i64s_nth (L : List Int) (j : Nat) (h : j < L.length) : nth undef (i64s L) j = .int .i64 (nth 0 L j) := nth_map _ _ _ _ h
theorem ints_at {B : Nat} {w : World} {a : Option Addr} {l : List Int} (h : RowAt B w a (i64s l)) (k : Nat) (hk : k < l.length) : ∃ b off, a = some ⟨b, off, none⟩ ∧ b < B ∧ w.cell? ⟨b, off + k, none⟩ = some (.int .i64 (nth 0 l k)) := by
  obtain ⟨b, off, e, hb, hc⟩ := h k (by rw [i64s_length]; exact hk)
  exact ⟨b, off, e, hb, by rw [hc, i64s_nth _ _ hk]⟩
def nines : List UInt8 := decL (9999 : Int).toNat
theorem dec_nines (w : World) : Calls Tryz.prog 272 #[.int .i64 9999] w fun e w' => e = .returned (.string (S nines)) ∧ Below w.heap.size w w' := dec_any 9999 w (by omega) (by omega)
set_option maxRecDepth 100000 in
set_option maxHeartbeats 1000000 in
theorem sequence_any (E : List UInt8) (l : List Int) (a : Option Addr) (n c : Nat) (w : World) (hE : E.length ≤ 100) (hn : n = l.length) (hl : l.length ≤ 20) (hr : RowAt w.heap.size w a (i64s l)) (h0 : ∀ k, k < l.length → 0 ≤ nth 0 l k) :
    Calls Tryz.prog 248 #[.string (S E), .slice a n c] w fun e w' => e = .returned (.string (S (seqL l E))) ∧ Below w.heap.size w w' := by
  subst hn
  have H0 := Lib.hid h0
  clear h0
  have hEs : (S E).size ≤ 100 := by rw [S_size]; exact hE
  go_enter Tryz.func248, Tryz.ntmps248
  go_wp2
  go_loopw [10, 5] (fun i s wr => ∃ k : Nat, k ≤ l.length ∧ i = .int .i64 k ∧ s = .string (S ([27, 91] ++ sepTo l k)) ∧ Below w.heap.size w wr) (fun i _ _ => l.length - (intOf i).toNat)
  case atStart => exact ⟨0, by omega, rfl, rfl, Below.refl _ _⟩
  case round =>
    obtain ⟨k, hk, rfl, rfl, hb⟩ := hrel
    have hsz := sepTo_len l k
    have hsz2 : (S ([27, 91] ++ sepTo l k)).size ≤ 200 := by rw [S_size]; simp; omega
    obtain ⟨P, hP⟩ : ∃ P, P = [27, 91] ++ sepTo l k := ⟨_, rfl⟩
    rw [← hP] at hsz2 ⊢
    have HP := Lib.hid hP
    clear hP hsz
    by_cases hlt : k < l.length
    · obtain ⟨b, off, rfl, _, hc⟩ := ints_at (hr.below hb) k hlt
      have h00 := H0.out k hlt
      have hs : sepTo l (k + 1) = sepTo l k ++ (if k = 0 then [] else [59]) ++ decL (min (nth 0 l k) 9999).toNat := rfl
      obtain ⟨m, hm⟩ : ∃ m, m = nth 0 l k := ⟨_, rfl⟩
      rw [← hm] at hc h00 hs
      have Hs := Lib.hid hs
      clear hs hm
      have hfin : ∀ (d : List UInt8), d = decL (min m 9999).toNat → S (P ++ (if k = 0 then [] else [59]) ++ d) = S ([27, 91] ++ sepTo l (k + 1)) := fun d hd => by rw [Hs.out, HP.out, hd]; simp
      have Hfin := Lib.hid hfin
      clear hfin
      by_cases hbig : m ≤ 9999
      · have hd1 := decL_le m.toNat (by omega)
        have hd2 : (S (decL m.toNat)).size ≤ 4 := by rw [S_size]; exact hd1
        have he : min m 9999 = m := by omega
        rw [he] at Hfin
        have He := Lib.hid he
        clear he hd1
        by_cases hk0 : k = 0
        · subst hk0
          rw [Nat.add_zero] at hc
          go_wp2_with (go_at_call 272; refine (dec_any _ _ (by omega) (by omega)).mono ?_; rintro e w1 ⟨rfl, hb1⟩)
          go_roundw
          case rel => exact ⟨0 + 1, by omega, by go_num, congrArg Value.string (by rw [S_append]; have := Hfin.out _ rfl; simpa using this), bnext hb hb1⟩
          case measure => simp [intOf]; omega
        · have hk1 : 0 < (k : Int) := by omega
          have Hk0 := Lib.hid hk0
          clear hk0
          go_wp2_with (go_at_call 272; refine (dec_any _ _ (by omega) (by omega)).mono ?_; rintro e w1 ⟨rfl, hb1⟩)
          go_roundw
          case rel => exact ⟨k + 1, by omega, by go_num, congrArg Value.string (by have := Hfin.out _ rfl; rw [if_neg Hk0.out] at this; rw [← this]; exact (congrArg (· ++ S (decL m.toNat)) (S_append P [59])).trans (S_append _ _)), bnext hb hb1⟩
          case measure => simp [intOf]; omega
      · have hd2 : (S nines).size ≤ 4 := by rw [S_size]; exact decL_le _ (by omega)
        have he : min m 9999 = 9999 := by omega
        rw [he] at Hfin
        have hn : nines = decL (9999 : Int).toNat := rfl
        rw [← hn] at Hfin
        clear he hn
        have hbig2 : 9999 < m := by omega
        clear hbig
        by_cases hk0 : k = 0
        · subst hk0
          rw [Nat.add_zero] at hc
          go_wp2_with (go_at_call 272; refine (dec_nines _).mono ?_; rintro e w1 ⟨rfl, hb1⟩)
          go_roundw
          case rel => exact ⟨0 + 1, by omega, by go_num, congrArg Value.string (by rw [S_append]; have := Hfin.out _ rfl; simpa using this), bnext hb hb1⟩
          case measure => simp [intOf]; omega
        · have hk1 : 0 < (k : Int) := by omega
          have Hk0 := Lib.hid hk0
          clear hk0
          go_wp2_with (go_at_call 272; refine (dec_nines _).mono ?_; rintro e w1 ⟨rfl, hb1⟩)
          go_roundw
          case rel => exact ⟨k + 1, by omega, by go_num, congrArg Value.string (by have := Hfin.out _ rfl; rw [if_neg Hk0.out] at this; rw [← this]; exact (congrArg (· ++ S nines) (S_append P [59])).trans (S_append _ _)), bnext hb hb1⟩
          case measure => simp [intOf]; omega
    · obtain rfl : k = l.length := by omega
      go_wp2
      go_ret
      exact ⟨ret_str (by rw [S_append, HP.out]; rfl), hb⟩
end Go.Proofs.YtekodpcedjpnjaaGreat
