/- The reference's runes: the contracts of length, tails and number. The reference's runes: the contracts of begins and Next. The reference's runes: the contracts of Next and Runes. The reference's runes: the contract of Runes. -/
import Derived.Test.YtjkajojjehgmdaaGreatRE07
import Derived.Test.YtjkajojjehgmdaaGreatRE10
import Derived.Test.YtjkajojjehgmdaaGreatRE11
set_option linter.unusedVariables false
set_option linter.unusedSimpArgs false
namespace Go.Proofs.YtjkajojjehgmdaaGreat
open Go.RowKit
set_option maxRecDepth 100000 in
theorem rlength_any (n : Nat) (hn : n < 256) (w : World) : Calls Tryz.prog 85 #[.int .u8 n] w fun e w' => e = .returned (.int .i64 (manyL n : Nat)) ∧ w = w' := by
 obtain ⟨z, hz⟩ : ∃ z : Nat, z = manyL n := ⟨_, rfl⟩
 rw [← hz]
 unfold manyL at hz
 have HZ := Lib.hid hz
 obtain ⟨c, hc⟩ : ∃ c : Int, c = (n : Int) := ⟨_, rfl⟩
 rw [← hc]
 have HC := Lib.hid hc
 clear hz hc hn
 go_enter Tryz.func85, Tryz.ntmps85
 go_wp2
 all_goals go_ret
 all_goals refine ⟨ret_int ?_, rfl⟩
 all_goals rw [HZ.out]
 all_goals have hc := HC.out
 all_goals (repeat' split) <;> omega
def tailB (x : UInt8) : Bool := decide (128 ≤ x.toNat ∧ x.toNat ≤ 191)
theorem all_take (t : List UInt8) (k : Nat) (h : k < t.length) : (t.take (k + 1)).all tailB = ((t.take k).all tailB && tailB (nth 0 t k)) := by
 rw [List.take_succ_eq_append_getElem h, List.all_append, nth_eq _ _ _ h]; simp
theorem all_bad (t : List UInt8) (k : Nat) (h : k < t.length) (hb : tailB (nth 0 t k) = false) : t.all tailB = false := by
 rw [Bool.eq_false_iff]
 intro h1
 have := List.all_eq_true.1 h1 _ (List.getElem_mem h)
 rw [nth_eq _ _ _ h] at hb
 rw [hb] at this
 cases this
set_option maxRecDepth 100000 in
set_option maxHeartbeats 1000000 in
theorem tails_any (c : UInt8) (t : List UInt8) (b off n cap : Nat) (w : World) (hn : n = t.length + 1) (hlen : t.length ≤ 20000000) (hB : Bys w b off (c :: t)) :
    Calls Tryz.prog 118 #[.slice (some ⟨b, off, none⟩) n cap] w fun e w' => e = .returned (.bool (t.all tailB)) ∧ w = w' := by
 subst hn
 have HT := Lib.hid (all_take t)
 have HB := Lib.hid (all_bad t)
 obtain ⟨z, hz⟩ : ∃ z, z = t.all tailB := ⟨_, rfl⟩
 rw [← hz] at HB ⊢
 have HZ := Lib.hid (show (t.take t.length).all tailB = z by rw [List.take_length, hz])
 clear hz
 go_enter Tryz.func118, Tryz.ntmps118
 go_wp2
 go_loop [3] (fun i => ∃ k : Nat, k ≤ t.length ∧ i = .int .i64 ((k : Int) + 1) ∧ Hid ((t.take k).all tailB = true)) (fun i => t.length + 2 - (intOf i).toNat)
 case atStart => exact ⟨0, Nat.zero_le _, rfl, Lib.hid rfl⟩
 case round =>
  obtain ⟨k, hk, rfl, hall⟩ := hrel
  by_cases hlt : k < t.length
  ·have hck := hB.at_ (k + 1) (by simp; omega)
   have e : nth 0 (c :: t) (k + 1) = nth 0 t k := rfl
   rw [e] at hck
   have hck2 := hck
   rw [← Nat.add_assoc] at hck2
   obtain ⟨x, hx⟩ : ∃ x, x = nth 0 t k := ⟨_, rfl⟩
   have h1 := HB.out k hlt
   have h2 := HT.out k hlt
   rw [← hx] at hck hck2 h1 h2
   have hlti : (k : Int) + 1 < (t.length : Int) + 1 := by omega
   rw [hall.out, Bool.true_and] at h2
   by_cases hc1 : x.toNat < 128
   ·have hz := h1 (decide_eq_false (by omega))
    have hc1i : (x.toNat : Int) < 128 := by omega
    have HZ2 := Lib.hid hz
    clear h1 h2 hx hz
    go_wp2
    go_ret
    exact ⟨by rw [HZ2.out]; rfl, rfl⟩
   ·have hc1i : 128 ≤ (x.toNat : Int) := by omega
    by_cases hc2 : 191 < x.toNat
    ·have hz := h1 (decide_eq_false (by omega))
     have hc2i : 191 < (x.toNat : Int) := by omega
     have HZ2 := Lib.hid hz
     clear h1 h2 hx hz
     go_wp2
     go_ret
     exact ⟨by rw [HZ2.out]; rfl, rfl⟩
    ·have hc2i : (x.toNat : Int) ≤ 191 := by omega
     have H2 := Lib.hid (h2.trans (decide_eq_true ⟨by omega, by omega⟩))
     clear h1 h2 hx
     go_wp2
     go_round
     case rel => exact ⟨k + 1, by omega, by go_num, H2⟩
     case measure => simp [intOf]; omega
  ·obtain rfl : k = t.length := by omega
   have HZ2 := Lib.hid (HZ.out.symm.trans hall.out)
   go_wp2
   go_ret
   exact ⟨by rw [HZ2.out]; rfl, rfl⟩
theorem blk_at1 {W : World} {b o : Nat} {cs : Array Value} {T : TypeId} {x : Value} (hb : W.heap[b]? = some (.cells cs T (0, 0))) (hx : cs[o]? = some x) : W.cell? ⟨b, o, none⟩ = some x := by
 unfold World.cell?
 dsimp only
 rw [hb]
 simpa using hx
def headI (n : Nat) : Int := if n = 2 then 192 else if n = 3 then 224 else if n = 4 then 240 else 0
def numTo (c : UInt8) (t : List UInt8) : Nat → Int
 | 0 => (c.toNat : Int) - headI (t.length + 1)
 | k + 1 => numTo c t k * 64 + ((nth 0 t k).toNat : Int) % 64
def numI (c : UInt8) (t : List UInt8) : Int := numTo c t t.length
theorem numTo_bd (c : UInt8) (t : List UInt8) (h : t.length ≤ 3) : ∀ k, k ≤ 3 → -240 * 64 ^ k ≤ numTo c t k ∧ numTo c t k + 1 ≤ 256 * 64 ^ k
 | 0, _ => by
  have := c.toNat_lt
  unfold numTo headI
  (repeat' split) <;> omega
 | k + 1, hk => by
  have ih := numTo_bd c t h k (by omega)
  unfold numTo
  have : (64 : Int) ^ (k + 1) = 64 ^ k * 64 := Int.pow_succ _ _
  have h3 : 0 ≤ ((nth 0 t k).toNat : Int) % 64 ∧ ((nth 0 t k).toNat : Int) % 64 ≤ 63 := by omega
  have h4 : (1 : Int) ≤ 64 ^ k := by
   have : (0 : Int) < 64 ^ k := Int.pow_pos (by omega)
   omega
  omega
theorem numTo_i32 (c : UInt8) (t : List UInt8) (h : t.length ≤ 3) (k : Nat) (hk : k ≤ 3) : -62914560 ≤ numTo c t k ∧ numTo c t k ≤ 67108863 := by
 have := numTo_bd c t h k hk
 have hk' : k = 0 ∨ k = 1 ∨ k = 2 ∨ k = 3 := by omega
 rcases hk' with rfl | rfl | rfl | rfl <;> simp only [Int.reducePow] at this <;> omega
set_option maxRecDepth 100000 in
set_option maxHeartbeats 2000000 in
theorem number_any (c : UInt8) (t : List UInt8) (b off n cap : Nat) (w : World) (hn : n = t.length + 1) (hlen : t.length ≤ 3) (hB : Bys w b off (c :: t)) :
    Calls Tryz.prog 87 #[.slice (some ⟨b, off, none⟩) n cap] w fun e w' => e = .returned (.int .i32 (numI c t)) ∧ Below w.heap.size w w' := by
 have hcc := hB.at_ 0 (by simp)
 rw [Nat.add_zero] at hcc
 have hc256 := c.toNat_lt
 have e0 : nth 0 (c :: t) 0 = c := rfl
 rw [e0] at hcc
 by_cases h1 : t.length = 0
 ·have ht := List.length_eq_zero_iff.1 h1
  subst ht
  subst hn
  have hv : numI c [] = (c.toNat : Int) := by unfold numI numTo headI; simp
  rw [hv]
  clear h1
  have hca : ∀ o, (w.alloc o).cell? ⟨b, off, none⟩ = some (.int .u8 (c.toNat : Int)) := fun o => cell_alloc_l o hcc
  go_enter Tryz.func87, Tryz.ntmps87
  go_wp2
  go_ret
  exact ⟨rfl, (Below.refl _ _).alloc (Nat.le_refl _) _⟩
 ·obtain ⟨m, hm⟩ : ∃ m, m = t.length := ⟨_, rfl⟩
  have hnm : n = m + 1 := by omega
  have HB := Lib.hid (fun k (hk : k < m) => hB.at_ (k + 1) (by simp; omega))
  have HN := Lib.hid (show numI c t = numTo c t m by rw [hm]; rfl)
  have HI := Lib.hid (fun k (hk : k ≤ m) => numTo_i32 c t hlen k (by omega))
  have HH := Lib.hid (show numTo c t 0 = (c.toNat : Int) - headI (m + 1) by rw [hm]; rfl)
  have HS := Lib.hid (fun k => show numTo c t (k + 1) = numTo c t k * 64 + ((nth 0 t k).toNat : Int) % 64 from rfl)
  have hm3 : m = 1 ∨ m = 2 ∨ m = 3 := by omega
  subst hnm
  clear hn hm h1 hlen e0 hB
  rw [HN.out]
  obtain ⟨W1, hW1⟩ : ∃ W1, w.alloc (.cells #[.int .i64 0, .int .i64 0, .int .i64 192, .int .i64 224, .int .i64 240] 3) = W1 := ⟨_, rfl⟩
  have hbw : Below w.heap.size w W1 := hW1 ▸ (Below.refl _ _).alloc (Nat.le_refl _) _
  have hblk : W1.heap[w.heap.size]? = some (.cells #[.int .i64 0, .int .i64 0, .int .i64 192, .int .i64 224, .int .i64 240] 3 (0, 0)) := hW1 ▸ World.alloc_heap_new w _
  have hh2 := (blk_at1 hblk (o := 2) rfl)
  have hh3 := (blk_at1 hblk (o := 3) rfl)
  have hh4 := (blk_at1 hblk (o := 4) rfl)
  have hcc1 : W1.cell? ⟨b, off, none⟩ = some (.int .u8 (c.toNat : Int)) := hW1 ▸ cell_alloc_l _ hcc
  have HB1 := Lib.hid (fun k (hk : k < m) => (hW1 ▸ cell_alloc_l _ (HB.out k hk) : W1.cell? ⟨b, off + (k + 1), none⟩ = some (.int .u8 ((nth 0 (c :: t) (k + 1)).toNat : Int))))
  clear hblk HB hcc
  have hv0 : ∃ q : Int, numTo c t 0 = (c.toNat : Int) - q ∧ (m = 1 ∧ q = 192 ∨ m = 2 ∧ q = 224 ∨ m = 3 ∧ q = 240) := by
   refine ⟨headI (m + 1), HH.out, ?_⟩
   rcases hm3 with rfl | rfl | rfl
   ·exact .inl ⟨rfl, rfl⟩
   ·exact .inr (.inl ⟨rfl, rfl⟩)
   ·exact .inr (.inr ⟨rfl, rfl⟩)
  obtain ⟨q, hq, hmq⟩ := hv0
  have HQ := Lib.hid hq
  clear hq hm3 HH
  rcases hmq with ⟨rfl, rfl⟩ | ⟨rfl, rfl⟩ | ⟨rfl, rfl⟩
  ·go_enter Tryz.func87, Tryz.ntmps87
   go_wp2
   go_quiet (fail)
   have hbq : Below w.heap.size w (W1.drewN nq) := below_drewN hbw nq
   have HB2 : ∀ k, k < 1 → (W1.drewN nq).cell? ⟨b, off + (k + 1), none⟩ = some (.int .u8 ((nth 0 (c :: t) (k + 1)).toNat : Int)) := HB1.out
   have HB2 := Lib.hid HB2
   generalize W1.drewN nq = W2 at hbq HB2 ⊢
   clear hh2 hh3 hh4 hcc1 HB1 hbw
   go_wp2
   go_loop [5, 4] (fun i r => ∃ k : Nat, k ≤ 1 ∧ i = .int .i64 ((k : Int) + 1) ∧ r = .int .i32 (numTo c t k)) (fun i _ => 6 - (intOf i).toNat)
   case atStart => exact ⟨0, Nat.zero_le _, rfl, by rw [HQ.out]⟩
   case round =>
    obtain ⟨k, hk, rfl, rfl⟩ := hrel
    by_cases hlt : k < 1
    ·have hck := HB2.out k hlt
     have e : nth 0 (c :: t) (k + 1) = nth 0 t k := rfl
     rw [e] at hck
     have hck2 := hck
     rw [← Nat.add_assoc] at hck2
     obtain ⟨x, hx⟩ : ∃ x, x = nth 0 t k := ⟨_, rfl⟩
     have hs := HS.out k
     have hi0 := HI.out k (by omega)
     have hi1 := HI.out (k + 1) (by omega)
     rw [← hx] at hck hck2 hs
     have hx256 := x.toNat_lt
     rw [hs] at hi1
     obtain ⟨A, hA⟩ : ∃ A, A = numTo c t k := ⟨_, rfl⟩
     rw [← hA] at hs hi0 hi1 ⊢
     have HSS := Lib.hid hs
     have hlti : (k : Int) + 1 < 1 + 1 := by omega
     have hr64 : 0 ≤ (x.toNat : Int) % 64 ∧ (x.toNat : Int) % 64 ≤ 63 := by omega
     clear hs hx hA
     go_wp2
     go_round
     case rel => exact ⟨k + 1, by omega, by go_num, by rw [HSS.out]⟩
     case measure => simp [intOf]; omega
    ·obtain rfl : k = 1 := by omega
     go_wp2
     go_ret
     exact ⟨rfl, hbq⟩
  ·go_enter Tryz.func87, Tryz.ntmps87
   go_wp2
   go_quiet (fail)
   have hbq : Below w.heap.size w (W1.drewN nq) := below_drewN hbw nq
   have HB2 : ∀ k, k < 2 → (W1.drewN nq).cell? ⟨b, off + (k + 1), none⟩ = some (.int .u8 ((nth 0 (c :: t) (k + 1)).toNat : Int)) := HB1.out
   have HB2 := Lib.hid HB2
   generalize W1.drewN nq = W2 at hbq HB2 ⊢
   clear hh2 hh3 hh4 hcc1 HB1 hbw
   go_wp2
   go_loop [5, 4] (fun i r => ∃ k : Nat, k ≤ 2 ∧ i = .int .i64 ((k : Int) + 1) ∧ r = .int .i32 (numTo c t k)) (fun i _ => 6 - (intOf i).toNat)
   case atStart => exact ⟨0, Nat.zero_le _, rfl, by rw [HQ.out]⟩
   case round =>
    obtain ⟨k, hk, rfl, rfl⟩ := hrel
    by_cases hlt : k < 2
    ·have hck := HB2.out k hlt
     have e : nth 0 (c :: t) (k + 1) = nth 0 t k := rfl
     rw [e] at hck
     have hck2 := hck
     rw [← Nat.add_assoc] at hck2
     obtain ⟨x, hx⟩ : ∃ x, x = nth 0 t k := ⟨_, rfl⟩
     have hs := HS.out k
     have hi0 := HI.out k (by omega)
     have hi1 := HI.out (k + 1) (by omega)
     rw [← hx] at hck hck2 hs
     have hx256 := x.toNat_lt
     rw [hs] at hi1
     obtain ⟨A, hA⟩ : ∃ A, A = numTo c t k := ⟨_, rfl⟩
     rw [← hA] at hs hi0 hi1 ⊢
     have HSS := Lib.hid hs
     have hlti : (k : Int) + 1 < 2 + 1 := by omega
     have hr64 : 0 ≤ (x.toNat : Int) % 64 ∧ (x.toNat : Int) % 64 ≤ 63 := by omega
     clear hs hx hA
     go_wp2
     go_round
     case rel => exact ⟨k + 1, by omega, by go_num, by rw [HSS.out]⟩
     case measure => simp [intOf]; omega
    ·obtain rfl : k = 2 := by omega
     go_wp2
     go_ret
     exact ⟨rfl, hbq⟩
  ·go_enter Tryz.func87, Tryz.ntmps87
   go_wp2
   go_quiet (fail)
   have hbq : Below w.heap.size w (W1.drewN nq) := below_drewN hbw nq
   have HB2 : ∀ k, k < 3 → (W1.drewN nq).cell? ⟨b, off + (k + 1), none⟩ = some (.int .u8 ((nth 0 (c :: t) (k + 1)).toNat : Int)) := HB1.out
   have HB2 := Lib.hid HB2
   generalize W1.drewN nq = W2 at hbq HB2 ⊢
   clear hh2 hh3 hh4 hcc1 HB1 hbw
   go_wp2
   go_loop [5, 4] (fun i r => ∃ k : Nat, k ≤ 3 ∧ i = .int .i64 ((k : Int) + 1) ∧ r = .int .i32 (numTo c t k)) (fun i _ => 6 - (intOf i).toNat)
   case atStart => exact ⟨0, Nat.zero_le _, rfl, by rw [HQ.out]⟩
   case round =>
    obtain ⟨k, hk, rfl, rfl⟩ := hrel
    by_cases hlt : k < 3
    ·have hck := HB2.out k hlt
     have e : nth 0 (c :: t) (k + 1) = nth 0 t k := rfl
     rw [e] at hck
     have hck2 := hck
     rw [← Nat.add_assoc] at hck2
     obtain ⟨x, hx⟩ : ∃ x, x = nth 0 t k := ⟨_, rfl⟩
     have hs := HS.out k
     have hi0 := HI.out k (by omega)
     have hi1 := HI.out (k + 1) (by omega)
     rw [← hx] at hck hck2 hs
     have hx256 := x.toNat_lt
     rw [hs] at hi1
     obtain ⟨A, hA⟩ : ∃ A, A = numTo c t k := ⟨_, rfl⟩
     rw [← hA] at hs hi0 hi1 ⊢
     have HSS := Lib.hid hs
     have hlti : (k : Int) + 1 < 3 + 1 := by omega
     have hr64 : 0 ≤ (x.toNat : Int) % 64 ∧ (x.toNat : Int) % 64 ≤ 63 := by omega
     clear hs hx hA
     go_wp2
     go_round
     case rel => exact ⟨k + 1, by omega, by go_num, by rw [HSS.out]⟩
     case measure => simp [intOf]; omega
    ·obtain rfl : k = 3 := by omega
     go_wp2
     go_ret
     exact ⟨rfl, hbq⟩
end Go.Proofs.YtjkajojjehgmdaaGreat
namespace Go.Proofs.YtjkajojjehgmdaaGreat
open Go.RowKit Go.Shelf Go.Maps
def fromI (n : Nat) : Int := if n = 2 then 128 else if n = 3 then 2048 else if n = 4 then 65536 else 0
def fillT (c : UInt8) (t : List UInt8) (f : UInt8) : List UInt8 := t ++ List.replicate (manyL c.toNat - 1 - t.length) f
def rangeB (n : Nat) (x y : Int) : Bool := decide (fromI n ≤ y) && (decide (x ≤ 1114111) && (decide (x < 55296) || decide (57343 < y)))
def begB (c : UInt8) (t : List UInt8) : Bool := t.all tailB && rangeB (manyL c.toNat) (numI c (fillT c t 128)) (numI c (fillT c t 191))
theorem own_empty (W : World) (n₀ : Nat) (h : n₀ ≤ W.heap.size) : (W.alloc (.cells #[] 5)).ownsRow n₀ 5 1 (.slice (some ⟨W.heap.size, 0, none⟩) 0 0) 0 [] :=
 ⟨rfl, .inr ⟨W.heap.size, 0, #[], rfl, h, World.alloc_heap_new W _, Nat.le_refl _, by unfold maxLen; omega, rfl, rfl⟩⟩
theorem Bys.row {W : World} {b off : Nat} {l : List UInt8} (h : Bys W b off l) : ∀ j u, (u8v l)[j]? = some u → W.cell? ((⟨b, off, none⟩ : Addr).add j) = some u := fun j u hu => by
 have hj : j < l.length := by
  rcases Nat.lt_or_ge j l.length with h' | h'
  ·exact h'
  ·rw [List.getElem?_eq_none (by rw [u8v_len]; exact h')] at hu; cases hu
 have e : (⟨b, off, none⟩ : Addr).add j = ⟨b, off + j, none⟩ := by
  unfold Addr.add
  by_cases h0 : j = 0
  ·simp [h0]
  ·simp [h0]
 rw [e, h.at_ j hj, nth_eq _ _ _ hj]
 unfold u8v at hu
 rw [List.getElem?_map, List.getElem?_eq_getElem hj] at hu
 simpa using hu
theorem own_bys {W : World} {n₀ g c n : Nat} {l : List UInt8} (h : W.ownsRow n₀ 5 1 (.slice (some ⟨g, 0, none⟩) n c) n (u8v l)) : Bys W g 0 l := by
 have hl := h.1
 rw [u8v_len, Nat.mul_one] at hl
 rcases h.2 with ⟨e, _⟩ | ⟨g', cap, cur, e, _, hc, _, _, _, ht⟩
 ·cases e
 ·simp only [Value.slice.injEq, Option.some.injEq, Addr.mk.injEq] at e
  obtain ⟨⟨rfl, _⟩, _, rfl⟩ := e
  refine ⟨(Array.getElem?_eq_some_iff.1 hc).1, fun j hj => ?_⟩
  unfold World.cell?
  dsimp only
  rw [hc, Nat.zero_add]
  have h6 : (cur.toList.take (n * 1))[j]? = (u8v l)[j]? := by rw [ht]
  rw [List.getElem?_take_of_lt (by omega), Array.getElem?_toList] at h6
  simp only [Option.isSome_none, Bool.false_eq_true, if_false]
  rw [h6]
  simp [u8v, nth, hj]
structure Two (n₀ : Nat) (W : World) (g1 c1 g2 c2 n : Nat) (l1 l2 : List UInt8) : Prop where
 o1 : W.ownsRow n₀ 5 1 (.slice (some ⟨g1, 0, none⟩) n c1) n (u8v l1)
 o2 : W.ownsRow n₀ 5 1 (.slice (some ⟨g2, 0, none⟩) n c2) n (u8v l2)
 ne : g1 ≠ g2
 lt1 : g1 < W.heap.size
 lt2 : g2 < W.heap.size
theorem Two.first {n₀ g1 c1 g2 c2 n : Nat} {w w1 w2 : World} {l : List UInt8} (hw : w.heap.size = n₀) (hb1 : Below n₀ w w1) (ho1 : w1.ownsRow n₀ 5 1 (.slice (some ⟨g1, 0, none⟩) n c1) n (u8v l)) (hlt1 : g1 < w1.heap.size)
    (hg : (w1.alloc (.cells #[] 5)).grownBy w2 (some w1.heap.size)) (ho2 : w2.ownsRow n₀ 5 1 (.slice (some ⟨g2, 0, none⟩) n c2) n (u8v l)) (hr : some w1.heap.size = some g2 ∨ g2 = (w1.alloc (.cells #[] 5)).heap.size) (hlt2 : g2 < w2.heap.size) : Two n₀ w2 g1 c1 g2 c2 n l l ∧ Below n₀ w w2 := by
 have hs1 := hb1.size
 have hs2 := hg.size
 rw [World.size_alloc] at hs2 hr
 refine ⟨⟨(ho1.alloc _).kept hg (.inr (fun e => ?_)), ho2, ?_, by omega, hlt2⟩, ?_⟩
 ·simp only [Value.ownBlock, Option.some.injEq] at e; omega
 ·rcases hr with e | e
  ·simp only [Option.some.injEq] at e; omega
  ·omega
 ·exact (hb1.trans ((Below.refl n₀ w1).alloc (by omega) _)).grown hg (by simp; omega) (fun k e => by cases e; omega)
theorem Two.left {n₀ g1 c1 g2 c2 n m : Nat} {W w2 : World} {l1 l2 l1' : List UInt8} {tmp : Obj} {g c : Nat} (h : Two n₀ W g1 c1 g2 c2 n l1 l2) (hg : (W.alloc tmp).grownBy w2 (some g1)) (ho : w2.ownsRow n₀ 5 1 (.slice (some ⟨g, 0, none⟩) m c) m (u8v l1'))
    (hr : some g1 = some g ∨ g = (W.alloc tmp).heap.size) (hlt : g < w2.heap.size) :
    w2.ownsRow n₀ 5 1 (.slice (some ⟨g2, 0, none⟩) n c2) n (u8v l2) ∧ g ≠ g2 ∧ g2 < w2.heap.size := by
 have hs := hg.size
 rw [World.size_alloc] at hs hr
 have h2 := h.lt2
 have hne := h.ne
 refine ⟨(h.o2.alloc _).kept hg (.inr (fun e => ?_)), ?_, by omega⟩
 ·simp only [Value.ownBlock, Option.some.injEq] at e; omega
 ·rcases hr with e | e
  ·simp only [Option.some.injEq] at e; omega
  ·omega
theorem own_lt {W : World} {n₀ g c n : Nat} {e : TypeId} {xs : List Value} (h : W.ownsRow n₀ e 1 (.slice (some ⟨g, 0, none⟩) n c) n xs) : n₀ ≤ g := by
 obtain ⟨h1, _⟩ := own_cells h g rfl
 exact h1
set_option maxRecDepth 100000 in
set_option maxHeartbeats 4000000 in
theorem begins_any (c : UInt8) (t : List UInt8) (b off n cap : Nat) (w : World) (hn : n = t.length + 1) (hm : n ≤ manyL c.toNat) (hB : Bys w b off (c :: t)) :
    Calls Tryz.prog 86 #[.slice (some ⟨b, off, none⟩) n cap] w fun e w' => e = .returned (.bool (begB c t)) ∧ Below w.heap.size w w' := by
 obtain ⟨i0, hi, hz0, hz1, hz2⟩ := info_parts infoU8c
 have hm4 := manyL_le c.toNat
 have hcc := hB.at_ 0 (by simp)
 rw [Nat.add_zero] at hcc
 have e0 : nth 0 (c :: t) 0 = c := rfl
 rw [e0] at hcc
 have CL := Lib.hid (fun W => rlength_any c.toNat c.toNat_lt W)
 have CT := Lib.hid (fun W (h : Bys W b off (c :: t)) => tails_any c t b off n cap W hn (by omega) h)
 obtain ⟨M, hM⟩ : ∃ M, M = manyL c.toNat := ⟨_, rfl⟩
 obtain ⟨z, hz⟩ : ∃ z, z = begB c t := ⟨_, rfl⟩
 rw [← hM] at CL hm hm4
 rw [← hz]
 unfold begB at hz
 rw [← hM] at hz
 obtain ⟨ta, hta⟩ : ∃ ta, ta = t.all tailB := ⟨_, rfl⟩
 rw [← hta] at CT hz
 have HM := Lib.hid hM
 clear hM hta
 have hnM : ¬ (M : Int) < (n : Int) := by omega
 cases ta with
 | false =>
  rw [Bool.false_and] at hz
  subst hz
  have HN := Lib.hid hn
  have h0n : 0 < n := by rw [hn]; omega
  clear hn
  go_enter Tryz.func86, Tryz.ntmps86
  go_wp2_with (first
   | (go_at_call 85; refine (CL.out _).mono ?_; rintro e w1 ⟨rfl, rfl⟩)
   | (go_at_call 118; refine (CT.out _ hB).mono ?_; rintro e w1 ⟨rfl, rfl⟩))
  go_ret
  exact ⟨rfl, Below.refl _ _⟩
 | true =>
  rw [Bool.true_and] at hz
  have HN := Lib.hid hn
  have HZ := Lib.hid hz
  have hsrc : ∀ o, ∀ j u, (u8v (c :: t))[j]? = some u → (w.alloc o).cell? ((⟨b, off, none⟩ : Addr).add j) = some u := fun o => (hB.below ((Below.refl _ _).alloc (Nat.le_refl _) o)).row
  have hul : (u8v (c :: t)).length = n := by rw [u8v_len, HN.out]; rfl
  have HUL := Lib.hid hul
  have h0n : 0 < n := by rw [hn]; omega
  clear hn hz hul
  go_enter Tryz.func86, Tryz.ntmps86
  go_wp2_with (first
   | (go_at_call 85; refine (CL.out _).mono ?_; rintro e w1 ⟨rfl, rfl⟩)
   | (go_at_call 118; refine (CT.out _ hB).mono ?_; rintro e w1 ⟨rfl, rfl⟩)
   | (at_builtin; refine wpList_append_lies _ rfl (.tmp 22) (.tmp 23) 22 rfl w.heap.size 5 i0 (.int .u8 0) 1 1 Tryz.underlying22 hi hz0 hz1 hz2 rfl (by decide) (.slice (some ⟨w.heap.size, 0, none⟩) 0 0) 0 [] rfl (own_empty _ _ (Nat.le_refl _)) ⟨b, off, none⟩ n cap (u8v (c :: t)) rfl (by rw [HUL.out]; omega) (hsrc _) (u8v_one _) h0n (by unfold maxLen; omega) (by omega) (by simp) _ rfl ?_; intro g1 c1 w1 ho1 hg1 hr1 hlt1; have hb1 : Below w.heap.size w w1 := ((Below.refl _ w).alloc (Nat.le_refl _) _).grown hg1 (by simp) (fun k e => by cases e; exact Nat.le_refl _); rw [Nat.zero_add, List.nil_append] at ho1)
   | (at_builtin; refine wpList_append_lies _ rfl (.tmp 25) (.tmp 26) 22 rfl w.heap.size 5 i0 (.int .u8 0) 1 1 Tryz.underlying22 hi hz0 hz1 hz2 rfl (by decide) (.slice (some ⟨w1.heap.size, 0, none⟩) 0 0) 0 [] rfl (own_empty _ _ hb1.size) ⟨b, off, none⟩ n cap (u8v (c :: t)) rfl (by rw [HUL.out]; omega) ((hB.below (hb1.alloc hb1.size _)).row) (u8v_one _) h0n (by unfold maxLen; omega) (by omega) (by have := hb1.size; simp; omega) _ rfl ?_; intro g2 c2 w2 ho2 hg2 hr2 hlt2; rw [Nat.zero_add, List.nil_append] at ho2; have hT2 := Two.first rfl hb1 ho1 hlt1 hg2 ho2 hr2 hlt2))
  go_loopw [4, 5] (fun v1 v2 wr => ∃ k g1 c1 g2 c2, n + k ≤ M ∧ v1 = .slice (some ⟨g1, 0, none⟩) (n + k) c1 ∧ v2 = .slice (some ⟨g2, 0, none⟩) (n + k) c2 ∧ Two w.heap.size wr g1 c1 g2 c2 (n + k) (c :: (t ++ List.replicate k 128)) (c :: (t ++ List.replicate k 191)) ∧ Below w.heap.size w wr)
   (fun v1 _ _ => match v1 with | .slice _ m _ => M - m | _ => 0)
  case atStart => exact ⟨0, g1, c1, g2, c2, by omega, rfl, rfl, by simpa using hT2.1, hT2.2⟩
  case round =>
   obtain ⟨k, g1, c1, g2, c2, hk, rfl, rfl, hT, hbr⟩ := hrel
   have hbs := hbr.size
   by_cases hlt : n + k < M
   ·have hlti : (n : Int) + (k : Int) < (M : Int) := by omega
    have ho1 := hT.o1
    have ho2 := hT.o2
    have HX1 : Hid (∀ f : UInt8, u8v (c :: (t ++ List.replicate k f)) ++ [.int .u8 (f.toNat : Int)] = u8v (c :: (t ++ List.replicate (k + 1) f))) := Lib.hid (fun f => by
     have e : c :: (t ++ List.replicate (k + 1) f) = (c :: (t ++ List.replicate k f)) ++ [f] := by rw [List.replicate_succ']; simp
     rw [e, u8v_append]; rfl)
    go_wp2_with (first
     | (at_builtin; refine wpList_append_lies _ rfl (.tmp 32) (.tmp 33) 22 rfl w.heap.size 5 i0 (.int .u8 0) 1 1 Tryz.underlying22 hi hz0 hz1 hz2 rfl (by decide) (.slice (some ⟨g1, 0, none⟩) (n + k) c1) (n + k) (u8v (c :: (t ++ List.replicate k 128))) rfl (ho1.alloc _) ⟨wr.heap.size, 0, none⟩ 1 1 [.int .u8 128] rfl rfl (row_at wr _ _) (by intro u hu; rw [List.mem_singleton.1 hu]; rfl) (by decide) (by unfold maxLen; omega) (by omega) (by simp; omega) _ rfl ?_; intro g3 c3 w3 ho3 hg3 hr3 hlt3; obtain ⟨ho23, hne3, hlt23⟩ := hT.left hg3 (by rw [← HX1.out 128]; exact ho3) hr3 hlt3; have hb3 : Below w.heap.size w w3 := (hbr.alloc hbs _).grown hg3 (by simp; omega) (fun k e => by cases e; exact own_lt ho1))
     | (at_builtin; refine wpList_append_lies _ rfl (.tmp 35) (.tmp 36) 22 rfl w.heap.size 5 i0 (.int .u8 0) 1 1 Tryz.underlying22 hi hz0 hz1 hz2 rfl (by decide) (.slice (some ⟨g2, 0, none⟩) (n + k) c2) (n + k) (u8v (c :: (t ++ List.replicate k 191))) rfl (ho23.alloc _) ⟨w3.heap.size, 0, none⟩ 1 1 [.int .u8 191] rfl rfl (row_at w3 _ _) (by intro u hu; rw [List.mem_singleton.1 hu]; rfl) (by decide) (by unfold maxLen; omega) (by omega) (by have := hb3.size; simp; omega) _ rfl ?_; intro g4 c4 w4 ho4 hg4 hr4 hlt4))
    have hs4 := hg4.size
    rw [World.size_alloc] at hs4 hr4
    have hne4 : g3 ≠ g4 := by
     rcases hr4 with e | e
     ·simp only [Value.ownBlock, Option.some.injEq] at e; omega
     ·omega
    have ho34 := (ho3.alloc (.cells #[.int .u8 191] 5)).kept hg4 (.inr (fun e => by simp only [Value.ownBlock, Option.some.injEq] at e; omega))
    have hb4 : Below w.heap.size w w4 := (hb3.alloc hb3.size _).grown hg4 (by have := hb3.size; simp; omega) (fun k e => by cases e; exact own_lt ho23)
    refine ⟨⟨k + 1, g3, c3, g4, c4, by omega, rfl, rfl, ⟨by rw [← HX1.out 128]; exact ho34, by rw [← HX1.out 191]; exact ho4, hne4, by omega, hlt4⟩, hb4⟩, ?_⟩
    show M - (n + k + 1) < M - (n + k)
    omega
   ·have hnk : n + k = M := by omega
    have hT1 := own_bys hT.o1
    have hT2 := own_bys hT.o2
    have hkk : k = M - 1 - t.length := by have := HN.out; omega
    have hf : ∀ f, t ++ List.replicate k f = fillT c t f := fun f => by unfold fillT; rw [← HM.out, hkk]
    have hfl : ∀ f, (fillT c t f).length + 1 = n + k := fun f => by rw [← hf]; simp; have := HN.out; omega
    rw [hf] at hT1 hT2
    obtain ⟨T1, hT1e⟩ : ∃ T1, T1 = fillT c t 128 := ⟨_, rfl⟩
    obtain ⟨T2, hT2e⟩ : ∃ T2, T2 = fillT c t 191 := ⟨_, rfl⟩
    have hl1 := hfl 128
    have hl2 := hfl 191
    rw [← hT1e] at hT1 hl1
    rw [← hT2e] at hT2 hl2
    have HZ2 : Hid (z = rangeB M (numI c T1) (numI c T2)) := Lib.hid (by rw [HZ.out, hT1e, hT2e])
    have CN1 := Lib.hid (fun W (h : Bys W g1 0 (c :: T1)) => number_any c T1 g1 0 (n + k) c1 W (by omega) (by omega) h)
    have CN2 := Lib.hid (fun W (h : Bys W g2 0 (c :: T2)) => number_any c T2 g2 0 (n + k) c2 W (by omega) (by omega) h)
    obtain ⟨X, hX⟩ : ∃ X, X = numI c T1 := ⟨_, rfl⟩
    obtain ⟨Y, hY⟩ : ∃ Y, Y = numI c T2 := ⟨_, rfl⟩
    rw [← hX] at CN1
    rw [← hY] at CN2
    have HZ3 : Hid (z = rangeB M X Y) := Lib.hid (by rw [HZ2.out, hX, hY])
    have hM4 : M = 1 ∨ M = 2 ∨ M = 3 ∨ M = 4 := by omega
    have HNK := Lib.hid hnk
    have hnki : (M : Int) ≤ (n : Int) + (k : Int) := by omega
    clear hnk hkk hf hfl hT1e hT2e hl1 hl2 hX hY
    go_wp2_with fail
    refine (CN1.out _ hT1).mono ?_
    rintro e w5 ⟨rfl, hb5⟩
    go_wp2_with fail
    refine (CN2.out _ (hT2.below hb5)).mono ?_
    rintro e w6 ⟨rfl, hb6⟩
    obtain ⟨F, hF⟩ : ∃ F, F = fromI M := ⟨_, rfl⟩
    have hfrom : (w6.alloc (.cells #[.int .i32 0, .int .i32 0, .int .i32 128, .int .i32 2048, .int .i32 65536] 21)).cell? ⟨w6.heap.size, M, none⟩ = some (.int .i32 F) := by
     have hblk : (w6.alloc (.cells #[.int .i32 0, .int .i32 0, .int .i32 128, .int .i32 2048, .int .i32 65536] 21)).heap[w6.heap.size]? = some (.cells #[.int .i32 0, .int .i32 0, .int .i32 128, .int .i32 2048, .int .i32 65536] 21 (0, 0)) := World.alloc_heap_new w6 _
     rw [hF]
     rcases hM4 with e | e | e | e
     all_goals (rw [e]; exact blk_at1 hblk rfl)
    have HF := Lib.hid hF
    clear hF hM4
    go_wp2_with fail
    all_goals go_ret
    all_goals refine ⟨ret_bool ?_, (bto (bto hbr hb5 hbs) hb6 (by have := hb5.size; omega)).alloc (by have := hb5.size; have := hb6.size; omega) _⟩
    all_goals rw [HZ3.out]
    all_goals unfold rangeB
    all_goals rw [← HF.out]
    all_goals (rw [Bool.eq_iff_iff]; simp only [decide_eq_true_eq, Bool.or_eq_true, Bool.and_eq_true, Bool.false_eq_true, false_iff, true_iff]; omega)
theorem tail_iff (x : UInt8) : tailB x = true ↔ 128 ≤ x.toNat ∧ x.toNat ≤ 191 := by unfold tailB; rw [decide_eq_true_eq]
theorem beg_full (c : UInt8) (t : List UInt8) (h1 : 1 ≤ manyL c.toNat) (hl : t.length + 1 = manyL c.toNat) (u : List UInt8) :
    (begB c t = true → stepL (c :: (t ++ u)) = ((numI c t).toNat, manyL c.toNat) ∧ 0 ≤ numI c t) ∧ (begB c t = false → stepL (c :: (t ++ u)) = (65533, 1)) := by
 have hc := c.toNat_lt
 have hf : ∀ f, fillT c t f = t := fun f => by unfold fillT; rw [← hl]; simp
 unfold begB
 rw [hf, hf]
 unfold manyL at h1 hl
 by_cases c1 : c.toNat < 128
 ·rw [if_pos c1] at hl
  have ht : t = [] := List.length_eq_zero_iff.1 (by omega)
  subst ht
  have hm : manyL c.toNat = 1 := by unfold manyL; rw [if_pos c1]
  have hnum : numI c [] = (c.toNat : Int) := by unfold numI numTo headI; simp
  rw [hm, hnum]
  have hr : rangeB 1 (c.toNat : Int) (c.toNat : Int) = true := by
   unfold rangeB fromI
   simp; omega
  refine ⟨fun _ => ⟨?_, by omega⟩, fun h => ?_⟩
  ·show stepL (c :: u) = _
   unfold stepL; dsimp only; rw [if_pos c1]; simp
  ·rw [hr] at h; simp at h
 ·rw [if_neg c1] at hl h1
  by_cases c2 : c.toNat < 194
  ·rw [if_pos c2] at h1; omega
  ·rw [if_neg c2] at hl h1
   by_cases c3 : c.toNat < 224
   ·rw [if_pos c3] at hl
    match t, hl with
    | [b], _ =>
     have hb := b.toNat_lt
     have hm : manyL c.toNat = 2 := by unfold manyL; rw [if_neg c1, if_neg c2, if_pos c3]
     have hnum : numI c [b] = ((c.toNat : Int) - 192) * 64 + (b.toNat : Int) % 64 := by unfold numI; simp [numTo, headI, nth]
     have hst : stepL (c :: ([b] ++ u)) = if tail1 b 128 191 then (c.toNat % 32 * 64 + b.toNat % 64, 2) else (65533, 1) := by
      show stepL (c :: b :: u) = _
      unfold stepL; dsimp only
      rw [if_neg c1, if_neg c2, if_pos c3]
     have ht : tail1 b 128 191 = tailB b := rfl
     rw [hm, hnum, hst, ht]
     simp only [List.all_cons, List.all_nil, Bool.and_true]
     cases hq : tailB b with
     | false => simp
     | true =>
      have hq' := (tail_iff b).1 hq
      have hr : rangeB 2 (((c.toNat : Int) - 192) * 64 + (b.toNat : Int) % 64) (((c.toNat : Int) - 192) * 64 + (b.toNat : Int) % 64) = true := by
       unfold rangeB fromI
       simp; omega
      rw [hr]
      refine ⟨fun _ => ⟨?_, by omega⟩, fun h => by simp at h⟩
      rw [if_pos rfl, Prod.mk.injEq]
      exact ⟨by omega, rfl⟩
   ·rw [if_neg c3] at hl h1
    by_cases c4 : c.toNat < 240
    ·rw [if_pos c4] at hl
     match t, hl with
     | [b, d], _ =>
      have hb := b.toNat_lt
      have hd := d.toNat_lt
      have hm : manyL c.toNat = 3 := by unfold manyL; rw [if_neg c1, if_neg c2, if_neg c3, if_pos c4]
      have hnum : numI c [b, d] = (((c.toNat : Int) - 224) * 64 + (b.toNat : Int) % 64) * 64 + (d.toNat : Int) % 64 := by unfold numI; simp [numTo, headI, nth]
      have hst : stepL (c :: ([b, d] ++ u)) = if tail1 b (lo1 c.toNat) (hi1 c.toNat) && tail1 d 128 191 then ((c.toNat % 16 * 64 + b.toNat % 64) * 64 + d.toNat % 64, 3) else (65533, 1) := by
       show stepL (c :: b :: d :: u) = _
       unfold stepL; dsimp only
       rw [if_neg c1, if_neg c2, if_neg c3, if_pos c4]
      have ht : tail1 d 128 191 = tailB d := rfl
      rw [hm, hnum, hst, ht]
      simp only [List.all_cons, List.all_nil, Bool.and_true]
      cases hqd : tailB d with
      | false => simp
      | true =>
       have hqd' := (tail_iff d).1 hqd
       cases hqb : tailB b with
       | false =>
        have hqb' : ¬ (128 ≤ b.toNat ∧ b.toNat ≤ 191) := by rw [← tail_iff, hqb]; simp
        have : tail1 b (lo1 c.toNat) (hi1 c.toNat) = false := by
         unfold tail1 lo1 hi1
         refine decide_eq_false (fun h => hqb' ?_)
         obtain ⟨h5, h6⟩ := h
         (repeat' split at h5) <;> (repeat' split at h6) <;> omega
        rw [this]; simp
       | true =>
        have hqb' := (tail_iff b).1 hqb
        simp only [Bool.and_true, Bool.true_and]
        have key : rangeB 3 ((((c.toNat : Int) - 224) * 64 + (b.toNat : Int) % 64) * 64 + (d.toNat : Int) % 64) ((((c.toNat : Int) - 224) * 64 + (b.toNat : Int) % 64) * 64 + (d.toNat : Int) % 64) = tail1 b (lo1 c.toNat) (hi1 c.toNat) := by
         have hlo : lo1 c.toNat = if c.toNat = 224 then 160 else 128 := by unfold lo1; rw [if_neg (by omega : ¬ c.toNat = 240)]
         have hhi : hi1 c.toNat = if c.toNat = 237 then 159 else 191 := by unfold hi1; rw [if_neg (by omega : ¬ c.toNat = 244)]
         have hf3 : fromI 3 = 2048 := rfl
         rw [hlo, hhi]
         unfold rangeB tail1
         rw [hf3, Bool.eq_iff_iff]
         simp only [decide_eq_true_eq, Bool.or_eq_true, Bool.and_eq_true]
         by_cases e1 : c.toNat = 224
         ·rw [if_pos e1, if_neg (by omega : ¬ c.toNat = 237)]; omega
         ·rw [if_neg e1]
          by_cases e2 : c.toNat = 237
          ·rw [if_pos e2]; omega
          ·rw [if_neg e2]; omega
        rw [key]
        refine ⟨fun h => ⟨?_, by omega⟩, fun h => ?_⟩
        ·rw [h, if_pos rfl, Prod.mk.injEq]
         exact ⟨by omega, rfl⟩
        ·rw [h]; rfl
    ·rw [if_neg c4] at hl h1
     by_cases c5 : c.toNat < 245
     ·rw [if_pos c5] at hl
      match t, hl with
      | [b, d, e], _ =>
       have hb := b.toNat_lt
       have hd := d.toNat_lt
       have he := e.toNat_lt
       have hm : manyL c.toNat = 4 := by unfold manyL; rw [if_neg c1, if_neg c2, if_neg c3, if_neg c4, if_pos c5]
       have hnum : numI c [b, d, e] = ((((c.toNat : Int) - 240) * 64 + (b.toNat : Int) % 64) * 64 + (d.toNat : Int) % 64) * 64 + (e.toNat : Int) % 64 := by unfold numI; simp [numTo, headI, nth]
       have hst : stepL (c :: ([b, d, e] ++ u)) = if tail1 b (lo1 c.toNat) (hi1 c.toNat) && (tail1 d 128 191 && tail1 e 128 191) then (((c.toNat % 8 * 64 + b.toNat % 64) * 64 + d.toNat % 64) * 64 + e.toNat % 64, 4) else (65533, 1) := by
        show stepL (c :: b :: d :: e :: u) = _
        unfold stepL; dsimp only
        rw [if_neg c1, if_neg c2, if_neg c3, if_neg c4, if_pos c5]
       have ht : ∀ x, tail1 x 128 191 = tailB x := fun _ => rfl
       rw [hm, hnum, hst, ht, ht]
       simp only [List.all_cons, List.all_nil, Bool.and_true]
       cases hqd : tailB d with
       | false => simp
       | true =>
        have hqd' := (tail_iff d).1 hqd
        cases hqe : tailB e with
        | false => simp
        | true =>
         have hqe' := (tail_iff e).1 hqe
         cases hqb : tailB b with
         | false =>
          have hqb' : ¬ (128 ≤ b.toNat ∧ b.toNat ≤ 191) := by rw [← tail_iff, hqb]; simp
          have : tail1 b (lo1 c.toNat) (hi1 c.toNat) = false := by
           unfold tail1 lo1 hi1
           refine decide_eq_false (fun h => hqb' ?_)
           obtain ⟨h5, h6⟩ := h
           (repeat' split at h5) <;> (repeat' split at h6) <;> omega
          rw [this]; simp
         | true =>
          have hqb' := (tail_iff b).1 hqb
          simp only [Bool.and_true, Bool.true_and]
          have key : rangeB 4 (((((c.toNat : Int) - 240) * 64 + (b.toNat : Int) % 64) * 64 + (d.toNat : Int) % 64) * 64 + (e.toNat : Int) % 64) (((((c.toNat : Int) - 240) * 64 + (b.toNat : Int) % 64) * 64 + (d.toNat : Int) % 64) * 64 + (e.toNat : Int) % 64) = tail1 b (lo1 c.toNat) (hi1 c.toNat) := by
           have hlo : lo1 c.toNat = if c.toNat = 240 then 144 else 128 := by unfold lo1; rw [if_neg (by omega : ¬ c.toNat = 224)]
           have hhi : hi1 c.toNat = if c.toNat = 244 then 143 else 191 := by unfold hi1; rw [if_neg (by omega : ¬ c.toNat = 237)]
           have hf3 : fromI 4 = 65536 := rfl
           rw [hlo, hhi]
           unfold rangeB tail1
           rw [hf3, Bool.eq_iff_iff]
           simp only [decide_eq_true_eq, Bool.or_eq_true, Bool.and_eq_true]
           by_cases e1 : c.toNat = 240
           ·rw [if_pos e1, if_neg (by omega : ¬ c.toNat = 244)]; omega
           ·rw [if_neg e1]
            by_cases e2 : c.toNat = 244
            ·rw [if_pos e2]; omega
            ·rw [if_neg e2]; omega
          rw [key]
          refine ⟨fun h => ⟨?_, by omega⟩, fun h => ?_⟩
          ·rw [h, if_pos rfl, Prod.mk.injEq]
           exact ⟨by omega, rfl⟩
          ·rw [h]; rfl
     ·rw [if_neg c5] at h1; omega
theorem beg_part (c : UInt8) (t : List UInt8) (hl : t.length + 1 < manyL c.toNat) : (begB c t = true ↔ ∀ j, j < t.length → okAt c.toNat t j) := by
 have hc := c.toNat_lt
 have hk : ∀ x, tail1 x 128 191 = tailB x := fun _ => rfl
 unfold begB
 by_cases c1 : c.toNat < 128
 ·unfold manyL at hl; rw [if_pos c1] at hl; omega
 by_cases c2 : c.toNat < 194
 ·unfold manyL at hl; rw [if_neg c1, if_pos c2] at hl; omega
 by_cases c3 : c.toNat < 224
 ·have hm : manyL c.toNat = 2 := by unfold manyL; rw [if_neg c1, if_neg c2, if_pos c3]
  rw [hm] at hl
  have ht : t = [] := List.length_eq_zero_iff.1 (by omega)
  subst ht
  have hf : ∀ f, fillT c [] f = [f] := fun f => by unfold fillT; rw [hm]; rfl
  have hnum : ∀ f : UInt8, numI c [f] = ((c.toNat : Int) - 192) * 64 + (f.toNat : Int) % 64 := fun f => by unfold numI; simp [numTo, headI, nth]
  rw [hf, hf, hnum, hnum, hm]
  have e1 : (128 : UInt8).toNat = 128 := rfl
  have e2 : (191 : UInt8).toNat = 191 := rfl
  rw [e1, e2]
  unfold rangeB fromI
  simp
  omega
 by_cases c4 : c.toNat < 240
 ·have hm : manyL c.toNat = 3 := by unfold manyL; rw [if_neg c1, if_neg c2, if_neg c3, if_pos c4]
  rw [hm] at hl
  have e1 : (128 : UInt8).toNat = 128 := rfl
  have e2 : (191 : UInt8).toNat = 191 := rfl
  have hnum : ∀ b d : UInt8, numI c [b, d] = (((c.toNat : Int) - 224) * 64 + (b.toNat : Int) % 64) * 64 + (d.toNat : Int) % 64 := fun b d => by unfold numI; simp [numTo, headI, nth]
  have hf3 : fromI 3 = 2048 := rfl
  match t, hl with
  | [], _ =>
   have hf : ∀ f, fillT c [] f = [f, f] := fun f => by unfold fillT; rw [hm]; rfl
   rw [hf, hf, hnum, hnum, hm, e1, e2]
   unfold rangeB
   rw [hf3]
   simp
   omega
  | [b], _ =>
   have hb := b.toNat_lt
   have hf : ∀ f, fillT c [b] f = [b, f] := fun f => by unfold fillT; rw [hm]; rfl
   rw [hf, hf, hnum, hnum, hm, e1, e2]
   have hok : (∀ j, j < [b].length → okAt c.toNat [b] j) ↔ lo1 c.toNat ≤ b.toNat ∧ b.toNat ≤ hi1 c.toNat := by
    constructor
    ·intro h
     have := (h 0 (by simp)).2
     simpa [nth] using this
    ·intro h j hj
     obtain rfl : j = 0 := by simpa using hj
     exact ⟨by simp, by simpa [nth] using h⟩
   rw [hok]
   have hlo : lo1 c.toNat = if c.toNat = 224 then 160 else 128 := by unfold lo1; rw [if_neg (by omega : ¬ c.toNat = 240)]
   have hhi : hi1 c.toNat = if c.toNat = 237 then 159 else 191 := by unfold hi1; rw [if_neg (by omega : ¬ c.toNat = 244)]
   rw [hlo, hhi]
   unfold rangeB
   rw [hf3]
   simp only [List.all_cons, List.all_nil, Bool.and_true, Bool.and_eq_true, Bool.or_eq_true, decide_eq_true_eq, tail_iff]
   by_cases q1 : c.toNat = 224
   ·rw [if_pos q1, if_neg (by omega : ¬ c.toNat = 237)]; omega
   ·rw [if_neg q1]
    by_cases q2 : c.toNat = 237
    ·rw [if_pos q2]; omega
    ·rw [if_neg q2]; omega
  | _ :: _ :: _, h => simp at h; omega
 by_cases c5 : c.toNat < 245
 ·have hm : manyL c.toNat = 4 := by unfold manyL; rw [if_neg c1, if_neg c2, if_neg c3, if_neg c4, if_pos c5]
  rw [hm] at hl
  have e1 : (128 : UInt8).toNat = 128 := rfl
  have e2 : (191 : UInt8).toNat = 191 := rfl
  have hnum : ∀ b d e : UInt8, numI c [b, d, e] = ((((c.toNat : Int) - 240) * 64 + (b.toNat : Int) % 64) * 64 + (d.toNat : Int) % 64) * 64 + (e.toNat : Int) % 64 := fun b d e => by unfold numI; simp [numTo, headI, nth]
  have hf4 : fromI 4 = 65536 := rfl
  have hlo : lo1 c.toNat = if c.toNat = 240 then 144 else 128 := by unfold lo1; rw [if_neg (by omega : ¬ c.toNat = 224)]
  have hhi : hi1 c.toNat = if c.toNat = 244 then 143 else 191 := by unfold hi1; rw [if_neg (by omega : ¬ c.toNat = 237)]
  match t, hl with
  | [], _ =>
   have hf : ∀ f, fillT c [] f = [f, f, f] := fun f => by unfold fillT; rw [hm]; rfl
   rw [hf, hf, hnum, hnum, hm, e1, e2]
   unfold rangeB
   rw [hf4]
   simp
   omega
  | [b], _ =>
   have hb := b.toNat_lt
   have hf : ∀ f, fillT c [b] f = [b, f, f] := fun f => by unfold fillT; rw [hm]; rfl
   rw [hf, hf, hnum, hnum, hm, e1, e2]
   have hok : (∀ j, j < [b].length → okAt c.toNat [b] j) ↔ lo1 c.toNat ≤ b.toNat ∧ b.toNat ≤ hi1 c.toNat := by
    constructor
    ·intro h
     have := (h 0 (by simp)).2
     simpa [nth] using this
    ·intro h j hj
     obtain rfl : j = 0 := by simpa using hj
     exact ⟨by simp, by simpa [nth] using h⟩
   rw [hok, hlo, hhi]
   unfold rangeB
   rw [hf4]
   simp only [List.all_cons, List.all_nil, Bool.and_true, Bool.and_eq_true, Bool.or_eq_true, decide_eq_true_eq, tail_iff]
   by_cases q1 : c.toNat = 240
   ·rw [if_pos q1, if_neg (by omega : ¬ c.toNat = 244)]; omega
   ·rw [if_neg q1]
    by_cases q2 : c.toNat = 244
    ·rw [if_pos q2]; omega
    ·rw [if_neg q2]; omega
  | [b, d], _ =>
   have hb := b.toNat_lt
   have hd := d.toNat_lt
   have hf : ∀ f, fillT c [b, d] f = [b, d, f] := fun f => by unfold fillT; rw [hm]; rfl
   rw [hf, hf, hnum, hnum, hm, e1, e2]
   have hok : (∀ j, j < [b, d].length → okAt c.toNat [b, d] j) ↔ (lo1 c.toNat ≤ b.toNat ∧ b.toNat ≤ hi1 c.toNat) ∧ 128 ≤ d.toNat ∧ d.toNat ≤ 191 := by
    constructor
    ·intro h
     have h0 := (h 0 (by simp)).2
     have h1 := (h 1 (by simp)).2
     exact ⟨by simpa [nth] using h0, by simpa [nth] using h1⟩
    ·intro h j hj
     rcases (by simp at hj; omega : j = 0 ∨ j = 1) with rfl | rfl
     ·exact ⟨by simp, by simpa [nth] using h.1⟩
     ·exact ⟨by simp, by simpa [nth] using h.2⟩
   rw [hok, hlo, hhi]
   unfold rangeB
   rw [hf4]
   simp only [List.all_cons, List.all_nil, Bool.and_true, Bool.and_eq_true, Bool.or_eq_true, decide_eq_true_eq, tail_iff]
   by_cases q1 : c.toNat = 240
   ·rw [if_pos q1, if_neg (by omega : ¬ c.toNat = 244)]; omega
   ·rw [if_neg q1]
    by_cases q2 : c.toNat = 244
    ·rw [if_pos q2]; omega
    ·rw [if_neg q2]; omega
  | _ :: _ :: _ :: _, h => simp at h; omega
 ·unfold manyL at hl; rw [if_neg c1, if_neg c2, if_neg c3, if_neg c4, if_neg c5] at hl; omega
theorem beg_more (c : UInt8) (t : List UInt8) (hl : t.length + 1 < manyL c.toNat) : moreL (c :: t) = begB c t := by
 rw [Bool.eq_iff_iff, beg_part c t hl]
 unfold moreL
 rw [decide_eq_true_eq]
 exact ⟨fun h => h.2, fun h => ⟨hl, h⟩⟩
theorem Bys.take {w : World} {b off : Nat} {l : List UInt8} (h : Bys w b off l) (k : Nat) : Bys w b off (l.take k) := ⟨h.lt, fun j hj => by
 rw [List.length_take] at hj
 rw [h.at_ j (by omega)]
 simp [nth, List.getD, List.getElem?_take, show j < k by omega]⟩
set_option maxRecDepth 100000 in
set_option maxHeartbeats 4000000 in
theorem refNext_any (c : UInt8) (t : List UInt8) (b off n cap : Nat) (w : World) (hn : n = t.length + 1) (hlen : n ≤ 20000000) (hcap : n ≤ cap) (hB : Bys w b off (c :: t)) :
    Calls Tryz.prog 61 #[.slice (some ⟨b, off, none⟩) n cap] w fun e w' => NextP (c :: t) e ∧ Below w.heap.size w w' := by
 have hm4 := manyL_le c.toNat
 have hcc := hB.at_ 0 (by simp)
 rw [Nat.add_zero] at hcc
 have e0 : nth 0 (c :: t) 0 = c := rfl
 rw [e0] at hcc
 clear e0
 have CL := Lib.hid (fun W => rlength_any c.toNat c.toNat_lt W)
 have H0 := Lib.hid (step_many0 c t)
 have H1 := Lib.hid (step_bad c t)
 have hne0 : ((n : Int) == 0) = false := by simp; omega
 have h0n : 0 < n := by omega
 have hbeg : ∀ k, k + 1 ≤ manyL c.toNat → k ≤ t.length → ∀ W, Bys W b off (c :: t.take k) → Calls Tryz.prog 86 #[.slice (some ⟨b, off, none⟩) (k + 1) cap] W fun e w' => e = .returned (.bool (begB c (t.take k))) ∧ Below W.heap.size W w' := fun k hk hkt W h => begins_any c (t.take k) b off (k + 1) cap W (by simp; omega) (by omega) h
 have hnum : ∀ k, k ≤ 3 → k ≤ t.length → ∀ W, Bys W b off (c :: t.take k) → Calls Tryz.prog 87 #[.slice (some ⟨b, off, none⟩) (k + 1) cap] W fun e w' => e = .returned (.int .i32 (numI c (t.take k))) ∧ Below W.heap.size W w' := fun k hk hkt W h => number_any c (t.take k) b off (k + 1) cap W (by simp; omega) (by simp; omega) h
 have hfull : ∀ k, k + 1 = manyL c.toNat → k ≤ t.length → (begB c (t.take k) = true → stepL (c :: t) = ((numI c (t.take k)).toNat, k + 1) ∧ 0 ≤ numI c (t.take k)) ∧ (begB c (t.take k) = false → stepL (c :: t) = (65533, 1)) := fun k hk hkt => by
  have := beg_full c (t.take k) (by omega) (by simp; omega) (t.drop k)
  rw [List.take_append_drop, ← hk] at this
  exact this
 have hbt : ∀ k W, Bys W b off (c :: t) → Bys W b off (c :: t.take k) := fun k W h => by have := h.take (k + 1); rwa [List.take_succ_cons] at this
 have HNM := Lib.hid (more_no (c := c) (t := t))
 have HBM := Lib.hid (beg_more c t)
 obtain ⟨M, hM⟩ : ∃ M, M = manyL c.toNat := ⟨_, rfl⟩
 rw [← hM] at CL hm4 H0 H1 hbeg hfull HNM HBM
 have HM := Lib.hid hM
 clear hM
 rcases Nat.lt_or_ge 0 M with hM0 | hM0
 ·by_cases hnM : M ≤ n
  ·have HMM := Lib.hid (HNM.out (by omega))
   obtain ⟨k, rfl⟩ : ∃ k, M = k + 1 := ⟨M - 1, by omega⟩
   have CB := Lib.hid (fun W h => hbeg k (by omega) (by omega) W h)
   have CN := Lib.hid (fun W h => hnum k (by omega) (by omega) W h)
   have HF := Lib.hid (hfull k rfl (by omega))
   have HBT := Lib.hid (hbt k)
   obtain ⟨z, hz⟩ : ∃ z, z = begB c (t.take k) := ⟨_, rfl⟩
   obtain ⟨v, hv⟩ : ∃ v, v = numI c (t.take k) := ⟨_, rfl⟩
   rw [← hz] at CB HF
   rw [← hv] at CN HF
   have hnMi : ((k : Int) + 1) ≤ (n : Int) := by omega
   have hkc : k + 1 ≤ cap := by omega
   have HN := Lib.hid hn
   clear hbeg hnum hfull hbt hz hv H0 H1 HM hnM hn
   cases z with
   | true =>
    obtain ⟨hst, hv0⟩ := HF.out.1 rfl
    obtain ⟨m, rfl⟩ := Int.eq_ofNat_of_zero_le hv0
    have HST := Lib.hid hst
    clear hst HF hv0
    go_enter Tryz.func61, Tryz.ntmps61
    go_wp2_with (first
     | (go_at_call 85; refine (CL.out _).mono ?_; rintro e w1 ⟨rfl, rfl⟩)
     | (go_at_call 86; refine (CB.out _ (HBT.out _ hB)).mono ?_; rintro e w2 ⟨rfl, hb2⟩)
     | (go_at_call 87; refine (CN.out _ (HBT.out _ (hB.below hb2))).mono ?_; rintro e w3 ⟨rfl, hb3⟩))
    refine bodyPost_ret (results_tmp3 rfl _ _ _) rfl ?_
    exact ⟨nextP_ok (n := k + 1) (by rw [HST.out]; simp) HMM.out, bnext hb2 hb3⟩
   | false =>
    have HST := Lib.hid (HF.out.2 rfl)
    clear HF
    go_enter Tryz.func61, Tryz.ntmps61
    go_wp2_with (first
     | (go_at_call 85; refine (CL.out _).mono ?_; rintro e w1 ⟨rfl, rfl⟩)
     | (go_at_call 86; refine (CB.out _ (HBT.out _ hB)).mono ?_; rintro e w2 ⟨rfl, hb2⟩))
    refine bodyPost_ret (results_tmp3 rfl _ _ _) rfl ?_
    exact ⟨nextP_bad HST.out HMM.out, hb2⟩
  ·have HST := Lib.hid (H1.out t.length (by omega) (fun h => by have := h.1; omega))
   have CB := Lib.hid (fun W h => hbeg t.length (by omega) (Nat.le_refl _) W h)
   have HBT := Lib.hid (hbt t.length)
   rw [← hn] at CB
   have hmz : moreL (c :: t) = begB c (t.take t.length) := by rw [List.take_length]; exact HBM.out (by omega)
   obtain ⟨z, hz⟩ : ∃ z, z = begB c (t.take t.length) := ⟨_, rfl⟩
   rw [← hz] at CB hmz
   have HMM := Lib.hid hmz
   clear hmz
   have hnMi : (n : Int) < (M : Int) := by omega
   have hMi : 0 < (M : Int) := by omega
   have HN := Lib.hid hn
   clear hbeg hnum hfull hbt hz H0 H1 HM hnM hn
   cases z with
   | true =>
    go_enter Tryz.func61, Tryz.ntmps61
    go_wp2_with (first
     | (go_at_call 85; refine (CL.out _).mono ?_; rintro e w1 ⟨rfl, rfl⟩)
     | (go_at_call 86; refine (CB.out _ (HBT.out _ hB)).mono ?_; rintro e w2 ⟨rfl, hb2⟩))
    refine bodyPost_ret (results_tmp3 rfl _ _ _) rfl ?_
    exact ⟨nextP_more HST.out HMM.out, hb2⟩
   | false =>
    go_enter Tryz.func61, Tryz.ntmps61
    go_wp2_with (first
     | (go_at_call 85; refine (CL.out _).mono ?_; rintro e w1 ⟨rfl, rfl⟩)
     | (go_at_call 86; refine (CB.out _ (HBT.out _ hB)).mono ?_; rintro e w2 ⟨rfl, hb2⟩))
    refine bodyPost_ret (results_tmp3 rfl _ _ _) rfl ?_
    exact ⟨nextP_bad HST.out HMM.out, hb2⟩
 ·have HMM := Lib.hid (HNM.out (by omega))
  obtain rfl : M = 0 := by omega
  have HST := Lib.hid (H0.out rfl)
  have HN := Lib.hid hn
  clear hbeg hnum hfull hbt H0 H1 HM hn hM0
  go_enter Tryz.func61, Tryz.ntmps61
  go_wp2_with (go_at_call 85; refine (CL.out _).mono ?_; rintro e w1 ⟨rfl, rfl⟩)
  refine bodyPost_ret (results_tmp3 rfl _ _ _) rfl ?_
  exact ⟨nextP_bad HST.out HMM.out, Below.refl _ _⟩
end Go.Proofs.YtjkajojjehgmdaaGreat
