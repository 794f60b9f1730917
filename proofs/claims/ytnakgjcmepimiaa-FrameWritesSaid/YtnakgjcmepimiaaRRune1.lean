/- The reference's runes: the contracts of length, tails and number. -/
import Derived.Test.YtnakgjcmepimiaaRune4
import Derived.Test.YtnakgjcmepimiaaCMath
namespace Go.Proofs.Ytnakgjcmepimiaa
set_option linter.unusedVariables false
set_option linter.unusedSimpArgs false
open Go.RowKit
set_option maxRecDepth 100000 in
theorem rlength_any (n : Nat) (hn : n < 256) (w : World) : Calls Try.prog 117 #[.int .u8 n] w fun e w' => e = .returned (.int .i64 (manyL n : Nat)) ∧ w = w' := by
  obtain ⟨z, hz⟩ : ∃ z : Nat, z = manyL n := ⟨_, rfl⟩
  rw [← hz]
  unfold manyL at hz
  have HZ := Lib.hid hz
  obtain ⟨c, hc⟩ : ∃ c : Int, c = (n : Int) := ⟨_, rfl⟩
  rw [← hc]
  have HC := Lib.hid hc
  clear hz hc hn
  go_enter Try.func117, Try.ntmps117
  go_wp2
  all_goals go_ret
  all_goals refine ⟨ret_int ?_, rfl⟩
  all_goals rw [HZ.out]
  all_goals have hc := HC.out
  all_goals (repeat' split) <;> omega
def tailB (x : UInt8) : Bool := decide (128 ≤ x.toNat ∧ x.toNat ≤ 191)
theorem all_take (t : List UInt8) (k : Nat) (h : k < t.length) : (t.take (k + 1)).all tailB = ((t.take k).all tailB && tailB (nth 0 t k)) := by
  rw [List.take_succ_eq_append_getElem h, List.all_append, nth_eq _ _ _ h]; simp
theorem all_bad (t : List UInt8) (k : Nat) (h : k < t.length) (hb : tailB (nth 0 t k) = false) : t.all tailB = false := by
  rw [Bool.eq_false_iff]
  intro h1
  have := List.all_eq_true.1 h1 _ (List.getElem_mem h)
  rw [nth_eq _ _ _ h] at hb
  rw [hb] at this
  cases this
set_option maxRecDepth 100000 in
set_option maxHeartbeats 1000000 in
theorem tails_any (c : UInt8) (t : List UInt8) (b off n cap : Nat) (w : World) (hn : n = t.length + 1) (hlen : t.length ≤ 2000000) (hB : Bys w b off (c :: t)) :
    Calls Try.prog 137 #[.slice (some ⟨b, off, none⟩) n cap] w fun e w' => e = .returned (.bool (t.all tailB)) ∧ w = w' := by
  subst hn
  have HT := Lib.hid (all_take t)
  have HB := Lib.hid (all_bad t)
  obtain ⟨z, hz⟩ : ∃ z, z = t.all tailB := ⟨_, rfl⟩
  rw [← hz] at HB ⊢
  have HZ := Lib.hid (show (t.take t.length).all tailB = z by rw [List.take_length, hz])
  clear hz
  go_enter Try.func137, Try.ntmps137
  go_wp2
  go_loop [3] (fun i => ∃ k : Nat, k ≤ t.length ∧ i = .int .i64 ((k : Int) + 1) ∧ Hid ((t.take k).all tailB = true)) (fun i => t.length + 2 - (intOf i).toNat)
  case atStart => exact ⟨0, Nat.zero_le _, rfl, Lib.hid rfl⟩
  case round =>
    obtain ⟨k, hk, rfl, hall⟩ := hrel
    by_cases hlt : k < t.length
    · have hck := hB.at_ (k + 1) (by simp; omega)
      have e : nth 0 (c :: t) (k + 1) = nth 0 t k := rfl
      rw [e] at hck
      have hck2 := hck
      rw [← Nat.add_assoc] at hck2
      obtain ⟨x, hx⟩ : ∃ x, x = nth 0 t k := ⟨_, rfl⟩
      have h1 := HB.out k hlt
      have h2 := HT.out k hlt
      rw [← hx] at hck hck2 h1 h2
      have hlti : (k : Int) + 1 < (t.length : Int) + 1 := by omega
      rw [hall.out, Bool.true_and] at h2
      by_cases hc1 : x.toNat < 128
      · have hz := h1 (decide_eq_false (by omega))
        have hc1i : (x.toNat : Int) < 128 := by omega
        have HZ2 := Lib.hid hz
        clear h1 h2 hx hz
        go_wp2
        go_ret
        exact ⟨by rw [HZ2.out]; rfl, rfl⟩
      · have hc1i : 128 ≤ (x.toNat : Int) := by omega
        by_cases hc2 : 191 < x.toNat
        · have hz := h1 (decide_eq_false (by omega))
          have hc2i : 191 < (x.toNat : Int) := by omega
          have HZ2 := Lib.hid hz
          clear h1 h2 hx hz
          go_wp2
          go_ret
          exact ⟨by rw [HZ2.out]; rfl, rfl⟩
        · have hc2i : (x.toNat : Int) ≤ 191 := by omega
          have H2 := Lib.hid (h2.trans (decide_eq_true ⟨by omega, by omega⟩))
          clear h1 h2 hx
          go_wp2
          go_round
          case rel => exact ⟨k + 1, by omega, by go_num, H2⟩
          case measure => simp [intOf]; omega
    · obtain rfl : k = t.length := by omega
      have HZ2 := Lib.hid (HZ.out.symm.trans hall.out)
      go_wp2
      go_ret
      exact ⟨by rw [HZ2.out]; rfl, rfl⟩
/-! ### a number -/
theorem blk_at1 {W : World} {b o : Nat} {cs : Array Value} {T : TypeId} {x : Value} (hb : W.heap[b]? = some (.cells cs T (0, 0))) (hx : cs[o]? = some x) : W.cell? ⟨b, o, none⟩ = some x := by
  unfold World.cell?
  dsimp only
  rw [hb]
  simpa using hx
def headI (n : Nat) : Int := if n = 2 then 192 else if n = 3 then 224 else if n = 4 then 240 else 0
def numTo (c : UInt8) (t : List UInt8) : Nat → Int
  | 0 => (c.toNat : Int) - headI (t.length + 1)
  | k + 1 => numTo c t k * 64 + ((nth 0 t k).toNat : Int) % 64
def numI (c : UInt8) (t : List UInt8) : Int := numTo c t t.length
theorem numTo_bd (c : UInt8) (t : List UInt8) (h : t.length ≤ 3) : ∀ k, k ≤ 3 → -240 * 64 ^ k ≤ numTo c t k ∧ numTo c t k + 1 ≤ 256 * 64 ^ k
  | 0, _ => by
    have := c.toNat_lt
    unfold numTo headI
    (repeat' split) <;> omega
  | k + 1, hk => by
    have ih := numTo_bd c t h k (by omega)
    unfold numTo
    have : (64 : Int) ^ (k + 1) = 64 ^ k * 64 := Int.pow_succ _ _
    have h3 : 0 ≤ ((nth 0 t k).toNat : Int) % 64 ∧ ((nth 0 t k).toNat : Int) % 64 ≤ 63 := by omega
    have h4 : (1 : Int) ≤ 64 ^ k := by
      have : (0 : Int) < 64 ^ k := Int.pow_pos (by omega)
      omega
    omega
theorem numTo_i32 (c : UInt8) (t : List UInt8) (h : t.length ≤ 3) (k : Nat) (hk : k ≤ 3) : -62914560 ≤ numTo c t k ∧ numTo c t k ≤ 67108863 := by
  have := numTo_bd c t h k hk
  have hk' : k = 0 ∨ k = 1 ∨ k = 2 ∨ k = 3 := by omega
  rcases hk' with rfl | rfl | rfl | rfl <;> simp only [Int.reducePow] at this <;> omega
set_option maxRecDepth 100000 in
set_option maxHeartbeats 2000000 in
theorem number_any (c : UInt8) (t : List UInt8) (b off n cap : Nat) (w : World) (hn : n = t.length + 1) (hlen : t.length ≤ 3) (hB : Bys w b off (c :: t)) :
    Calls Try.prog 119 #[.slice (some ⟨b, off, none⟩) n cap] w fun e w' => e = .returned (.int .i32 (numI c t)) ∧ Below w.heap.size w w' := by
  have hcc := hB.at_ 0 (by simp)
  rw [Nat.add_zero] at hcc
  have hc256 := c.toNat_lt
  have e0 : nth 0 (c :: t) 0 = c := rfl
  rw [e0] at hcc
  by_cases h1 : t.length = 0
  · have ht := List.length_eq_zero_iff.1 h1
    subst ht
    subst hn
    have hv : numI c [] = (c.toNat : Int) := by unfold numI numTo headI; simp
    rw [hv]
    clear h1
    have hca : ∀ o, (w.alloc o).cell? ⟨b, off, none⟩ = some (.int .u8 (c.toNat : Int)) := fun o => cell_alloc_l o hcc
    go_enter Try.func119, Try.ntmps119
    go_wp2
    go_ret
    exact ⟨rfl, (Below.refl _ _).alloc (Nat.le_refl _) _⟩
  · obtain ⟨m, hm⟩ : ∃ m, m = t.length := ⟨_, rfl⟩
    have hnm : n = m + 1 := by omega
    have HB := Lib.hid (fun k (hk : k < m) => hB.at_ (k + 1) (by simp; omega))
    have HN := Lib.hid (show numI c t = numTo c t m by rw [hm]; rfl)
    have HI := Lib.hid (fun k (hk : k ≤ m) => numTo_i32 c t hlen k (by omega))
    have HH := Lib.hid (show numTo c t 0 = (c.toNat : Int) - headI (m + 1) by rw [hm]; rfl)
    have HS := Lib.hid (fun k => show numTo c t (k + 1) = numTo c t k * 64 + ((nth 0 t k).toNat : Int) % 64 from rfl)
    have hm3 : m = 1 ∨ m = 2 ∨ m = 3 := by omega
    subst hnm
    clear hn hm h1 hlen e0 hB
    rw [HN.out]
    obtain ⟨W1, hW1⟩ : ∃ W1, w.alloc (.cells #[.int .i64 0, .int .i64 0, .int .i64 192, .int .i64 224, .int .i64 240] 3) = W1 := ⟨_, rfl⟩
    have hbw : Below w.heap.size w W1 := hW1 ▸ (Below.refl _ _).alloc (Nat.le_refl _) _
    have hblk : W1.heap[w.heap.size]? = some (.cells #[.int .i64 0, .int .i64 0, .int .i64 192, .int .i64 224, .int .i64 240] 3 (0, 0)) := hW1 ▸ World.alloc_heap_new w _
    have hh2 := (blk_at1 hblk (o := 2) rfl)
    have hh3 := (blk_at1 hblk (o := 3) rfl)
    have hh4 := (blk_at1 hblk (o := 4) rfl)
    have hcc1 : W1.cell? ⟨b, off, none⟩ = some (.int .u8 (c.toNat : Int)) := hW1 ▸ cell_alloc_l _ hcc
    have HB1 := Lib.hid (fun k (hk : k < m) => (hW1 ▸ cell_alloc_l _ (HB.out k hk) : W1.cell? ⟨b, off + (k + 1), none⟩ = some (.int .u8 ((nth 0 (c :: t) (k + 1)).toNat : Int))))
    clear hblk HB hcc
    have hv0 : ∃ q : Int, numTo c t 0 = (c.toNat : Int) - q ∧ (m = 1 ∧ q = 192 ∨ m = 2 ∧ q = 224 ∨ m = 3 ∧ q = 240) := by
      refine ⟨headI (m + 1), HH.out, ?_⟩
      rcases hm3 with rfl | rfl | rfl
      · exact .inl ⟨rfl, rfl⟩
      · exact .inr (.inl ⟨rfl, rfl⟩)
      · exact .inr (.inr ⟨rfl, rfl⟩)
    obtain ⟨q, hq, hmq⟩ := hv0
    have HQ := Lib.hid hq
    clear hq hm3 HH
    rcases hmq with ⟨rfl, rfl⟩ | ⟨rfl, rfl⟩ | ⟨rfl, rfl⟩
    · go_enter Try.func119, Try.ntmps119
      go_wp2
      go_quiet (fail)
      have hbq : Below w.heap.size w (W1.drewN nq) := below_drewN hbw nq
      have HB2 : ∀ k, k < 1 → (W1.drewN nq).cell? ⟨b, off + (k + 1), none⟩ = some (.int .u8 ((nth 0 (c :: t) (k + 1)).toNat : Int)) := HB1.out
      have HB2 := Lib.hid HB2
      generalize W1.drewN nq = W2 at hbq HB2 ⊢
      clear hh2 hh3 hh4 hcc1 HB1 hbw
      go_wp2
      go_loop [5, 4] (fun i r => ∃ k : Nat, k ≤ 1 ∧ i = .int .i64 ((k : Int) + 1) ∧ r = .int .i32 (numTo c t k)) (fun i _ => 6 - (intOf i).toNat)
      case atStart => exact ⟨0, Nat.zero_le _, rfl, by rw [HQ.out]⟩
      case round =>
        obtain ⟨k, hk, rfl, rfl⟩ := hrel
        by_cases hlt : k < 1
        · have hck := HB2.out k hlt
          have e : nth 0 (c :: t) (k + 1) = nth 0 t k := rfl
          rw [e] at hck
          have hck2 := hck
          rw [← Nat.add_assoc] at hck2
          obtain ⟨x, hx⟩ : ∃ x, x = nth 0 t k := ⟨_, rfl⟩
          have hs := HS.out k
          have hi0 := HI.out k (by omega)
          have hi1 := HI.out (k + 1) (by omega)
          rw [← hx] at hck hck2 hs
          have hx256 := x.toNat_lt
          rw [hs] at hi1
          obtain ⟨A, hA⟩ : ∃ A, A = numTo c t k := ⟨_, rfl⟩
          rw [← hA] at hs hi0 hi1 ⊢
          have HSS := Lib.hid hs
          have hlti : (k : Int) + 1 < 1 + 1 := by omega
          have hr64 : 0 ≤ (x.toNat : Int) % 64 ∧ (x.toNat : Int) % 64 ≤ 63 := by omega
          clear hs hx hA
          go_wp2
          go_round
          case rel => exact ⟨k + 1, by omega, by go_num, by rw [HSS.out]⟩
          case measure => simp [intOf]; omega
        · obtain rfl : k = 1 := by omega
          go_wp2
          go_ret
          exact ⟨rfl, hbq⟩
    · go_enter Try.func119, Try.ntmps119
      go_wp2
      go_quiet (fail)
      have hbq : Below w.heap.size w (W1.drewN nq) := below_drewN hbw nq
      have HB2 : ∀ k, k < 2 → (W1.drewN nq).cell? ⟨b, off + (k + 1), none⟩ = some (.int .u8 ((nth 0 (c :: t) (k + 1)).toNat : Int)) := HB1.out
      have HB2 := Lib.hid HB2
      generalize W1.drewN nq = W2 at hbq HB2 ⊢
      clear hh2 hh3 hh4 hcc1 HB1 hbw
      go_wp2
      go_loop [5, 4] (fun i r => ∃ k : Nat, k ≤ 2 ∧ i = .int .i64 ((k : Int) + 1) ∧ r = .int .i32 (numTo c t k)) (fun i _ => 6 - (intOf i).toNat)
      case atStart => exact ⟨0, Nat.zero_le _, rfl, by rw [HQ.out]⟩
      case round =>
        obtain ⟨k, hk, rfl, rfl⟩ := hrel
        by_cases hlt : k < 2
        · have hck := HB2.out k hlt
          have e : nth 0 (c :: t) (k + 1) = nth 0 t k := rfl
          rw [e] at hck
          have hck2 := hck
          rw [← Nat.add_assoc] at hck2
          obtain ⟨x, hx⟩ : ∃ x, x = nth 0 t k := ⟨_, rfl⟩
          have hs := HS.out k
          have hi0 := HI.out k (by omega)
          have hi1 := HI.out (k + 1) (by omega)
          rw [← hx] at hck hck2 hs
          have hx256 := x.toNat_lt
          rw [hs] at hi1
          obtain ⟨A, hA⟩ : ∃ A, A = numTo c t k := ⟨_, rfl⟩
          rw [← hA] at hs hi0 hi1 ⊢
          have HSS := Lib.hid hs
          have hlti : (k : Int) + 1 < 2 + 1 := by omega
          have hr64 : 0 ≤ (x.toNat : Int) % 64 ∧ (x.toNat : Int) % 64 ≤ 63 := by omega
          clear hs hx hA
          go_wp2
          go_round
          case rel => exact ⟨k + 1, by omega, by go_num, by rw [HSS.out]⟩
          case measure => simp [intOf]; omega
        · obtain rfl : k = 2 := by omega
          go_wp2
          go_ret
          exact ⟨rfl, hbq⟩
    · go_enter Try.func119, Try.ntmps119
      go_wp2
      go_quiet (fail)
      have hbq : Below w.heap.size w (W1.drewN nq) := below_drewN hbw nq
      have HB2 : ∀ k, k < 3 → (W1.drewN nq).cell? ⟨b, off + (k + 1), none⟩ = some (.int .u8 ((nth 0 (c :: t) (k + 1)).toNat : Int)) := HB1.out
      have HB2 := Lib.hid HB2
      generalize W1.drewN nq = W2 at hbq HB2 ⊢
      clear hh2 hh3 hh4 hcc1 HB1 hbw
      go_wp2
      go_loop [5, 4] (fun i r => ∃ k : Nat, k ≤ 3 ∧ i = .int .i64 ((k : Int) + 1) ∧ r = .int .i32 (numTo c t k)) (fun i _ => 6 - (intOf i).toNat)
      case atStart => exact ⟨0, Nat.zero_le _, rfl, by rw [HQ.out]⟩
      case round =>
        obtain ⟨k, hk, rfl, rfl⟩ := hrel
        by_cases hlt : k < 3
        · have hck := HB2.out k hlt
          have e : nth 0 (c :: t) (k + 1) = nth 0 t k := rfl
          rw [e] at hck
          have hck2 := hck
          rw [← Nat.add_assoc] at hck2
          obtain ⟨x, hx⟩ : ∃ x, x = nth 0 t k := ⟨_, rfl⟩
          have hs := HS.out k
          have hi0 := HI.out k (by omega)
          have hi1 := HI.out (k + 1) (by omega)
          rw [← hx] at hck hck2 hs
          have hx256 := x.toNat_lt
          rw [hs] at hi1
          obtain ⟨A, hA⟩ : ∃ A, A = numTo c t k := ⟨_, rfl⟩
          rw [← hA] at hs hi0 hi1 ⊢
          have HSS := Lib.hid hs
          have hlti : (k : Int) + 1 < 3 + 1 := by omega
          have hr64 : 0 ≤ (x.toNat : Int) % 64 ∧ (x.toNat : Int) % 64 ≤ 63 := by omega
          clear hs hx hA
          go_wp2
          go_round
          case rel => exact ⟨k + 1, by omega, by go_num, by rw [HSS.out]⟩
          case measure => simp [intOf]; omega
        · obtain rfl : k = 3 := by omega
          go_wp2
          go_ret
          exact ⟨rfl, hbq⟩
end Go.Proofs.Ytnakgjcmepimiaa
