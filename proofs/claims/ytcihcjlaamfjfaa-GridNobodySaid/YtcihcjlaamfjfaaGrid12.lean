/- filled. -/
import Derived.Test.YtcihcjlaamfjfaaGrid11
namespace Go.Proofs.Ytcihcjlaamfjfaa
open Go.RowKit Go.Maps
theorem few_any2 (o o' : OpV) (ho : o.Ok) (h' : o' = fewO o) (w : World) : Calls Try.prog 63 #[o.v] w
    fun e w' => e = .returned (.agg #[.int .u8 o'.d, .int .i64 o'.r, .int .i64 o'.c, .string o'.s, .int .i64 o'.k, .bool o'.y.b, .bool o'.y.u, .bool o'.y.i, .int .i64 o'.y.f, .int .i64 o'.y.g, .int .i64 o'.t, .int .i64 o'.n]) ∧ Below w.heap.size w w' := by
  subst h'
  exact few_any o ho w
set_option maxRecDepth 100000 in
set_option maxHeartbeats 4000000 in
theorem filled_any {W : World} {a : Option Addr} {len cap : Nat} {ops : List OpV} (hops : OpsAt W a len ops) (hlen : len ≤ maxLen) :
    Calls Try.prog 50 #[.slice a len cap] W fun e w' => ∃ p q, e = .returned (.pointer (some ⟨p, 0, none⟩)) ∧ W.heap.size ≤ p ∧ W.heap.size ≤ q ∧ GridAt w' p q 12 4 (filledL ops) ∧ Below W.heap.size W w' := by
  have CN := Lib.hid (new_ok 12 4 (by omega) W)
  unfold maxLen at hlen
  obtain ⟨M, hM⟩ : ∃ M, M = min ops.length 30 := ⟨_, rfl⟩
  have hML : M ≤ len := by rw [hM, hops.len]; omega
  have hM30 : M ≤ 30 := by omega
  have hMe : M = len ∨ M = 30 := by rw [hM, hops.len]; omega
  have HM := Lib.hid hM
  clear hM
  go_enter Try.func50, Try.ntmps50
  go_wp2_with (go_at_call 66; refine (CN.out).mono ?_; rintro e w1 ⟨p, rfl, hp, g, hb⟩)
  have g0 : GridAt w1 p W.heap.size 12 4 (fillN ops 0) := g
  clear g
  go_loopw [5] (fun i wr => ∃ k : Nat, k ≤ M ∧ i = .int .i64 k ∧ GridAt wr p W.heap.size 12 4 (fillN ops k) ∧ Below W.heap.size W wr) (fun i _ => M - (intOf i).toNat)
  case atStart => exact ⟨0, by omega, rfl, g0, hb⟩
  case round =>
    obtain ⟨k, hk, rfl, g, hbr⟩ := hrel
    clear g0 hb
    by_cases hlt : k < M
    · have hkl : k < ops.length := by rw [hops.len]; omega
      obtain ⟨o, ho⟩ : ∃ o, o = nth ⟨0, 0, 0, ⟨#[]⟩, 0, Sy.zero, 0, 0⟩ ops k := ⟨_, rfl⟩
      have hoi : ops[k]? = some o := by rw [ho, nth_eq _ _ _ hkl, List.getElem?_eq_getElem hkl]
      obtain ⟨hok, b, off, rfl, hbl, hro⟩ := hops.at_ k o hoi
      obtain ⟨o', ho'⟩ : ∃ o', o' = fewO o := ⟨_, rfl⟩
      have hstep : fillN ops (k + 1) = stepG 12 4 (fillN ops k) o' := by rw [fillN, ← ho, ho']
      have HS := Lib.hid hstep
      have CF := Lib.hid (fun W => few_any2 o o' hok ho' W)
      have hd0 : 0 ≤ o'.d := by rw [ho']; exact hok.d0
      have hd1 : o'.d ≤ 255 := by rw [ho']; exact hok.d1
      have hgo := fillN_ok ops k
      have hror : wr.rangeAt b (off + k * 12) o.vals := fun j v hv => (hbr.cell (p := ⟨b, _, none⟩) hbl).trans (hro j v hv)
      have hkl2 : (k : Int) < (len : Int) := by omega
      clear ho hoi hstep ho' hkl hro hMe hML
      have hsz := hbr.size
      go_upto_region 6 with (first
        | (refine wpList_load_mid rfl _ _ rfl b _ rfl o.vals _ hror Try.underlying71 rfl (by kernel_rfl) ?_)
        | (go_at_call 63; refine (CF.out _).mono ?_; rintro e w2 ⟨rfl, hb2⟩))
      have g2 := g.only (Only.of_below (S := []) hb2) (by simp) (by simp)
      have g3 := g2.only ((Only.refl [] _).alloc (.cells #[.int .u8 o'.d, .int .i64 o'.r, .int .i64 o'.c, .string o'.s, .int .i64 o'.k, .bool o'.y.b, .bool o'.y.u, .bool o'.y.i, .int .i64 o'.y.f, .int .i64 o'.y.g, .int .i64 o'.t, .int .i64 o'.n] 71)) (by simp) (by simp)
      clear hok hbl hror CF CN
      by_cases h5 : o'.d % 10 = 5
      · have HX : Hid (stepG 12 4 (fillN ops k) o' = joinG 12 4 (fillN ops k) o'.r o'.c o'.s) := Lib.hid (by unfold stepG; rw [if_pos h5])
        go_wp2_with (go_at_call 74; refine (join_any g3 hgo o'.r o'.c o'.s).mono ?_; rintro e w4 ⟨rfl, g4, o4⟩)
        refine ⟨⟨k + 1, by omega, by go_num, by rw [HS.out, HX.out]; exact g4, ?_⟩, by simp [intOf]; omega⟩
        have e1 := bto hbr hb2 hbr.size
        have e2 := e1.alloc e1.size (.cells #[.int .u8 o'.d, .int .i64 o'.r, .int .i64 o'.c, .string o'.s, .int .i64 o'.k, .bool o'.y.b, .bool o'.y.u, .bool o'.y.i, .int .i64 o'.y.f, .int .i64 o'.y.g, .int .i64 o'.t, .int .i64 o'.n] 71)
        exact e2.trans (o4.below (by simp) e2.size)
      have f5 : (o'.d % 10 == 5) = false := by simpa using h5
      by_cases h6 : o'.d % 10 = 6
      · have HX : Hid (stepG 12 4 (fillN ops k) o' = eraseG 12 4 (fillN ops k) o'.r o'.c o'.t) := Lib.hid (by unfold stepG; rw [if_neg h5, if_pos h6])
        clear h5
        go_wp2_with (go_at_call 77; refine (erase_any g3 o'.r o'.c o'.t).mono ?_; rintro e w4 ⟨rfl, g4, o4⟩)
        refine ⟨⟨k + 1, by omega, by go_num, by rw [HS.out, HX.out]; exact g4, ?_⟩, by simp [intOf]; omega⟩
        have e1 := bto hbr hb2 hbr.size
        have e2 := e1.alloc e1.size (.cells #[.int .u8 o'.d, .int .i64 o'.r, .int .i64 o'.c, .string o'.s, .int .i64 o'.k, .bool o'.y.b, .bool o'.y.u, .bool o'.y.i, .int .i64 o'.y.f, .int .i64 o'.y.g, .int .i64 o'.t, .int .i64 o'.n] 71)
        exact e2.trans (o4.below (by simp) e2.size)
      have f6 : (o'.d % 10 == 6) = false := by simpa using h6
      by_cases h7 : o'.d % 10 = 7
      · have HX : Hid (stepG 12 4 (fillN ops k) o' = scrollL (fillN ops k) 12 (max 0 (min o'.n (4 : Nat))).toNat) := Lib.hid (by unfold stepG; rw [if_neg h5, if_neg h6, if_pos h7])
        clear h5 h6
        go_wp2_with (go_at_call 69; refine (scroll_any g3 o'.n (max 0 (min o'.n (4 : Nat))).toNat (by omega)).mono ?_; rintro e w4 ⟨rfl, g4, o4⟩)
        refine ⟨⟨k + 1, by omega, by go_num, by rw [HS.out, HX.out]; exact g4, ?_⟩, by simp [intOf]; omega⟩
        have e1 := bto hbr hb2 hbr.size
        have e2 := e1.alloc e1.size (.cells #[.int .u8 o'.d, .int .i64 o'.r, .int .i64 o'.c, .string o'.s, .int .i64 o'.k, .bool o'.y.b, .bool o'.y.u, .bool o'.y.i, .int .i64 o'.y.f, .int .i64 o'.y.g, .int .i64 o'.t, .int .i64 o'.n] 71)
        exact e2.trans (o4.below (by simp) e2.size)
      · have f7 : (o'.d % 10 == 7) = false := by simpa using h7
        have HX : Hid (stepG 12 4 (fillN ops k) o' = putG 12 4 (fillN ops k) o'.r o'.c o'.s o'.k o'.y) := Lib.hid (by unfold stepG; rw [if_neg h5, if_neg h6, if_neg h7])
        clear h5 h6 h7
        go_wp2_with (go_at_call 64; refine (put_any g3 o'.r o'.c o'.s o'.k o'.y).mono ?_; rintro e w4 ⟨rfl, g4, o4⟩)
        refine ⟨⟨k + 1, by omega, by go_num, by rw [HS.out, HX.out]; exact g4, ?_⟩, by simp [intOf]; omega⟩
        have e1 := bto hbr hb2 hbr.size
        have e2 := e1.alloc e1.size (.cells #[.int .u8 o'.d, .int .i64 o'.r, .int .i64 o'.c, .string o'.s, .int .i64 o'.k, .bool o'.y.b, .bool o'.y.u, .bool o'.y.i, .int .i64 o'.y.f, .int .i64 o'.y.g, .int .i64 o'.t, .int .i64 o'.n] 71)
        exact e2.trans (o4.below (by simp) e2.size)
    · obtain rfl : k = M := by omega
      have hx : fillN ops k = filledL ops := by unfold filledL; rw [← HM.out]
      rw [hx] at g
      rcases hMe with rfl | rfl
      · go_wp2
        go_ret
        exact ⟨p, W.heap.size, rfl, hp, Nat.le_refl _, g, hbr⟩
      · go_wp2
        all_goals go_ret
        all_goals first | exact ⟨p, W.heap.size, rfl, hp, Nat.le_refl _, g, hbr⟩ | exact ⟨p, rfl, hp, W.heap.size, Nat.le_refl _, g, hbr⟩
end Go.Proofs.Ytcihcjlaamfjfaa
