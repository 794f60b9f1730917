/- The law WidthSums: the contract of its function, at every number and every list of runes. -/
import Derived.Test.YtcihcjlaamfjfaaWidth4
import Derived.Test.YtcihcjlaamfjfaaClose
namespace Go.Proofs.Ytcihcjlaamfjfaa
open Go.RowKit
attribute [local go_sem] Oper.semAt_some

theorem sum_at (l : List Int) (a : Option Addr) (n c : Nat) (w : World) (hn : n = l.length) (hr : Runes w.heap.size w a l) :
    Calls Try.prog 31 #[.slice a n c] w fun e w' => e = .returned (.int .i64 (sumTo l n)) ∧ Below w.heap.size w w' := by subst hn; exact sum_any l a c w hr
/-- A slice of integers that came in, as a list. -/
theorem isRow_list {w : World} {a : Option Addr} {len cap : Nat} {zs : List Int} (h : IsRow .i32 w a len cap zs) :
    ∃ l : List Int, len = l.length ∧ RowAt w.heap.size w a (i32s l) ∧ len ≤ cap ∧ cap ≤ 9223372036854775807 ∧ ∀ n ∈ l, (Lit.int .i32 n).wf = true := by
  rcases h with ⟨rfl, rfl, rfl, rfl⟩ | ⟨⟨b, off, spot⟩, rfl, h1, h2, h3, h4, h5⟩
  · exact ⟨[], rfl, RowAt.nil _ _ _, by omega, by omega, by simp⟩
  · refine ⟨zs.take len, by simp; omega, ?_, h1, by unfold maxLen at h2; omega, fun n hn => h5 n (List.mem_of_mem_take hn)⟩
    intro j hj
    rw [i32s_length] at hj
    have hj2 : j < len ∧ j < zs.length := by simp only [List.length_take] at hj; omega
    have hc := h4 j hj2.2
    have hs : spot = none := by
      have h := h4 0 (by omega)
      simpa [Addr.add] using World.cell?_spot h
    subst hs
    have e : (⟨b, off, none⟩ : Addr).add j = ⟨b, off + j, none⟩ := by
      unfold Addr.add; split
      · rename_i h; subst h; rfl
      · rfl
    rw [e] at hc
    refine ⟨b, off, rfl, ?_, ?_⟩
    · obtain ⟨o, ho, _⟩ := cells_of_cell hc
      exact (Array.getElem?_eq_some_iff.1 ho).1
    · rw [hc, i32s_nth _ _ hj]
      congr 2
      simp [nth, hj2.1]

set_option maxRecDepth 100000 in
set_option maxHeartbeats 2000000 in
theorem widthSums_law (most : Int) (a : Option Addr) (len cap : Nat) (zs : List Int) (w : World) (w0 : (Lit.int .i64 most).wf = true) (w1 : IsRow .i32 w a len cap zs) :
    Calls Try.prog 6 #[.int .i64 most, .slice a len cap] w fun e w' => e = .returned (.bool true) ∧ Below w.heap.size w w' := by
  obtain ⟨l0, hl0, hr0, hc, hm, _⟩ := isRow_list w1
  have hmost : most ≤ 9223372036854775807 := (bounds_i64 w0).2
  clear w0 w1
  obtain ⟨l, hl⟩ : ∃ l, l = l0.take 200 := ⟨_, rfl⟩
  have hr : Runes w.heap.size w a l := by
    rw [hl]
    refine ⟨fun j hj => ?_, by simp; omega⟩
    rw [i32s_length] at hj
    have hj2 : j < 200 ∧ j < l0.length := by simp only [List.length_take] at hj; omega
    obtain ⟨b, off, e, hb, hcell⟩ := hr0 j (by rw [i32s_length]; exact hj2.2)
    refine ⟨b, off, e, hb, ?_⟩
    rw [hcell, i32s_nth _ _ hj, i32s_nth _ _ hj2.2]
    simp [nth, hj2.1]
  have hfw := fewFn_any l0 a len cap w hl0 hc hm
  unfold FewPost at hfw
  rw [← hl] at hfw
  clear hl hr0 hl0
  have Hfw := Lib.hid hfw
  clear hfw
  have hlen : l.length ≤ 1000 := hr.few
  go_enter Try.func6, Try.ntmps6
  go_wp2_with fail
  refine Hfw.out.mono ?_
  rintro e w' ⟨c, rfl, hc1, hc2, rfl⟩
  go_wp2_with fail
  refine (fit_any most l a c _ hmost hr).mono ?_
  rintro e w1 ⟨n, hn, rfl, hb1⟩
  go_wp2_with fail
  refine (refFit_any most l a c _ hmost ((hr.below hb1).more hb1.size)).mono ?_
  rintro e w2 ⟨n2, hn2, rfl, hb2⟩
  obtain rfl : n2 = n := isFit_one hn2 hn
  clear hn2
  have hB2 := bnext hb1 hb2
  clear hb1 hb2
  have hnl := isFit_le hn
  go_wp2_with fail
  refine (sum_any l a c _ ((hr.below hB2).more hB2.size)).mono ?_
  rintro e w3 ⟨rfl, hb3⟩
  have hB3 := bnext hB2 hb3
  clear hB2 hb3
  go_wp2_with fail
  refine (refSum_any l a c _ ((hr.below hB3).more hB3.size)).mono ?_
  rintro e w4 ⟨rfl, hb4⟩
  have hB4 := bnext hB3 hb4
  clear hB3 hb4
  go_wp2_with fail
  refine (awake02_any _).mono ?_
  rintro e w5 ⟨rfl, hb5⟩
  have hB5 := bnext hB4 hb5
  clear hB4 hb5
  unfold IsFit at hn
  by_cases hneg : most < 0
  · rw [if_pos hneg] at hn
    subst hn
    have hz := sumTo_zero l
    go_wp2
    go_ret
    exact ⟨rfl, hB5⟩
  · rw [if_neg hneg] at hn
    obtain ⟨_, hs1, hs2⟩ := hn
    have hneg' : 0 ≤ most := by omega
    have hst : sumTo (l.take n2) n2 = sumTo l n2 := sumTo_take l n2 n2 (Nat.le_refl _)
    go_wp2_with fail
    refine (sum_at (l.take n2) a n2 c _ (by simp; omega) (((hr.take n2).below hB5).more hB5.size)).mono ?_
    rintro e w6 ⟨rfl, hb6⟩
    have hB6 := bnext hB5 hb6
    clear hB5 hb6
    by_cases hfull : n2 = l.length
    · have hf := Lib.hid hfull
      have hfi : ((n2 : Int) == (l.length : Int)) = true := by simp [hfull]
      clear hfull hs2
      go_wp2
      go_ret
      exact ⟨rfl, hB6⟩
    · have hgt := hs2.resolve_left hfull
      have hst2 : sumTo (l.take (n2 + 1)) (n2 + 1) = sumTo l (n2 + 1) := sumTo_take l _ _ (Nat.le_refl _)
      have hfi : ((n2 : Int) == (l.length : Int)) = false := by simp; omega
      have hlt : n2 < l.length := by omega
      clear hs2
      go_wp2_with fail
      refine (sum_at (l.take (n2 + 1)) a (n2 + 1) c _ (by simp; omega) (((hr.take (n2 + 1)).below hB6).more hB6.size)).mono ?_
      rintro e w7 ⟨rfl, hb7⟩
      have hB7 := bnext hB6 hb7
      clear hB6 hb7
      go_wp2
      go_ret
      exact ⟨rfl, hB7⟩
end Go.Proofs.Ytcihcjlaamfjfaa
