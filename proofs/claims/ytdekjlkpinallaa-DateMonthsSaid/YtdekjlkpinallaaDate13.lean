/- The days of a month, one by one: the iterator. -/
import Derived.Test.YtdekjlkpinallaaDate12
import Derived.RangeFuncFrom
import Derived.RangeFuncWrites
namespace Go.Proofs.Ytdekjlkpinallaa
open Go.RowKit Go.Shelf Go.Maps
attribute [local go_sem] Oper.semAt_some
theorem grown_of_below {W W' : World} (h : Below W.heap.size W W') : W.grownBy W' none := ⟨h.os, h.tape, h.output, h.size, fun k hk _ => h.block k hk⟩
/-- What the iterator needs of the worlds between two rounds: its two boxes abide. -/
structure KB (A B : Nat) (W W' : World) : Prop where
  a : W'.heap[A]? = W.heap[A]?
  b : W'.heap[B]? = W.heap[B]?
  size : W.heap.size ≤ W'.heap.size
theorem KB.refl (A B : Nat) (W : World) : KB A B W W := ⟨rfl, rfl, Nat.le_refl _⟩
theorem KB.trans {A B : Nat} {u v w : World} (h : KB A B u v) (k : KB A B v w) : KB A B u w := ⟨k.a.trans h.a, k.b.trans h.b, Nat.le_trans h.size k.size⟩
theorem KB.of_below {A B n : Nat} {W W' : World} (h : Below n W W') (ha : A < n) (hb : B < n) : KB A B W W' := ⟨h.block A ha, h.block B hb, h.size⟩
theorem KB.put {A B : Nat} {w : World} (ha : A < w.heap.size) (hb : B < w.heap.size) (W : World) (l : Nat) (o o' : Obj) (hl : w.heap.size ≤ l) (h : W.heap[l]? = some o) (h1 : o.isCells = false) (h2 : o.isWalk = false) : KB A B W (W.putObj l o') :=
  KB.of_below (belowK_b (Nat.le_refl _) W l o o' hl h h1 h2) ha hb
theorem cell_block {W W' : World} {b o : Nat} (h : W'.heap[b]? = W.heap[b]?) : W'.cell? ⟨b, o, none⟩ = W.cell? ⟨b, o, none⟩ := by unfold World.cell?; dsimp only; rw [h]
def dayX (y m : Int) (j : Nat) : Int × List UInt8 := ((j : Int) + 1, textL y m ((j : Int) + 1))
def dayList (y m : Int) : List (Int × List UInt8) := (List.range (daysI y m).toNat).map (dayX y m)
theorem dayList_len (y m : Int) : (dayList y m).length = (daysI y m).toNat := by simp [dayList]
theorem dayList_get {y m : Int} {j : Nat} (h : j < (daysI y m).toNat) : (dayList y m)[j]? = some (dayX y m j) := by simp [dayList, h]
theorem take_days {y m : Int} {k : Nat} (h : k < (daysI y m).toNat) : (dayList y m).take (k + 1) = (dayList y m).take k ++ [dayX y m k] := by
  rw [List.take_succ_eq_append_getElem (by rw [dayList_len]; exact h)]
  have := dayList_get h
  rw [List.getElem?_eq_some_iff] at this
  rw [this.2]
theorem all20_any (y m : Int) (w : World) : Calls Try.prog 38 #[.int .i64 y, .int .i64 m] w fun e w' =>
    e = .returned (.func (.func 51) #[] #[.pointer (some ⟨w.heap.size, 0, none⟩), .pointer (some ⟨w.heap.size + 1, 0, none⟩)]) ∧ (w.alloc (.cells #[.int .i64 y] 3)).alloc (.cells #[.int .i64 m] 3) = w' := by
  go_enter Try.func38, Try.ntmps38
  go_wp2
  go_ret
  exact ⟨rfl, rfl⟩
set_option maxRecDepth 100000 in
set_option maxHeartbeats 2000000 in
theorem all1_stops (y m : Int) (By Bm : Nat) (w : World) (hby : By < w.heap.size) (hbm : Bm < w.heap.size)
    (hcy : w.cell? ⟨By, 0, none⟩ = some (.int .i64 y)) (hcm : w.cell? ⟨Bm, 0, none⟩ = some (.int .i64 m)) (mm : Nat) (hm : 1 ≤ mm) :
    SeqStopsK Fence.wide mm Try.prog 51 #[.pointer (some ⟨By, 0, none⟩), .pointer (some ⟨Bm, 0, none⟩)] (fun x : Int × List UInt8 => #[Value.int .i64 x.1, Value.string (S x.2)]) (KB By Bm) (fun ys => ys = dayList y m) (fun pre => pre <+: dayList y m) (daysI y m).toNat w := by
  intro l J Jx W hW0 hJ hJx hY h0
  have hW := KB.of_below hW0 hby hbm
  clear hW0
  refine callsIn_of_wp Try.func51 rfl trivial ?_ rfl
  simp only [Try.ntmps51, List.size_toArray, List.length_cons, List.length_nil, Nat.reduceAdd, Nat.reduceSub, Array.replicate_succ, Array.replicate_zero, List.push_toArray, List.append_toArray, List.nil_append, List.cons_append]
  gi_wp2
  have hdl := days_le y m
  obtain ⟨z, hz⟩ : ∃ z : Nat, daysI y m = (z : Int) := ⟨(daysI y m).toNat, by omega⟩
  have hzn : (daysI y m).toNat = z := by omega
  have CD := fun W => days_any y m W
  rw [hz] at CD hdl
  have CD := Lib.hid CD
  have hyr : 0 < z → 1 ≤ y ∧ y ≤ 9999 ∧ 1 ≤ m ∧ m ≤ 12 := fun h => days_pos (by omega)
  rw [hzn] at hY
  have HZ := Lib.hid (And.intro hz hzn)
  clear hz hzn
  gi_loopw [4] (fun i wr => ∃ k : Nat, k ≤ z ∧ i = .int .i64 ((k : Int) + 1) ∧ J ((dayList y m).take k) wr ∧ KB By Bm W wr)
    (fun i _ => (40 - intOf i).toNat)
  case atStart => exact ⟨0, Nat.zero_le _, rfl, h0, KB.refl _ _ _⟩
  case round =>
    obtain ⟨k, hk, rfl, hJs, hnx⟩ := hrel
    have hbw := hW.trans hnx
    have hxy := (cell_block hbw.a).trans hcy
    have hxm := (cell_block hbw.b).trans hcm
    by_cases hlt : k < z
    · obtain ⟨y1, y2, m1, m2⟩ := hyr (by omega)
      have CT := Lib.hid (fun W => text_any y m ((k : Int) + 1) (by omega) (by omega) (by omega) (by omega) (by omega) (by omega) W)
      have hle : (k : Int) + 1 ≤ (z : Int) := by omega
      gi_wp2_with (refine ⟨trivial, ?_⟩; gi_at_call 12; refine (callsIn_wide.2 (CD.out _)).mono ?_; rintro e w2 ⟨rfl, hb2⟩; obtain ⟨hc2, _⟩ := bcell hb2; have hxy2 := (hb2.cell (p := ⟨By, 0, none⟩) (by show By < _; have := hbw.size; omega)).trans hxy; have hxm2 := (hb2.cell (p := ⟨Bm, 0, none⟩) (by show Bm < _; have := hbw.size; omega)).trans hxm)
      refine ⟨trivial, ?_⟩
      refine (callsIn_wide.2 (CT.out _)).mono ?_
      rintro e w3 ⟨rfl, hb3⟩
      have hb23 := bnext hb2 hb3
      obtain ⟨fn, tmps, assign, body, hy, hR⟩ := hY ((dayList y m).take k) (dayX y m k) w3 (hJ _ _ _ none hJs (grown_of_below hb23) (fun r e => by cases e)) (by rw [List.length_take]; omega)
      dsimp only [dayX] at hy
      gi_wp2
      refine hR.mono ?_
      rintro e W3 (⟨rfl, hJ3, hk3⟩ | ⟨rfl, hJx3⟩)
      · gi_wp2
        go_roundw
        case rel => exact ⟨k + 1, by omega, by go_num, by rw [take_days (by rw [HZ.out.2]; exact hlt)]; exact hJ3, (hnx.trans (KB.of_below hb23 (by have := hbw.size; omega) (by have := hbw.size; omega))).trans hk3⟩
        case measure => simp [intOf]; omega
      · gi_wp2
        refine bodyPost_ret (results_none rfl _ _ _) rfl ?_
        exact ⟨⟨_, rfl⟩, .inr ⟨_, by rw [← take_days (by rw [HZ.out.2]; exact hlt)]; exact List.take_prefix _ _, hJx3⟩⟩
    · obtain rfl : k = z := by omega
      gi_wp2_with (refine ⟨trivial, ?_⟩; gi_at_call 12; refine (callsIn_wide.2 (CD.out _)).mono ?_; rintro e w2 ⟨rfl, hb2⟩)
      go_end0
      exact ⟨⟨_, rfl⟩, .inl ⟨_, rfl, by rw [← List.take_of_length_le (l := dayList y m) (i := k) (by rw [dayList_len, HZ.out.2]; omega)]; exact hJ _ _ _ none hJs (grown_of_below hb2) (fun r e => by cases e)⟩⟩
end Go.Proofs.Ytdekjlkpinallaa
