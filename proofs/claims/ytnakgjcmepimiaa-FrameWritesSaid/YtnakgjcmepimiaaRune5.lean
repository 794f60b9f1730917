/- The runes of bytes, one by one: the contracts of the iterators. -/
import Derived.Test.YtnakgjcmepimiaaRune4
import Derived.Test.YtnakgjcmepimiaaKB
import Derived.Test.YtnakgjcmepimiaaCMath
import Derived.Laws.IdiomStrings
namespace Go.Proofs.Ytnakgjcmepimiaa
set_option linter.unusedVariables false
set_option linter.unusedSimpArgs false
open Go.RowKit Go.Shelf Go.Maps
attribute [local go_sem] Oper.semAt_some
/-! ### the runes, each with its place -/
structure RP where
  pl : Nat
  r : Nat
  ok : isR r = true
def eachF : Nat → Nat → List UInt8 → List RP
  | 0, _, _ => []
  | _ + 1, _, [] => []
  | n + 1, k, c :: t => ⟨k, (stepL (c :: t)).1, stepL_isR _⟩ :: eachF n (k + (stepL (c :: t)).2) ((c :: t).drop (stepL (c :: t)).2)
def eachFrom (l : List UInt8) (k : Nat) : List RP := eachF (l.length - k) k (l.drop k)
def eachL (l : List UInt8) : List RP := eachFrom l 0
theorem eachF_more : ∀ (n m k : Nat) (l : List UInt8), l.length ≤ n → l.length ≤ m → eachF n k l = eachF m k l
  | 0, 0, _, _, _, _ => rfl
  | 0, m + 1, _, [], _, _ => rfl
  | 0, m + 1, _, _ :: _, h, _ => by simp at h
  | n + 1, 0, _, [], _, _ => rfl
  | n + 1, 0, _, _ :: _, _, h => by simp at h
  | n + 1, m + 1, _, [], _, _ => rfl
  | n + 1, m + 1, k, c :: t, h1, h2 => by
    simp only [List.length_cons] at h1 h2
    unfold eachF
    have hp := stepL_pos (c :: t)
    have hl : ((c :: t).drop (stepL (c :: t)).2).length ≤ t.length := by rw [List.length_drop, List.length_cons]; omega
    rw [eachF_more n m _ _ (by omega) (by omega)]
theorem eachFrom_end (l : List UInt8) (k : Nat) (h : l.length ≤ k) : eachFrom l k = [] := by
  unfold eachFrom
  rw [List.drop_eq_nil_of_le h, show l.length - k = 0 by omega]
  rfl
theorem isR_of {l : List UInt8} {r n : Nat} (hs : stepL l = (r, n)) : isR r = true := by have := stepL_isR l; rw [hs] at this; exact this
theorem eachFrom_step (l : List UInt8) (k r n : Nat) (h : k < l.length) (hs : stepL (l.drop k) = (r, n)) (ho : isR r = true) : eachFrom l k = ⟨k, r, ho⟩ :: eachFrom l (k + n) := by
  unfold eachFrom
  have hne : l.drop k ≠ [] := by
    intro e; have := congrArg List.length e; simp at this; omega
  obtain ⟨c, t, e⟩ : ∃ c t, l.drop k = c :: t := List.exists_cons_of_ne_nil hne
  have hlen : (c :: t).length = l.length - k := by rw [← e, List.length_drop]
  have hn : 1 ≤ n := by have := stepL_pos (l.drop k); rw [hs] at this; exact this
  rw [e] at hs
  rw [← hlen, e]
  show eachF (t.length + 1) k (c :: t) = _
  conv => lhs; unfold eachF
  have e3 : (⟨k, (stepL (c :: t)).1, stepL_isR _⟩ : RP) = ⟨k, r, ho⟩ := by simp [hs]
  rw [e3, hs]
  dsimp only
  have e2 : (c :: t).drop n = l.drop (k + n) := by rw [← e, List.drop_drop]
  rw [e2]
  simp only [List.length_cons] at hlen
  rw [eachF_more t.length (l.length - (k + n)) _ _ (by simp; omega) (by simp)]
theorem eachF_runes : ∀ (n k : Nat) (l : List UInt8), (eachF n k l).map RP.r = runesF n l
  | 0, _, _ => rfl
  | _ + 1, _, [] => rfl
  | n + 1, k, c :: t => by
    unfold eachF runesF
    rw [List.map_cons, eachF_runes n]
theorem eachL_runes (l : List UInt8) : (eachL l).map RP.r = runesL l := by
  have := eachF_runes l.length 0 l
  unfold eachL eachFrom
  simpa [runesL] using this
theorem eachL_len (l : List UInt8) : (eachL l).length ≤ l.length := by
  have := congrArg List.length (eachL_runes l)
  rw [List.length_map] at this
  rw [this]; exact runesL_len l
/-! ### bytes out of a string -/
theorem bytes_conv (w : World) (l : List UInt8) : ∃ cap W1, (convert 9 64 (.string (S l))).run Try.prog w = .ok (.slice (some ⟨w.heap.size, 0, none⟩) l.length cap) W1 ∧
    Below w.heap.size w W1 ∧ W1.heap.size = w.heap.size + 1 ∧ Bys W1 w.heap.size 0 l ∧ l.length ≤ cap ∧ (∀ j, j < l.length → W1.frozen? ⟨w.heap.size, j, none⟩ = false) := by
  have h := run_bytes_of_string (P := Try.prog) w 9 64 5 (S l) Try.underlying9 Try.underlying64 Try.underlying5
  obtain ⟨cap, hcap⟩ : ∃ cap, cap = grownCap w (S l).size 0 5 := ⟨_, rfl⟩
  have hge : l.length ≤ cap := by rw [hcap, ← S_size]; exact grownCap_ge _ _ _ _
  rw [← hcap, S_size] at h
  obtain ⟨W1, hW1⟩ : ∃ W1, W1 = w.drew.alloc (.cells (bytesRow (S l) cap) 5 ((bytesRow (S l) cap).size, (bytesRow (S l) cap).size + 1)) := ⟨_, rfl⟩
  rw [← hW1] at h
  have hn : W1.heap[w.heap.size]? = some (.cells (bytesRow (S l) cap) 5 ((bytesRow (S l) cap).size, (bytesRow (S l) cap).size + 1)) := by
    rw [hW1]; exact World.alloc_heap_new w.drew _
  have hsz : W1.heap.size = w.heap.size + 1 := by rw [hW1]; exact World.size_alloc w.drew _
  have hrow : ∀ j, j < l.length → (bytesRow (S l) cap)[j]? = some (.int .u8 ((nth 0 l j).toNat : Int)) := by
    intro j hj
    unfold bytesRow
    rw [Array.getElem?_append_left (by simp [S]; exact hj)]
    simp [S, nth, hj]
  have hrs : l.length ≤ (bytesRow (S l) cap).size := by simp [bytesRow, S]
  refine ⟨cap, W1, h, ?_, hsz, ⟨by omega, fun j hj => ?_⟩, hge, fun j hj => ?_⟩
  · rw [hW1]
    exact ((Below.refl _ w).drew).alloc (Nat.le_refl _) _
  · unfold World.cell?
    dsimp only
    rw [hn, Nat.zero_add]
    exact hrow j hj
  · unfold World.frozen?
    dsimp only
    rw [hn]
    simp
    omega
/-! ### the iterator -/
theorem Bys.of_block {W W' : World} {b off : Nat} {l : List UInt8} (h : Bys W b off l) (hb : W'.heap[b]? = W.heap[b]?) (hs : W.heap.size ≤ W'.heap.size) : Bys W' b off l :=
  ⟨Nat.lt_of_lt_of_le h.lt hs, fun j hj => (cell_block hb).trans (h.at_ j hj)⟩
theorem Bys.drop {W : World} {b : Nat} {l : List UInt8} (h : Bys W b 0 l) (k : Nat) : Bys W b k (l.drop k) :=
  ⟨h.lt, fun j hj => by
    rw [List.length_drop] at hj
    have := h.at_ (k + j) (by omega)
    rw [Nat.zero_add] at this
    rw [this]
    simp [nth, List.getD]⟩
theorem step_at (l : List UInt8) (b off n cap r k : Nat) (w : World) (hn : (n == l.length) = true) (hs : stepL l = (r, k)) (h0 : 1 ≤ n) (hlen : n ≤ 2000000) (hB : Bys w b off l) :
    Calls Try.prog 139 #[.slice (some ⟨b, off, none⟩) n cap] w fun e w' => e = .returned (.tuple #[.int .i32 (r : Int), .int .i64 (k : Int)]) ∧ Below w.heap.size w w' := by
  obtain rfl : n = l.length := by simpa using hn
  have := step_any l b off cap w h0 hlen hB
  rw [hs] at this
  exact this
set_option maxRecDepth 100000 in
set_option maxHeartbeats 2000000 in
theorem each1_stops (l : List UInt8) (Bx b cap : Nat) (w : World) (hbx : Bx < w.heap.size) (hcx : w.cell? ⟨Bx, 0, none⟩ = some (.slice (some ⟨b, 0, none⟩) l.length cap)) (hcap : l.length ≤ cap)
    (hB : Bys w b 0 l) (hlen : l.length ≤ 2000000) (mm : Nat) (hm : 1 ≤ mm) :
    SeqStopsK Fence.wide mm Try.prog 138 #[.pointer (some ⟨Bx, 0, none⟩)] (fun x : RP => #[Value.int .i64 x.pl, Value.int .i32 x.r]) (KB Bx b) (fun ys => ys = eachL l) (fun pre => pre <+: eachL l) l.length w := by
  intro L J Jx W hW0 hJ hJx hY h0
  have hW := KB.of_below hW0 hbx hB.lt
  clear hW0
  refine callsIn_of_wp Try.func138 rfl trivial ?_ rfl
  simp only [Try.ntmps138, List.size_toArray, List.length_cons, List.length_nil, Nat.reduceAdd, Nat.reduceSub, Array.replicate_succ, Array.replicate_zero, List.push_toArray, List.append_toArray, List.nil_append, List.cons_append]
  gi_wp2
  obtain ⟨z, hz⟩ : ∃ z : Nat, z = l.length := ⟨_, rfl⟩
  have HE := Lib.hid (eachL_len l)
  rw [← hz] at hcx hcap hlen hY
  have HZ := Lib.hid hz
  clear hz
  gi_loopw [3] (fun i wr => ∃ (k : Nat) (pre : List RP), k ≤ z ∧ i = .int .i64 (k : Int) ∧ J pre wr ∧ KB Bx b W wr ∧ Hid (eachL l = pre ++ eachFrom l k))
    (fun i _ => z - (intOf i).toNat)
  case atStart => exact ⟨0, [], Nat.zero_le _, rfl, h0, KB.refl _ _ _, Lib.hid rfl⟩
  case round =>
    obtain ⟨k, pre, hk, rfl, hJs, hnx, hpre⟩ := hrel
    have hbw := hW.trans hnx
    have hx := (cell_block hbw.a).trans hcx
    have hBr := hB.of_block hbw.b hbw.size
    by_cases hlt : k < z
    · obtain ⟨r, n, hs⟩ : ∃ r n, stepL (l.drop k) = (r, n) := ⟨_, _, rfl⟩
      have hlt' : k < l.length := by rw [← HZ.out]; exact hlt
      have hn1 : 1 ≤ n := by have := stepL_pos (l.drop k); rw [hs] at this; exact this
      have hn2 : n ≤ z - k := by
        have := stepL_le (l.drop k) (by intro e; have := congrArg List.length e; simp at this; omega)
        rw [hs, List.length_drop, ← HZ.out] at this; exact this
      have hkc : k < cap := by omega
      have CS := Lib.hid (fun (W' : World) (h : Bys W' b k (l.drop k)) => step_at (l.drop k) b k (z - k) (cap - k) r n W' (by rw [List.length_drop, ← HZ.out]; simp) hs (by omega) (by omega) h)
      have hok := isR_of hs
      have HS := Lib.hid (eachFrom_step l k r n hlt' hs hok)
      clear hlt' hs
      gi_wp2_with fail
      refine ⟨trivial, ?_⟩
      refine (callsIn_wide.2 (CS.out _ (hBr.drop k))).mono ?_
      rintro e w2 ⟨rfl, hb2⟩
      have hlp : pre.length < z := by
        have h1 := congrArg List.length hpre.out
        rw [HS.out, List.length_append, List.length_cons] at h1
        have h2 := HE.out
        rw [← HZ.out] at h2
        omega
      obtain ⟨fn, tmps, assign, body, hy, hR⟩ := hY pre ⟨k, r, hok⟩ w2 (hJ _ _ _ none hJs (grown_of_below hb2) (fun r e => by cases e)) hlp
      dsimp only at hy
      gi_wp2
      refine hR.mono ?_
      rintro e W3 (⟨rfl, hJ3, hk3⟩ | ⟨rfl, hJx3⟩)
      · gi_wp2
        go_roundw
        case rel => exact ⟨k + n, pre ++ [⟨k, r, hok⟩], by omega, by go_num, hJ3, (hnx.trans (KB.of_below hb2 (by have := hbw.size; omega) (by have := hbw.size; have := hB.lt; omega))).trans hk3, Lib.hid (by rw [hpre.out, HS.out]; simp)⟩
        case measure => simp [intOf]; omega
      · gi_wp2
        refine bodyPost_ret (results_none rfl _ _ _) rfl ?_
        exact ⟨⟨_, rfl⟩, .inr ⟨_, ⟨eachFrom l (k + n), by rw [hpre.out, HS.out]; simp⟩, hJx3⟩⟩
    · obtain rfl : k = z := by omega
      gi_wp2
      go_end0
      exact ⟨⟨_, rfl⟩, .inl ⟨_, by rw [hpre.out, eachFrom_end l k (by rw [HZ.out]; exact Nat.le_refl _)]; simp, hJs⟩⟩
/-- The iterator over the runes of l. -/
structure RSeq (w w' : World) (l : List UInt8) (e : Ending) (Bx b cap : Nat) : Prop where
  en : e = .returned (.func (.func 138) #[] #[.pointer (some ⟨Bx, 0, none⟩)])
  bx : w.heap.size ≤ Bx ∧ Bx < w'.heap.size
  bl : w.heap.size ≤ b
  cell : w'.cell? ⟨Bx, 0, none⟩ = some (.slice (some ⟨b, 0, none⟩) l.length cap)
  capge : l.length ≤ cap
  bys : Bys w' b 0 l
  below : Below w.heap.size w w'
theorem each_any (a : Option Addr) (n c : Nat) (w : World) : Calls Try.prog 123 #[.slice a n c] w fun e w' => e = .returned (.func (.func 138) #[] #[.pointer (some ⟨w.heap.size, 0, none⟩)]) ∧ w.alloc (.cells #[.slice a n c] 64) = w' := by
  go_enter Try.func123, Try.ntmps123
  go_wp2
  go_ret
  exact ⟨rfl, rfl⟩
theorem rall_any (l : List UInt8) (w : World) : Calls Try.prog 104 #[.string (S l)] w fun e w' => ∃ Bx b cap, RSeq w w' l e Bx b cap := by
  obtain ⟨cap, W1, hrun, hb1, hs1, hB, hcap, _⟩ := bytes_conv w l
  go_enter Try.func104, Try.ntmps104
  go_wp2_with (go_at_call 123; refine (each_any _ _ _ _).mono ?_; rintro e w2 ⟨rfl, rfl⟩)
  go_ret
  have hc := cell_new_l W1 (.slice (some ⟨w.heap.size, 0, none⟩) l.length cap) 64
  have hb2 : Below W1.heap.size W1 (W1.alloc (.cells #[.slice (some ⟨w.heap.size, 0, none⟩) l.length cap] 64)) := (Below.refl _ _).alloc (Nat.le_refl _) _
  rw [hs1] at hc
  exact ⟨w.heap.size + 1, w.heap.size, cap, rfl, ⟨by omega, by simp; omega⟩, Nat.le_refl _, hc.1, hcap, hB.below hb2, hb1.trans (hb2.mono (by omega))⟩
end Go.Proofs.Ytnakgjcmepimiaa
