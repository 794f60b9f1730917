/- The law FrameChecks: the reference's text of a row whose text is not too long. No condition but that. -/
import Derived.Test.YtekodpcedjpnjaaFrame9
namespace Go.Proofs.Ytekodpcedjpnjaa
set_option linter.unusedVariables false
set_option linter.unusedSimpArgs false
open Go.RowKit Go.Shelf Go.Maps
theorem lineT_le (M : List GC) (k : Nat) : (lineT (M.take k)).length ≤ (lineT M).length := by
  have h : lineT M = lineT (M.take k) ++ lineT (M.drop k) := by
    unfold lineT
    rw [← List.flatMap_append, List.take_append_drop]
  rw [h, List.length_append]
  omega
theorem lineT_mem {M : List GC} {c : GC} (h : c ∈ M) : c.s.size ≤ (lineT M).length := by
  induction M with
  | nil => cases h
  | cons d M ih =>
    have h3 : (lineT (d :: M)).length = d.s.size + (lineT M).length := by
      unfold lineT
      rw [List.flatMap_cons, List.length_append, Array.length_toList, ByteArray.size_data]
    rcases List.mem_cons.1 h with rfl | h
    · omega
    · have := ih h; omega
set_option maxRecDepth 100000 in
set_option maxHeartbeats 4000000 in
theorem rline_any {W : World} {a : Option Addr} {n cap : Nat} {M : List GC} (hM : CellsAt W a n M) (hn : n ≤ 100000) (hs : (lineT M).length ≤ 2000000) :
    Calls Try.prog 21 #[.slice a n cap] W fun e w' => e = .returned (.string (S (lineT M))) ∧ Below W.heap.size W w' := by
  have l1 := hM.len
  have HLEN := Lib.hid (fun k => Nat.le_trans (lineT_le M k) hs)
  have HSZ := Lib.hid (fun c (hc : c ∈ M) => Nat.le_trans (lineT_mem hc) hs)
  clear hs
  go_enter Try.func21, Try.ntmps21
  go_wp2
  go_loopw [4, 3] (fun i g wr => ∃ k : Nat, k ≤ n ∧ i = .int .i64 k ∧ g = .string (S (lineT (M.take k))) ∧ Below W.heap.size W wr) (fun i _ _ => n - (intOf i).toNat)
  case atStart => exact ⟨0, Nat.zero_le _, rfl, rfl, Below.refl _ _⟩
  case round =>
    obtain ⟨k, hk, rfl, rfl, hb⟩ := hrel
    by_cases hlt : k < n
    · have hCi : M[k]? = some (nth GC.zero M k) := by rw [nth_eq _ _ _ (by omega), List.getElem?_eq_getElem (by omega)]
      have HT := Lib.hid (lineT_take M k (by omega))
      have hsz := HSZ.out (nth GC.zero M k) (by rw [nth_eq _ _ _ (by omega)]; exact List.getElem_mem (by omega))
      obtain ⟨b1, o1, rfl, hb1, r1⟩ := (hM.below hb).at_ k _ hCi
      obtain ⟨C, hC⟩ : ∃ C, C = nth GC.zero M k := ⟨_, rfl⟩
      rw [← hC] at HT hsz r1
      obtain ⟨x0, _⟩ := vals_at r1
      have hL := HLEN.out k
      obtain ⟨T, hT⟩ : ∃ T, T = lineT (M.take k) := ⟨_, rfl⟩
      rw [← hT] at HT hL ⊢
      have hsT := S_size T
      have HAP := Lib.hid (show S T ++ C.s = S (T ++ C.s.data.toList) by rw [← S_append, S_list])
      clear hT hC hCi r1
      go_wp2
      go_roundw
      case rel => exact ⟨k + 1, hlt, by go_num, by rw [HT.out, ← HAP.out], hb⟩
      case measure => simp [intOf]; omega
    · obtain rfl : k = n := by omega
      rw [← l1, List.take_length, l1]
      go_wp2
      go_ret
      exact ⟨rfl, hb⟩
end Go.Proofs.Ytekodpcedjpnjaa
