/- A row's text (reference). No condition. -/
import Derived.Test.YtnakgjcmepimiaaFrame5
namespace Go.Proofs.Ytnakgjcmepimiaa
set_option linter.unusedVariables false
set_option linter.unusedSimpArgs false
open Go.RowKit Go.Shelf Go.Maps
/-- The text of a row of cells. -/
def lineT (M : List GC) : List UInt8 := M.flatMap fun c => c.s.data.toList
theorem lineT_take (M : List GC) (k : Nat) (h : k < M.length) : lineT (M.take (k + 1)) = lineT (M.take k) ++ (nth GC.zero M k).s.data.toList := by
  unfold lineT
  rw [List.take_succ_eq_append_getElem h, List.flatMap_append, nth_eq _ _ _ h]
  simp
theorem lineT_len (M : List GC) (h : ∀ c ∈ M, c.s.size ≤ 64) : (lineT M).length ≤ 64 * M.length := by
  induction M with
  | nil => simp [lineT]
  | cons c M ih =>
    have h1 := ih (fun d hd => h d (List.mem_cons_of_mem _ hd))
    have h2 := h c (List.mem_cons_self ..)
    unfold lineT at h1 ⊢
    rw [List.flatMap_cons, List.length_append, List.length_cons]
    have : c.s.data.toList.length = c.s.size := by rw [Array.length_toList]; rfl
    omega
theorem S_list (s : ByteArray) : S s.data.toList = s := by
  obtain ⟨l⟩ := s
  unfold S
  simp
set_option maxRecDepth 100000 in
set_option maxHeartbeats 4000000 in
theorem fline_any {W : World} {a : Option Addr} {n cap : Nat} {M : List GC} (hM : CellsAt W a n M) (hn : n ≤ 1000) (hs : ∀ c ∈ M, c.s.size ≤ 64) :
    Calls Try.prog 13 #[.slice a n cap] W fun e w' => e = .returned (.string (S (lineT M))) ∧ Below W.heap.size W w' := by
  have l1 := hM.len
  have hlen : ∀ k, (lineT (M.take k)).length ≤ 64000 := fun k => by
    have h1 := lineT_len (M.take k) (fun c hc => hs c (List.mem_of_mem_take hc))
    rw [List.length_take] at h1
    omega
  have HLEN := Lib.hid hlen
  clear hlen
  go_enter Try.func13, Try.ntmps13
  go_wp2
  go_loopw [4, 3] (fun i g wr => ∃ k : Nat, k ≤ n ∧ i = .int .i64 k ∧ g = .string (S (lineT (M.take k))) ∧ Below W.heap.size W wr) (fun i _ _ => n - (intOf i).toNat)
  case atStart => exact ⟨0, Nat.zero_le _, rfl, rfl, Below.refl _ _⟩
  case round =>
    obtain ⟨k, hk, rfl, rfl, hb⟩ := hrel
    by_cases hlt : k < n
    · have hCi : M[k]? = some (nth GC.zero M k) := by rw [nth_eq _ _ _ (by omega), List.getElem?_eq_getElem (by omega)]
      have HT := Lib.hid (lineT_take M k (by omega))
      have hsz := hs (nth GC.zero M k) (by rw [nth_eq _ _ _ (by omega)]; exact List.getElem_mem (by omega))
      obtain ⟨b1, o1, rfl, hb1, r1⟩ := (hM.below hb).at_ k _ hCi
      obtain ⟨C, hC⟩ : ∃ C, C = nth GC.zero M k := ⟨_, rfl⟩
      rw [← hC] at HT hsz r1
      obtain ⟨x0, _⟩ := vals_at r1
      have hL := HLEN.out k
      obtain ⟨T, hT⟩ : ∃ T, T = lineT (M.take k) := ⟨_, rfl⟩
      rw [← hT] at HT hL ⊢
      have hsT := S_size T
      have HAP := Lib.hid (show S T ++ C.s = S (T ++ C.s.data.toList) by rw [← S_append, S_list])
      clear hT hC hCi r1
      go_wp2
      go_roundw
      case rel => exact ⟨k + 1, hlt, by go_num, by rw [HT.out, ← HAP.out], hb⟩
      case measure => simp [intOf]; omega
    · obtain rfl : k = n := by omega
      rw [← l1, List.take_length, l1]
      go_wp2
      go_ret
      exact ⟨rfl, hb⟩
end Go.Proofs.Ytnakgjcmepimiaa
