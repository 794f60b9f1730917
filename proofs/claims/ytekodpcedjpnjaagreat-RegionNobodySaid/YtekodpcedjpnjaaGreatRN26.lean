/- The reference's grid: Text; equal cells and styles compared. No condition but that the rows' strings are not too long. -/
import Derived.Still
import Derived.Deep.QuietTactic
import Derived.Shelf.RegionOpenPlain
import Derived.BigQuiet
import Derived.Test.YtekodpcedjpnjaaGreatRN01
import Derived.Test.YtekodpcedjpnjaaGreatRN02
import Derived.Test.YtekodpcedjpnjaaGreatRN06
import Derived.Test.YtekodpcedjpnjaaGreatRN21
import Derived.Test.YtekodpcedjpnjaaGreatRN22
import Derived.Test.YtekodpcedjpnjaaGreatRN24
import Derived.Test.YtekodpcedjpnjaaGreatRN25
set_option linter.unusedVariables false
set_option linter.unusedSimpArgs false
namespace Go.Proofs.YtekodpcedjpnjaaGreat
open Go.RowKit Go.Shelf Go.Maps
theorem S_cut (l : List UInt8) (n : Nat) : (S l).extract 0 n = S (l.take n) := by
  unfold S
  apply ByteArray.ext
  rw [ByteArray.data_extract]
  apply Array.ext'
  simp [List.extract]
theorem textL_line (M : List GC) : textL M = lineT M := rfl
set_option maxRecDepth 100000 in
set_option maxHeartbeats 8000000 in
theorem rtext_ok {F : Nat → Prop} {W : World} {a : Option Addr} {cap w h : Nat} {R : List (List GC)} (g : RG F W a cap w h R) (ro : ROk R) (hw5 : w ≤ 500) (r : Int) (h0 : 0 ≤ r) (h1 : r < h) :
    Calls Tryz.prog 67 #[.agg #[.int .i64 w, .int .i64 h, .slice a h cap], .int .i64 r] W fun e w' => e = .returned (.string (S (trimL (textL (nth [] R r.toNat))))) ∧ Below W.heap.size W w' := by
  have b1 : Below W.heap.size W (W.alloc (.cells #[.int .i64 w, .int .i64 h, .slice a h cap] 29)) := (Below.refl _ _).alloc (Nat.le_refl _) _
  have CC := Lib.hid (rcells_ok (g.below b1) r h0 h1)
  have hs : ∀ c ∈ nth [] R r.toNat, c.s.size ≤ 64 := fun c hc => ro.at _ c hc
  have hMl : (nth [] R r.toNat).length = w := g.ok.at (by omega)
  obtain ⟨M, hM⟩ : ∃ M, M = nth [] R r.toNat := ⟨_, rfl⟩
  rw [← hM] at CC hs hMl ⊢
  have hlen : ∀ k, (lineT (M.take k)).length ≤ 64000 := fun k => by
    have h1 := lineT_len (M.take k) (fun c hc => hs c (List.mem_of_mem_take hc))
    rw [List.length_take] at h1
    omega
  have HLEN := Lib.hid hlen
  have HMl := Lib.hid hMl
  have HS := Lib.hid hs
  rw [textL_line]
  clear hlen g ro hM h0 h1 hMl hs
  go_enter Tryz.func67, Tryz.ntmps67
  go_wp2_with fail
  refine (CC.out).mono ?_
  rintro e w1 ⟨a2, c2, rfl, hM, ⟨_, _⟩, hb1⟩
  have B1 := bto b1 hb1 b1.size
  clear b1 hb1
  go_wp2
  go_loopw [7, 6] (fun i g wr => ∃ k : Nat, k ≤ w ∧ i = .int .i64 k ∧ g = .string (S (lineT (M.take k))) ∧ Below w1.heap.size w1 wr) (fun i _ _ => w - (intOf i).toNat)
  case atStart => exact ⟨0, Nat.zero_le _, rfl, rfl, Below.refl _ _⟩
  case round =>
    obtain ⟨k, hk, rfl, rfl, hb⟩ := hrel
    by_cases hlt : k < w
    · have hMl := HMl.out
      have hCi : M[k]? = some (nth GC.zero M k) := by rw [nth_eq _ _ _ (by omega), List.getElem?_eq_getElem (by omega)]
      have HT := Lib.hid (lineT_take M k (by omega))
      have hsz := HS.out (nth GC.zero M k) (by rw [nth_eq _ _ _ (by omega)]; exact List.getElem_mem (by omega))
      obtain ⟨b1, o1, rfl, hb1, r1⟩ := (hM.below hb).at_ k _ hCi
      obtain ⟨C, hC⟩ : ∃ C, C = nth GC.zero M k := ⟨_, rfl⟩
      rw [← hC] at HT hsz r1
      obtain ⟨x0, _⟩ := vals_at r1
      have hL := HLEN.out k
      obtain ⟨T, hT⟩ : ∃ T, T = lineT (M.take k) := ⟨_, rfl⟩
      rw [← hT] at HT hL ⊢
      have hsT := S_size T
      have HAP := Lib.hid (show S T ++ C.s = S (T ++ C.s.data.toList) by rw [← S_append, S_list])
      clear hT hC hCi r1 hMl
      go_wp2
      go_roundw
      case rel => exact ⟨k + 1, hlt, by go_num, by rw [HT.out, ← HAP.out], hb⟩
      case measure => simp [intOf]; omega
    · obtain rfl : k = w := by omega
      have ht : M.take k = M := List.take_of_length_le (by rw [HMl.out]; exact Nat.le_refl _)
      have hL := HLEN.out k
      rw [ht] at hL ⊢
      obtain ⟨T, hT⟩ : ∃ T, T = lineT M := ⟨_, rfl⟩
      rw [← hT] at hL ⊢
      have BV := bto B1 hb B1.size
      have hsz := S_size T
      have hget := S_get T
      have hcut := S_cut T
      obtain ⟨len, hlen⟩ : ∃ n, n = T.length := ⟨_, rfl⟩
      rw [← hlen] at hL hsz
      have HL := Lib.hid hlen
      have HTL : Hid (trimL (lineT M) = T.take (trimN T len)) := Lib.hid (by rw [← hT, hlen]; rfl)
      clear hlen ht hT
      go_wp2
      go_loop [8] (fun i => ∃ n : Nat, n ≤ len ∧ i = .int .i64 n ∧ Hid (trimN T len = trimN T n)) (fun i => (intOf i).toNat)
      case atStart => exact ⟨len, Nat.le_refl _, rfl, rfl⟩
      case round =>
        obtain ⟨n, hn, rfl, htr⟩ := hrel
        cases n with
        | zero =>
          have hz : trimN T len = 0 := by rw [htr.out]; rfl
          have HZ := Lib.hid hz
          clear hz
          go_wp2
          go_ret
          exact ⟨ret_str (by rw [HTL.out, HZ.out]; rfl), BV⟩
        | succ n =>
          have hn1 : n + 1 ≤ len := hn
          by_cases h32 : nth 0 T n = 32
          · have hs : trimN T (n + 1) = trimN T n := by rw [trimN, if_pos h32]
            have HS := Lib.hid hs
            have he : (((nth 0 T n).toNat : Int) == 32) = true := by rw [h32]; rfl
            clear hs h32
            go_wp2
            go_round
            case rel => exact ⟨n, by omega, by go_num, Lib.hid (htr.out.trans HS.out)⟩
            case measure => simp [intOf]
          · have HZ : Hid (trimN T len = n + 1) := Lib.hid (by rw [htr.out, trimN, if_neg h32])
            have hne : (((nth 0 T n).toNat : Int) == 32) = false := by
              have : (nth 0 T n).toNat ≠ 32 := fun h => h32 (UInt8.toNat_inj.1 h)
              simp; omega
            go_wp2
            go_ret
            exact ⟨ret_str (by rw [HTL.out, HZ.out]), BV⟩
end Go.Proofs.YtekodpcedjpnjaaGreat
