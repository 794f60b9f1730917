/- Print and Show: program. No condition. Show: program. No condition. Read: program. No condition. Feed: program. No condition. The iterator over a mask's pieces; Slots. No condition. -/
import Derived.Test.YtmdpmjabjijjiaaMask7
namespace Go.Proofs.Ytmdpmjabjijjiaa
set_option linter.unusedVariables false
set_option linter.unusedSimpArgs false
open Go.RowKit Go.Shelf Go.Maps
theorem printL_snoc (L : PL) (p : Nat × List UInt8) : printL (L ++ [p]) = printL L ++ printP p := by simp [printL]
theorem printP_len (p : Nat × List UInt8) (h : Clu p.2) : (printP p).length ≤ 65 := by
  have := h.len
  unfold printP
  split <;> simp <;> omega
theorem printL_len : ∀ (L : PL), (∀ p ∈ L, Clu p.2) → (printL L).length ≤ 65 * L.length
  | [], _ => Nat.le_refl _
  | p :: t, h => by
    have h1 := printP_len p (h p (List.mem_cons_self ..))
    have h2 := printL_len t (fun q hq => h q (List.mem_cons_of_mem _ hq))
    have e : printL (p :: t) = printP p ++ printL t := by simp [printL]
    rw [e, List.length_append, List.length_cons]; omega
theorem PLok.take {L : PL} (h : PLok L) (k : Nat) : PLok (L.take k) :=
  ⟨by have := h.len; rw [List.length_take]; omega, fun p hp => h.clu p (List.mem_of_mem_take hp), fun p hp => h.sort p (List.mem_of_mem_take hp)⟩
theorem PLok.at_ {L : PL} (h : PLok L) {k : Nat} (hk : k < L.length) : Clu (nth pd L k).2 ∧ ((nth pd L k).1 = 0 ∨ (nth pd L k).1 = sortB (nth pd L k).2) := by
  rw [nth_eq _ _ _ hk]
  exact ⟨h.clu _ (List.getElem_mem hk), h.sort _ (List.getElem_mem hk)⟩
set_option maxRecDepth 100000 in
set_option maxHeartbeats 4000000 in
theorem mprint_any {w : World} {p a : Option Addr} {n c : Nat} {L : PL} (h : MaskAt w p a n c L) (hL : PLok L) : Calls Try.prog 41 #[.pointer p] w fun e w' => e = .returned (.string (S (printL L))) ∧ Below w.heap.size w w' := by
  have CA := Lib.hid (mall_any h)
  have hrow := h.row
  have hn : n ≤ 300 := by rw [h.len]; exact hL.len
  have HN := Lib.hid h.len
  have HL := Lib.hid hL
  clear h hL
  go_enter Try.func41, Try.ntmps41
  go_wp2_with (go_at_call 97; refine (CA.out).mono ?_; rintro e w1 ⟨rfl, rfl⟩)
  go_loopw [9, 3] (fun i v wr => ∃ k : Nat, k ≤ n ∧ i = .int .i64 (k : Int) ∧ v = .string (S (printL (L.take k))) ∧ Below w.heap.size w wr)
    (fun i _ _ => n - (intOf i).toNat)
  case atStart => exact ⟨0, Nat.zero_le _, rfl, rfl, Below.refl _ _⟩
  case round =>
    obtain ⟨k, hk, rfl, rfl, hbr⟩ := hrel
    have hbs := hbr.size
    by_cases hlt : k < n
    · have hkL : k < L.length := by rw [← HN.out]; exact hlt
      obtain ⟨b, off, rfl, hb, hc0, hc1⟩ := mp_at hrow k hkL
      have hd0 := (hbr.cell (p := ⟨b, off + k * 2, none⟩) hb).trans hc0
      have hd1 := (hbr.cell (p := ⟨b, off + k * 2 + 1, none⟩) hb).trans hc1
      have hst : printL (L.take (k + 1)) = printL (L.take k) ++ printP (nth pd L k) := by rw [take_snoc L k hkL, printL_snoc]
      unfold printP at hst
      have hpl := printL_len (L.take k) (HL.out.take k).clu
      rw [List.length_take] at hpl
      have hcl := (HL.out.at_ hkL).1.len
      obtain ⟨q, hq⟩ : ∃ q, q = (nth pd L k).1 := ⟨_, rfl⟩
      obtain ⟨s, hs⟩ : ∃ s, s = (nth pd L k).2 := ⟨_, rfl⟩
      obtain ⟨X, hX⟩ : ∃ X, X = printL (L.take k) := ⟨_, rfl⟩
      rw [← hq] at hd0
      rw [← hs] at hd1 hcl
      rw [← hq, ← hs, ← hX] at hst
      rw [← hX] at hpl ⊢
      have hXl : X.length ≤ 20000 := by omega
      have hsX := S_size X
      have hsS := S_size s
      have CS := Lib.hid (fun W => slot_any s W)
      have hs92 := S_const s [92]
      have hap1 : S X ++ ({ data := #[92] } : ByteArray) = S (X ++ [92]) := S_append X [92]
      have hsX2 : (S (X ++ [92])).size = X.length + 1 := by rw [S_size]; simp
      have HAP2 := Lib.hid (S_append (X ++ [92]) s)
      have HAP := Lib.hid (S_append X s)
      clear hq hs hX hc0 hc1 hkL hpl
      by_cases h0 : q = 0
      · have hq2 : ((q : Int) == 0) = true := by simp [h0]
        by_cases h1 : s = [92]
        · rw [decide_eq_true h1] at hs92
          rw [if_pos ⟨h0, .inl h1⟩] at hst
          have HST := Lib.hid hst
          clear h0 h1 hst
          go_wp2
          go_roundw
          case rel => exact ⟨k + 1, by omega, by go_num, by rw [HAP2.out, HST.out, List.append_assoc]; rfl, hbr.alloc hbs _⟩
          case measure => simp [intOf]; omega
        · rw [decide_eq_false h1] at hs92
          by_cases h2 : sortB s = 0
          · have hz : (((sortB s : Nat) : Int) != 0) = false := by simp [h2]
            rw [if_neg (by simp [h0, h1, h2])] at hst
            have HST := Lib.hid hst
            clear h0 h1 h2 hst
            go_wp2_with (go_at_call 98; refine (CS.out _).mono ?_; rintro e w3 ⟨rfl, rfl⟩)
            go_roundw
            case rel => exact ⟨k + 1, by omega, by go_num, by rw [HAP.out, HST.out], hbr.alloc hbs _⟩
            case measure => simp [intOf]; omega
          · have hz : (((sortB s : Nat) : Int) != 0) = true := by simp; omega
            rw [if_pos ⟨h0, .inr h2⟩] at hst
            have HST := Lib.hid hst
            clear h0 h1 h2 hst
            go_wp2_with (go_at_call 98; refine (CS.out _).mono ?_; rintro e w3 ⟨rfl, rfl⟩)
            go_roundw
            case rel => exact ⟨k + 1, by omega, by go_num, by rw [HAP2.out, HST.out, List.append_assoc]; rfl, hbr.alloc hbs _⟩
            case measure => simp [intOf]; omega
      · have hq2 : ((q : Int) == 0) = false := by simp; omega
        rw [if_neg (by simp [h0])] at hst
        have HST := Lib.hid hst
        clear h0 hst
        go_wp2
        go_roundw
        case rel => exact ⟨k + 1, by omega, by go_num, by rw [HAP.out, HST.out], hbr.alloc hbs _⟩
        case measure => simp [intOf]; omega
    · obtain rfl : k = n := by omega
      have hT : L.take k = L := List.take_of_length_le (by rw [HN.out]; omega)
      rw [hT]
      clear hT
      go_wp2
      go_ret
      exact ⟨rfl, hbr⟩
end Go.Proofs.Ytmdpmjabjijjiaa
namespace Go.Proofs.Ytmdpmjabjijjiaa
set_option linter.unusedVariables false
set_option linter.unusedSimpArgs false
open Go.RowKit Go.Shelf Go.Maps
theorem showS_take (L : PL) (k : Nat) (h : k < L.length) (st : List (List UInt8) × List UInt8) : (L.take (k + 1)).foldl showS st = showS ((L.take k).foldl showS st) (nth pd L k) := by
  rw [take_snoc L k h, List.foldl_append]; rfl
theorem row_tail {B : Nat} {w : World} {b o : Nat} {x : List UInt8} {t : List (List UInt8)} (h : RowAt B w (some ⟨b, o, none⟩) (strV (x :: t))) : RowAt B w (some ⟨b, o + 1, none⟩) (strV t) := fun j hj => by
  obtain ⟨b', o', e, hb, hc⟩ := h (j + 1) (by simpa [strV] using hj)
  simp only [Option.some.injEq, Addr.mk.injEq] at e
  obtain ⟨rfl, rfl, _⟩ := e
  refine ⟨b, o + 1, rfl, hb, ?_⟩
  rw [show o + 1 + j = o + (j + 1) by omega, hc]
  rfl
set_option maxRecDepth 100000 in
set_option maxHeartbeats 4000000 in
theorem mshow_any {w : World} {p a : Option Addr} {n c : Nat} {L : PL} (h : MaskAt w p a n c L) (hL : PLok L) (f : List UInt8) (hf : f.length ≤ 1100000) : Calls Try.prog 53 #[.pointer p, .string (S f)] w fun e w' => e = .returned (.string (S (showL L f))) ∧ Below w.heap.size w w' := by
  have CM := mfits_any h hL f hf
  have CC := Lib.hid (fun W => cut_any f hf W)
  have CA := Lib.hid (fun W hb => mall_any (w := W) (h.below hb))
  have hrow := h.row
  have hn : n ≤ 300 := by rw [h.len]; exact hL.len
  have HN := Lib.hid h.len
  have HL := Lib.hid hL
  have hzl := cutL_len f
  have hxl : ∀ x ∈ cutL f, x.length ≤ 64 := fun x hx => (clu_mem hx).len.2
  obtain ⟨Z, hZ⟩ : ∃ Z, Z = showL L f := ⟨_, rfl⟩
  rw [← hZ]
  unfold showL at hZ
  obtain ⟨D, hD⟩ : ∃ D, D = cutL f := ⟨_, rfl⟩
  rw [← hD] at hZ CC hzl hxl
  clear h hL hD
  cases hfit : fitsL L f with
  | false =>
    rw [hfit] at CM hZ
    rw [if_neg (by simp)] at hZ
    subst hZ
    have CM := Lib.hid CM
    clear hfit hxl
    go_enter Try.func53, Try.ntmps53
    go_wp2_with (go_at_call 48; refine (CM.out).mono ?_; rintro e w1 ⟨rfl, hb1⟩)
    go_ret
    exact ⟨rfl, hb1⟩
  | true =>
    rw [hfit] at CM hZ
    rw [if_pos rfl] at hZ
    have CM := Lib.hid CM
    have HZ := Lib.hid hZ
    have HXL := Lib.hid hxl
    clear hfit hZ hxl
    go_enter Try.func53, Try.ntmps53
    go_wp2_with (first
      | (go_at_call 48; refine (CM.out).mono ?_; rintro e w1 ⟨rfl, hb1⟩)
      | (go_at_call 17; refine (CC.out _).mono ?_; rintro e w2 ⟨a2, n2, c2, hn2, hnc2, hcm2, rfl, hrow2, hb2, _⟩; have hB2 := bnext hb1 hb2; clear hb1 hb2)
      | (go_at_call 97; refine (CA.out _ hB2).mono ?_; rintro e w3 ⟨rfl, rfl⟩))
    have hBs := hB2.size
    go_loopw [18, 5, 6] (fun i v s wr => ∃ (k : Nat) (rem : List (List UInt8)) (acc : List UInt8) (ar : Option Addr) (nr cr : Nat), k ≤ n ∧ i = .int .i64 (k : Int) ∧ v = .slice ar nr cr ∧ Hid (nr = rem.length) ∧ s = .string (S acc) ∧ Hid ((L.take k).foldl showS (D, []) = (rem, acc)) ∧ acc.length ≤ 64 * k ∧ Hid (∀ x ∈ rem, x.length ≤ 64) ∧ RowAt w2.heap.size w2 ar (strV rem) ∧ (nr ≤ cr ∧ cr ≤ 9223372036854775807) ∧ Below w2.heap.size w2 wr)
      (fun i _ _ _ => n - (intOf i).toNat)
    case atStart => exact ⟨0, D, [], a2, n2, c2, Nat.zero_le _, rfl, by rw [hn2], Lib.hid hn2, rfl, Lib.hid rfl, by simp, HXL, hrow2, ⟨hnc2, by unfold maxLen at hcm2; omega⟩, Below.refl _ _⟩
    case round =>
      obtain ⟨k, rem, acc, ar, nr, cr, hk, rfl, rfl, hnr, rfl, hst, hal, hrl, hrr, ⟨hnc, hcm⟩, hbr⟩ := hrel
      have hbs := hbr.size
      have hbw := bnext hB2 hbr
      by_cases hlt : k < n
      · have hkL : k < L.length := by rw [← HN.out]; exact hlt
        obtain ⟨b, off, rfl, hb, hc0, hc1⟩ := mp_at hrow k hkL
        have hd0 := (hbw.cell (p := ⟨b, off + k * 2, none⟩) hb).trans hc0
        have hd1 := (hbw.cell (p := ⟨b, off + k * 2 + 1, none⟩) hb).trans hc1
        have hst2 := showS_take L k hkL (D, [])
        rw [hst.out] at hst2
        unfold showS at hst2
        have hcl := (HL.out.at_ hkL).1.len
        obtain ⟨q, hq⟩ : ∃ q, q = (nth pd L k).1 := ⟨_, rfl⟩
        obtain ⟨s, hs⟩ : ∃ s, s = (nth pd L k).2 := ⟨_, rfl⟩
        rw [← hq] at hd0
        rw [← hs] at hd1 hcl
        rw [← hq, ← hs] at hst2
        have hsA := S_size acc
        have hsS := S_size s
        have HAP := Lib.hid (S_append acc s)
        have hal2 : acc.length ≤ 20000 := by omega
        by_cases h0 : q = 0
        · have hq2 : ((q : Int) == 0) = true := by simp [h0]
          rw [if_pos h0] at hst2
          have HST := Lib.hid hst2
          clear hst2 hc0 hc1 hkL hq hs h0
          go_wp2
          go_roundw
          case rel => exact ⟨k + 1, rem, acc ++ s, ar, nr, cr, by omega, by go_num, rfl, hnr, by rw [HAP.out], Lib.hid HST.out, by rw [List.length_append]; omega, hrl, hrr, ⟨hnc, hcm⟩, hbr.alloc (by omega) _⟩
          case measure => simp [intOf]; omega
        · have hq2 : ((q : Int) == 0) = false := by simp; omega
          rw [if_neg h0] at hst2
          cases rem with
          | nil =>
            have hn0 : nr = 0 := hnr.out
            subst hn0
            have hap1 : S acc ++ ({ data := #[95] } : ByteArray) = S (acc ++ [95]) := S_append acc [95]
            have HST := Lib.hid hst2
            clear hst2 hc0 hc1 hkL hq hs h0
            go_wp2
            go_roundw
            case rel => exact ⟨k + 1, [], acc ++ [95], ar, 0, cr, by omega, by go_num, rfl, hnr, rfl, Lib.hid HST.out, by rw [List.length_append]; simp; omega, hrl, hrr, ⟨hnc, hcm⟩, hbr.alloc (by omega) _⟩
            case measure => simp [intOf]; omega
          | cons x t =>
            obtain ⟨m, rfl⟩ : ∃ m, nr = m + 1 := ⟨t.length, hnr.out⟩
            have hmt : m = t.length := by have := hnr.out; simpa using this
            obtain ⟨b2, o2, rfl, hb2, hx0⟩ := strs_at hrr 0 (by simp)
            have hx1 : w2.cell? ⟨b2, o2, none⟩ = some (.string (S x)) := hx0
            have hx2 := (hbr.cell (p := ⟨b2, o2, none⟩) hb2).trans hx1
            have hx3 := cell_alloc_l (.cells #[.int .i64 q, .string (S s)] 118) hx2
            have hx64 := hrl.out x (by simp)
            have hsx := S_size x
            have HAX := Lib.hid (S_append acc x)
            have HST := Lib.hid hst2
            have HMT := Lib.hid hmt
            have hm1 : ((m : Int) + 1 == 0) = false := by simp; omega
            have hm2 : (((m + 1 : Nat) : Int) == 0) = false := by simp; omega
            clear hst2 hc0 hc1 hkL hq hs h0 hmt hx0 hx1
            go_wp2
            have hrt : RowAt w2.heap.size w2 (if cr = 1 then some ⟨b2, o2, none⟩ else some ⟨b2, o2 + 1, none⟩) (strV t) := by
              split
              · have ht : t = [] := List.length_eq_zero_iff.1 (by have := HMT.out; omega)
                rw [ht]; exact RowAt.nil _ _ _
              · exact row_tail hrr
            go_roundw
            case rel => exact ⟨k + 1, t, acc ++ x, _, m, cr - 1, by omega, by go_num, rfl, HMT, by rw [HAX.out], Lib.hid HST.out, by rw [List.length_append]; omega, Lib.hid (fun y hy => hrl.out y (List.mem_cons_of_mem _ hy)), hrt, ⟨by omega, by omega⟩, hbr.alloc (by omega) _⟩
            case measure => simp [intOf]; omega
      · obtain rfl : k = n := by omega
        have hT : L.take k = L := List.take_of_length_le (by rw [HN.out]; omega)
        have hZ2 : Z = acc := by rw [HZ.out, ← hT, hst.out]
        subst hZ2
        clear hT
        go_wp2
        go_ret
        exact ⟨rfl, hbw⟩
end Go.Proofs.Ytmdpmjabjijjiaa
namespace Go.Proofs.Ytmdpmjabjijjiaa
set_option linter.unusedVariables false
set_option linter.unusedSimpArgs false
open Go.RowKit Go.Shelf Go.Maps
def readP (p : (Nat × List UInt8) × List UInt8) : List UInt8 := if p.1.1 = 0 then [] else p.2
def readK (L : PL) (D : List (List UInt8)) (k : Nat) : List UInt8 := ((L.zip D).take k).flatMap readP
theorem readK_all {L : PL} {D : List (List UInt8)} (k : Nat) (h : L.length ≤ k) : readK L D k = readT L D := by
  unfold readK readT
  rw [List.take_of_length_le (by rw [List.length_zip]; omega)]; rfl
theorem readK_step {L : PL} {D : List (List UInt8)} {k : Nat} (h1 : k < L.length) (h2 : k < D.length) : readK L D (k + 1) = readK L D k ++ (if (nth pd L k).1 = 0 then [] else nth [] D k) := by
  unfold readK
  rw [List.take_succ_eq_append_getElem (by rw [List.length_zip]; omega), List.flatMap_append, List.getElem_zip, nth_eq _ _ _ h1, nth_eq _ _ _ h2]
  simp [readP]
theorem readK_len {L : PL} {D : List (List UInt8)} (h : ∀ x ∈ D, x.length ≤ 64) : ∀ k, (readK L D k).length ≤ 64 * k
  | 0 => by simp [readK]
  | k + 1 => by
    have ih := readK_len (L := L) h k
    by_cases h1 : k < L.length
    · by_cases h2 : k < D.length
      · have hx := h (nth [] D k) (by rw [nth_eq _ _ _ h2]; exact List.getElem_mem h2)
        rw [readK_step h1 h2, List.length_append]
        split <;> simp <;> omega
      · have : readK L D (k + 1) = readK L D k := by
          unfold readK
          rw [List.take_of_length_le (by rw [List.length_zip]; omega), List.take_of_length_le (by rw [List.length_zip]; omega)]
        rw [this]; omega
    · have : readK L D (k + 1) = readK L D k := by
        unfold readK
        rw [List.take_of_length_le (by rw [List.length_zip]; omega), List.take_of_length_le (by rw [List.length_zip]; omega)]
      rw [this]; omega
set_option maxRecDepth 100000 in
set_option maxHeartbeats 4000000 in
theorem mread_any {w : World} {p a : Option Addr} {n c : Nat} {L : PL} (h : MaskAt w p a n c L) (hL : PLok L) (f : List UInt8) (hf : f.length ≤ 1100000) : Calls Try.prog 52 #[.pointer p, .string (S f)] w fun e w' => e = .returned (.tuple #[.string (S (readL L f).1), .bool (readL L f).2]) ∧ Below w.heap.size w w' := by
  have CA := Lib.hid (mall_any h)
  have CC := Lib.hid (fun W => cut_any f hf W)
  have hrow := h.row
  have hn : n ≤ 300 := by rw [h.len]; exact hL.len
  have HN := Lib.hid h.len
  have hzl := cutL_len f
  have hxl : ∀ x ∈ cutL f, x.length ≤ 64 := fun x hx => (clu_mem hx).len.2
  obtain ⟨Z, hZ⟩ : ∃ Z, Z = readL L f := ⟨_, rfl⟩
  rw [← hZ]
  unfold readL at hZ
  obtain ⟨D, hD⟩ : ∃ D, D = cutL f := ⟨_, rfl⟩
  rw [← hD] at hZ CC hzl hxl
  have hrl := readK_len (L := L) hxl L.length
  rw [readK_all L.length (Nat.le_refl _)] at hrl
  have hRl : (readT L D).length ≤ 1100000 := by have := hL.len; omega
  have CW := (fun W hb => mwhole_any (w := W) (h.below hb) hL (readT L D) hRl)
  have CV := (fun W hb => mshow_any (w := W) (h.below hb) hL (readT L D) hRl)
  have HKL := Lib.hid (readK_len (L := L) hxl)
  clear h hL hD hrl
  by_cases h0 : n = 0
  · subst h0
    have hz : Z = ([], false) := by rw [hZ, if_neg]; rintro ⟨h, _⟩; rw [← HN.out] at h; omega
    subst hz
    clear hZ CW CV HKL hxl hRl
    go_enter Try.func52, Try.ntmps52
    go_wp2_with (first
      | (go_at_call 97; refine (CA.out).mono ?_; rintro e w1 ⟨rfl, rfl⟩)
      | (go_at_call 17; refine (CC.out _).mono ?_; rintro e w2 ⟨a2, n2, c2, hn2, hnc2, hcm2, rfl, hrow2, hb2, _⟩))
    refine bodyPost_ret (results_tmp2 rfl _ _ _) rfl ?_
    exact ⟨rfl, hb2⟩
  have h01 : ((n : Int) == 0) = false := by simp; omega
  have hLp : 0 < L.length := by rw [← HN.out]; omega
  by_cases hDn : D.length = n
  · have hd1 : ((D.length : Int) != (n : Int)) = false := by rw [hDn]; simp
    have HDN := Lib.hid hDn
    have hxl2 := hxl
    clear h0 hxl hDn
    -- the walk up to the loop's end
    obtain ⟨R, hR⟩ : ∃ R, R = readT L D := ⟨_, rfl⟩
    have HRK := Lib.hid (readK_all (L := L) (D := D) n (by rw [← HN.out]; omega))
    rw [← hR] at HRK CW CV hZ hRl
    obtain ⟨V, hV⟩ : ∃ V, V = showL L R := ⟨_, rfl⟩
    rw [← hV] at CV hZ
    have HXL := Lib.hid hxl2
    have hDL : D.length = L.length := by rw [HDN.out, HN.out]
    have HDL := Lib.hid hDL
    have hse := S_eq V f
    have CV := Lib.hid CV
    clear hR hV hxl2
    have CWH := Lib.hid CW
    have HZ := Lib.hid hZ
    have HLP := Lib.hid hLp
    clear CW hZ hLp hDL
    go_enter Try.func52, Try.ntmps52
    go_wp2_with (first
      | (go_at_call 97; refine (CA.out).mono ?_; rintro e w1 ⟨rfl, rfl⟩)
      | (go_at_call 17; refine (CC.out _).mono ?_; rintro e w2 ⟨a2, n2, c2, hn2, hnc2, hcm2, rfl, hrow2, hb2, _⟩))
    have hBs := hb2.size
    go_loopw [27, 8] (fun i s wr => ∃ k : Nat, k ≤ n ∧ i = .int .i64 (k : Int) ∧ s = .string (S (readK L D k)) ∧ Below w2.heap.size w2 wr)
      (fun i _ _ => n - (intOf i).toNat)
    case atStart => exact ⟨0, Nat.zero_le _, rfl, rfl, Below.refl _ _⟩
    case round =>
      obtain ⟨k, hk, rfl, rfl, hbr⟩ := hrel
      have hbs := hbr.size
      have hbw := bnext hb2 hbr
      by_cases hlt : k < n
      · have hkL : k < L.length := by rw [← HN.out]; exact hlt
        have hkD : k < D.length := by rw [HDL.out]; exact hkL
        obtain ⟨b, off, rfl, hb, hc0, hc1⟩ := mp_at hrow k hkL
        have hd0 := (hbw.cell (p := ⟨b, off + k * 2, none⟩) hb).trans hc0
        have hd1 := (hbw.cell (p := ⟨b, off + k * 2 + 1, none⟩) hb).trans hc1
        obtain ⟨b2, o2, rfl, hb2', hx1⟩ := strs_at hrow2 k hkD
        have hx2 := (hbr.cell (p := ⟨b2, o2 + k, none⟩) hb2').trans hx1
        have hst := readK_step hkL hkD
        have hal := HKL.out k
        have hx64 := HXL.out (nth [] D k) (by rw [nth_eq _ _ _ hkD]; exact List.getElem_mem hkD)
        obtain ⟨q, hq⟩ : ∃ q, q = (nth pd L k).1 := ⟨_, rfl⟩
        obtain ⟨s, hs⟩ : ∃ s, s = (nth pd L k).2 := ⟨_, rfl⟩
        obtain ⟨x, hx⟩ : ∃ x, x = nth [] D k := ⟨_, rfl⟩
        obtain ⟨acc, hacc⟩ : ∃ acc, acc = readK L D k := ⟨_, rfl⟩
        rw [← hq] at hd0
        rw [← hs] at hd1
        rw [← hx] at hx2 hx64
        rw [← hq, ← hx, ← hacc] at hst
        rw [← hacc] at hal ⊢
        have hx3 := cell_alloc_l (.cells #[.int .i64 q, .string (S s)] 118) hx2
        have hsA := S_size acc
        have hsX := S_size x
        have HAP := Lib.hid (S_append acc x)
        have hal2 : acc.length ≤ 20000 := by omega
        have HST := Lib.hid hst
        clear hst hq hs hx hacc hc0 hc1 hx1 hkL hal
        by_cases h0 : q = 0
        · have hq2 : ((q : Int) != 0) = false := by simp [h0]
          rw [if_pos h0] at HST
          clear h0
          go_wp2
          go_roundw
          case rel => exact ⟨k + 1, by omega, by go_num, by rw [HST.out, List.append_nil], hbr.alloc (by omega) _⟩
          case measure => simp [intOf]; omega
        · have hq2 : ((q : Int) != 0) = true := by simp; omega
          rw [if_neg h0] at HST
          clear h0
          go_wp2
          go_roundw
          case rel => exact ⟨k + 1, by omega, by go_num, by rw [HST.out, HAP.out], hbr.alloc (by omega) _⟩
          case measure => simp [intOf]; omega
      · obtain rfl : k = n := by omega
        rw [HRK.out]
        have CWx := CWH.out _ hbw
        have hZx := HZ.out
        cases hw : wholeL L R with
        | false =>
          rw [hw] at CWx hZx
          rw [if_neg (by simp)] at hZx
          subst hZx
          have CWx := Lib.hid CWx
          clear hw
          go_wp2_with (go_at_call 54; refine (CWx.out).mono ?_; rintro e w4 ⟨rfl, hb4⟩)
          refine bodyPost_ret (results_tmp2 rfl _ _ _) rfl ?_
          exact ⟨rfl, bnext hbw hb4⟩
        | true =>
          rw [hw] at CWx hZx
          have CWx := Lib.hid CWx
          clear hw
          by_cases hv : V = f
          · rw [if_pos ⟨HLP.out, HDL.out, rfl, hv⟩] at hZx
            subst hZx
            rw [decide_eq_true hv] at hse
            have hse2 : ((S V).toList != (S f).toList) = false := by simp [bne, hse]
            clear hv
            go_wp2_with (first
              | (go_at_call 54; refine (CWx.out).mono ?_; rintro e w4 ⟨rfl, hb4⟩)
              | (go_at_call 53; refine (CV.out _ (bnext hbw hb4)).mono ?_; rintro e w5 ⟨rfl, hb5⟩))
            refine bodyPost_ret (results_tmp2 rfl _ _ _) rfl ?_
            exact ⟨rfl, bnext (bnext hbw hb4) hb5⟩
          · rw [if_neg (by simp [hv])] at hZx
            subst hZx
            rw [decide_eq_false hv] at hse
            have hse2 : ((S V).toList != (S f).toList) = true := by simp [bne, hse]
            clear hv
            go_wp2_with (first
              | (go_at_call 54; refine (CWx.out).mono ?_; rintro e w4 ⟨rfl, hb4⟩)
              | (go_at_call 53; refine (CV.out _ (bnext hbw hb4)).mono ?_; rintro e w5 ⟨rfl, hb5⟩))
            refine bodyPost_ret (results_tmp2 rfl _ _ _) rfl ?_
            exact ⟨rfl, bnext (bnext hbw hb4) hb5⟩
  · have hz : Z = ([], false) := by rw [hZ, if_neg]; rintro ⟨_, h, _⟩; rw [← HN.out] at h; omega
    subst hz
    have hd1 : ((D.length : Int) != (n : Int)) = true := by simp; omega
    clear hZ CW CV HKL hxl h0 hDn hRl
    go_enter Try.func52, Try.ntmps52
    go_wp2_with (first
      | (go_at_call 97; refine (CA.out).mono ?_; rintro e w1 ⟨rfl, rfl⟩)
      | (go_at_call 17; refine (CC.out _).mono ?_; rintro e w2 ⟨a2, n2, c2, hn2, hnc2, hcm2, rfl, hrow2, hb2, _⟩))
    refine bodyPost_ret (results_tmp2 rfl _ _ _) rfl ?_
    exact ⟨rfl, hb2⟩
end Go.Proofs.Ytmdpmjabjijjiaa
namespace Go.Proofs.Ytmdpmjabjijjiaa
set_option linter.unusedVariables false
set_option linter.unusedSimpArgs false
open Go.RowKit Go.Shelf Go.Maps
theorem fits_len {L : PL} {f : List UInt8} (hL : PLok L) (h : fitsL L f = true) : f.length ≤ 19200 := by
  have h1 := flat_cut (fits_flat h)
  have h2 := fits_room h
  have h3 := slotsL_len L
  have h4 := hL.len
  have h5 : (cutL f).flatten.length ≤ 64 * (cutL f).length := flat_len _ 64 (fun c hc => (clu_mem hc).len.2)
  rw [h1] at h5
  omega
theorem push_len {L : PL} {f s : List UInt8} (hL : PLok L) (hf : f.length ≤ 1100000) : (pushL L f s).1.length ≤ 1100000 := by
  unfold pushL
  split
  · rename_i h
    have h1 := fits_len hL h.1
    have h2 := taken_len (nth 0 (slotsL L) (cutL f).length) s (isCl_clu h.2.2)
    split
    · show (f ++ _).length ≤ _
      rw [List.length_append]; omega
    · exact hf
  · show (sameL L f).length ≤ _
    unfold sameL
    split
    · simp
    · exact hf
theorem skipF_at {L : PL} {b : Nat} {x : List UInt8} (h : b < L.length) : skipF (L.drop b) x = if (nth pd L b).1 = 0 ∧ (nth pd L b).2 ≠ x then 1 + skipF (L.drop (b + 1)) x else 0 := by
  rw [drop_piece h]; rfl
theorem feedR_at {L : PL} {x : List UInt8} {t : List (List UInt8)} {g : List UInt8} {a d : Nat} (h : a + skipF (L.drop a) x = d) : feedR L (x :: t) g a =
    if L.length ≤ d then g else if (nth pd L d).1 = 0 then feedR L t g (d + 1) else if (pushL L g x).2 = true then feedR L t (pushL L g x).1 (d + 1) else feedR L t g d := by
  rw [← h]; rfl
set_option maxRecDepth 100000 in
set_option maxHeartbeats 8000000 in
theorem mfeed_any {w : World} {p a : Option Addr} {n c : Nat} {L : PL} (h : MaskAt w p a n c L) (hL : PLok L) (f t : List UInt8) (hf : f.length ≤ 1100000) (ht : t.length ≤ 1100000) (hft : (flatL t).length ≤ 1100000) : Calls Try.prog 46 #[.pointer p, .string (S f), .string (S t)] w fun e w' => e = .returned (.string (S (feedL L f t))) ∧ Below w.heap.size w w' := by
  have CM := mfits_any h hL f hf
  have hn : n ≤ 300 := by rw [h.len]; exact hL.len
  have CE := Lib.hid (fun W hb => msame_any (w := W) (h.below hb) f (by omega))
  have CA := Lib.hid (fun W hb => mall_any (w := W) (h.below hb))
  have CN := Lib.hid (fun W => count_any f hf W)
  have hzl := cutL_len f
  have CB := Lib.hid (fun W hb => mbehind_any (w := W) (h.below hb) hL.len (cutL f).length (by omega))
  have CF := Lib.hid (fun W => flat_any t ht W)
  have CC := Lib.hid (fun W => cut_any (flatL t) hft W)
  have CP := Lib.hid (fun W hb g x hg hx => mpush_any (w := W) (h.below hb) hL g x hg hx)
  have HPL := Lib.hid (fun g x hg => push_len (L := L) (f := g) (s := x) hL hg)
  have hrow := h.row
  have HN := Lib.hid h.len
  have hbl := behN_le L (cutL f).length
  have hel := cutL_len (flatL t)
  obtain ⟨Z, hZ⟩ : ∃ Z, Z = feedL L f t := ⟨_, rfl⟩
  rw [← hZ]
  unfold feedL at hZ
  have HCP := Lib.hid (fun k => @cut_pos (flatL t) k)
  obtain ⟨E, hE⟩ : ∃ E, E = cutL (flatL t) := ⟨_, rfl⟩
  obtain ⟨m, hm⟩ : ∃ m, m = (cutL f).length := ⟨_, rfl⟩
  rw [← hE] at hZ CC HCP hel
  rw [← hm] at hZ CN CB hbl hzl
  obtain ⟨a0, ha0⟩ : ∃ a0, a0 = behN L m := ⟨_, rfl⟩
  rw [← ha0] at hZ CB hbl
  obtain ⟨T, hT⟩ : ∃ T, T = sameL L f := ⟨_, rfl⟩
  rw [← hT] at hZ CE
  have hbn : a0 ≤ n := by rw [HN.out]; exact hbl
  have hel2 : E.length ≤ 1100000 := by omega
  clear h hL hE hm ha0 hT hbl
  cases hfit : fitsL L f with
  | false =>
    rw [hfit] at CM hZ
    rw [if_neg (by simp)] at hZ
    subst hZ
    have CM := Lib.hid CM
    clear hfit
    go_enter Try.func46, Try.ntmps46
    go_wp2_with (first
      | (go_at_call 48; refine (CM.out).mono ?_; rintro e w1 ⟨rfl, hb1⟩)
      | (go_at_call 99; refine (CE.out _ hb1).mono ?_; rintro e w2 ⟨rfl, rfl⟩))
    go_ret
    exact ⟨rfl, hb1⟩
  | true =>
    rw [hfit] at CM hZ
    rw [if_pos rfl] at hZ
    have CM := Lib.hid CM
    have HZ := Lib.hid hZ
    clear hfit hZ
    go_enter Try.func46, Try.ntmps46
    go_wp2_with (first
      | (go_at_call 48; refine (CM.out).mono ?_; rintro e w1 ⟨rfl, hb1⟩)
      | (go_at_call 97; refine (CA.out _ hb1).mono ?_; rintro e w2 ⟨rfl, rfl⟩)
      | (go_at_call 25; refine (CN.out _).mono ?_; rintro e w3 ⟨rfl, hb3⟩; have hB3 := bnext hb1 hb3)
      | (go_at_call 100; refine (CB.out _ hB3).mono ?_; rintro e w4 ⟨rfl, hb4⟩; have hB4 := bnext hB3 hb4)
      | (go_at_call 19; refine (CF.out _).mono ?_; rintro e w5 ⟨rfl, hb5⟩; have hB5 := bnext hB4 hb5)
      | (go_at_call 17; refine (CC.out _).mono ?_; rintro e w6 ⟨a2, n2, c2, hn2, hnc2, hcm2, rfl, hrow2, hb6, _⟩; have hB6 := bnext hB5 hb6))
    clear hb1 hb3 hB3 hb4 hB4 hb5 hB5 hb6
    have hBs := hB6.size
    go_loopw [30, 8, 1] (fun i v s wr => ∃ (k b : Nat) (g : List UInt8), k ≤ E.length ∧ i = .int .i64 (k : Int) ∧ v = .int .i64 (b : Int) ∧ s = .string (S g) ∧ b ≤ n ∧ g.length ≤ 1100000 ∧ Hid (Z = feedR L (E.drop k) g b) ∧ Below w6.heap.size w6 wr)
      (fun i _ _ _ => E.length - (intOf i).toNat)
    case atStart => exact ⟨0, a0, f, Nat.zero_le _, rfl, rfl, rfl, hbn, hf, Lib.hid HZ.out, Below.refl _ _⟩
    case round =>
      obtain ⟨k, b, g, hk, rfl, rfl, rfl, hbn1, hgl, hst, hbr⟩ := hrel
      have hbs := hbr.size
      by_cases hlt : k < E.length
      · obtain ⟨b2, o2, rfl, hb2, hx1⟩ := strs_at hrow2 k hlt
        have hx2 := (hbr.cell (p := ⟨b2, o2 + k, none⟩) hb2).trans hx1
        have hxl := HCP.out k hlt
        have hdr : E.drop k = nth [] E k :: E.drop (k + 1) := by rw [List.drop_eq_getElem_cons hlt, nth_eq _ _ _ hlt]
        obtain ⟨x, hx⟩ : ∃ x, x = nth [] E k := ⟨_, rfl⟩
        rw [← hx] at hx2 hxl hdr
        have HDR := Lib.hid hdr
        clear hx hx1 hdr
        have HLT := Lib.hid hlt
        have hkE : k + 1 ≤ E.length := hlt
        go_wp2_with fail
        clear hlt
        go_loopw [8] (fun v wx => ∃ d : Nat, v = .int .i64 (d : Int) ∧ d ≤ n ∧ Hid (b + skipF (L.drop b) x = d + skipF (L.drop d) x) ∧ Below w6.heap.size w6 wx)
          (fun v _ => n - (intOf v).toNat)
        case atStart => exact ⟨b, rfl, hbn1, Lib.hid rfl, hbr⟩
        case round =>
          obtain ⟨d, rfl, hdn, hsk, hbx⟩ := hrel
          have hbw := bnext hB6 hbx
          by_cases hdl : d < n
          · have hdL : d < L.length := by rw [← HN.out]; exact hdl
            obtain ⟨b1, o1, rfl, hb1, hc0, hc1⟩ := mp_at hrow d hdL
            have hd0 := (hbw.cell (p := ⟨b1, o1 + d * 2, none⟩) hb1).trans hc0
            have hd1 := (hbw.cell (p := ⟨b1, o1 + d * 2 + 1, none⟩) hb1).trans hc1
            have hsa := skipF_at (x := x) hdL
            obtain ⟨q, hq⟩ : ∃ q, q = (nth pd L d).1 := ⟨_, rfl⟩
            obtain ⟨s, hs⟩ : ∃ s, s = (nth pd L d).2 := ⟨_, rfl⟩
            rw [← hq] at hd0 hsa
            rw [← hs] at hd1 hsa
            have hse := S_eq s x
            have HQ := Lib.hid hq
            have HSA := Lib.hid hsa
            have HDL := Lib.hid hdL
            clear hc0 hc1 hq hs hsa hdL
            by_cases h0 : q = 0
            · have hq2 : ((q : Int) == 0) = true := by simp [h0]
              by_cases h1 : s = x
              · rw [decide_eq_true h1] at hse
                have hse2 : ((S s).toList != (S x).toList) = false := by simp [bne, hse]
                have hz2 : Z = feedR L (E.drop (k + 1)) g (d + 1) := by
                  rw [hst.out, HDR.out, feedR_at (d := d) (by rw [hsk.out, HSA.out, if_neg (by simp [h1])]; rfl), if_neg (by have := HDL.out; omega), if_pos (by rw [← HQ.out]; exact h0)]
                have HZ2 := Lib.hid hz2
                clear h0 h1 hz2
                go_wp2
                go_roundw
                case rel => exact ⟨k + 1, d + 1, g, hkE, by go_num, by go_num, rfl, by omega, hgl, Lib.hid HZ2.out, hbx⟩
                case measure => have := HLT.out; simp [intOf]; omega
              · rw [decide_eq_false h1] at hse
                have hse2 : ((S s).toList != (S x).toList) = true := by simp [bne, hse]
                have hk2 : d + skipF (L.drop d) x = d + 1 + skipF (L.drop (d + 1)) x := by rw [HSA.out, if_pos ⟨h0, h1⟩]; omega
                have HK2 := Lib.hid hk2
                clear h0 h1 hk2
                go_wp2
                go_roundw
                case rel => exact ⟨d + 1, by go_num, by omega, Lib.hid (by rw [hsk.out, HK2.out]), hbx⟩
                case measure => simp [intOf]; omega
            · have hq2 : ((q : Int) == 0) = false := by simp; omega
              have hz1 := feedR_at (L := L) (x := x) (t := E.drop (k + 1)) (g := g) (a := b) (d := d) (by rw [hsk.out, HSA.out, if_neg (by simp [h0])]; rfl)
              rw [if_neg (by have := HDL.out; omega), if_neg (by rw [← HQ.out]; exact h0), ← HDR.out, ← hst.out] at hz1
              have CPx := CP.out wr hbw g x hgl (by omega)
              have hpl := HPL.out g x hgl
              obtain ⟨G, hG⟩ : ∃ G, G = (pushL L g x).1 := ⟨_, rfl⟩
              obtain ⟨ok, hok⟩ : ∃ ok, ok = (pushL L g x).2 := ⟨_, rfl⟩
              rw [← hG] at hz1 CPx hpl
              rw [← hok] at hz1 CPx
              have CPx := Lib.hid CPx
              clear h0 hG hok
              cases ok with
              | true =>
                rw [if_pos rfl] at hz1
                have HZ2 := Lib.hid hz1
                clear hz1
                go_wp2_with (go_at_call 49; refine (CPx.out).mono ?_; rintro e w8 ⟨rfl, hb8⟩)
                go_roundw
                case rel => exact ⟨k + 1, d + 1, G, hkE, by go_num, by go_num, rfl, by omega, hpl, Lib.hid HZ2.out, bnext hbx hb8⟩
                case measure => have := HLT.out; simp [intOf]; omega
              | false =>
                rw [if_neg (by simp)] at hz1
                have HZ2 := Lib.hid hz1
                clear hz1
                go_wp2_with (go_at_call 49; refine (CPx.out).mono ?_; rintro e w8 ⟨rfl, hb8⟩)
                go_roundw
                case rel => exact ⟨k + 1, d, g, hkE, by go_num, rfl, rfl, by omega, hgl, Lib.hid HZ2.out, bnext hbx hb8⟩
                case measure => have := HLT.out; simp [intOf]; omega
          · obtain rfl : d = n := by omega
            have hz2 : Z = g := by
              rw [hst.out, HDR.out, feedR_at (d := d) (by rw [hsk.out, List.drop_of_length_le (by rw [HN.out]; omega)]; rfl), if_pos (by rw [HN.out]; omega)]
            subst hz2
            go_wp2
            go_ret
            exact ⟨rfl, hbw⟩
      · obtain rfl : k = E.length := by omega
        have hZ2 : Z = g := by rw [hst.out, List.drop_length]; rfl
        subst hZ2
        go_wp2
        go_ret
        exact ⟨rfl, bnext hB6 hbr⟩
end Go.Proofs.Ytmdpmjabjijjiaa
namespace Go.Proofs.Ytmdpmjabjijjiaa
set_option linter.unusedVariables false
set_option linter.unusedSimpArgs false
open Go.RowKit Go.Shelf Go.Maps
attribute [local go_sem] Oper.semAt_some
theorem mallq_any (p : Option Addr) (w : World) : Calls Try.prog 96 #[.pointer p] w fun e w' => e = .returned (.func (.func 131) #[] #[.pointer (some ⟨w.heap.size, 0, none⟩)]) ∧ w.alloc (.cells #[.pointer p] 39) = w' := by
  go_enter Try.func96, Try.ntmps96
  go_wp2
  go_ret
  exact ⟨rfl, rfl⟩
/-- The one block of a mask's pieces. -/
theorem row_blk {B : Nat} {w : World} {a : Option Addr} {L : PL} (h : RowAt B w a (MP L)) (hB : 0 < B) :
    ∃ b off, b < B ∧ ∀ k, k < L.length → a = some ⟨b, off, none⟩ ∧ w.cell? ⟨b, off + k * 2, none⟩ = some (.int .i64 (nth pd L k).1) ∧ w.cell? ⟨b, off + k * 2 + 1, none⟩ = some (.string (S (nth pd L k).2)) := by
  by_cases h0 : 0 < L.length
  · obtain ⟨b, off, e, hb, _⟩ := mp_at h 0 h0
    refine ⟨b, off, hb, fun k hk => ?_⟩
    obtain ⟨b', off', e', _, h1, h2⟩ := mp_at h k hk
    rw [e] at e'
    simp only [Option.some.injEq, Addr.mk.injEq] at e'
    obtain ⟨rfl, rfl, _⟩ := e'
    exact ⟨e, h1, h2⟩
  · exact ⟨0, 0, hB, fun k hk => by omega⟩
def encP (p : Nat × List UInt8) : Array Value := #[.string (S p.2), .bool (!decide (p.1 = 0))]
set_option maxRecDepth 100000 in
set_option maxHeartbeats 2000000 in
theorem mseq_any {w0 : World} {p a : Option Addr} {n c : Nat} {L : PL} (h : MaskAt w0 p a n c L) (hL : L.length ≤ 300) (Bx : Nat) (w : World) (hbw : Below w0.heap.size w0 w) (hbx : Bx < w.heap.size) (hcx : w.cell? ⟨Bx, 0, none⟩ = some (.pointer p)) (b off : Nat) (hb : b < w.heap.size)
    (hrow : ∀ k, k < L.length → a = some ⟨b, off, none⟩ ∧ w.cell? ⟨b, off + k * 2, none⟩ = some (.int .i64 (nth pd L k).1) ∧ w.cell? ⟨b, off + k * 2 + 1, none⟩ = some (.string (S (nth pd L k).2))) (mm : Nat) (hm : 1 ≤ mm) :
    SeqStopsK Fence.wide mm Try.prog 131 #[.pointer (some ⟨Bx, 0, none⟩)] encP (KB Bx b) (fun ys => ys = L) (fun pre => pre <+: L) L.length w := by
  intro Lp J Jx W hW0 hJ hJx hY h0
  have CA := Lib.hid (mall_any (h.below (bnext hbw hW0)))
  have hW := KB.of_below hW0 hbx hb
  have hxW := (cell_block hW.a).trans hcx
  have hn : n ≤ 300 := by rw [h.len]; exact hL
  have HN := Lib.hid h.len
  have HROW := Lib.hid hrow
  clear hW0 h hrow
  refine callsIn_of_wp Try.func131 rfl trivial ?_ rfl
  simp only [Try.ntmps131, List.size_toArray, List.length_cons, List.length_nil, Nat.reduceAdd, Nat.reduceSub, Array.replicate_succ, Array.replicate_zero, List.push_toArray, List.append_toArray, List.nil_append, List.cons_append]
  gi_wp2_with (refine ⟨trivial, ?_⟩; gi_at_call 97; refine (callsIn_wide.2 CA.out).mono ?_; rintro e w1 ⟨rfl, rfl⟩)
  gi_loopw [8] (fun i wr => ∃ k : Nat, k ≤ n ∧ i = .int .i64 (k : Int) ∧ J (L.take k) wr ∧ KB Bx b W wr)
    (fun i _ => n - (intOf i).toNat)
  case atStart => exact ⟨0, Nat.zero_le _, rfl, h0, KB.refl _ _ _⟩
  case round =>
    obtain ⟨k, hk, rfl, hJs, hnx⟩ := hrel
    have hbW := hW.trans hnx
    by_cases hlt : k < n
    · have hkL : k < L.length := by rw [← HN.out]; exact hlt
      obtain ⟨rfl, hc0, hc1⟩ := HROW.out k hkL
      have hd0 := (cell_block hbW.b).trans hc0
      have hd1 := (cell_block hbW.b).trans hc1
      have hts := take_snoc L k hkL
      obtain ⟨q, hq⟩ : ∃ q, q = (nth pd L k).1 := ⟨_, rfl⟩
      obtain ⟨s, hs⟩ : ∃ s, s = (nth pd L k).2 := ⟨_, rfl⟩
      have hnq : nth pd L k = (q, s) := by rw [hq, hs]
      rw [hnq] at hd0 hd1 hts
      dsimp only at hd0 hd1
      have HTS := Lib.hid hts
      clear hc0 hc1 hq hs hnq hts
      obtain ⟨fn, tmps, assign, body, hy, hR⟩ := hY (L.take k) (q, s) (wr.alloc (.cells #[.int .i64 q, .string (S s)] 118)) (hJ _ _ _ none hJs (World.grownBy_alloc wr _ none) (fun r e => by cases e)) (by rw [List.length_take]; omega)
      dsimp only [encP] at hy
      have hb3 := hbW.size
      have hqz : ((q : Int) != 0) = !decide (q = 0) := by
        rw [Bool.eq_iff_iff]; simp
      have HL := Lib.hid hkL
      clear hkL
      gi_wp2
      refine hR.mono ?_
      rintro e W3 (⟨rfl, hJ3, hk3⟩ | ⟨rfl, hJx3⟩)
      · gi_wp2
        go_roundw
        case rel => exact ⟨k + 1, by omega, by go_num, by rw [HTS.out]; exact hJ3, (hnx.trans (KB.of_below ((Below.refl _ wr).alloc (Nat.le_refl _) _) (by omega) (by omega))).trans hk3⟩
        case measure => simp [intOf]; omega
      · gi_wp2
        refine bodyPost_ret (results_none rfl _ _ _) rfl ?_
        exact ⟨⟨_, rfl⟩, .inr ⟨_, by rw [← HTS.out]; exact List.take_prefix _ _, hJx3⟩⟩
    · obtain rfl : k = n := by omega
      have hT : L.take k = L := List.take_of_length_le (by rw [HN.out]; omega)
      rw [hT] at hJs
      clear hT
      gi_wp2
      go_end0
      exact ⟨⟨_, rfl⟩, .inl ⟨_, rfl, hJs⟩⟩
set_option maxRecDepth 100000 in
set_option maxHeartbeats 4000000 in
theorem mSlots_any {w : World} {p a : Option Addr} {n c : Nat} {L : PL} (h : MaskAt w p a n c L) (hL : L.length ≤ 300) : Calls Try.prog 44 #[.pointer p] w fun e w' => e = .returned (.int .i64 ((slotsL L).length : Nat)) ∧ Below w.heap.size w w' := by
  have CA := Lib.hid (fun W => mallq_any p W)
  refine (callsIn_wide (n := 9)).1 ?_
  have h1 : 1 ≤ 9 := by omega
  refine callsIn_of_wp_marks Try.func44 rfl trivial ?_ rfl
  simp only [Try.ntmps44, List.size_toArray, List.length_cons, List.length_nil, Nat.reduceAdd, Nat.reduceSub, Array.replicate_succ, Array.replicate_zero, List.push_toArray, List.append_toArray, List.nil_append, List.cons_append]
  gi_wp2_with (refine ⟨trivial, ?_⟩; gi_at_call 96; refine (callsIn_wide.2 (CA.out _)).mono ?_; rintro e w2 ⟨rfl, hw2⟩)
  obtain ⟨hc0, hf0, hcx, hb2, hs2⟩ := two_allocs w _ _ _ _ w2 hw2
  clear hw2
  have hM2 := h.below hb2
  obtain ⟨b, off, hb, hrow⟩ := row_blk hM2.row (by omega)
  have hb0 : b < w.heap.size ∨ L.length = 0 := by
    by_cases h0 : 0 < L.length
    · obtain ⟨b', off', e', hb', _⟩ := mp_at h.row 0 h0
      have := (hrow 0 h0).1
      rw [this] at e'
      simp only [Option.some.injEq, Addr.mk.injEq] at e'
      left; omega
    · right; omega
  obtain ⟨b, off, hb, hrow, hbw⟩ : ∃ b off, b < w2.heap.size ∧ (∀ k, k < L.length → a = some ⟨b, off, none⟩ ∧ w2.cell? ⟨b, off + k * 2, none⟩ = some (.int .i64 (nth pd L k).1) ∧ w2.cell? ⟨b, off + k * 2 + 1, none⟩ = some (.string (S (nth pd L k).2))) ∧ b ≠ w.heap.size := by
    rcases hb0 with h0 | h0
    · exact ⟨b, off, hb, hrow, by omega⟩
    · exact ⟨w.heap.size + 1, 0, by omega, fun k hk => by omega, by omega⟩
  refine wpIn_rangeFunc_ownG rfl h1 (gf := 131) (lb := #[.pointer (some ⟨w.heap.size + 1, 0, none⟩)]) rfl trivial (enters_of Try.func131 (by kernel_rfl) rfl)
    (mseq_any h hL (w.heap.size + 1) w2 hb2 (by omega) hcx b off hb hrow _ (by omega)) KB.trans (KB.put (by omega) hb) (Below.refl _ _) (fun _ => rfl)
    (fun pre W => (pre.length ≤ 300 ∧ W.cell? ⟨w.heap.size, 0, none⟩ = some (.int .i64 ((slotsL pre).length : Nat)) ∧ W.frozen? ⟨w.heap.size, 0, none⟩ = false) ∧ Below w.heap.size w W)
    (fun c pre W => False ∧ Below w.heap.size w W)
    (OwnFrom.and (Own.from (fun s A B row hs hg hr => ⟨hs.1, cell_kept hs.2.1 hg hr, (frozen_kept hs.2.1 hg hr).trans hs.2.2⟩) _) (ownFrom_below (Nat.le_refl _) (by omega)))
    (fun c => OwnFrom.and (Own.from (fun s A B row hs hg hr => hs) _) (ownFrom_below (Nat.le_refl _) (by omega)))
    ⟨⟨by simp, hc0, hf0⟩, hb2⟩
    ?_ ?_ ?_ ?_ ?_
  rotate_left 1
  · intro Lq x W K hK
    dsimp only [encP]
    gi_wp2
    exact hK
  · rintro Lq pre x W ⟨⟨hp3, hcw, hfw⟩, hB⟩ hpl
    have hsl := slotsL_len pre
    have hsn := slotsL_snoc pre x
    have hpl2 : (pre ++ [x]).length ≤ 300 := by rw [List.length_append]; simp; omega
    by_cases h0 : x.1 = 0
    · rw [if_pos h0, List.append_nil] at hsn
      have hz : (!decide (x.1 = 0)) = false := by simp [h0]
      have HSN := Lib.hid hsn
      have HP := Lib.hid hpl2
      clear h0 hsn hpl2
      simp only [hz]
      gi_wp2
      exact ⟨KeepsFrom.refl _ _, KB.refl _ _ _, ⟨HP.out, by rw [HSN.out]; exact hcw, hfw⟩, hB⟩
    · rw [if_neg h0] at hsn
      have hz : (!decide (x.1 = 0)) = true := by simp [h0]
      have HSN := Lib.hid hsn
      have HP := Lib.hid hpl2
      clear h0 hsn hpl2
      simp only [hz]
      gi_wp2
      refine ⟨(KeepsOthers.setCell _ _ _).from _, KB.setCell _ _ _ _ (by omega) hbw, ⟨HP.out, ?_, ?_⟩, hB.setCell (p := ⟨w.heap.size, 0, none⟩) (Nat.le_refl _) _⟩
      · rw [World.cell?_setCell_same' _ _ _ (by rw [hcw]; rfl), HSN.out, List.length_append]; rfl
      · rw [World.frozen?_setCell]; exact hfw
  · rintro D ys W hD rfl ⟨⟨_, hcw, hfw⟩, hB⟩ hK
    gi_wp2
    refine ⟨by simp, .inl ⟨_, _, rfl, run_takeDeferred hK, ?_⟩⟩
    refine ⟨_, results_tmp rfl _ _ _, rfl, hB.trans (belowK_b (w := w) (Nat.le_refl _) W D _ _ (by omega) hK rfl rfl)⟩
  · rintro D c pre W hD hpre ⟨hf, _⟩ hK
    exact hf.elim
end Go.Proofs.Ytmdpmjabjijjiaa
