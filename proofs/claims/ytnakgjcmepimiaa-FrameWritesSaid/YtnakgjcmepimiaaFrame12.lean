/- The law FrameWrites. No condition. -/
import Derived.Test.YtnakgjcmepimiaaFrame9
import Derived.Test.YtnakgjcmepimiaaFlatClu
import Derived.Test.YtnakgjcmepimiaaRClus3
namespace Go.Proofs.Ytnakgjcmepimiaa
set_option linter.unusedVariables false
set_option linter.unusedSimpArgs false
open Go.RowKit Go.Shelf Go.Maps
theorem bounds_u8F {x : Int} (h : (Lit.int .u8 x).wf = true) : 0 ≤ x ∧ x ≤ 255 := by simpa [Lit.wf, IntKind.min, IntKind.max, IntKind.signed, IntKind.bits] using h
theorem S_extractF (l : List UInt8) (a b : Nat) : (S l).extract a b = S ((l.drop a).take (b - a)) := by
  unfold S
  apply ByteArray.ext
  rw [ByteArray.data_extract]
  apply Array.ext'
  simp [List.extract]
theorem sumC_geF : ∀ (L : List (List UInt8)), (∀ c ∈ L, Clu c) → (L.length : Int) ≤ sumC L
  | [], _ => by simp [sumC]
  | c :: L, h => by
    have h1 := (h c (List.mem_cons_self ..)).cols
    have h2 := sumC_geF L (fun x hx => h x (List.mem_cons_of_mem _ hx))
    rw [sumC_cons, List.length_cons]
    omega
theorem fit_bdF : ∀ (L : List (List UInt8)) (n : Int), sumC (L.take (fitK L n)) ≤ max 0 n
  | [], n => by simp [fitK, sumC]; omega
  | c :: L, n => by
    unfold fitK
    split
    · simp [sumC]; omega
    · rename_i h
      have := fit_bdF L (n - colsL c)
      have hc := colsL_bd c
      rw [List.take_succ_cons, sumC_cons]
      omega
theorem CellsAt.sub {W : World} {b o n i m : Nat} {M : List GC} (h : CellsAt W (some ⟨b, o, none⟩) n M) (hm : i + m ≤ n) : CellsAt W (some ⟨b, o + i * 7, none⟩) m ((M.drop i).take m) := by
  have hl := h.len
  refine ⟨by rw [List.length_take, List.length_drop]; omega, fun j c hj => ?_⟩
  have hj1 := (List.getElem?_eq_some_iff.1 hj).1
  rw [List.length_take, List.length_drop] at hj1
  rw [List.getElem?_take_of_lt (by omega), List.getElem?_drop] at hj
  obtain ⟨b', o', e, hb, hr⟩ := h.at_ (i + j) c hj
  simp only [Option.some.injEq, Addr.mk.injEq] at e
  obtain ⟨rfl, rfl, _⟩ := e
  exact ⟨b, o + i * 7, rfl, hb, by rw [show o + i * 7 + j * 7 = o + (i + j) * 7 by omega]; exact hr⟩
/-- What stands in the second row behind the text. -/
theorem row_text {n at' : Nat} (y : Sy) (C : List (List UInt8)) (hC : ∀ x ∈ C, Clu x) (hfit : (at' : Int) + sumC C ≤ n) :
    lineL (putsG n 2 ((1 : Nat) : Int) at' y C C.length (List.replicate (n * 2) GC.blank)) n 1 = List.replicate at' GC.blank ++ cellsOf y C ++ List.replicate (n - at' - (sumC C).toNat) GC.blank := by
  have hs := sumC_bd C
  have hl := cellsOf_len y C hC
  have h := puts_blank (w := n) (h := 2) (r := 1) (c := at') (List.replicate (n * 1 + at') GC.blank) [] y C hC (by omega) (by simp) hfit C.length (Nat.le_refl _)
  rw [List.take_length] at h
  have e : List.replicate (n * 2) GC.blank = List.replicate (n * 1 + at') GC.blank ++ List.replicate (n - at') GC.blank ++ [] := by
    rw [List.append_nil, List.replicate_append_replicate]; congr 1; omega
  rw [e, h]
  unfold lineL
  have e2 : List.replicate (n * 1 + at') GC.blank = List.replicate (n * 1) GC.blank ++ List.replicate at' GC.blank := by rw [List.replicate_append_replicate]
  rw [e2]
  simp only [List.append_assoc, List.append_nil]
  rw [List.drop_left' (by simp)]
  rw [List.take_of_length_le (by simp; omega)]
theorem row_mid {n at' : Nat} (y : Sy) (C : List (List UInt8)) (hC : ∀ x ∈ C, Clu x) (hfit : (at' : Int) + sumC C ≤ n) :
    ((lineL (putsG n 2 ((1 : Nat) : Int) at' y C C.length (List.replicate (n * 2) GC.blank)) n 1).drop at').take (sumC C).toNat = cellsOf y C := by
  have hs := sumC_bd C
  have hl := cellsOf_len y C hC
  rw [row_text y C hC hfit, List.append_assoc, List.drop_left' (by simp), List.take_left' (by omega)]
theorem cellsOf_size (y : Sy) (C : List (List UInt8)) (hC : ∀ x ∈ C, Clu x) : ∀ c ∈ cellsOf y C, c.s.size ≤ 64 := by
  intro c hc
  obtain ⟨x, hx, hcx⟩ := List.mem_flatMap.1 hc
  have hl := (hC x hx).len
  have hs := S_size x
  unfold cellOf at hcx
  split at hcx
  · simp only [List.mem_cons, List.not_mem_nil, or_false] at hcx
    rcases hcx with rfl | rfl
    · show (S x).size ≤ 64; omega
    · show (0 : Nat) ≤ 64; omega
  · simp only [List.mem_cons, List.not_mem_nil, or_false] at hcx
    subst hcx
    show (S x).size ≤ 64; omega
set_option maxRecDepth 100000 in
set_option maxHeartbeats 8000000 in
theorem frameWrites_law (w0 c0 : Int) (s0 : ByteArray) (W : World) (hw0 : (Lit.int .u8 w0).wf = true) (hc0 : (Lit.int .u8 c0).wf = true) (hs0 : s0.size ≤ maxLen) :
    Calls Try.prog 3 #[.int .u8 w0, .int .u8 c0, .string s0] W fun e w' => e = .returned (.bool true) ∧ Below W.heap.size W w' := by
  have hw : 0 ≤ w0 ∧ w0 ≤ 255 := bounds_u8F hw0
  have hc : 0 ≤ c0 ∧ c0 ≤ 255 := bounds_u8F hc0
  obtain ⟨wn, rfl⟩ := Int.eq_ofNat_of_zero_le hw.1
  obtain ⟨cn, rfl⟩ := Int.eq_ofNat_of_zero_le hc.1
  obtain ⟨l, rfl⟩ := S_back s0
  rw [S_size] at hs0
  unfold maxLen at hs0
  have hs := S_size l
  obtain ⟨k, hk⟩ : ∃ k, k = min l.length 300 := ⟨_, rfl⟩
  have hmin : min (l.length : Int) 300 = (k : Int) := by omega
  have hkl : k ≤ l.length := by omega
  have hext : (S l).extract 0 k = S (l.take 300) := by
    rw [S_extractF, List.drop_zero, Nat.sub_zero]
    congr 1
    rcases Nat.le_total l.length 300 with h | h
    · rw [List.take_of_length_le (by omega), List.take_of_length_le h]
    · rw [show k = 300 by omega]
  have hki : (k : Int) ≤ (l.length : Int) := by omega
  have hl3 : (l.take 300).length ≤ 300 := by rw [List.length_take]; omega
  obtain ⟨l3, hl3e⟩ : ∃ x, x = l.take 300 := ⟨_, rfl⟩
  rw [← hl3e] at hext hl3
  have HX := Lib.hid hext
  obtain ⟨n, hn⟩ : ∃ n, n = 1 + wn % 100 := ⟨_, rfl⟩
  obtain ⟨at', hat⟩ : ∃ a, a = cn % n := ⟨_, rfl⟩
  have hm1 : (wn : Int).tmod 100 = ((wn % 100 : Nat) : Int) := by rw [Int.tmod_eq_emod_of_nonneg (by omega)]; omega
  have CF := Lib.hid (fun W => refFlat_any l3 (by omega) W)
  clear hk hext hl3e
  go_enter Try.func3, Try.ntmps3
  go_wp2_with (go_at_call 9; rw [HX.out]; refine (CF.out _).mono ?_; rintro e w1 ⟨rfl, hb1⟩)
  have en : (1 + (wn : Int) % 100) = (n : Int) := by omega
  have ea : (cn : Int) % (n : Int) = (at' : Int) := by rw [hat]; first | exact (Int.natCast_emod cn n).symm | simp
  have hn1 : 1 ≤ n ∧ n ≤ 100 := by omega
  have han : at' < n := by rw [hat]; exact Nat.mod_lt _ (by omega)
  have ew : wrap64 ((n : Int) - (at' : Int)) = (n : Int) - (at' : Int) := by unfold wrap64; omega
  simp only [en, ea, ew]
  have hfl := flat_len64F l3
  have CI := Lib.hid (fun W => refFit_any (flatL l3) ((n : Int) - at') (by omega) (by omega) W)
  clear hn hat en ea hm1 hw hc hmin hki hkl hs HX CF
  have hbd := fit_bdF (cutL (flatL l3)) ((n : Int) - at')
  have hCL : ∀ x ∈ (cutL (flatL l3)).take (fitK (cutL (flatL l3)) ((n : Int) - at')), Clu x := fun x hx => clu_mem (List.mem_of_mem_take hx)
  have hfT : fitT (flatL l3) ((n : Int) - at') = ((cutL (flatL l3)).take (fitK (cutL (flatL l3)) ((n : Int) - at'))).flatten := rfl
  have hfN : fitN (flatL l3) ((n : Int) - at') = sumC ((cutL (flatL l3)).take (fitK (cutL (flatL l3)) ((n : Int) - at'))) := rfl
  obtain ⟨C, hC⟩ : ∃ C, C = (cutL (flatL l3)).take (fitK (cutL (flatL l3)) ((n : Int) - at')) := ⟨_, rfl⟩
  rw [← hC] at hbd hCL hfT hfN
  rw [hfT, hfN] at CI
  have hz := sumC_bd C
  have hfit : (at' : Int) + sumC C ≤ n := by omega
  obtain ⟨q, hq⟩ : ∃ q : Nat, sumC C = q := ⟨(sumC C).toNat, by omega⟩
  have hk : fitK C ((n : Int) - at') = C.length := fitK_end _ _ (fun i hi => by
    have h1 := sumC_take C i hi
    have h2 : sumC C = sumC (C.take (i + 1)) + sumC (C.drop (i + 1)) := by rw [← sumC_append, List.take_append_drop]
    have h3 := sumC_bd (C.drop (i + 1))
    omega)
  have hTl : C.flatten.length ≤ 64 * C.length := flat_len C 64 (fun c hc => (hCL c hc).len.2)
  have hCn : (C.length : Int) ≤ sumC C := sumC_geF C hCL
  have hTx := fun (W : World) (b p q' : Nat) (a : BAt W b p q' n 2 (List.replicate (n * 2) GC.blank) 0 0 false) => text_ok a 1 at' C.flatten ⟨true, false, false, 0, 0⟩ (by omega) (by omega) rfl (by omega)
  simp only [flat_clus' hCL, cutL_flat hCL, hk, List.take_length] at hTx
  have hmid := row_mid ⟨true, false, false, 0, 0⟩ C hCL hfit
  obtain ⟨G, hG⟩ : ∃ G, G = putsG n 2 ((1 : Nat) : Int) at' ⟨true, false, false, 0, 0⟩ C C.length (List.replicate (n * 2) GC.blank) := ⟨_, rfl⟩
  rw [← hG] at hTx hmid
  rw [hq] at hTx hmid CI hfit
  simp only [Int.toNat_natCast] at hmid
  have htxt := cellsOf_text ⟨true, false, false, 0, 0⟩ C
  have hsz := cellsOf_size ⟨true, false, false, 0, 0⟩ C hCL
  rw [← hmid] at htxt hsz
  obtain ⟨T, hT⟩ : ∃ T, T = C.flatten := ⟨_, rfl⟩
  rw [← hT] at hTx htxt CI
  have HTX := Lib.hid (fun (W : World) (b p q' : Nat) (a : BAt W b p q' n 2 (List.replicate (n * 2) GC.blank) 0 0 false) => hTx W b p q' a)
  have CN := Lib.hid (fun W => fnew_okI (n : Int) 2 n 2 rfl rfl (by omega) W)
  have CFr := Lib.hid (fun W b p q r c s (a : BAt W b p q n 2 G r c s) hr hc => frame_any a (by omega) hr hc)
  have HTXT := Lib.hid htxt
  have HSZ := Lib.hid hsz
  have CI := Lib.hid CI.out
  have CE := (S_eq T)
  clear hTx hmid htxt hsz hG hC hbd hCL hfT hfN hk hTl hCn hz hq ew hT
  go_wp2_with fail
  refine (CI.out _).mono ?_
  rintro e w2 ⟨rfl, hb2⟩
  go_wp2_with fail
  refine (CN.out _).mono ?_
  rintro e w3 ⟨z, p, q', rfl, a3, ⟨g1, g2, g3⟩, hb3⟩
  go_wp2_with fail
  refine (HTX.out _ _ _ _ a3).mono ?_
  rintro e w4 ⟨rfl, a4, o4⟩
  go_wp2_with fail
  refine (CFr.out _ _ _ _ _ _ _ a4 (by omega) (by omega)).mono ?_
  rintro e w5 ⟨ar, cap, rfl, hR, ⟨hc1, hc2⟩, hb5⟩
  have hRl : (rowsG G n 2).length = 2 := rowsG_len G n 2
  rw [hRl] at hR hc1 ⊢
  have hrow : (rowsG G n 2)[1]? = some (lineL G n 1) := rfl
  have B5 : Below W.heap.size W w5 := by
    have k3 := bnext (bnext hb1 hb2) hb3
    have k4 : Below W.heap.size W w4 := k3.trans (o4.below (by simp; have := (bnext hb1 hb2).size; omega) k3.size)
    exact bto k4 hb5 k4.size
  obtain ⟨bb, off, a2, c2, rfl, hbl, hcell, ⟨hc3, hc4⟩, hM⟩ := hR.at_ 1 _ hrow
  have hlen : (lineL G n 1).length = n := lineL_length a4.g.len (by omega)
  rw [hlen] at hcell hc3 hM
  obtain ⟨b2, o2, ha2, hb2l, hjunk⟩ := hM.at_ 0 _ (List.getElem?_eq_getElem (by omega))
  clear hjunk
  subst ha2
  have hca : ¬ c2 = at' := by omega
  have hcb : ¬ at' = c2 := by omega
  have hc2m : c2 ≤ 9223372036854775807 := by unfold maxLen at hc4; omega
  have hMs := CellsAt.sub (i := at') (m := q) hM (by omega)
  have CLn := Lib.hid (fun (X : World) (hX : Below w5.heap.size w5 X) cap => fline_any (cap := cap) (hMs.below hX) (by omega) HSZ.out)
  have hob : o2 + at' * 7 = o2 + at' * 7 := rfl
  clear hM hMs hR hrow
  go_wp2_with fail
  try simp only [Option.map_some, Go.WideShapes.add_plain]
  refine (CLn.out _ ((Below.refl _ _).alloc (Nat.le_refl _) _) _).mono ?_
  rintro e w6 ⟨rfl, hb6⟩
  rw [HTXT.out]
  have B6 : Below W.heap.size W w6 := bto (B5.alloc B5.size _) hb6 (by have := B5.size; simp; omega)
  go_wp2_with (go_at_call 14; refine (awake09_any _).mono ?_; rintro e w7 ⟨rfl, hb7⟩)
  go_ret
  exact ⟨rfl, bto B6 hb7 B6.size⟩
end Go.Proofs.Ytnakgjcmepimiaa
