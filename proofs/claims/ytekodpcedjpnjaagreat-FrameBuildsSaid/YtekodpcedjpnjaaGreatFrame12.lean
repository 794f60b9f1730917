/- The law FrameWrites. No condition. -/
import Derived.Test.YtekodpcedjpnjaaGreatFrame9
import Derived.Test.YtekodpcedjpnjaaGreatFlatClu
import Derived.Test.YtekodpcedjpnjaaGreatRClus3
namespace Go.Proofs.YtekodpcedjpnjaaGreat
set_option linter.unusedVariables false
set_option linter.unusedSimpArgs false
open Go.RowKit Go.Shelf Go.Maps
theorem bounds_u8F {x : Int} (h : (Lit.int .u8 x).wf = true) : 0 ≤ x ∧ x ≤ 255 := by simpa [Lit.wf, IntKind.min, IntKind.max, IntKind.signed, IntKind.bits] using h
theorem S_extractF (l : List UInt8) (a b : Nat) : (S l).extract a b = S ((l.drop a).take (b - a)) := by
  unfold S
  apply ByteArray.ext
  rw [ByteArray.data_extract]
  apply Array.ext'
  simp [List.extract]
theorem sumC_geF : ∀ (L : List (List UInt8)), (∀ c ∈ L, Clu c) → (L.length : Int) ≤ sumC L
  | [], _ => by simp [sumC]
  | c :: L, h => by
    have h1 := (h c (List.mem_cons_self ..)).cols
    have h2 := sumC_geF L (fun x hx => h x (List.mem_cons_of_mem _ hx))
    rw [sumC_cons, List.length_cons]
    omega
theorem fit_bdF : ∀ (L : List (List UInt8)) (n : Int), sumC (L.take (fitK L n)) ≤ max 0 n
  | [], n => by simp [fitK, sumC]; omega
  | c :: L, n => by
    unfold fitK
    split
    · simp [sumC]; omega
    · rename_i h
      have := fit_bdF L (n - colsL c)
      have hc := colsL_bd c
      rw [List.take_succ_cons, sumC_cons]
      omega
theorem CellsAt.sub {W : World} {b o n i m : Nat} {M : List GC} (h : CellsAt W (some ⟨b, o, none⟩) n M) (hm : i + m ≤ n) : CellsAt W (some ⟨b, o + i * 7, none⟩) m ((M.drop i).take m) := by
  have hl := h.len
  refine ⟨by rw [List.length_take, List.length_drop]; omega, fun j c hj => ?_⟩
  have hj1 := (List.getElem?_eq_some_iff.1 hj).1
  rw [List.length_take, List.length_drop] at hj1
  rw [List.getElem?_take_of_lt (by omega), List.getElem?_drop] at hj
  obtain ⟨b', o', e, hb, hr⟩ := h.at_ (i + j) c hj
  simp only [Option.some.injEq, Addr.mk.injEq] at e
  obtain ⟨rfl, rfl, _⟩ := e
  exact ⟨b, o + i * 7, rfl, hb, by rw [show o + i * 7 + j * 7 = o + (i + j) * 7 by omega]; exact hr⟩
/-- What stands in the second row behind the text. -/
theorem row_text {n at' : Nat} (y : Sy) (C : List (List UInt8)) (hC : ∀ x ∈ C, Clu x) (hfit : (at' : Int) + sumC C ≤ n) :
    lineL (putsG n 2 ((1 : Nat) : Int) at' y C C.length (List.replicate (n * 2) GC.blank)) n 1 = List.replicate at' GC.blank ++ cellsOf y C ++ List.replicate (n - at' - (sumC C).toNat) GC.blank := by
  have hs := sumC_bd C
  have hl := cellsOf_len y C hC
  have h := puts_blank (w := n) (h := 2) (r := 1) (c := at') (List.replicate (n * 1 + at') GC.blank) [] y C hC (by omega) (by simp) hfit C.length (Nat.le_refl _)
  rw [List.take_length] at h
  have e : List.replicate (n * 2) GC.blank = List.replicate (n * 1 + at') GC.blank ++ List.replicate (n - at') GC.blank ++ [] := by
    rw [List.append_nil, List.replicate_append_replicate]; congr 1; omega
  rw [e, h]
  unfold lineL
  have e2 : List.replicate (n * 1 + at') GC.blank = List.replicate (n * 1) GC.blank ++ List.replicate at' GC.blank := by rw [List.replicate_append_replicate]
  rw [e2]
  simp only [List.append_assoc, List.append_nil]
  rw [List.drop_left' (by simp)]
  rw [List.take_of_length_le (by simp; omega)]
theorem row_mid {n at' : Nat} (y : Sy) (C : List (List UInt8)) (hC : ∀ x ∈ C, Clu x) (hfit : (at' : Int) + sumC C ≤ n) :
    ((lineL (putsG n 2 ((1 : Nat) : Int) at' y C C.length (List.replicate (n * 2) GC.blank)) n 1).drop at').take (sumC C).toNat = cellsOf y C := by
  have hs := sumC_bd C
  have hl := cellsOf_len y C hC
  rw [row_text y C hC hfit, List.append_assoc, List.drop_left' (by simp), List.take_left' (by omega)]
theorem cellsOf_size (y : Sy) (C : List (List UInt8)) (hC : ∀ x ∈ C, Clu x) : ∀ c ∈ cellsOf y C, c.s.size ≤ 64 := by
  intro c hc
  obtain ⟨x, hx, hcx⟩ := List.mem_flatMap.1 hc
  have hl := (hC x hx).len
  have hs := S_size x
  unfold cellOf at hcx
  split at hcx
  · simp only [List.mem_cons, List.not_mem_nil, or_false] at hcx
    rcases hcx with rfl | rfl
    · show (S x).size ≤ 64; omega
    · show (0 : Nat) ≤ 64; omega
  · simp only [List.mem_cons, List.not_mem_nil, or_false] at hcx
    subst hcx
    show (S x).size ≤ 64; omega
end Go.Proofs.YtekodpcedjpnjaaGreat
