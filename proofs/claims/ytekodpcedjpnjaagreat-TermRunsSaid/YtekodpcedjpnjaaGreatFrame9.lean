/- The methods of a builder that nobody made. No condition. The frame of a builder: its rows copied. No condition. The frame of a builder: the walk. No condition. A row's text (reference). No condition. Plain: clusters put behind each other over blanks stand in their cells. No condition. A row that is whole: what Check says of it. No condition. Check of a frame that may be. No condition. The law's example. No condition. -/
import Derived.Test.YtekodpcedjpnjaaGreatFrame2
import Derived.Test.YtekodpcedjpnjaaGreatGrid16
import Derived.Test.YtekodpcedjpnjaaGreatFRows
namespace Go.Proofs.YtekodpcedjpnjaaGreat
set_option linter.unusedVariables false
set_option linter.unusedSimpArgs false
open Go.RowKit Go.Maps
end Go.Proofs.YtekodpcedjpnjaaGreat
namespace Go.Proofs.YtekodpcedjpnjaaGreat
set_option linter.unusedVariables false
set_option linter.unusedSimpArgs false
open Go.RowKit Go.Shelf Go.Maps
attribute [local go_sem] Oper.semAt_some
end Go.Proofs.YtekodpcedjpnjaaGreat
namespace Go.Proofs.YtekodpcedjpnjaaGreat
set_option linter.unusedVariables false
set_option linter.unusedSimpArgs false
open Go.RowKit Go.Shelf Go.Maps
attribute [local go_sem] Oper.semAt_some
/-- The rows of a grid. -/
def rowsG (L : List GC) (w k : Nat) : List (List GC) := (List.range k).map (lineL L w)
def FrI (w : World) (F n₀ : Nat) (b p q gw gh : Nat) (L : List GC) (r c : Nat) (s : Bool) (pre : List (Nat × Nat)) (W : World) : Prop :=
  (∃ v vs, FBox W F v r c s ∧ RowsV n₀ W v vs (rowsG L gw pre.length)) ∧ FBox W w.heap.size (.slice none 0 0) 0 0 false ∧ BAt W b p q gw gh L r c s ∧ Below w.heap.size w W
theorem FrI.own {w : World} {F n₀ b p q gw gh : Nat} {L : List GC} {r c : Nat} {s : Bool} {B : Nat} (hB : w.heap.size ≤ B) : OwnFrom B (FrI w F n₀ b p q gw gh L r c s) := fun _ _ _ _ h hg hr => by
  obtain ⟨⟨v, vs, h1, h2⟩, h3, h4, h5⟩ := h
  exact ⟨⟨v, vs, own_heap h1 rfl hg hr, h2.far hg (fun r e => (hr r e).2)⟩, own_heap h3 rfl hg hr, h4.own hg hr, h5.grown hg h5.size (fun k e => Nat.le_trans hB (hr k e).1)⟩
end Go.Proofs.YtekodpcedjpnjaaGreat
namespace Go.Proofs.YtekodpcedjpnjaaGreat
set_option linter.unusedVariables false
set_option linter.unusedSimpArgs false
open Go.RowKit Go.Shelf Go.Maps
/-- The text of a row of cells. -/
def lineT (M : List GC) : List UInt8 := M.flatMap fun c => c.s.data.toList
theorem lineT_take (M : List GC) (k : Nat) (h : k < M.length) : lineT (M.take (k + 1)) = lineT (M.take k) ++ (nth GC.zero M k).s.data.toList := by
  unfold lineT
  rw [List.take_succ_eq_append_getElem h, List.flatMap_append, nth_eq _ _ _ h]
  simp
theorem lineT_len (M : List GC) (h : ∀ c ∈ M, c.s.size ≤ 64) : (lineT M).length ≤ 64 * M.length := by
  induction M with
  | nil => simp [lineT]
  | cons c M ih =>
    have h1 := ih (fun d hd => h d (List.mem_cons_of_mem _ hd))
    have h2 := h c (List.mem_cons_self ..)
    unfold lineT at h1 ⊢
    rw [List.flatMap_cons, List.length_append, List.length_cons]
    have : c.s.data.toList.length = c.s.size := by rw [Array.length_toList]; rfl
    omega
theorem S_list (s : ByteArray) : S s.data.toList = s := by
  obtain ⟨l⟩ := s
  unfold S
  simp
end Go.Proofs.YtekodpcedjpnjaaGreat
namespace Go.Proofs.YtekodpcedjpnjaaGreat
set_option linter.unusedVariables false
set_option linter.unusedSimpArgs false
open Go.RowKit Go.Shelf Go.Maps
/-- The cells of a cluster, of clusters. -/
def cellOf (y : Sy) (x : List UInt8) : List GC := if colsL x = 2 then [⟨S x, 2, y⟩, ⟨⟨#[]⟩, 0, y⟩] else [⟨S x, 1, y⟩]
def cellsOf (y : Sy) (C : List (List UInt8)) : List GC := C.flatMap (cellOf y)
theorem cellOf_len (y : Sy) (x : List UInt8) (h : Clu x) : ((cellOf y x).length : Int) = colsL x := by
  have := h.cols
  unfold cellOf
  split
  · simp; omega
  · simp; omega
theorem cellsOf_len (y : Sy) : ∀ (C : List (List UInt8)), (∀ x ∈ C, Clu x) → ((cellsOf y C).length : Int) = sumC C
  | [], _ => rfl
  | x :: C, h => by
    have h1 := cellOf_len y x (h x (List.mem_cons_self ..))
    have h2 := cellsOf_len y C (fun z hz => h z (List.mem_cons_of_mem _ hz))
    unfold cellsOf at h2 ⊢
    rw [List.flatMap_cons, List.length_append, sumC_cons]
    omega
theorem set_midF {α : Type} (P T : List α) (a b : α) (k : Nat) (hk : k = P.length) : (P ++ a :: T).set k b = P ++ b :: T := by
  subst hk
  rw [List.set_append_right _ _ (Nat.le_refl _), Nat.sub_self, List.set_cons_zero]
theorem nth_midF (P T : List GC) (a : GC) (k : Nat) (hk : k = P.length) : nth GC.zero (P ++ a :: T) k = a := by
  subst hk
  simp [nth]
theorem wipe_blank (P T : List GC) (o n c : Nat) (hk : o + c = P.length) : wipeL (P ++ GC.blank :: T) o n c = P ++ GC.blank :: T := by
  unfold wipeL
  dsimp only
  rw [nth_midF P T GC.blank (o + c) hk, set_midF P T _ _ _ hk]
  rw [if_neg (by rintro ⟨h, _⟩; exact absurd h (by decide)), if_neg (by rintro ⟨h, _⟩; exact absurd h (by decide))]
theorem put_blank {w h r c m : Nat} (P Q : List GC) (y : Sy) (x : List UInt8) (hx : Clu x) (hr : r < h) (hP : P.length = w * r + c) (hm : c + m ≤ w) (hv : colsL x ≤ m) :
    putG w h (P ++ List.replicate m GC.blank ++ Q) r c (S x) (colsL x) y = P ++ cellOf y x ++ List.replicate (m - (colsL x).toNat) GC.blank ++ Q := by
  have hc := hx.cols
  have hl := hx.len
  have hs : (S x).size = x.length := S_size x
  have hne : S x ≠ ⟨#[]⟩ := fun e => by rw [e] at hs; have : (⟨#[]⟩ : ByteArray).size = 0 := rfl; omega
  have he : putErr w h r c (S x) (colsL x) = 0 := by
    unfold putErr
    rw [if_neg (by rintro (h1 | h1 | h1); exact hne h1; omega; omega), if_neg (by omega)]
  unfold putG
  rw [if_pos he]
  simp only [Int.toNat_natCast]
  unfold putL cellOf
  by_cases h2 : colsL x = 2
  · rw [if_pos h2, if_pos h2, h2]
    obtain ⟨d, rfl⟩ : ∃ d, m = d + 2 := ⟨m - 2, by omega⟩
    have e1 : P ++ List.replicate (d + 2) GC.blank ++ Q = P ++ GC.blank :: (GC.blank :: (List.replicate d GC.blank ++ Q)) := by
      rw [List.replicate_succ, List.replicate_succ]; simp
    have e2 : P ++ GC.blank :: (GC.blank :: (List.replicate d GC.blank ++ Q)) = (P ++ [GC.blank]) ++ GC.blank :: (List.replicate d GC.blank ++ Q) := by simp
    rw [e1, wipe_blank _ _ _ _ _ hP.symm, e2, wipe_blank _ _ _ _ _ (by simp; omega), set_midF _ _ _ _ _ (by simp; omega)]
    rw [show (P ++ [GC.blank]) ++ (⟨⟨#[]⟩, 0, y⟩ : GC) :: (List.replicate d GC.blank ++ Q) = P ++ GC.blank :: ((⟨⟨#[]⟩, 0, y⟩ : GC) :: (List.replicate d GC.blank ++ Q)) by simp, set_midF _ _ _ _ _ hP.symm]
    simp
  · have h1 : colsL x = 1 := by omega
    rw [if_neg h2, if_neg h2, h1]
    obtain ⟨d, rfl⟩ : ∃ d, m = d + 1 := ⟨m - 1, by omega⟩
    have e1 : P ++ List.replicate (d + 1) GC.blank ++ Q = P ++ GC.blank :: (List.replicate d GC.blank ++ Q) := by
      rw [List.replicate_succ]; simp
    rw [e1, wipe_blank _ _ _ _ _ hP.symm, set_midF _ _ _ _ _ hP.symm]
    simp
end Go.Proofs.YtekodpcedjpnjaaGreat
namespace Go.Proofs.YtekodpcedjpnjaaGreat
set_option linter.unusedVariables false
set_option linter.unusedSimpArgs false
open Go.RowKit Go.Shelf Go.Maps
def GC.tail (y : Sy) : GC := ⟨⟨#[]⟩, 0, y⟩
end Go.Proofs.YtekodpcedjpnjaaGreat
namespace Go.Proofs.YtekodpcedjpnjaaGreat
set_option linter.unusedVariables false
set_option linter.unusedSimpArgs false
open Go.RowKit Go.Shelf Go.Maps
end Go.Proofs.YtekodpcedjpnjaaGreat
namespace Go.Proofs.YtekodpcedjpnjaaGreat
set_option linter.unusedVariables false
set_option linter.unusedSimpArgs false
open Go.RowKit Go.Shelf Go.Maps
end Go.Proofs.YtekodpcedjpnjaaGreat
