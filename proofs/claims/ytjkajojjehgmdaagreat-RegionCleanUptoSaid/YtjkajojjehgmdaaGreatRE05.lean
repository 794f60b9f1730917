/- Values of types that hold no pointer (numbers, bools, strings, structs of them): what a reading of their cells tells. Frames handed in: what a reading of their cells tells. A frame handed in, as rows of cells. No condition. A frame handed in: its rows of cells, and that none of its strings is longer than what is read is great. No condition. -/
import Derived.Deep.Slices
import Derived.ChangeArms
import Derived.RowKit
import Derived.Test.YtjkajojjehgmdaaGreatRows
import Derived.Test.YtjkajojjehgmdaaGreatRE04
set_option linter.unusedVariables false
set_option linter.unusedSimpArgs false
namespace Go.Proofs.YtjkajojjehgmdaaGreat
open Go.ChangeShapes Go.WideShapes Go.Deep
inductive Flat where
 | int (k : IntKind)
 | bool
 | str
def Flat.ok : Flat → Value → Prop
 | .int k, v => ∃ n, v = .int k n ∧ (Lit.int k n).wf = true
 | .bool, v => ∃ b, v = .bool b
 | .str, v => ∃ s : ByteArray, v = .string s ∧ s.size ≤ maxLen
def FlatAll : List Flat → List Value → Prop
 | [], [] => True
 | f :: fs, v :: vs => f.ok v ∧ FlatAll fs vs
 | _, _ => False
theorem FlatAll.append {a b : List Flat} {x y : List Value} (h : FlatAll a x) (h' : FlatAll b y) : FlatAll (a ++ b) (x ++ y) := by
 induction a generalizing x with
 | nil => cases x with
  | nil => exact h'
  | cons => exact h.elim
 | cons f fs ih => cases x with
  | nil => exact h.elim
  | cons v vs => exact ⟨h.1, ih h.2⟩
theorem FlatAll.length {a : List Flat} {x : List Value} (h : FlatAll a x) : x.length = a.length := by
 induction a generalizing x with
 | nil => cases x with
  | nil => rfl
  | cons => exact h.elim
 | cons f fs ih => cases x with
  | nil => exact h.elim
  | cons v vs => simp [ih h.2]
theorem FlatAll.uncons {f : Flat} {fs : List Flat} {x : List Value} (h : FlatAll (f :: fs) x) : ∃ v vs, x = v :: vs ∧ f.ok v ∧ FlatAll fs vs := by
 cases x with
 | nil => exact h.elim
 | cons v vs => exact ⟨v, vs, rfl, h.1, h.2⟩
theorem FlatAll.unnil {x : List Value} (h : FlatAll [] x) : x = [] := by
 cases x with
 | nil => rfl
 | cons v vs => exact h.elim
def IsFlats (fl : List Flat) (W : World) (a : Option Addr) (len cap : Nat) : Prop :=
 len ≤ cap ∧ cap ≤ maxLen ∧ ∀ i, i < len → ∃ b off V, a = some ⟨b, off, none⟩ ∧ b < W.heap.size ∧ FlatAll fl V ∧ ∀ j, j < fl.length → W.cell? ⟨b, off + (i * fl.length + j), none⟩ = V[j]?
def flatGo (P : Program) (g : TypeId → Option (List Flat)) : Nat → List Field → Option (List Flat)
 | _, [] => some []
 | off, f :: fs => if f.offset == off then (g f.type).bind fun a => if P.cellsOf f.type == a.length then (flatGo P g (off + a.length) fs).map (a ++ ·) else none else none
def flatOf (P : Program) : Nat → TypeId → Option (List Flat)
 | 0, _ => none
 | n + 1, t => match P.underlying t with
  | some (.int k) => some [.int k]
  | some .bool => some [.bool]
  | some .string => some [.str]
  | some (.struct fs) => (flatGo P (flatOf P n) 0 fs.toList).bind fun a => if P.cellsOf t == a.length then some a else none
  | _ => none
section
variable {H : Type} {enc : TypeId × Value → H} {P : Program} {w : World} {base : Nat} {spare : Nat → Bool} {held : Bool}
theorem flatGo_ok (g : TypeId → Option (List Flat)) (cs : List Value) (m : Nat)
    (hg : ∀ t fl cs' x, g t = some fl → DataW.trod enc P w base spare held m t cs' = some x → FlatAll fl cs' ∧ x.2 = []) :
    ∀ (l : List Field) (off : Nat) (fl : List Flat), flatGo P g off l = some fl → cs.length = off + fl.length →
     (∀ f ∈ l, ∃ x, DataW.trod enc P w base spare held m f.type ((cs.drop f.offset).take (P.cellsOf f.type)) = some x) → FlatAll fl (cs.drop off) := by
 intro l
 induction l with
 | nil =>
  intro off fl h hl _
  simp only [flatGo, Option.some.injEq] at h
  subst h
  rw [List.drop_eq_nil_of_le (by simp at hl; omega)]
  trivial
 | cons f fs ih =>
  intro off fl h hl hx
  simp only [flatGo] at h
  split at h
  ·rename_i ho
   have ho : f.offset = off := by simpa using ho
   obtain ⟨a, ha, h⟩ := Option.bind_eq_some_iff.1 h
   split at h
   ·rename_i hc
    have hc : P.cellsOf f.type = a.length := by simpa using hc
    obtain ⟨b, hb, rfl⟩ := Option.map_eq_some_iff.1 h
    obtain ⟨x, hx0⟩ := hx f (by simp)
    rw [ho, hc] at hx0
    have h1 := (hg _ _ _ _ ha hx0).1
    have h2 := ih (off + a.length) b hb (by rw [hl, List.length_append]; omega) (fun f' hf' => hx f' (by simp [hf']))
    have := h1.append h2
    rw [← List.drop_drop, List.take_append_drop] at this
    exact this
   ·cases h
  ·cases h
theorem flat_ok : ∀ (n : Nat) (t : TypeId) (fl : List Flat) (cs : List Value) (x : DataW H × List MemPlace) (fuel : Nat), flatOf P n t = some fl → DataW.trod enc P w base spare held fuel t cs = some x → FlatAll fl cs ∧ x.2 = [] := by
 intro n
 induction n with
 | zero => intro t fl cs x fuel h; cases h
 | succ n ih =>
  intro t fl cs x fuel h hx
  simp only [flatOf] at h
  split at h
  ·rename_i k hu
   obtain ⟨z, rfl, rfl, hw⟩ := DataW.trod_int hu hx
   simp only [Option.some.injEq] at h
   subst h
   exact ⟨⟨⟨z, rfl, hw⟩, trivial⟩, rfl⟩
  ·rename_i hu
   obtain ⟨z, rfl, rfl⟩ := DataW.trod_bool hu hx
   simp only [Option.some.injEq] at h
   subst h
   exact ⟨⟨⟨z, rfl⟩, trivial⟩, rfl⟩
  ·rename_i hu
   obtain ⟨z, rfl, rfl, hw⟩ := DataW.trod_string hu hx
   simp only [Option.some.injEq] at h
   subst h
   exact ⟨⟨⟨z, rfl, hw⟩, trivial⟩, rfl⟩
  ·rename_i fs hu
   obtain ⟨a, ha, h⟩ := Option.bind_eq_some_iff.1 h
   split at h
   ·rename_i hc
    simp only [Option.some.injEq] at h
    subst h
    have hc : P.cellsOf t = a.length := by simpa using hc
    obtain ⟨xs, m, rfl, rfl, hlen, hxl, hf⟩ := DataW.trod_struct hu hx
    refine ⟨?_, ?_⟩
    ·have := flatGo_ok (enc := enc) (P := P) (w := w) (base := base) (spare := spare) (held := held) (flatOf P n) cs m (fun t fl cs' x h1 h2 => ih t fl cs' x m h1 h2) fs.toList 0 a ha (by omega) (fun f hf' => by
      obtain ⟨i, hi, hif⟩ := List.mem_iff_getElem.1 hf'
      have hi' : i < fs.size := by simpa using hi
      have := hf i f (by rw [Array.getElem?_eq_getElem hi']; simp at hif; rw [hif])
      rw [this, List.getElem?_eq_getElem (by omega)]
      exact ⟨_, rfl⟩)
     simpa using this
    ·show xs.flatMap (·.2) = []
     rw [List.flatMap_eq_nil_iff]
     intro y hy
     obtain ⟨i, hi, rfl⟩ := List.mem_iff_getElem.1 hy
     have hi' : i < fs.size := by omega
     have h1 := hf i fs[i] (Array.getElem?_eq_getElem hi')
     rw [List.getElem?_eq_getElem hi] at h1
     have hmem : ∀ (l : List Field) (off : Nat) (fl : List Flat), flatGo P (flatOf P n) off l = some fl → ∀ f ∈ l, ∃ b, flatOf P n f.type = some b := by
      intro l
      induction l with
      | nil => intro off fl _ f hf; cases hf
      | cons f fs ih' =>
       intro off fl h f' hf'
       simp only [flatGo] at h
       split at h
       ·obtain ⟨a, ha, h⟩ := Option.bind_eq_some_iff.1 h
        split at h
        ·obtain ⟨b, hb, _⟩ := Option.map_eq_some_iff.1 h
         rcases List.mem_cons.1 hf' with rfl | hf'
         ·exact ⟨a, ha⟩
         ·exact ih' _ _ hb f' hf'
        ·cases h
       ·cases h
     obtain ⟨b, hb⟩ := hmem _ _ _ ha fs[i] (by simp)
     exact (ih _ _ _ _ _ hb h1).2
   ·cases h
  ·cases h
theorem open_flats {t e : TypeId} {n : Nat} {fl : List Flat} {fuel : Nat} {cs : List Value} {x : DataW H × List MemPlace} (ht : P.underlying t = some (.slice e)) (hf : flatOf P n e = some fl) (h : DataW.trod enc P w base spare held fuel t cs = some x) :
    (cs = [.slice none 0 0] ∧ x = (.nil, [])) ∨
    ∃ (a : Addr) (len cap : Nat), cs = [.slice (some a) len cap] ∧ len ≤ cap ∧ cap ≤ maxLen ∧ base ≤ a.block ∧ (∀ i, i < len → ∃ cs', w.cells? base (a.add (i * P.cellsOf e)) (P.cellsOf e) = some cs' ∧ FlatAll fl cs') := by
 rcases open_slice ht h with h0 | ⟨a, len, cap, m, k, D, Pl, rfl, hb, hl, hm, hmm, rfl, hx⟩
 ·exact .inl h0
 ·right
  refine ⟨a, len, cap, rfl, hl, hm, hb, fun i hi => ?_⟩
  obtain ⟨cs', h1, h2⟩ := hx i (by rw [hmm]; split <;> omega)
  exact ⟨cs', h1, (flat_ok n e fl _ _ _ hf h2).1⟩
theorem open_flats_rows {t e : TypeId} {n : Nat} {fl : List Flat} {a : Option Addr} {len cap : Nat} {d : DataW H} {ps : List MemPlace} (ht : P.underlying t = some (.slice e)) (hf : flatOf P n e = some fl) (hc : P.cellsOf e = fl.length)
    (hpos : 0 < fl.length) (h : DataW.Trod enc P w base spare held t (.slice a len cap) d ps) : IsFlats fl w a len cap := by
 obtain ⟨fuel, h⟩ := h
 rcases open_flats ht hf h with ⟨hcs, _⟩ | ⟨ad, len', cap', hcs, hl, hm, _, hx⟩
 ·simp [Value.cells] at hcs
  obtain ⟨rfl, rfl, rfl⟩ := hcs
  exact ⟨Nat.le_refl _, Nat.zero_le _, fun i hi => absurd hi (Nat.not_lt_zero _)⟩
 ·simp [Value.cells] at hcs
  obtain ⟨rfl, rfl, rfl⟩ := hcs
  refine ⟨hl, hm, fun i hi => ?_⟩
  obtain ⟨b, off, spot⟩ := ad
  have hspot : spot = none := by
   obtain ⟨cs0, h1, _⟩ := hx 0 (by omega)
   rw [hc] at h1
   obtain ⟨_, hlen, hcell⟩ := World.cells?_some h1
   have h0 := hcell 0 hpos
   rw [List.getElem?_eq_getElem (by omega)] at h0
   simpa [Addr.add] using World.cell?_spot h0
  subst hspot
  obtain ⟨cs', h1, h2⟩ := hx i hi
  rw [hc] at h1
  obtain ⟨_, hlen, hcell⟩ := World.cells?_some h1
  have h0 := hcell 0 hpos
  rw [List.getElem?_eq_getElem (by omega), Go.Deep.add_add, add_plain] at h0
  refine ⟨b, off, cs', rfl, ?_, h2, fun j hj => ?_⟩
  ·exact World.block_lt_of_cell? w _ h0
  ·have := hcell j hj
   rw [Go.Deep.add_add, add_plain] at this
   exact this
end
end Go.Proofs.YtjkajojjehgmdaaGreat
namespace Go.Proofs.YtjkajojjehgmdaaGreat
open Go.ChangeShapes Go.WideShapes Go.Deep Go.RowKit
section
variable {H : Type} {enc : TypeId × Value → H} {P : Program} {w : World} {base : Nat} {spare : Nat → Bool} {held : Bool}
theorem flats_cell {t e : TypeId} {n fuel : Nat} {fl : List Flat} {cs : List Value} {x : DataW H × List MemPlace} (ht : P.underlying t = some (.slice e)) (hf : flatOf P n e = some fl) (hc : P.cellsOf e = fl.length) (hpos : 0 < fl.length)
    (h : DataW.trod enc P w base spare held fuel t cs = some x) : ∃ a len cap, cs = [.slice a len cap] ∧ IsFlats fl w a len cap := by
 have hs : ∃ a len cap, cs = [.slice a len cap] := by
  rcases open_flats ht hf h with ⟨h1, _⟩ | ⟨ad, len', cap', h1, _⟩
  ·exact ⟨_, _, _, h1⟩
  ·exact ⟨_, _, _, h1⟩
 obtain ⟨a, len, cap, rfl⟩ := hs
 exact ⟨a, len, cap, rfl, open_flats_rows (d := x.1) (ps := x.2) ht hf hc hpos ⟨fuel, h⟩⟩
def IsRows (fl : List Flat) (W : World) (a : Option Addr) (len cap : Nat) : Prop :=
 len ≤ cap ∧ cap ≤ maxLen ∧ ∀ i, i < len → ∃ b off a' n' c', a = some ⟨b, off, none⟩ ∧ b < W.heap.size ∧ W.cell? ⟨b, off + i, none⟩ = some (.slice a' n' c') ∧ IsFlats fl W a' n' c'
theorem open_rows {t e c : TypeId} {n fuel : Nat} {fl : List Flat} {cs : List Value} {x : DataW H × List MemPlace} (ht : P.underlying t = some (.slice e)) (he : P.underlying e = some (.slice c)) (hce : P.cellsOf e = 1) (hf : flatOf P n c = some fl) (hc : P.cellsOf c = fl.length) (hpos : 0 < fl.length)
    (h : DataW.trod enc P w base spare held fuel t cs = some x) : ∃ a len cap, cs = [.slice a len cap] ∧ IsRows fl w a len cap := by
 rcases open_slice1 ht hce h with ⟨rfl, _⟩ | ⟨ad, len, cap, m, k, V, D, Pl, rfl, hb, hl, hm, hmm, _, hx⟩
 ·exact ⟨none, 0, 0, rfl, Nat.le_refl _, Nat.zero_le _, fun i hi => absurd hi (Nat.not_lt_zero _)⟩
 ·refine ⟨some ad, len, cap, rfl, hl, hm, fun i hi => ?_⟩
  have hi' : i < m := by rw [hmm]; split <;> omega
  obtain ⟨h1, h2⟩ := hx i hi'
  obtain ⟨b, off, spot⟩ := ad
  have hspot : spot = none := by
   have h0 := World.cell?_spot (hx 0 (by rw [hmm]; split <;> omega)).1
   simpa [Addr.add] using h0
  subst hspot
  obtain ⟨a', n', c', h3, h4⟩ := flats_cell he hf hc hpos h2
  simp only [List.cons.injEq, and_true] at h3
  rw [h3, add_plain] at h1
  exact ⟨b, off, a', n', c', rfl, World.block_lt_of_cell? w _ h1, h1, h4⟩
theorem open_frame {t e c ti tb : TypeId} {f0 f1 f2 f3 : Field} {n : Nat} {fl : List Flat} {cs : List Value} {d : DataW H} {ps : List MemPlace} (ht : P.underlying t = some (.struct #[f0, f1, f2, f3])) (hct : P.cellsOf t = 4)
    (o0 : f0.offset = 0) (o1 : f1.offset = 1) (o2 : f2.offset = 2) (o3 : f3.offset = 3) (u0 : P.underlying f0.type = some (.slice e)) (u1 : P.underlying f1.type = some (.int .i64)) (u2 : P.underlying f2.type = some (.int .i64)) (u3 : P.underlying f3.type = some .bool)
    (k0 : P.cellsOf f0.type = 1) (k1 : P.cellsOf f1.type = 1) (k2 : P.cellsOf f2.type = 1) (k3 : P.cellsOf f3.type = 1)
    (he : P.underlying e = some (.slice c)) (hce : P.cellsOf e = 1) (hf : flatOf P n c = some fl) (hc : P.cellsOf c = fl.length) (hpos : 0 < fl.length) {fuel : Nat} {x : DataW H × List MemPlace}
    (h : DataW.trod enc P w base spare held fuel t cs = some x) : ∃ a len cap r c s, cs = [.slice a len cap, .int .i64 r, .int .i64 c, .bool s] ∧ IsRows fl w a len cap ∧ (Lit.int .i64 r).wf = true ∧ (Lit.int .i64 c).wf = true := by
 obtain ⟨xs, m, _, _, hl, hlen, hx⟩ := DataW.trod_struct ht h
 rw [hct] at hl
 obtain ⟨v0, v1, v2, v3, rfl⟩ : ∃ v0 v1 v2 v3, cs = [v0, v1, v2, v3] := by
  match cs, hl with
  | [a, b, c, d], _ => exact ⟨a, b, c, d, rfl⟩
 have g : ∀ (i : Nat) (f : Field), (#[f0, f1, f2, f3] : Array Field)[i]? = some f → ∃ y, DataW.trod enc P w base spare held m f.type (([v0, v1, v2, v3].drop f.offset).take (P.cellsOf f.type)) = some y := fun i f hi => by
  have h1 := hx i f hi
  have h2 : i < xs.length := by
   have := (Array.getElem?_eq_some_iff.1 hi).1
   simp only [List.size_toArray, List.length_cons, List.length_nil] at this hlen
   omega
  rw [List.getElem?_eq_getElem h2] at h1
  exact ⟨_, h1⟩
 obtain ⟨y0, g0⟩ := g 0 f0 rfl
 obtain ⟨y1, g1⟩ := g 1 f1 rfl
 obtain ⟨y2, g2⟩ := g 2 f2 rfl
 obtain ⟨y3, g3⟩ := g 3 f3 rfl
 rw [o0, k0] at g0
 rw [o1, k1] at g1
 rw [o2, k2] at g2
 rw [o3, k3] at g3
 obtain ⟨a, len, cap, h0, hr⟩ := open_rows u0 he hce hf hc hpos g0
 obtain ⟨z1, h1, _, w1⟩ := DataW.trod_int u1 g1
 obtain ⟨z2, h2, _, w2⟩ := DataW.trod_int u2 g2
 obtain ⟨z3, h3, _⟩ := DataW.trod_bool u3 g3
 simp at h0 h1 h2 h3
 subst h0 h1 h2 h3
 exact ⟨a, len, cap, z1, z2, z3, rfl, hr, w1, w2⟩
end
end Go.Proofs.YtjkajojjehgmdaaGreat
namespace Go.Proofs.YtjkajojjehgmdaaGreat
open Go.RowKit Go.Maps
theorem list_forallF {α : Type} {p : Nat → α → Prop} : ∀ n : Nat, (∀ i, i < n → ∃ x, p i x) → ∃ l : List α, l.length = n ∧ ∀ i x, l[i]? = some x → p i x
 | 0, _ => ⟨[], rfl, fun i x h => by simp at h⟩
 | n + 1, h => by
  obtain ⟨l, hl, hp⟩ := list_forallF n (fun i hi => h i (by omega))
  obtain ⟨x, hx⟩ := h n (by omega)
  refine ⟨l ++ [x], by simp [hl], fun i y hy => ?_⟩
  by_cases hi : i < l.length
  ·rw [List.getElem?_append_left hi] at hy
   exact hp i y hy
  ·rw [List.getElem?_append_right (by omega)] at hy
   have h0 : i - l.length = 0 := by
    cases hk : i - l.length with
    | zero => rfl
    | succ k => rw [hk] at hy; simp at hy
   rw [h0] at hy
   simp only [List.getElem?_cons_zero, Option.some.injEq] at hy
   subst hy
   obtain rfl : i = n := by omega
   exact hx
def cellFlat : List Flat := [.str, .int .i64, .bool, .bool, .bool, .int .i64, .int .i64]
theorem gc_of_flat {V : List Value} (h : FlatAll cellFlat V) : ∃ c : GC, V = c.vals := by
 obtain ⟨_, V1, rfl, ⟨s, rfl, _⟩, h1⟩ := h.uncons
 obtain ⟨_, V2, rfl, ⟨w, rfl, _⟩, h2⟩ := h1.uncons
 obtain ⟨_, V3, rfl, ⟨b, rfl⟩, h3⟩ := h2.uncons
 obtain ⟨_, V4, rfl, ⟨u, rfl⟩, h4⟩ := h3.uncons
 obtain ⟨_, V5, rfl, ⟨i, rfl⟩, h5⟩ := h4.uncons
 obtain ⟨_, V6, rfl, ⟨f, rfl, _⟩, h6⟩ := h5.uncons
 obtain ⟨_, V7, rfl, ⟨g, rfl, _⟩, h7⟩ := h6.uncons
 obtain rfl := h7.unnil
 exact ⟨⟨s, w, ⟨b, u, i, f, g⟩⟩, rfl⟩
theorem cellsAt_of {W : World} {a : Option Addr} {len cap : Nat} (h : IsFlats cellFlat W a len cap) : ∃ M, CellsAt W a len M := by
 obtain ⟨_, _, h⟩ := h
 obtain ⟨M, hl, hp⟩ := list_forallF (p := fun i (c : GC) => ∃ b off, a = some ⟨b, off, none⟩ ∧ b < W.heap.size ∧ W.rangeAt b (off + i * 7) c.vals) len (fun i hi => by
  obtain ⟨b, off, V, ha, hb, hf, hc⟩ := h i hi
  obtain ⟨c, rfl⟩ := gc_of_flat hf
  refine ⟨c, b, off, ha, hb, fun j v hv => ?_⟩
  have hj : j < 7 := (List.getElem?_eq_some_iff.1 hv).1
  have := hc j hj
  rw [hv] at this
  rw [Nat.add_assoc]; exact this)
 exact ⟨M, hl, hp⟩
theorem rowsAt_of {W : World} {a : Option Addr} {len cap : Nat} (h : IsRows cellFlat W a len cap) : ∃ R, RowsAt W a len R := by
 obtain ⟨_, _, h⟩ := h
 obtain ⟨R, hl, hp⟩ := list_forallF (p := fun i (M : List GC) => ∃ b off a2 c2, a = some ⟨b, off, none⟩ ∧ b < W.heap.size ∧ W.cell? ⟨b, off + i, none⟩ = some (.slice a2 M.length c2) ∧ (M.length ≤ c2 ∧ c2 ≤ maxLen) ∧ CellsAt W a2 M.length M) len (fun i hi => by
  obtain ⟨b, off, a', n', c', ha, hb, hc, hf⟩ := h i hi
  obtain ⟨M, hM⟩ := cellsAt_of hf
  have hn := hM.len
  subst hn
  exact ⟨M, b, off, a', c', ha, hb, hc, ⟨hf.1, hf.2.1⟩, hM⟩)
 exact ⟨R, hl, hp⟩
end Go.Proofs.YtjkajojjehgmdaaGreat
namespace Go.Proofs.YtjkajojjehgmdaaGreat
open Go.ChangeShapes Go.WideShapes Go.Deep Go.RowKit Go.Maps
theorem bulk_mem {H : Type} {d : DataW H} : ∀ {ds : List (DataW H)}, d ∈ ds → Rows.uptoBulk d ≤ Rows.uptoBulkAll ds
 | x :: r, h => by
  simp only [Rows.uptoBulkAll]
  rcases List.mem_cons.1 h with rfl | h
  ·omega
  ·have := bulk_mem h; omega
section
variable {H : Type} {enc : TypeId × Value → H} {P : Program} {w : World} {base : Nat} {spare : Nat → Bool} {held : Bool}
theorem first_small {t : TypeId} {f0 : Field} {fs : Array Field} {fuel : Nat} {cs : List Value} {x : DataW H × List MemPlace} (ht : P.underlying t = some (.struct fs)) (hf : fs[0]? = some f0) (ho : f0.offset = 0) (hk : P.cellsOf f0.type = 1) (hu : P.underlying f0.type = some .string)
    (h : DataW.trod enc P w base spare held fuel t cs = some x) : ∀ s : ByteArray, cs[0]? = some (.string s) → s.size ≤ Rows.uptoBulk x.1 := by
 intro s hs
 obtain ⟨xs, m, _, rfl, _, hlen, hx⟩ := DataW.trod_struct ht h
 have h1 := hx 0 f0 hf
 have h2 : 0 < xs.length := by
  have := (Array.getElem?_eq_some_iff.1 hf).1
  omega
 rw [ho, hk, List.drop_zero, List.getElem?_eq_getElem h2] at h1
 obtain ⟨v, hv, hy, _⟩ := DataW.trod_string hu h1
 cases cs with
 | nil => simp at hs
 | cons c r =>
  simp only [List.getElem?_cons_zero, Option.some.injEq] at hs
  subst hs
  simp only [List.take_succ_cons, List.take_zero, List.cons.injEq, and_true, Value.string.injEq] at hv
  subst hv
  have h3 : xs[0].1 ∈ xs.map (·.1) := List.mem_map_of_mem (List.getElem_mem _)
  have h4 := bulk_mem h3
  rw [hy] at h4
  simp only [Rows.uptoBulk] at h4 ⊢
  rw [Array.length_toList, ByteArray.size_data] at h4
  omega
theorem elem_small {t e : TypeId} {fuel : Nat} {a : Addr} {len cap : Nat} {x : DataW H × List MemPlace} (ht : P.underlying t = some (.slice e))
    (h : DataW.trod enc P w base spare held fuel t [.slice (some a) len cap] = some x) : ∀ i, i < len → ∃ n cs y, w.cells? base (a.add (i * P.cellsOf e)) (P.cellsOf e) = some cs ∧ DataW.trod enc P w base spare held n e cs = some y ∧ Rows.uptoBulk y.1 ≤ Rows.uptoBulk x.1 := by
 intro i hi
 rcases DataW.trod_slice ht h with ⟨h0, _⟩ | ⟨a', len', cap', elems, rest, n, _, hc, rfl, _, _, _, hel, hx, _, _⟩
 ·simp at h0
 ·simp only [List.cons.injEq, Value.slice.injEq, Option.some.injEq, and_true] at hc
  obtain ⟨rfl, rfl, rfl⟩ := hc
  have h1 := hx i hi
  have hi' : i < elems.length := by omega
  rw [List.getElem?_eq_getElem hi'] at h1
  obtain ⟨cs, h2, h3⟩ := Option.bind_eq_some_iff.1 h1
  refine ⟨n, cs, _, h2, h3, ?_⟩
  have h4 : elems[i].1 ∈ elems.map (·.1) := List.mem_map_of_mem (List.getElem_mem _)
  have := bulk_mem h4
  simp only [Rows.uptoBulk]
  omega
theorem rows_small {t e c : TypeId} {f0 : Field} {fs : Array Field} {fuel : Nat} {a : Option Addr} {len cap : Nat} {x : DataW H × List MemPlace} {R : List (List GC)} (ht : P.underlying t = some (.slice e)) (he : P.underlying e = some (.slice c)) (hce : P.cellsOf e = 1) (hcc : P.cellsOf c = 7)
    (hc : P.underlying c = some (.struct fs)) (hf : fs[0]? = some f0) (ho : f0.offset = 0) (hk : P.cellsOf f0.type = 1) (hu : P.underlying f0.type = some .string)
    (h : DataW.trod enc P w base spare held fuel t [.slice a len cap] = some x) (hR : RowsAt w a len R) : ∀ M ∈ R, ∀ c ∈ M, c.s.size ≤ Rows.uptoBulk x.1 := by
 intro M hM k hk'
 obtain ⟨hl, hp⟩ := hR
 obtain ⟨i, hi, rfl⟩ := List.mem_iff_getElem.1 hM
 obtain ⟨b, off, a2, c2, rfl, _, h1, _, h2⟩ := hp i _ (List.getElem?_eq_getElem hi)
 obtain ⟨n, cs, y, h3, h4, h5⟩ := elem_small ht h i (by omega)
 rw [hce, Nat.mul_one, add_plain] at h3
 have h6 : cs = [.slice a2 R[i].length c2] := by
  obtain ⟨_, hlen, hcell⟩ := World.cells?_some h3
  match cs, hlen with
  | [v], _ =>
   have := cell_of_cells?_one h3
   rw [h1] at this
   simp only [Option.some.injEq] at this
   rw [this]
 subst h6
 obtain ⟨j, hj, rfl⟩ := List.mem_iff_getElem.1 hk'
 obtain ⟨_, hq⟩ := h2
 obtain ⟨b2, off2, rfl, _, h7⟩ := hq j _ (List.getElem?_eq_getElem hj)
 obtain ⟨n2, cs2, y2, h8, h9, h10⟩ := elem_small he h4 j (by omega)
 rw [hcc, add_plain] at h8
 have h11 : cs2[0]? = some (.string R[i][j].s) := by
  obtain ⟨_, hlen, hcell⟩ := World.cells?_some h8
  rw [← hcell 0 (by omega), add_plain]
  exact h7 0 _ rfl
 have := first_small hc hf ho hk hu h9 _ h11
 omega
theorem open_frameS {t e c : TypeId} {f0 f1 f2 f3 g0 : Field} {n : Nat} {fs : Array Field} {cs : Array Value} {d : DataW H} {ps : List MemPlace} (ht : P.underlying t = some (.struct #[f0, f1, f2, f3])) (hct : P.cellsOf t = 4)
    (o0 : f0.offset = 0) (o1 : f1.offset = 1) (o2 : f2.offset = 2) (o3 : f3.offset = 3) (u0 : P.underlying f0.type = some (.slice e)) (u1 : P.underlying f1.type = some (.int .i64)) (u2 : P.underlying f2.type = some (.int .i64)) (u3 : P.underlying f3.type = some .bool)
    (k0 : P.cellsOf f0.type = 1) (k1 : P.cellsOf f1.type = 1) (k2 : P.cellsOf f2.type = 1) (k3 : P.cellsOf f3.type = 1)
    (he : P.underlying e = some (.slice c)) (hce : P.cellsOf e = 1) (hf : flatOf P n c = some cellFlat) (hc : P.cellsOf c = 7)
    (hcu : P.underlying c = some (.struct fs)) (hg : fs[0]? = some g0) (hgo : g0.offset = 0) (hgk : P.cellsOf g0.type = 1) (hgu : P.underlying g0.type = some .string)
    (h : DataW.Trod enc P w base spare held t (.agg cs) d ps) : ∃ a len cap r c s R, cs = #[.slice a len cap, .int .i64 r, .int .i64 c, .bool s] ∧ RowsAt w a len R ∧ len ≤ maxLen ∧ len ≤ cap ∧ cap ≤ maxLen ∧ (∀ M ∈ R, ∀ c ∈ M, c.s.size ≤ Rows.uptoBulk d) := by
 obtain ⟨fuel, h⟩ := h
 obtain ⟨a, len, cap, r, c', s, hcs, hr, _, _⟩ := open_frame (ti := t) (tb := t) (d := d) (ps := ps) ht hct o0 o1 o2 o3 u0 u1 u2 u3 k0 k1 k2 k3 he hce hf hc (by decide) h
 obtain ⟨R, hR⟩ := rowsAt_of hr
 obtain ⟨l⟩ := cs
 simp only [Value.cells] at hcs
 have hl : l = [.slice a len cap, .int .i64 r, .int .i64 c', .bool s] := hcs
 subst hl
 refine ⟨a, len, cap, r, c', s, R, rfl, hR, Nat.le_trans hr.1 hr.2.1, hr.1, hr.2.1, ?_⟩
 obtain ⟨xs, m, _, hxe, _, hlen, hx⟩ := DataW.trod_struct ht h
 have h1 := hx 0 f0 rfl
 have h2 : 0 < xs.length := by
  simp only [List.size_toArray, List.length_cons, List.length_nil] at hlen
  omega
 rw [o0, k0, List.drop_zero, List.getElem?_eq_getElem h2] at h1
 have h3 := rows_small u0 he hce hc hcu hg hgo hgk hgu (h1 : DataW.trod enc P w base spare held m f0.type [.slice a len cap] = some xs[0]) hR
 intro M hM k hk
 have h4 := h3 M hM k hk
 have h5 : xs[0].1 ∈ xs.map (·.1) := List.mem_map_of_mem (List.getElem_mem _)
 have h6 := bulk_mem h5
 simp only [Prod.mk.injEq] at hxe
 rw [hxe.1]
 simp only [Rows.uptoBulk]
 omega
end
end Go.Proofs.YtjkajojjehgmdaaGreat
