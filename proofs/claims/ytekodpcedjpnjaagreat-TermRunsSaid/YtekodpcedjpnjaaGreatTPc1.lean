/- Several terminals side by side: a write to one of them leaves the others as they were. The law's cut. No condition but that the bytes are not too many. -/
import Derived.Test.YtekodpcedjpnjaaGreatRT17
import Derived.Test.YtekodpcedjpnjaaGreatClose
namespace Go.Proofs.YtekodpcedjpnjaaGreat
set_option linter.unusedVariables false
set_option linter.unusedSimpArgs false
open Go.RowKit Go.Shelf Go.Maps
theorem isRow_bytes {w : World} {a : Option Addr} {len cap : Nat} {zs : List Int} (h : IsRow .u8 w a len cap zs) : ∃ l : List UInt8, l.length = len ∧ HAF (fun b => b < w.heap.size) w (.slice a len cap) l := by
  rcases h with ⟨rfl, rfl, rfl, rfl⟩ | ⟨⟨b, off, spot⟩, rfl, h1, h2, h3, h4, h5⟩
  · exact ⟨[], rfl, .inl (.inl ⟨rfl, rfl⟩)⟩
  · rcases Nat.eq_zero_or_pos len with h0 | h0
    · subst h0
      exact ⟨[], rfl, .inr ⟨_, _, rfl, rfl⟩⟩
    · have hs : spot = none := by
        have h := h4 0 (by omega)
        simpa [Addr.add] using World.cell?_spot h
      subst hs
      have hlt : b < w.heap.size := by
        have h := h4 0 (by omega)
        rw [Go.WideShapes.add_plain] at h
        exact World.block_lt_of_cell? w _ h
      refine ⟨(zs.take len).map (fun z => UInt8.ofNat z.toNat), by simp; omega, .inl (.inr ⟨b, off, len, cap, rfl, by simp; omega, ⟨h1, h2⟩, ⟨hlt, fun j hj => ?_⟩, hlt⟩)⟩
      have hj2 : j < len ∧ j < zs.length := by simp only [List.length_map, List.length_take] at hj; omega
      have hc := h4 j hj2.2
      rw [Go.WideShapes.add_plain] at hc
      rw [hc]
      have hw := h5 (zs.getD j 0) (by
        rw [List.getD_eq_getElem?_getD, List.getElem?_eq_getElem hj2.2]
        exact List.getElem_mem hj2.2)
      have hb : 0 ≤ zs.getD j 0 ∧ zs.getD j 0 ≤ 255 := by simpa [Lit.wf, IntKind.min, IntKind.max, IntKind.signed, IntKind.bits] using hw
      congr 2
      have e : nth 0 ((zs.take len).map (fun z => UInt8.ofNat z.toNat)) j = UInt8.ofNat (zs.getD j 0).toNat := by
        unfold nth
        rw [List.getD_eq_getElem?_getD, List.getElem?_map, List.getElem?_take_of_lt hj2.1, List.getD_eq_getElem?_getD, List.getElem?_eq_getElem hj2.2]
        rfl
      rw [e]
      obtain ⟨z, hz⟩ : ∃ z, z = zs.getD j 0 := ⟨_, rfl⟩
      rw [← hz] at hb ⊢
      have : (UInt8.ofNat z.toNat).toNat = z.toNat % 256 := by simp
      rw [this]
      omega
set_option maxRecDepth 100000 in
set_option maxHeartbeats 4000000 in
theorem cut05_any {F : Nat → Prop} {W : World} {v : Value} {l : List UInt8} (h : HAF F W v l) (hl : l.length ≤ maxLen) : Calls Tryz.prog 46 #[v] W fun e w' => ∃ v2, e = .returned v2 ∧ HAF F W v2 (l.take 300) ∧ W = w' := by
  unfold maxLen at hl
  rcases h with (⟨rfl, rfl⟩ | ⟨g, off, n, c, rfl, hn, ⟨h1, h2⟩, hB, hFg⟩) | ⟨ad, c, rfl, rfl⟩
  · go_enter Tryz.func46, Tryz.ntmps46
    go_wp2
    go_ret
    exact ⟨_, rfl, .inl (.inl ⟨rfl, rfl⟩), rfl⟩
  · obtain ⟨k, hk⟩ : ∃ k, k = min n 300 := ⟨_, rfl⟩
    have hmin : min (n : Int) 300 = (k : Int) := by omega
    have hkn : k ≤ n := by omega
    have hkc : (k : Int) ≤ (c : Int) := by omega
    have FIN : Hid (HAF F W (.slice (some ⟨g, off, none⟩) k c) (l.take 300)) := Lib.hid (.inl (.inr ⟨g, off, k, c, rfl, by rw [List.length_take, hn, hk]; omega, ⟨by omega, h2⟩, hB.take 300, hFg⟩))
    have hn64 : (n : Int) ≤ 9223372036854775807 := by omega
    clear hk hB hn h2 hl hFg
    go_enter Tryz.func46, Tryz.ntmps46
    go_wp2
    go_ret
    exact ⟨_, rfl, FIN.out, rfl⟩
  · go_enter Tryz.func46, Tryz.ntmps46
    go_wp2
    go_ret
    exact ⟨_, rfl, .inr ⟨_, _, rfl, rfl⟩, rfl⟩
/-! ### three terminals -/
structure Ad where
  b : Nat
  p : Nat
  q : Nat
/-- Where the terminals' blocks are, apart from one another. -/
structure Apt (A : Nat → Ad) (m : Nat) (N : Nat) : Prop where
  lt : ∀ i, i < m → (A i).b < N ∧ (A i).p < N ∧ (A i).q < N
  ne : ∀ i j, i < m → j < m → i ≠ j → ((A i).b ≠ (A j).b ∧ (A i).p ≠ (A j).b ∧ (A i).q ≠ (A j).b) ∧ ((A i).b ≠ (A j).q ∧ (A i).p ≠ (A j).q ∧ (A i).q ≠ (A j).q)
def blks (A : Nat → Ad) (m : Nat) : List Nat := (List.range m).flatMap fun i => [(A i).b, (A i).q]
/-- m terminals stand as m states; the world V is as it was but for their blocks. -/
structure Tms (V : World) (n₀ : Nat) (A : Nat → Ad) (m : Nat) (x : Nat → TS × List UInt8) (hv : Nat → Value) (X : World) : Prop where
  at_ : ∀ i, i < m → TmAt X (A i).b (A i).p (A i).q (hv i) (x i).1 ∧ Held X n₀ (hv i) (x i).2
  new : ∀ i, i < m → ∀ k, (hv i).ownBlock = some k → V.heap.size ≤ k
  ne : ∀ i j, i < m → j < m → i ≠ j → ∀ k, (hv i).ownBlock = some k → (hv j).ownBlock ≠ some k
  only : Only (blks A m) V X
theorem Tms.below {V X Y : World} {n₀ m : Nat} {A : Nat → Ad} {x : Nat → TS × List UInt8} {hv : Nat → Value} (s : Tms V n₀ A m x hv X) (hb : Below X.heap.size X Y) : Tms V n₀ A m x hv Y :=
  { at_ := fun i hi => ⟨(s.at_ i hi).1.below hb, (s.at_ i hi).2.keep (Only.of_below hb : Only [] X Y) (fun k _ => by simp)⟩, new := s.new, ne := s.ne, only := only_chain s.only (Only.of_below hb : Only [] X Y) (fun k hk => by simp at hk) }
theorem part_of {N : Nat} {X : World} {v : Value} {s : List UInt8} (h : HAF (fun k => k < N) X v s) {b q : Nat} {hv : Value} (hb : N ≤ b) (hq : N ≤ q) (hh : ∀ k, hv.ownBlock = some k → N ≤ k) : PartV X b q hv v s := by
  rcases h with (h | ⟨g, off, n, c, h1, h2, h3, h4, h5⟩) | ⟨ad, c, h1, h2⟩
  · exact .inl h
  · exact .inr (.inr ⟨g, off, n, c, h1, h2, h4, ⟨by omega, by omega, fun e => by have := hh _ e; omega⟩⟩)
  · exact .inr (.inl ⟨ad, c, h1, h2⟩)
theorem part_below {W W' : World} {b q : Nat} {hv v : Value} {s : List UInt8} (h : PartV W b q hv v s) (hb : Below W.heap.size W W') : PartV W' b q hv v s := by
  rcases h with h | h | ⟨g, off, n, c, h1, h2, h3, h4⟩
  · exact .inl h
  · exact .inr (.inl h)
  · exact .inr (.inr ⟨g, off, n, c, h1, h2, h3.below hb, h4⟩)
/-- One part, two parts, in a slice just made. -/
theorem parts_1 {X : World} {b q : Nat} {hv v : Value} {s : List UInt8} (h : PartV X b q hv v s) (hb : b < X.heap.size) (hq : q < X.heap.size) (hh : ∀ k, hv.ownBlock = some k → k < X.heap.size) :
    PartsAt (X.alloc (.cells #[v] 61)) b q hv (some ⟨X.heap.size, 0, none⟩) 1 [s] := by
  have b1 : Below X.heap.size X (X.alloc (.cells #[v] 61)) := (Below.refl _ _).alloc (Nat.le_refl _) _
  refine ⟨rfl, fun i z hz => ?_⟩
  match i, hz with
  | 0, hz =>
    simp only [List.getElem?_cons_zero, Option.some.injEq] at hz
    subst hz
    exact ⟨_, _, _, rfl, by simp, ⟨by omega, by omega, fun e => by have := hh _ e; omega⟩, (cell_new_l X _ _).1, part_below h b1⟩
  | i + 1, hz => simp at hz
theorem Tms.congr {V X : World} {n₀ m : Nat} {A : Nat → Ad} {x y : Nat → TS × List UInt8} {hv : Nat → Value} (s : Tms V n₀ A m x hv X) (h : ∀ i, i < m → x i = y i) : Tms V n₀ A m y hv X :=
  { at_ := fun i hi => by rw [← h i hi]; exact s.at_ i hi, new := s.new, ne := s.ne, only := s.only }
end Go.Proofs.YtekodpcedjpnjaaGreat
