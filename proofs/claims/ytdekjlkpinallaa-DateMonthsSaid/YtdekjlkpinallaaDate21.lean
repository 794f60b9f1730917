/- The law DateMonths: told. -/
import Derived.Test.YtdekjlkpinallaaDate17
import Derived.Shelf.RegionOpen
namespace Go.Proofs.Ytdekjlkpinallaa
set_option linter.unusedVariables false
open Go.RowKit Go.Shelf Go.Maps
attribute [local go_sem] Oper.semAt_some
theorem infoStr : (Try.prog.info? 9).map (fun i => (i.zero, i.size, i.bytes)) = some (some (.string ⟨#[]⟩), 1, 16) := by kernel_rfl
def strV (l : List (List UInt8)) : List Value := l.map fun x => .string (S x)
def strsOf (pre : List (Int × List UInt8)) : List Value := pre.map fun x => .string (S x.2)
theorem strsOf_snoc (pre : List (Int × List UInt8)) (x : Int × List UInt8) : strsOf (pre ++ [x]) = strsOf pre ++ [.string (S x.2)] := by simp [strsOf]
theorem strsOf_length (pre : List (Int × List UInt8)) : (strsOf pre).length = pre.length := by simp [strsOf]
/-- Are they numbered one by one, from i on? -/
def numFrom : Int → List (Int × List UInt8) → Bool
  | _, [] => true
  | i, x :: t => (x.1 == i) && numFrom (i + 1) t
theorem numFrom_snoc (t : List (Int × List UInt8)) (x : Int × List UInt8) : ∀ i : Int, numFrom i (t ++ [x]) = (numFrom i t && (x.1 == i + t.length)) := by
  induction t with
  | nil => intro i; simp [numFrom]
  | cons a t ih =>
    intro i
    simp only [List.cons_append, numFrom, ih, List.length_cons]
    rw [Bool.and_assoc, show i + 1 + (t.length : Int) = i + ((t.length + 1 : Nat) : Int) by omega]
theorem numFrom_days (y m : Int) (k : Nat) (hk : k ≤ (daysI y m).toNat) : numFrom 1 ((dayList y m).take k) = true := by
  induction k with
  | zero => rfl
  | succ k ih =>
    rw [take_days (by omega), numFrom_snoc, ih (by omega)]
    simp [dayX, dayList_len]
    omega
/-- A slice of strings, as it was handed back. -/
def StrRow (B : Nat) (W : World) (a : Option Addr) (vs : List Value) : Prop := ∀ j v, vs[j]? = some v → ∃ b off, a = some ⟨b, off, none⟩ ∧ b < B ∧ W.cell? ⟨b, off + j, none⟩ = some v
theorem StrRow.below {B : Nat} {W W' : World} {a : Option Addr} {vs : List Value} (h : StrRow B W a vs) (hb : Below B W W') : StrRow B W' a vs := fun j v hv => by
  obtain ⟨b, off, e, hlt, hc⟩ := h j v hv
  exact ⟨b, off, e, hlt, (hb.cell (p := ⟨b, off + j, none⟩) hlt).trans hc⟩
theorem StrRow.more {B B' : Nat} {W : World} {a : Option Addr} {vs : List Value} (h : StrRow B W a vs) (hB : B ≤ B') : StrRow B' W a vs := fun j v hv => by
  obtain ⟨b, off, e, hlt, hc⟩ := h j v hv
  exact ⟨b, off, e, by omega, hc⟩
theorem strRow_of_owns {W : World} {n₀ : Nat} {a : Option Addr} {n c : Nat} {vs : List Value} (hn : n = vs.length) (h : W.ownsRow n₀ 9 1 (.slice a n c) n vs) : StrRow W.heap.size W a vs := by
  obtain ⟨h1, ⟨e, h0⟩ | ⟨g, cap, cur, e, _, hg, hc, _, hcs, ht⟩⟩ := h
  · intro j v hv
    have : vs.length = 0 := by omega
    rw [List.length_eq_zero_iff.1 this] at hv
    simp at hv
  · simp only [Value.slice.injEq] at e
    obtain ⟨rfl, _, rfl⟩ := e
    intro j v hv
    have hj : j < vs.length := (List.getElem?_eq_some_iff.1 hv).1
    refine ⟨g, 0, rfl, (Array.getElem?_eq_some_iff.1 hg).1, ?_⟩
    unfold World.cell?
    dsimp only
    rw [hg]
    simp only [Nat.zero_add, Option.isSome_none, Bool.false_eq_true, if_false]
    rw [← hv, ← ht, List.getElem?_take_of_lt (by omega), Array.getElem?_toList]
theorem ownsRow_drew {W : World} {n₀ : Nat} {e : TypeId} {size : Nat} {v : Value} {n : Nat} {xs : List Value} (h : W.ownsRow n₀ e size v n xs) : W.drew.ownsRow n₀ e size v n xs := h.kept (row := none) ⟨rfl, rfl, rfl, Nat.le_refl _, fun _ _ _ => rfl⟩ (Classical.em _)
def ToldPost (y m : Int) (most : Nat) (w : World) (e : Ending) (w' : World) : Prop :=
  ∃ a c len, e = .returned (.tuple #[.slice a len c, .bool true]) ∧ len = min (daysI y m).toNat most ∧ StrRow w'.heap.size w' a (strsOf ((dayList y m).take most)) ∧ Below w.heap.size w w'
theorem told20_fin {y m : Int} {most : Nat} {w W : World} {n₀ : Nat} {a : Option Addr} {n c : Nat} {pre : List (Int × List UInt8)} (hp : pre = (dayList y m).take most) (h : W.ownsRow n₀ 9 1 (.slice a n c) n (strsOf pre)) (hn : n = pre.length) (hb : Below w.heap.size w W) :
    ToldPost y m most w (.returned (.tuple #[.slice a n c, .bool true])) W := by
  refine ⟨a, c, n, rfl, ?_, ?_, hb⟩
  · rw [hn, hp, List.length_take, dayList_len]; omega
  · rw [← hp]
    exact strRow_of_owns (by rw [strsOf_length]; exact hn) h
theorem ownsRow_slice {W : World} {base : Nat} {e : TypeId} {size : Nat} {v : Value} {n : Nat} {xs : List Value} (h : W.ownsRow base e size v n xs) : ∃ a c, v = .slice a n c := by
  rcases h.2 with ⟨rfl, rfl⟩ | ⟨g, cap, _, rfl, _⟩
  · exact ⟨_, _, rfl⟩
  · exact ⟨_, _, rfl⟩
/-- What abides in told's loop. -/
def TI (w : World) (B most : Nat) (pre : List (Int × List UInt8)) (W : World) : Prop :=
  ((∃ v, Boxed W B 25 v ∧ W.ownsRow B 9 1 v pre.length (strsOf pre) ∧ True) ∧ pre.length ≤ most ∧ W.cell? ⟨w.heap.size, 0, none⟩ = some (.int .i64 most) ∧ Boxed W (B + 1) 4 (.bool (numFrom 1 pre))) ∧ Below w.heap.size w W
def TX (w : World) (B most : Nat) (c : Code) (pre : List (Int × List UInt8)) (W : World) : Prop :=
  (c = .exit 0 ∧ ∃ q x, pre = q ++ [x] ∧ q.length = most ∧ (∃ v, Boxed W B 25 v ∧ W.ownsRow B 9 1 v q.length (strsOf q) ∧ True) ∧ Boxed W (B + 1) 4 (.bool (numFrom 1 q))) ∧ Below w.heap.size w W
theorem boxed_own {X Y : World} {b : Nat} {t : TypeId} {v : Value} {row : Option Nat} (h : Boxed X b t v) (hg : X.grownBy Y row) (hr : ∀ r, row = some r → ∃ o, X.heap[r]? = some o ∧ o.isCells = false) : Boxed Y b t v :=
  h.kept hg fun e => by
    obtain ⟨o, ho, hc⟩ := hr b e.symm
    rw [show X.heap[b]? = _ from h] at ho
    cases ho
    cases hc
theorem told_world (w : World) (y m : Int) (most : Nat) (W0 : World) (hW : ((((w.alloc (.cells #[.int .i64 most] 3)).alloc (.cells #[.int .i64 y] 3)).alloc (.cells #[.int .i64 m] 3)).alloc (.cells #[.slice none 0 0] 25)).alloc (.cells #[.bool true] 4) = W0) :
    W0.cell? ⟨w.heap.size, 0, none⟩ = some (.int .i64 most) ∧ W0.cell? ⟨w.heap.size + 1, 0, none⟩ = some (.int .i64 y) ∧ W0.cell? ⟨w.heap.size + 1 + 1, 0, none⟩ = some (.int .i64 m) ∧
    Boxed W0 (w.heap.size + 1 + 1 + 1) 25 (.slice none 0 0) ∧ Boxed W0 (w.heap.size + 1 + 1 + 1 + 1) 4 (.bool true) ∧ Below w.heap.size w W0 ∧ W0.heap.size = w.heap.size + 1 + 1 + 1 + 1 + 1 := by
  obtain ⟨X1, h1⟩ : ∃ X1, w.alloc (.cells #[.int .i64 most] 3) = X1 := ⟨_, rfl⟩
  obtain ⟨X2, h2⟩ : ∃ X2, X1.alloc (.cells #[.int .i64 y] 3) = X2 := ⟨_, rfl⟩
  obtain ⟨X3, h3⟩ : ∃ X3, X2.alloc (.cells #[.int .i64 m] 3) = X3 := ⟨_, rfl⟩
  obtain ⟨X4, h4⟩ : ∃ X4, X3.alloc (.cells #[.slice none 0 0] 25) = X4 := ⟨_, rfl⟩
  rw [h1, h2, h3, h4] at hW
  have s1 : X1.heap.size = w.heap.size + 1 := by rw [← h1]; simp
  have s2 : X2.heap.size = w.heap.size + 1 + 1 := by rw [← h2]; simp [s1]
  have s3 : X3.heap.size = w.heap.size + 1 + 1 + 1 := by rw [← h3]; simp [s2]
  have s4 : X4.heap.size = w.heap.size + 1 + 1 + 1 + 1 := by rw [← h4]; simp [s3]
  have b1 := Boxed.new w 3 (.int .i64 most)
  have b2 := Boxed.new X1 3 (.int .i64 y)
  have b3 := Boxed.new X2 3 (.int .i64 m)
  have b4 := Boxed.new X3 25 (.slice none 0 0)
  have b5 := Boxed.new X4 4 (.bool true)
  rw [h1] at b1
  rw [h2, s1] at b2
  rw [h3, s2] at b3
  rw [h4, s3] at b4
  rw [hW, s4] at b5
  have c1 : Boxed W0 w.heap.size 3 (.int .i64 most) := hW ▸ (h4 ▸ (h3 ▸ (h2 ▸ b1.alloc _ : Boxed X2 _ _ _).alloc _ : Boxed X3 _ _ _).alloc _ : Boxed X4 _ _ _).alloc _
  have c2 : Boxed W0 (w.heap.size + 1) 3 (.int .i64 y) := hW ▸ (h4 ▸ (h3 ▸ b2.alloc _ : Boxed X3 _ _ _).alloc _ : Boxed X4 _ _ _).alloc _
  have c3 : Boxed W0 (w.heap.size + 1 + 1) 3 (.int .i64 m) := hW ▸ (h4 ▸ b3.alloc _ : Boxed X4 _ _ _).alloc _
  refine ⟨c1.cell, c2.cell, c3.cell, hW ▸ b4.alloc _, b5, ?_, by rw [← hW]; simp [s4]⟩
  rw [← hW, ← h4, ← h3, ← h2, ← h1]
  exact (((((Below.refl _ _).alloc (Nat.le_refl _) _).alloc (by simp) _).alloc (by simp; omega) _).alloc (by simp; omega) _).alloc (by simp; omega) _
set_option maxRecDepth 100000 in
set_option maxHeartbeats 4000000 in
theorem told20_any (y m : Int) (most : Nat) (hmost : most ≤ 1000) (w : World) :
    Calls Try.prog 14 #[.int .i64 y, .int .i64 m, .int .i64 most] w (ToldPost y m most w) := by
  obtain ⟨i0, hi, hz0, hz1, hz2⟩ := info_parts infoStr
  have hfn : ∀ (fn : Fn) (a b : Array Value) (w : World), (binOp .eql 50 (.func fn a b) .nilFunc).run Try.prog w = .ok (.bool false) w := fun _ _ _ _ => by kernel_rfl
  have h1 : 1 ≤ 9 := by omega
  refine (callsIn_wide (n := 9)).1 ?_
  refine callsIn_of_wp_marks Try.func14 rfl trivial ?_ rfl
  simp only [Try.ntmps14, List.size_toArray, List.length_cons, List.length_nil, Nat.reduceAdd, Nat.reduceSub, Array.replicate_succ, Array.replicate_zero, List.push_toArray, List.append_toArray, List.nil_append, List.cons_append]
  gi_wp2_with (refine ⟨trivial, ?_⟩; gi_at_call 38; refine (callsIn_wide.2 (all20_any _ _ _)).mono ?_; rintro e w2 ⟨rfl, rfl⟩)
  obtain ⟨W0, hW0⟩ : ∃ W0, ((((w.alloc (.cells #[.int .i64 most] 3)).alloc (.cells #[.int .i64 y] 3)).alloc (.cells #[.int .i64 m] 3)).alloc (.cells #[.slice none 0 0] 25)).alloc (.cells #[.bool true] 4) = W0 := ⟨_, rfl⟩
  obtain ⟨f0, f1, f2, f3, f4, hB0, hs0⟩ := told_world w y m most W0 hW0
  rw [hW0]
  clear hW0
  obtain ⟨B, hBq⟩ : ∃ B, B = w.heap.size + 1 + 1 + 1 := ⟨_, rfl⟩
  rw [← hBq] at f3 f4 hs0 ⊢
  have hBw : w.heap.size + 1 + 1 < B := by omega
  have HBQ := Lib.hid hBq
  clear hBq
  refine wpIn_rangeFunc_ownG rfl h1 (gf := 51) (lb := #[.pointer (some ⟨w.heap.size + 1, 0, none⟩), .pointer (some ⟨w.heap.size + 1 + 1, 0, none⟩)]) rfl trivial (enters_of Try.func51 (by kernel_rfl) rfl)
    (all1_stops y m (w.heap.size + 1) (w.heap.size + 1 + 1) W0 (by omega) (by omega) f1 f2 _ (by omega)) KB.trans (KB.put (by omega) (by omega)) (Below.refl _ _) (fun _ => rfl)
    (TI w B most) (TX w B most)
    (OwnFrom.and (Own.from (fun s A C row hs hg hr => ⟨holdsRow_own B B 25 9 1 (fun pre => pre.length) (fun pre => strsOf pre) (fun _ _ => True) s A C row hs.1 hg hr, hs.2.1, cell_kept hs.2.2.1 hg hr, boxed_own hs.2.2.2 hg hr⟩) _) (ownFrom_below (Nat.le_refl _) (by omega)))
    (fun c => OwnFrom.and (Own.from (fun s A C row hs hg hr => ⟨hs.1, by
      obtain ⟨q, x, e1, e2, hv, hk⟩ := hs.2
      exact ⟨q, x, e1, e2, holdsRow_own B B 25 9 1 (fun pre => pre.length) (fun pre => strsOf pre) (fun _ _ => True) q A C row hv hg hr, boxed_own hk hg hr⟩⟩) _) (ownFrom_below (Nat.le_refl _) (by omega)))
    ⟨⟨⟨_, f3, World.ownsRow_nil _ _ _ _, trivial⟩, by simp, f0, f4⟩, hB0⟩
    ?_ ?_ ?_ ?_ ?_
  rotate_left 1
  · intro l x W K hK
    gi_wp2
    exact hK
  · rintro l pre x W ⟨⟨⟨v, hv, hown, _⟩, hpl, hmo1, hok⟩, hB⟩ _
    have hc := hv.cell
    have ho := hok.cell
    have hof := hok.frozen
    obtain ⟨a, c, rfl⟩ := ownsRow_slice hown
    have hplb : pre.length ≤ 1000 := by omega
    by_cases hge : pre.length = most
    · have hd : (most : Int) ≤ (pre.length : Int) := by omega
      have Hge := Lib.hid hge
      clear hge
      gi_wp2
      exact ⟨KeepsFrom.refl _ _, ⟨rfl, pre, x, rfl, Hge.out, ⟨_, hv, hown, trivial⟩, hok⟩, hB⟩
    · have hd : (pre.length : Int) < (most : Int) := by omega
      have hlt2 : pre.length + 1 ≤ most := by omega
      clear hge
      obtain ⟨nf, hnf⟩ : ∃ nf, nf = numFrom 1 pre := ⟨_, rfl⟩
      rw [← hnf] at hok ho
      obtain ⟨nx, hnx⟩ : ∃ nx, nx = (x.1 == 1 + (pre.length : Int)) := ⟨_, rfl⟩
      have hn1 : (x.1 == (pre.length : Int) + 1) = nx := by rw [hnx, Int.add_comm]
      have hnn : numFrom 1 (pre ++ [x]) = (nf && nx) := by rw [numFrom_snoc, hnf, hnx]
      have HNN := Lib.hid hnn
      clear hnn hnx hnf
      have hv1 : ∀ u, Boxed (W.setCell ⟨B + 1, 0, none⟩ u) B 25 (.slice a pre.length c) := fun u => hv.kept (grownBy_setCell' W (B + 1) u) (by simp)
      have hown1 : ∀ u, (W.setCell ⟨B + 1, 0, none⟩ u).ownsRow B 9 1 (.slice a pre.length c) pre.length (strsOf pre) := fun u => hown.kept (grownBy_setCell' W (B + 1) u) (.inr (fun e => (hok.not_row (by decide) hown) e.symm))
      have hc1 : ∀ u, (W.setCell ⟨B + 1, 0, none⟩ u).cell? ⟨B, 0, none⟩ = some (.slice a pre.length c) := fun u => (hv1 u).cell
      have hvl := hv.lt
      have hcn : ∀ u j v, [Value.string (S x.2)][j]? = some v → ((W.setCell ⟨B + 1, 0, none⟩ u).alloc (.cells #[.string (S x.2)] 9)).cell? ((⟨W.heap.size, 0, none⟩ : Addr).add j) = some v := fun u => by
        have := cell_one_new (W.setCell ⟨B + 1, 0, none⟩ u) (.string (S x.2)) 9
        rwa [World.size_setCell] at this
      have hfin : ∀ (u : Bool) (v' : Value) (w1 : World), u = numFrom 1 (pre ++ [x]) → w1.ownsRow B 9 1 v' (pre.length + 1) (strsOf pre ++ [.string (S x.2)]) → ((W.setCell ⟨B + 1, 0, none⟩ (.bool u)).alloc (.cells #[.string (S x.2)] 9)).grownBy w1 (Value.slice a pre.length c).ownBlock →
          KeepsOthers W (w1.setCell ⟨B, 0, none⟩ v') ∧ Below B W (w1.setCell ⟨B, 0, none⟩ v') ∧ TI w B most (pre ++ [x]) (w1.setCell ⟨B, 0, none⟩ v') ∧ w1.cell? ⟨B, 0, none⟩ = some (.slice a pre.length c) ∧ w1.frozen? ⟨B, 0, none⟩ = false := by
        intro u v' w1 hu hown' hgrow
        obtain ⟨q1, q2, q3, q4, q5⟩ := (hv1 (.bool u)).appended (by decide) (hown1 (.bool u)) (by simp; omega) (Nat.le_refl _) hown' hgrow
        have hb1 : Below B W (W.setCell ⟨B + 1, 0, none⟩ (.bool u)) := (Below.refl _ _).setCell (p := ⟨B + 1, 0, none⟩) (by show B ≤ B + 1; omega) _
        have hb2 := hb1.trans q5
        have hok2 : Boxed (w1.setCell ⟨B, 0, none⟩ v') (B + 1) 4 (.bool u) := (((hok.set (.bool u)).alloc _).kept hgrow ((hok.set (.bool u)).not_row (by decide) (hown1 (.bool u)))).kept (grownBy_setCell' w1 B v') (by simp)
        refine ⟨(KeepsOthers.setCell W _ _).trans q4, hb2, ⟨⟨⟨_, q2, ?_, trivial⟩, by simp; omega, ?_, by rw [← hu]; exact hok2⟩, hB.trans (hb2.mono (by omega))⟩, q1.cell, q1.frozen⟩
        · rw [strsOf_snoc]; simpa using q3
        · exact (hb2.cell (p := ⟨w.heap.size, 0, none⟩) (by show w.heap.size < B; omega)).trans hmo1
      have HFIN := Lib.hid hfin
      clear hfin
      cases nf with
      | false =>
        gi_wp2_with (gi_at_builtin; refine wpListIn_append_own _ rfl _ _ 25 rfl B 9 i0 (.string ⟨#[]⟩) 1 16 Try.underlying25 hi hz0 hz1 hz2 rfl (by decide) _ _ _ rfl ((hown1 _).alloc _) ⟨W.heap.size, 0, none⟩ 1 1 [.string (S x.2)] rfl rfl (hcn _) (by simp [Value.oneCell']) (by unfold maxLen; omega) (by omega) (by simp; omega) ?_; intro v' w1 hown' hgrow _; obtain ⟨g', cap', rfl⟩ := ownsRow_succ hown'; obtain ⟨k1, k2, k3, k4, k5⟩ := HFIN.out _ _ w1 (HNN.out.symm) hown' hgrow)
        exact ⟨k1.from _, KB.of_below k2 (by omega) (by omega), k3⟩
      | true =>
        gi_wp2_with (gi_at_builtin; refine wpListIn_append_own _ rfl _ _ 25 rfl B 9 i0 (.string ⟨#[]⟩) 1 16 Try.underlying25 hi hz0 hz1 hz2 rfl (by decide) _ _ _ rfl ((hown1 _).alloc _) ⟨W.heap.size, 0, none⟩ 1 1 [.string (S x.2)] rfl rfl (hcn _) (by simp [Value.oneCell']) (by unfold maxLen; omega) (by omega) (by simp; omega) ?_; intro v' w1 hown' hgrow _; obtain ⟨g', cap', rfl⟩ := ownsRow_succ hown'; obtain ⟨k1, k2, k3, k4, k5⟩ := HFIN.out _ _ w1 (HNN.out.symm) hown' hgrow)
        exact ⟨k1.from _, KB.of_below k2 (by omega) (by omega), k3⟩
  · rintro D ys W hD rfl ⟨⟨⟨v, hv, hown, _⟩, hpl, hmo1, hok⟩, hB⟩ hK
    have hnd := numFrom_days y m (daysI y m).toNat (Nat.le_refl _)
    have hall : (dayList y m).take (daysI y m).toNat = dayList y m := List.take_of_length_le (by rw [dayList_len]; omega)
    rw [hall] at hnd
    rw [hnd] at hok
    have hc := hv.cell
    have ho := hok.cell
    obtain ⟨a, c, rfl⟩ := ownsRow_slice hown
    have hfin : ToldPost y m most w (.returned (.tuple #[.slice a (dayList y m).length c, .bool true])) (W.drew.putObj D (.deferred none)) :=
      told20_fin (List.take_of_length_le hpl).symm (ownsRow_putObj (ownsRow_drew hown) _ hK rfl) rfl (hB.drew.trans (belowK_b (w := w) (Nat.le_refl _) W.drew D _ _ (by omega) hK rfl rfl))
    have HF := Lib.hid hfin
    clear hfin
    gi_wp2
    refine wpIn_region_still_tail (l₀ := none) 3 (by kernel_rfl) (by kernel_rfl) (by kernel_rfl) ?_
    simp only [List.take_succ_cons, List.take_zero, List.drop_succ_cons, List.drop_zero]
    repeat still_step
    refine wpStill_nil ?_
    change wpListIn Fence.wide _ _ _ _ _ _ W.drew
    gi_wp2
    refine ⟨by simp, .inl ⟨_, _, rfl, run_takeDeferred (show W.drew.heap[D]? = some (.deferred (some [])) from hK), ?_⟩⟩
    refine ⟨_, results_tmp2 rfl _ _ _, ?_⟩
    exact HF.out
  · rintro D c pre W hD hpre ⟨⟨rfl, q, x, rfl, hq, ⟨v, hv, hown, _⟩, hok⟩, hB⟩ hK
    obtain ⟨e1, l1⟩ := pre_days ((List.prefix_append q [x]).trans hpre)
    have hnd := numFrom_days y m q.length l1
    rw [← e1] at hnd
    rw [hnd] at hok
    have hc := hv.cell
    have ho := hok.cell
    obtain ⟨a, c, rfl⟩ := ownsRow_slice hown
    have hfin : ToldPost y m most w (.returned (.tuple #[.slice a q.length c, .bool true])) (W.drew.putObj D (.deferred none)) :=
      told20_fin (by rw [← hq]; exact e1) (ownsRow_putObj (ownsRow_drew hown) _ hK rfl) rfl (hB.drew.trans (belowK_b (w := w) (Nat.le_refl _) W.drew D _ _ (by omega) hK rfl rfl))
    have HF := Lib.hid hfin
    have Hq := Lib.hid hq
    clear hfin hq hpre e1 hnd
    gi_wp2
    refine wpIn_region_still_tail (l₀ := none) 3 (by kernel_rfl) (by kernel_rfl) (by kernel_rfl) ?_
    simp only [List.take_succ_cons, List.take_zero, List.drop_succ_cons, List.drop_zero]
    repeat still_step
    refine wpStill_nil ?_
    change wpListIn Fence.wide _ _ _ _ _ _ W.drew
    gi_wp2
    refine ⟨by simp, .inl ⟨_, _, rfl, run_takeDeferred (show W.drew.heap[D]? = some (.deferred (some [])) from hK), ?_⟩⟩
    refine ⟨_, results_tmp2 rfl _ _ _, ?_⟩
    exact HF.out
end Go.Proofs.Ytdekjlkpinallaa
