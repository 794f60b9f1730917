/- The contracts of moves and columns, of the program and of its reference; the law EscMoves. The contracts of moves from a place to another one, of the program and of its reference. Rows of bytes that a call owns, as strings. No condition. Text. The contracts of Strip, of the program and of its reference. The contract of the reference's Strip. The contracts of styles: which may be, their colours. -/
import Derived.Test.YtjkajojjehgmdaaGreatProg
import Derived.KernelRfl
import Derived.Maps.AppendAt
import Derived.Laws.IdiomStrings
import Derived.Lib.AppendStr
import Derived.Deep.RegionHeldLaw
import Derived.Deep.DeepCutAuto
import Derived.Test.YtjkajojjehgmdaaGreatRE02
import Derived.Test.YtjkajojjehgmdaaGreatRE03
set_option linter.unusedVariables false
set_option linter.unusedSimpArgs false
namespace Go.Proofs.YtjkajojjehgmdaaGreat
open Go.RowKit
theorem held_any (n : Int) (w : World) : Calls Tryz.prog 168 #[.int .i64 n] w fun e w' => e = .returned (.int .i64 (heldI n)) ∧ w = w' := by
 go_enter Tryz.func168, Tryz.ntmps168
 go_wp2
 all_goals (go_ret; exact ⟨ret_int (by unfold heldI; omega), rfl⟩)
set_option maxHeartbeats 1000000 in
theorem by_any (n : Int) (e : UInt8) (w : World) : Calls Tryz.prog 82 #[.int .i64 n, .string (S [e])] w fun r w' => r = .returned (.string (S (byL n e))) ∧ Below w.heap.size w w' := by
 by_cases h : n < 1
 ·have hby := Lib.hid (show byL n e = [] by unfold byL; rw [if_pos h])
  go_enter Tryz.func82, Tryz.ntmps82
  go_wp2
  go_ret
  exact ⟨ret_str (by rw [hby.out]; rfl), Below.refl _ _⟩
 ·have hby := Lib.hid (seqL_one n e (by omega))
  have h1 : 1 ≤ n := by omega
  clear h
  have hrow : RowAt (w.alloc (.cells #[.int .i64 n] 3)).heap.size (w.alloc (.cells #[.int .i64 n] 3)) (some ⟨w.heap.size, 0, none⟩) (i64s [n]) := RowAt.new w (i64s [n]) 3
  have Hrow := Lib.hid hrow
  clear hrow
  go_enter Tryz.func82, Tryz.ntmps82
  go_wp2_with fail
  refine (sequence_any [e] [n] _ 1 1 _ (by simp) rfl (by simp) Hrow.out (fun k hk => by simp at hk; subst hk; simp [nth]; omega)).mono ?_
  rintro r w1 ⟨rfl, hb1⟩
  go_wp2
  go_ret
  exact ⟨ret_str (by rw [hby.out]), bnext ((Below.refl _ _).alloc (Nat.le_refl _) _) hb1⟩
theorem up_any (n : Int) (w : World) : Calls Tryz.prog 57 #[.int .i64 n] w fun r w' => r = .returned (.string (S (byL n 65))) ∧ Below w.heap.size w w' := by
 go_enter Tryz.func57, Tryz.ntmps57
 go_wp2_with fail
 refine (by_any n 65 _).mono ?_
 rintro r w1 ⟨rfl, hb1⟩
 go_wp2
 go_ret
 exact ⟨rfl, hb1⟩
theorem down_any (n : Int) (w : World) : Calls Tryz.prog 169 #[.int .i64 n] w fun r w' => r = .returned (.string (S (byL n 66))) ∧ Below w.heap.size w w' := by
 go_enter Tryz.func169, Tryz.ntmps169
 go_wp2_with fail
 refine (by_any n 66 _).mono ?_
 rintro r w1 ⟨rfl, hb1⟩
 go_wp2
 go_ret
 exact ⟨rfl, hb1⟩
theorem right_any (n : Int) (w : World) : Calls Tryz.prog 170 #[.int .i64 n] w fun r w' => r = .returned (.string (S (byL n 67))) ∧ Below w.heap.size w w' := by
 go_enter Tryz.func170, Tryz.ntmps170
 go_wp2_with fail
 refine (by_any n 67 _).mono ?_
 rintro r w1 ⟨rfl, hb1⟩
 go_wp2
 go_ret
 exact ⟨rfl, hb1⟩
theorem left_any (n : Int) (w : World) : Calls Tryz.prog 171 #[.int .i64 n] w fun r w' => r = .returned (.string (S (byL n 68))) ∧ Below w.heap.size w w' := by
 go_enter Tryz.func171, Tryz.ntmps171
 go_wp2_with fail
 refine (by_any n 68 _).mono ?_
 rintro r w1 ⟨rfl, hb1⟩
 go_wp2
 go_ret
 exact ⟨rfl, hb1⟩
set_option maxHeartbeats 1000000 in
theorem column_any (n : Int) (w : World) : Calls Tryz.prog 135 #[.int .i64 n] w fun r w' => r = .returned (.string (S (colL n))) ∧ Below w.heap.size w w' := by
 by_cases h : n < 0
 ·have hby := Lib.hid (show colL n = [] by unfold colL; rw [if_pos h])
  go_enter Tryz.func135, Tryz.ntmps135
  go_wp2
  go_ret
  exact ⟨ret_str (by rw [hby.out]; rfl), Below.refl _ _⟩
 ·have h1 : 0 ≤ n := by omega
  have hby := Lib.hid ((seqL_one (min n 9998 + 1) 71 (by omega)).trans (colL_by n h1))
  clear h
  obtain ⟨m, hm⟩ : ∃ m, m = min n 9998 + 1 := ⟨_, rfl⟩
  have hrow : RowAt (w.alloc (.cells #[.int .i64 m] 3)).heap.size (w.alloc (.cells #[.int .i64 m] 3)) (some ⟨w.heap.size, 0, none⟩) (i64s [m]) := RowAt.new w (i64s [m]) 3
  rw [← hm] at hby
  by_cases hb : n ≤ 9998
  ·obtain rfl : m = n + 1 := by omega
   have Hrow := Lib.hid hrow
   clear hrow hm
   go_enter Tryz.func135, Tryz.ntmps135
   go_wp2_with fail
   refine (sequence_any [71] [n + 1] _ 1 1 _ (by simp) rfl (by simp) Hrow.out (fun k hk => by simp at hk; subst hk; simp [nth]; omega)).mono ?_
   rintro r w1 ⟨rfl, hb1⟩
   go_wp2
   go_ret
   exact ⟨ret_str (by rw [hby.out]), bnext ((Below.refl _ _).alloc (Nat.le_refl _) _) hb1⟩
  ·obtain rfl : m = 9999 := by omega
   have hb2 : 9998 < n := by omega
   have Hrow := Lib.hid hrow
   clear hrow hm hb
   go_enter Tryz.func135, Tryz.ntmps135
   go_wp2_with fail
   refine (sequence_any [71] [9999] _ 1 1 _ (by simp) rfl (by simp) Hrow.out (fun k hk => by simp at hk; subst hk; simp [nth])).mono ?_
   rintro r w1 ⟨rfl, hb1⟩
   go_wp2
   go_ret
   exact ⟨ret_str (by rw [hby.out]), bnext ((Below.refl _ _).alloc (Nat.le_refl _) _) hb1⟩
theorem heldI_bd (n : Int) : 0 ≤ heldI n ∧ heldI n ≤ 9998 := by unfold heldI; omega
theorem S_le (l : List UInt8) (k : Nat) (h : l.length ≤ k) : (S l).size ≤ k := by rw [S_size]; exact h
set_option maxRecDepth 100000 in
set_option maxHeartbeats 1000000 in
theorem move_any (row col toRow toCol : Int) (w : World) : Calls Tryz.prog 134 #[.int .i64 row, .int .i64 col, .int .i64 toRow, .int .i64 toCol] w fun r w' => r = .returned (.string (S (moveL (heldI row) (heldI col) (heldI toRow) (heldI toCol)))) ∧ Below w.heap.size w w' := by
 have b1 := heldI_bd row
 have b2 := heldI_bd col
 have b3 := heldI_bd toRow
 have b4 := heldI_bd toCol
 have c1 := held_any row w
 have c2 := held_any col w
 have c3 := held_any toRow w
 have c4 := held_any toCol w
 revert b1 b2 b3 b4 c1 c2 c3 c4
 generalize heldI row = r
 generalize heldI col = c
 generalize heldI toRow = tr
 generalize heldI toCol = tc
 intro b1 b2 b3 b4 c1 c2 c3 c4
 have C1 := Lib.hid c1
 have C2 := Lib.hid c2
 have C3 := Lib.hid c3
 have C4 := Lib.hid c4
 clear c1 c2 c3 c4
 obtain ⟨A, hA⟩ : ∃ A, byL (r - tr) 65 = A := ⟨_, rfl⟩
 obtain ⟨B, hB⟩ : ∃ B, byL (tr - r) 66 = B := ⟨_, rfl⟩
 obtain ⟨C, hC⟩ : ∃ C, byL (tc - c) 67 = C := ⟨_, rfl⟩
 obtain ⟨D, hD⟩ : ∃ D, byL (c - tc) 68 = D := ⟨_, rfl⟩
 obtain ⟨E, hE⟩ : ∃ E, colL tc = E := ⟨_, rfl⟩
 have sA := S_le A 7 (hA ▸ byL_len _ _)
 have sB := S_le B 7 (hB ▸ byL_len _ _)
 have sC := S_le C 7 (hC ▸ byL_len _ _)
 have sD := S_le D 7 (hD ▸ byL_len _ _)
 have sE := S_le E 7 (hE ▸ colL_len _)
 have hfin : moveL r c tr tc = if c = tc then A ++ B else if tc = 0 then A ++ B ++ [13] else if E.length < (C ++ D).length then A ++ B ++ E else A ++ B ++ (C ++ D) := by unfold moveL; rw [hA, hB, hC, hD, hE]
 have Hfin := Lib.hid hfin
 have HA := Lib.hid (hA ▸ up_any (r - tr))
 have HB := Lib.hid (hB ▸ down_any (tr - r))
 have HC := Lib.hid (hC ▸ right_any (tc - c))
 have HD := Lib.hid (hD ▸ left_any (c - tc))
 have HE := Lib.hid (hE ▸ column_any tc)
 clear hfin hA hB hC hD hE
 by_cases h1 : c = tc
 ·subst h1
  rw [if_pos rfl] at Hfin
  go_enter Tryz.func134, Tryz.ntmps134
  go_wp2_with fail
  refine C1.out.mono ?_
  rintro e w' ⟨rfl, rfl⟩
  go_wp2_with fail
  refine C2.out.mono ?_
  rintro e w' ⟨rfl, rfl⟩
  go_wp2_with fail
  refine C3.out.mono ?_
  rintro e w' ⟨rfl, rfl⟩
  go_wp2_with fail
  refine C4.out.mono ?_
  rintro e w' ⟨rfl, rfl⟩
  go_wp2_with fail
  refine (HA.out _).mono ?_
  rintro e w1 ⟨rfl, hb1⟩
  go_wp2_with fail
  refine (HB.out _).mono ?_
  rintro e w2 ⟨rfl, hb2⟩
  go_wp2
  go_ret
  exact ⟨ret_str (by rw [Hfin.out, S_append]), bnext hb1 hb2⟩
 ·rw [if_neg h1] at Hfin
  have h1b : (c == tc) = false := by simpa using h1
  clear h1
  by_cases h2 : tc = 0
  ·subst h2
   rw [if_pos rfl] at Hfin
   go_enter Tryz.func134, Tryz.ntmps134
   go_wp2_with fail
   refine C1.out.mono ?_
   rintro e w' ⟨rfl, rfl⟩
   go_wp2_with fail
   refine C2.out.mono ?_
   rintro e w' ⟨rfl, rfl⟩
   go_wp2_with fail
   refine C3.out.mono ?_
   rintro e w' ⟨rfl, rfl⟩
   go_wp2_with fail
   refine C4.out.mono ?_
   rintro e w' ⟨rfl, rfl⟩
   go_wp2_with fail
   refine (HA.out _).mono ?_
   rintro e w1 ⟨rfl, hb1⟩
   go_wp2_with fail
   refine (HB.out _).mono ?_
   rintro e w2 ⟨rfl, hb2⟩
   go_wp2
   go_ret
   exact ⟨ret_str (by rw [Hfin.out, ← S_append, ← S_append]; rfl), bnext hb1 hb2⟩
  ·rw [if_neg h2] at Hfin
   have h2b : (tc == 0) = false := by simpa using h2
   clear h2
   go_enter Tryz.func134, Tryz.ntmps134
   go_wp2_with fail
   refine C1.out.mono ?_
   rintro e w' ⟨rfl, rfl⟩
   go_wp2_with fail
   refine C2.out.mono ?_
   rintro e w' ⟨rfl, rfl⟩
   go_wp2_with fail
   refine C3.out.mono ?_
   rintro e w' ⟨rfl, rfl⟩
   go_wp2_with fail
   refine C4.out.mono ?_
   rintro e w' ⟨rfl, rfl⟩
   go_wp2_with fail
   refine (HA.out _).mono ?_
   rintro e w1 ⟨rfl, hb1⟩
   go_wp2_with fail
   refine (HB.out _).mono ?_
   rintro e w2 ⟨rfl, hb2⟩
   go_wp2_with fail
   refine (HC.out _).mono ?_
   rintro e w3 ⟨rfl, hb3⟩
   go_wp2_with fail
   refine (HD.out _).mono ?_
   rintro e w4 ⟨rfl, hb4⟩
   go_wp2_with fail
   refine (HE.out _).mono ?_
   rintro e w5 ⟨rfl, hb5⟩
   have hB5 := bnext (bnext (bnext (bnext hb1 hb2) hb3) hb4) hb5
   clear hb1 hb2 hb3 hb4 hb5
   go_wp2
   ·rename_i h
    go_ret
    exact ⟨ret_str (by simp only [S_size] at h; rw [Hfin.out, if_pos (by simp; omega), ← S_append, ← S_append]), hB5⟩
   ·rename_i h
    go_ret
    exact ⟨ret_str (by simp only [S_size] at h; rw [Hfin.out, if_neg (by simp; omega), ← S_append (A ++ B), ← S_append A B, ← S_append C D]), hB5⟩
end Go.Proofs.YtjkajojjehgmdaaGreat
namespace Go.Proofs.YtjkajojjehgmdaaGreat
open Go.RowKit Go.Maps
theorem ownsRow_slice {W : World} {base : Nat} {e : TypeId} {size : Nat} {v : Value} {n : Nat} {xs : List Value} (h : W.ownsRow base e size v n xs) : ∃ a c, v = .slice a n c := by
 rcases h.2 with ⟨rfl, rfl⟩ | ⟨g, cap, _, rfl, _⟩
 ·exact ⟨_, _, rfl⟩
 ·exact ⟨_, _, rfl⟩
theorem S_get (l : List UInt8) (i : Nat) (h : i < (S l).size) : (S l)[i]'h = nth 0 l i := by
 rw [nth_eq _ _ _ (by rw [S_size] at h; exact h)]; rfl
end Go.Proofs.YtjkajojjehgmdaaGreat
namespace Go.Proofs.YtjkajojjehgmdaaGreat
open Go.RowKit
def textL (M : List GC) : List UInt8 := M.flatMap fun c => c.s.data.toList
def trimN (l : List UInt8) : Nat → Nat
 | 0 => 0
 | n + 1 => if nth 0 l n = 32 then trimN l n else n + 1
def trimL (l : List UInt8) : List UInt8 := l.take (trimN l l.length)
end Go.Proofs.YtjkajojjehgmdaaGreat
namespace Go.Proofs.YtjkajojjehgmdaaGreat
open Go.RowKit Go.Maps
theorem below_append {B : Nat} {W w1 : World} {e : TypeId} {size : Nat} {v : Value} {n : Nat} {xs : List Value} {tmp : Obj} (hown : W.ownsRow B e size v n xs) (hB : B ≤ W.heap.size) (hg : (W.alloc tmp).grownBy w1 v.ownBlock) : Below B W w1 :=
 ((Below.refl B W).alloc hB tmp).grown hg (by simp; omega) (fun j ej => by
  rcases hown.2 with ⟨rfl, _⟩ | ⟨g, cap, cur, rfl, hgb, _⟩
  ·simp [Value.ownBlock] at ej
  ·obtain rfl : g = j := by simpa [Value.ownBlock] using ej
   exact hgb)
def mayB (f g : Int) : Bool := decide (0 ≤ f ∧ f ≤ 8 ∧ 0 ≤ g ∧ g ≤ 8)
theorem may_any (b u i : Bool) (f g : Int) (w : World) : Calls Tryz.prog 166 #[.agg #[.bool b, .bool u, .bool i, .int .i64 f, .int .i64 g]] w fun e w' => e = .returned (.bool (mayB f g)) ∧ Below w.heap.size w w' := by
 go_enter Tryz.func166, Tryz.ntmps166
 go_wp2
 all_goals
  go_ret
  refine ⟨ret_bool ?_, (Below.refl _ _).alloc (Nat.le_refl _) _⟩
  rw [Bool.eq_iff_iff]; simp [mayB]; omega
def colourI (c base : Int) : Int := if c = 0 then base + 9 else base + c - 1
theorem colour_any (c base : Int) (w : World) (hc : 0 ≤ c ∧ c ≤ 8) (hb : 0 ≤ base ∧ base ≤ 100) : Calls Tryz.prog 167 #[.int .i64 c, .int .i64 base] w fun e w' => e = .returned (.int .i64 (colourI c base)) ∧ w = w' := by
 go_enter Tryz.func167, Tryz.ntmps167
 go_wp2
 all_goals
  go_ret
  refine ⟨ret_int ?_, rfl⟩
  unfold colourI
  first | rw [if_pos (eq_of_beq ‹_›)] | rw [if_neg (ne_of_beq_false ‹_›)]
theorem infoInt04 : (Tryz.prog.info? 3).map (fun i => (i.zero, i.size, i.bytes)) = some (some (.int .i64 0), 1, 8) := by kernel_rfl
def eqS (b u i : Bool) (f g : Int) (b' u' i' : Bool) (f' g' : Int) : Bool := decide (b = b' ∧ u = u' ∧ i = i' ∧ f = f' ∧ g = g')
theorem eql_sty (b u i : Bool) (f g : Int) (b' u' i' : Bool) (f' g' : Int) (W : World) :
    (binOp .eql 32 (.agg #[.bool b, .bool u, .bool i, .int .i64 f, .int .i64 g]) (.agg #[.bool b', .bool u', .bool i', .int .i64 f', .int .i64 g'])).run Tryz.prog W = .ok (.bool (eqS b u i f g b' u' i' f' g')) W := by
 unfold eqS
 go_simp
 by_cases h1 : b = b' <;> by_cases h2 : u = u' <;> by_cases h3 : i = i' <;> by_cases h4 : f = f' <;> by_cases h5 : g = g' <;> simp [h1, h2, h3, h4, h5]
def numsL (b u i : Bool) (f g : Int) (b' u' i' : Bool) (f' g' : Int) : List Int :=
 let z := b && !b' || u && !u' || i && !i'
 (if z then [0] else []) ++ (if b' && !(!z && b) then [1] else []) ++ (if u' && !(!z && u) then [4] else []) ++ (if i' && !(!z && i) then [7] else []) ++
  (if f' ≠ (if z then 0 else f) then [colourI f' 30] else []) ++ (if g' ≠ (if z then 0 else g) then [colourI g' 40] else [])
def styleL (b u i : Bool) (f g : Int) (b' u' i' : Bool) (f' g' : Int) : List UInt8 :=
 if eqS b u i f g b' u' i' f' g' || !mayB f g || !mayB f' g' then [] else seqL (numsL b u i f g b' u' i' f' g') [109]
end Go.Proofs.YtjkajojjehgmdaaGreat
