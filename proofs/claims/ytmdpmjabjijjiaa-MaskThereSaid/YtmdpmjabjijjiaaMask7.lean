/- The letters of a pattern, what fits a slot, what a slot takes: program and reference. No condition. What a slot takes; the law's cut. No condition. A mask's pieces where they lie; all, slots, same, behind. No condition. A mask's slots, the places behind them; what it prints. No condition. What fits a mask: program. No condition. Whole, Push and Back: program. No condition. Back, At and Print: program. No condition. -/
import Derived.Test.YtmdpmjabjijjiaaMMath
import Derived.Test.YtmdpmjabjijjiaaRClus4
namespace Go.Proofs.Ytmdpmjabjijjiaa
set_option linter.unusedVariables false
set_option linter.unusedSimpArgs false
open Go.RowKit Go.Shelf Go.Maps
theorem S_get (l : List UInt8) (i : Nat) (h : i < (S l).size) : (S l)[i]'h = nth 0 l i := by
  rw [nth_eq _ _ _ (by rw [S_size] at h; exact h)]; rfl
theorem S_const (c x : List UInt8) : ((S c).toList == x) = decide (c = x) := by
  rw [S_toList, Bool.eq_iff_iff, beq_iff_eq, decide_eq_true_eq]
set_option maxRecDepth 100000 in
set_option maxHeartbeats 2000000 in
theorem slot_any (c : List UInt8) (w : World) : Calls Try.prog 98 #[.string (S c)] w fun e w' => e = .returned (.int .i64 (sortB c : Nat)) ∧ w = w' := by
  have e1 := S_const c [57]
  have e2 := S_const c [97]
  have e3 := S_const c [65]
  have e4 := S_const c [42]
  obtain ⟨z, hz⟩ : ∃ z, z = sortB c := ⟨_, rfl⟩
  rw [← hz]
  unfold sortB at hz
  by_cases h1 : c = [57]
  · rw [if_pos h1] at hz
    rw [decide_eq_true h1] at e1
    subst hz
    clear e2 e3 e4 h1
    go_enter Try.func98, Try.ntmps98
    go_wp2
    go_ret
    exact ⟨rfl, rfl⟩
  rw [if_neg h1] at hz
  rw [decide_eq_false h1] at e1
  clear h1
  by_cases h2 : c = [97]
  · rw [if_pos h2] at hz
    rw [decide_eq_true h2] at e2
    subst hz
    clear e3 e4 h2
    go_enter Try.func98, Try.ntmps98
    go_wp2
    go_ret
    exact ⟨rfl, rfl⟩
  rw [if_neg h2] at hz
  rw [decide_eq_false h2] at e2
  clear h2
  by_cases h3 : c = [65]
  · rw [if_pos h3] at hz
    rw [decide_eq_true h3] at e3
    subst hz
    clear e4 h3
    go_enter Try.func98, Try.ntmps98
    go_wp2
    go_ret
    exact ⟨rfl, rfl⟩
  rw [if_neg h3] at hz
  rw [decide_eq_false h3] at e3
  clear h3
  by_cases h4 : c = [42]
  · rw [if_pos h4] at hz
    rw [decide_eq_true h4] at e4
    subst hz
    clear h4
    go_enter Try.func98, Try.ntmps98
    go_wp2
    go_ret
    exact ⟨rfl, rfl⟩
  · rw [if_neg h4] at hz
    rw [decide_eq_false h4] at e4
    subst hz
    clear h4
    go_enter Try.func98, Try.ntmps98
    go_wp2
    go_ret
    exact ⟨rfl, rfl⟩
set_option maxRecDepth 100000 in
set_option maxHeartbeats 2000000 in
theorem letter_any (c : List UInt8) (w : World) : Calls Try.prog 95 #[.string (S c)] w fun e w' => e = .returned (.bool (!decide (sortB c = 0))) ∧ w = w' := by
  have e1 := S_const c [57]
  have e2 := S_const c [97]
  have e3 := S_const c [65]
  have e4 := S_const c [42]
  obtain ⟨z, hz⟩ : ∃ z, z = !decide (sortB c = 0) := ⟨_, rfl⟩
  rw [← hz]
  have hz2 : z = (decide (c = [57]) || (decide (c = [97]) || (decide (c = [65]) || decide (c = [42])))) := by
    rw [hz]; unfold sortB
    by_cases h1 : c = [57]
    · simp [h1]
    · by_cases h2 : c = [97]
      · simp [h2]
      · by_cases h3 : c = [65]
        · simp [h3]
        · by_cases h4 : c = [42]
          · simp [h4]
          · simp [h1, h2, h3, h4]
  clear hz
  generalize decide (c = [57]) = d1 at e1 hz2
  generalize decide (c = [97]) = d2 at e2 hz2
  generalize decide (c = [65]) = d3 at e3 hz2
  generalize decide (c = [42]) = d4 at e4 hz2
  subst hz2
  cases d1 <;> cases d2 <;> cases d3 <;> cases d4 <;>
  · go_enter Try.func95, Try.ntmps95
    go_wp2
    go_ret
    exact ⟨rfl, rfl⟩
set_option maxRecDepth 100000 in
set_option maxHeartbeats 2000000 in
theorem other_any (c : List UInt8) (w : World) : Calls Try.prog 51 #[.string (S c)] w fun e w' => e = .returned (.string (S (if sortB c = 1 then [55] else if sortB c = 2 ∨ sortB c = 3 then [81] else [120]))) ∧ w = w' := by
  have e1 := S_const c [57]
  have e2 := S_const c [97]
  have e3 := S_const c [65]
  by_cases h1 : c = [57]
  · subst h1
    rw [decide_eq_true rfl] at e1
    go_enter Try.func51, Try.ntmps51
    go_wp2
    go_ret
    exact ⟨rfl, rfl⟩
  rw [decide_eq_false h1] at e1
  by_cases h2 : c = [97]
  · subst h2
    rw [decide_eq_true rfl] at e2
    clear h1
    go_enter Try.func51, Try.ntmps51
    go_wp2
    go_ret
    exact ⟨rfl, rfl⟩
  rw [decide_eq_false h2] at e2
  by_cases h3 : c = [65]
  · subst h3
    rw [decide_eq_true rfl] at e3
    clear h1 h2
    go_enter Try.func51, Try.ntmps51
    go_wp2
    go_ret
    exact ⟨rfl, rfl⟩
  rw [decide_eq_false h3] at e3
  have hs : sortB c ≠ 1 ∧ ¬ (sortB c = 2 ∨ sortB c = 3) := by
    unfold sortB
    rw [if_neg h1, if_neg h2, if_neg h3]
    split <;> omega
  rw [if_neg hs.1, if_neg hs.2]
  clear hs h1 h2 h3
  go_enter Try.func51, Try.ntmps51
  go_wp2
  go_ret
  exact ⟨rfl, rfl⟩
theorem b0_bd (c : List UInt8) : 0 ≤ b0 c ∧ b0 c ≤ 255 := by
  unfold b0
  have := (nth 0 c 0).toNat_lt
  omega
set_option maxRecDepth 100000 in
set_option maxHeartbeats 4000000 in
theorem fitsK_any (k : Nat) (hk : k ≤ 4) (c : List UInt8) (hc : 0 < c.length) (hl : c.length ≤ 1100000) (w : World) : Calls Try.prog 103 #[.int .i64 k, .string (S c)] w fun e w' => e = .returned (.bool (fitsB k c)) ∧ w = w' := by
  have hget := S_get c
  have hsz := S_size c
  have hb := b0_bd c
  obtain ⟨x, hx⟩ : ∃ x, x = b0 c := ⟨_, rfl⟩
  have hx' : ((nth 0 c 0).toNat : Int) = x := hx.symm
  obtain ⟨z, hz⟩ : ∃ z, z = fitsB k c := ⟨_, rfl⟩
  rw [← hz]
  unfold fitsB at hz
  rw [← hx] at hb hz
  clear hx
  rcases (by omega : k = 0 ∨ k = 1 ∨ k = 2 ∨ k = 3 ∨ k = 4) with rfl | rfl | rfl | rfl | rfl
  all_goals by_cases h1 : c.length = 1
  all_goals first
    | rw [decide_eq_true h1] at hz
    | rw [decide_eq_false h1] at hz
    | skip
  all_goals simp at hz
  all_goals (have HZ := Lib.hid hz; clear hz)
  all_goals go_enter Try.func103, Try.ntmps103
  all_goals go_wp2
  all_goals go_ret
  all_goals refine ⟨ret_bool ?_, rfl⟩
  all_goals rw [HZ.out]
  all_goals first | rfl | done | (rw [Bool.eq_iff_iff]; simp; done) | (rw [Bool.eq_iff_iff]; simp; omega)
set_option maxRecDepth 100000 in
set_option maxHeartbeats 4000000 in
theorem refFits_any (s c : List UInt8) (hc : 0 < c.length) (hl : c.length ≤ 1100000) (w : World) : Calls Try.prog 101 #[.string (S s), .string (S c)] w fun e w' => e = .returned (.bool (fitsB (sortB s) c)) ∧ w = w' := by
  have e1 := S_const s [57]
  have e2 := S_const s [97]
  have e3 := S_const s [65]
  have e4 := S_const s [42]
  have hget := S_get c
  have hsz := S_size c
  have hb := b0_bd c
  obtain ⟨x, hx⟩ : ∃ x, x = b0 c := ⟨_, rfl⟩
  have hx' : ((nth 0 c 0).toNat : Int) = x := hx.symm
  obtain ⟨z, hz⟩ : ∃ z, z = fitsB (sortB s) c := ⟨_, rfl⟩
  rw [← hz]
  unfold fitsB at hz
  rw [← hx] at hb hz
  clear hx
  unfold sortB at hz
  by_cases h1 : c.length = 1
  all_goals by_cases q1 : s = [57]
  all_goals by_cases q2 : s = [97]
  all_goals by_cases q3 : s = [65]
  all_goals by_cases q4 : s = [42]
  all_goals first | (exfalso; simp_all; done) | skip
  all_goals first | replace e1 := e1.trans (decide_eq_true q1) | replace e1 := e1.trans (decide_eq_false q1)
  all_goals first | replace e2 := e2.trans (decide_eq_true q2) | replace e2 := e2.trans (decide_eq_false q2)
  all_goals first | replace e3 := e3.trans (decide_eq_true q3) | replace e3 := e3.trans (decide_eq_false q3)
  all_goals first | replace e4 := e4.trans (decide_eq_true q4) | replace e4 := e4.trans (decide_eq_false q4)
  all_goals simp [q1, q2, q3, q4, h1] at hz
  all_goals (have HZ := Lib.hid hz; clear hz q1 q2 q3 q4)
  all_goals go_enter Try.func101, Try.ntmps101
  all_goals go_wp2
  all_goals go_ret
  all_goals refine ⟨ret_bool ?_, rfl⟩
  all_goals rw [HZ.out]
  all_goals first | rfl | done | (rw [Bool.eq_iff_iff]; simp; done) | (rw [Bool.eq_iff_iff]; simp; omega)
end Go.Proofs.Ytmdpmjabjijjiaa
namespace Go.Proofs.Ytmdpmjabjijjiaa
set_option linter.unusedVariables false
set_option linter.unusedSimpArgs false
open Go.RowKit Go.Shelf Go.Maps
set_option maxRecDepth 100000 in
theorem cut34_any (l : List UInt8) (n : Nat) (w : World) (hl : l.length ≤ maxLen) (hn : n ≤ 1000) : Calls Try.prog 36 #[.string (S l), .int .i64 n] w fun e w' => e = .returned (.string (S (l.take n))) ∧ w = w' := by
  unfold maxLen at hl
  have hs := S_size l
  by_cases h : l.length ≤ n
  · have ht : l.take n = l := List.take_of_length_le h
    rw [ht]
    have hd : ¬ (n : Int) < (l.length : Int) := by omega
    clear ht
    go_enter Try.func36, Try.ntmps36
    go_wp2
    go_ret
    exact ⟨rfl, rfl⟩
  · have hx : (S l).extract 0 n = S (l.take n) := by rw [S_extract, List.drop_zero, Nat.sub_zero]
    have HX := Lib.hid hx
    have hd : (n : Int) < (l.length : Int) := by omega
    clear hx h
    go_enter Try.func36, Try.ntmps36
    go_wp2
    go_ret
    exact ⟨ret_str HX.out, rfl⟩
theorem byteB_b (c : List UInt8) : byteB (b0 c).toNat = nth 0 c 0 := by
  unfold b0 byteB
  simp
set_option maxRecDepth 100000 in
set_option maxHeartbeats 2000000 in
theorem taken_any (k : Nat) (hk : k ≤ 4) (c : List UInt8) (hl : c.length ≤ 1100000) (w : World) : Calls Try.prog 104 #[.int .i64 k, .string (S c)] w fun e w' => e = .returned (.string (S (takenB k c))) ∧ Below w.heap.size w w' := by
  have hget := S_get c
  have hsz := S_size c
  have hb := b0_bd c
  obtain ⟨T, hT⟩ : ∃ T, T = takenB k c := ⟨_, rfl⟩
  rw [← hT]
  unfold takenB lowB at hT
  obtain ⟨x, hx⟩ : ∃ x, x = b0 c := ⟨_, rfl⟩
  have hx' : ((nth 0 c 0).toNat : Int) = x := hx.symm
  rw [← hx] at hb hT
  clear hx
  by_cases h3 : k = 3
  · subst h3
    by_cases h1 : c.length = 1
    · by_cases ha : 97 ≤ x
      · by_cases hz : x ≤ 122
        · have hT' : T = [byteB (x - 32).toNat] := by rw [hT, if_pos]; simp [h1, ha, hz]
          have hu : u8v [byteB (x - 32).toNat] = [.int .u8 (x - 97 + 65)] := by
            unfold u8v byteB
            simp
            omega
          have hcv : (convert 83 9 (.slice (some ⟨w.heap.size, 0, none⟩) 1 1)).run Try.prog (w.alloc (.cells #[.int .u8 (x - 97 + 65)] 5)) = .ok (.string (S [byteB (x - 32).toNat])) (w.alloc (.cells #[.int .u8 (x - 97 + 65)] 5)) := by
            have := conv_newB w [byteB (x - 32).toNat]
            rw [hu] at this
            exact this
          obtain ⟨U, hU⟩ : ∃ U, U = [byteB (x - 32).toNat] := ⟨_, rfl⟩
          rw [← hU] at hcv hT'
          clear hT hu hU
          go_enter Try.func104, Try.ntmps104
          go_wp2
          go_ret
          subst hT'
          exact ⟨rfl, (Below.refl _ _).alloc (Nat.le_refl _) _⟩
        · have hT' : T = c := by rw [hT, if_neg]; simp [h1, ha, hz]
          subst hT'
          clear hT
          go_enter Try.func104, Try.ntmps104
          go_wp2
          go_ret
          exact ⟨rfl, Below.refl _ _⟩
      · have hT' : T = c := by rw [hT, if_neg]; simp [h1, ha]
        subst hT'
        clear hT
        go_enter Try.func104, Try.ntmps104
        go_wp2
        go_ret
        exact ⟨rfl, Below.refl _ _⟩
    · have hT' : T = c := by rw [hT, if_neg]; simp [h1]
      subst hT'
      clear hT
      go_enter Try.func104, Try.ntmps104
      go_wp2
      go_ret
      exact ⟨rfl, Below.refl _ _⟩
  · have hT' : T = c := by rw [hT, if_neg]; simp [h3]
    subst hT'
    have h3' : ¬ (k : Int) = 3 := by omega
    clear hT h3
    go_enter Try.func104, Try.ntmps104
    go_wp2
    go_ret
    exact ⟨rfl, Below.refl _ _⟩
end Go.Proofs.Ytmdpmjabjijjiaa
namespace Go.Proofs.Ytmdpmjabjijjiaa
set_option linter.unusedVariables false
set_option linter.unusedSimpArgs false
open Go.RowKit Go.Shelf Go.Maps
def pieceV (p : Nat × List UInt8) : List Value := [.int .i64 p.1, .string (S p.2)]
def MP (L : PL) : List Value := L.flatMap pieceV
theorem mp_len (L : PL) : (MP L).length = L.length * 2 := by
  induction L with
  | nil => rfl
  | cons p t ih =>
    have : MP (p :: t) = pieceV p ++ MP t := by simp [MP]
    rw [this, List.length_append, ih]; simp [pieceV]; omega
theorem mp_nth (L : PL) (k : Nat) (h : k < L.length) : nth undef (MP L) (k * 2) = .int .i64 (nth pd L k).1 ∧ nth undef (MP L) (k * 2 + 1) = .string (S (nth pd L k).2) := by
  induction L generalizing k with
  | nil => simp at h
  | cons p t ih =>
    have e : MP (p :: t) = .int .i64 p.1 :: .string (S p.2) :: MP t := by simp [MP, pieceV]
    cases k with
    | zero => rw [e]; exact ⟨rfl, rfl⟩
    | succ k =>
      have h' : k < t.length := by simpa using h
      obtain ⟨h1, h2⟩ := ih k h'
      rw [e]
      refine ⟨?_, ?_⟩
      · rw [show (k + 1) * 2 = k * 2 + 1 + 1 by omega]; exact h1
      · rw [show (k + 1) * 2 + 1 = k * 2 + 1 + 1 + 1 by omega]; exact h2
theorem mp_at {B : Nat} {w : World} {a : Option Addr} {L : PL} (h : RowAt B w a (MP L)) (k : Nat) (hk : k < L.length) :
    ∃ b off, a = some ⟨b, off, none⟩ ∧ b < B ∧ w.cell? ⟨b, off + k * 2, none⟩ = some (.int .i64 (nth pd L k).1) ∧ w.cell? ⟨b, off + k * 2 + 1, none⟩ = some (.string (S (nth pd L k).2)) := by
  have hl := mp_len L
  obtain ⟨b, off, e, hb, hc⟩ := h (k * 2) (by omega)
  obtain ⟨b', off', e', hb', hc'⟩ := h (k * 2 + 1) (by omega)
  rw [e] at e'
  simp only [Option.some.injEq, Addr.mk.injEq] at e'
  obtain ⟨rfl, rfl, _⟩ := e'
  obtain ⟨h1, h2⟩ := mp_nth L k hk
  exact ⟨b, off, e, hb, by rw [hc, h1], by rw [Nat.add_assoc, hc', h2]⟩
/-- A mask where it lies; nil is the mask of no pieces. -/
structure MaskAt (w : World) (p : Option Addr) (a : Option Addr) (n c : Nat) (L : PL) : Prop where
  at_ : (p = none ∧ a = none ∧ n = 0 ∧ c = 0) ∨ ∃ b, p = some ⟨b, 0, none⟩ ∧ b < w.heap.size ∧ w.cell? ⟨b, 0, none⟩ = some (.slice a n c)
  len : n = L.length
  cap : n ≤ c
  max : c ≤ maxLen
  row : RowAt w.heap.size w a (MP L)
theorem MaskAt.below {w w' : World} {p a : Option Addr} {n c : Nat} {L : PL} (h : MaskAt w p a n c L) (hb : Below w.heap.size w w') : MaskAt w' p a n c L :=
  ⟨by
    rcases h.at_ with h1 | ⟨b, h1, h2, h3⟩
    · exact .inl h1
    · exact .inr ⟨b, h1, by have := hb.size; omega, (hb.cell (p := ⟨b, 0, none⟩) h2).trans h3⟩, h.len, h.cap, h.max, (h.row.below hb).more hb.size⟩
set_option maxRecDepth 100000 in
theorem mall_any {w : World} {p a : Option Addr} {n c : Nat} {L : PL} (h : MaskAt w p a n c L) : Calls Try.prog 97 #[.pointer p] w fun e w' => e = .returned (.slice a n c) ∧ w = w' := by
  rcases h.at_ with ⟨rfl, rfl, rfl, rfl⟩ | ⟨b, rfl, hb, hc⟩
  · go_enter Try.func97, Try.ntmps97
    go_wp2
    go_ret
    exact ⟨rfl, rfl⟩
  · clear h
    go_enter Try.func97, Try.ntmps97
    go_wp2
    go_ret
    exact ⟨rfl, rfl⟩
set_option maxRecDepth 100000 in
theorem msame_any {w : World} {p a : Option Addr} {n c : Nat} {L : PL} (h : MaskAt w p a n c L) (f : List UInt8) (hn : n ≤ 1100000) : Calls Try.prog 99 #[.pointer p, .string (S f)] w fun e w' => e = .returned (.string (S (sameL L f))) ∧ w = w' := by
  have CA := Lib.hid (mall_any h)
  have hl := h.len
  clear h
  unfold sameL
  by_cases h0 : n = 0
  · subst h0
    rw [if_pos (List.length_eq_zero_iff.1 hl.symm)]
    clear hl
    go_enter Try.func99, Try.ntmps99
    go_wp2_with (go_at_call 97; refine (CA.out).mono ?_; rintro e w1 ⟨rfl, rfl⟩)
    go_ret
    exact ⟨rfl, rfl⟩
  · rw [if_neg (fun e => h0 (by rw [hl, e]; rfl))]
    clear hl
    go_enter Try.func99, Try.ntmps99
    go_wp2_with (go_at_call 97; refine (CA.out).mono ?_; rintro e w1 ⟨rfl, rfl⟩)
    go_ret
    exact ⟨rfl, rfl⟩
end Go.Proofs.Ytmdpmjabjijjiaa
namespace Go.Proofs.Ytmdpmjabjijjiaa
set_option linter.unusedVariables false
set_option linter.unusedSimpArgs false
open Go.RowKit Go.Shelf Go.Maps
theorem infoSort : (Try.prog.info? 116).map (fun i => (i.zero, i.size, i.bytes)) = some (some (.int .i64 0), 1, 8) := by kernel_rfl
def sortV (l : List Nat) : List Value := l.map fun (k : Nat) => Value.int .i64 (k : Int)
theorem sortV_len (l : List Nat) : (sortV l).length = l.length := by simp [sortV]
theorem sortV_nth (l : List Nat) (j : Nat) (h : j < l.length) : nth undef (sortV l) j = .int .i64 (nth 0 l j : Nat) := nth_map (fun (k : Nat) => Value.int .i64 (k : Int)) 0 l j h
theorem sortV_snoc (l : List Nat) (k : Nat) : sortV (l ++ [k]) = sortV l ++ [.int .i64 (k : Int)] := by simp [sortV]
/-- A slice of these sorts. -/
def SortsPost (l : List Nat) (w : World) (e : Ending) (w' : World) : Prop :=
  ∃ a n c, n = l.length ∧ n ≤ c ∧ e = .returned (.slice a n c) ∧ RowAt w'.heap.size w' a (sortV l) ∧ Below w.heap.size w w'
set_option maxRecDepth 100000 in
set_option maxHeartbeats 4000000 in
theorem mslots_any {w : World} {p a : Option Addr} {n c : Nat} {L : PL} (h : MaskAt w p a n c L) (hL : L.length ≤ 300) : Calls Try.prog 102 #[.pointer p] w (SortsPost (slotsL L) w) := by
  obtain ⟨i0, hi, hz0, hz1, hz2⟩ := info_parts infoSort
  have CA := Lib.hid (mall_any h)
  have hrow := h.row
  have hn : n ≤ 300 := by rw [h.len]; exact hL
  have HN := Lib.hid h.len
  clear h
  go_enter Try.func102, Try.ntmps102
  go_wp2_with (go_at_call 97; refine (CA.out).mono ?_; rintro e w1 ⟨rfl, rfl⟩)
  go_loopw [9, 3] (fun i v wr => ∃ k : Nat, k ≤ n ∧ i = .int .i64 (k : Int) ∧ wr.ownsRow w.heap.size 116 1 v (slotsL (L.take k)).length (sortV (slotsL (L.take k))) ∧ Below w.heap.size w wr)
    (fun i _ _ => n - (intOf i).toNat)
  case atStart => exact ⟨0, Nat.zero_le _, rfl, by rw [List.take_zero, slotsL_nil]; exact World.ownsRow_nil _ _ _ _, Below.refl _ _⟩
  case round =>
    obtain ⟨k, hk, rfl, ho, hbr⟩ := hrel
    have hbs := hbr.size
    obtain ⟨a1, c1, rfl⟩ := own_slice ho
    by_cases hlt : k < n
    · have hkL : k < L.length := by rw [← HN.out]; exact hlt
      obtain ⟨b, off, rfl, hb, hc0, hc1⟩ := mp_at hrow k hkL
      have hd0 := (hbr.cell (p := ⟨b, off + k * 2, none⟩) hb).trans hc0
      have hd1 := (hbr.cell (p := ⟨b, off + k * 2 + 1, none⟩) hb).trans hc1
      have hsl := slotsL_len (L.take k)
      rw [List.length_take] at hsl
      have hst : slotsL (L.take (k + 1)) = slotsL (L.take k) ++ (if (nth pd L k).1 = 0 then [] else [(nth pd L k).1]) := by rw [take_snoc L k hkL, slotsL_snoc]
      obtain ⟨q, hq⟩ : ∃ q, q = (nth pd L k).1 := ⟨_, rfl⟩
      obtain ⟨s, hs⟩ : ∃ s, s = (nth pd L k).2 := ⟨_, rfl⟩
      obtain ⟨X, hX⟩ : ∃ X, X = slotsL (L.take k) := ⟨_, rfl⟩
      rw [← hq] at hd0 hst
      rw [← hs] at hd1
      rw [← hX] at ho hsl hst ⊢
      have hXl : X.length ≤ 300 := by omega
      have HST := Lib.hid hst
      have HNX := Lib.hid hX
      clear hq hs hX hst hc0 hc1 hkL hsl
      by_cases h0 : q = 0
      · have hq : ((q : Int) != 0) = false := by simp [h0]
        rw [if_pos h0, List.append_nil] at HST
        clear h0
        go_wp2
        go_roundw
        case rel => exact ⟨k + 1, by omega, by go_num, by rw [HST.out]; exact ho.alloc _, hbr.alloc hbs _⟩
        case measure => simp [intOf]; omega
      · have hq : ((q : Int) != 0) = true := by simp; omega
        rw [if_neg h0] at HST
        clear h0
        go_wp2_with (at_builtin; refine wpList_append_own _ rfl (.tmp 16) (.tmp 19) 120 rfl w.heap.size 116 i0 (.int .i64 0) 1 8 Try.underlying120 hi hz0 hz1 hz2 rfl (by decide) (.slice a1 X.length c1) X.length (sortV X) rfl ((ho.alloc _).alloc _) ⟨wr.heap.size + 1, 0, none⟩ 1 1 [.int .i64 q] rfl rfl (by have := int_one (wr.alloc (.cells #[.int .i64 q, .string (S s)] 118)) (.int .i64 (q : Int)) 116; rw [World.size_alloc] at this; exact this) (by intro u hu; rw [List.mem_singleton.1 hu]; rfl) (by unfold maxLen; omega) (by omega) (by simp; omega) ?_; intro v4 w4 ho4 hg4 _; obtain ⟨g4, c4, rfl⟩ := own_ne ho4 (by omega))
        have hb4 : Below w.heap.size w w4 := ((hbr.alloc hbs _).alloc (by simp; omega) _).grown hg4 (by simp; omega) (fun k e => (own_row ho k e).1)
        go_roundw
        case rel => exact ⟨k + 1, by omega, by go_num, by rw [HST.out, sortV_snoc, List.length_append]; exact ho4, hb4⟩
        case measure => simp [intOf]; omega
    · obtain rfl : k = n := by omega
      have hT : L.take k = L := List.take_of_length_le (by rw [HN.out]; omega)
      rw [hT] at ho ⊢
      clear hT
      go_wp2
      go_ret
      obtain ⟨hr, hnc⟩ := own_row_at' ho
      exact ⟨a1, _, c1, rfl, hnc, rfl, hr, hbr⟩
theorem behN_zero (L : PL) : behN L 0 = 0 := by cases L <;> rfl
theorem drop_piece {L : PL} {k : Nat} (h : k < L.length) : L.drop k = nth pd L k :: L.drop (k + 1) := by
  rw [List.drop_eq_getElem_cons h, nth_eq _ _ _ h]
theorem behN_le : ∀ (L : PL) (m : Nat), behN L m ≤ L.length
  | [], _ => Nat.le_refl _
  | _ :: _, 0 => Nat.zero_le _
  | p :: t, m + 1 => by
    have := behN_le t (if p.1 = 0 then m + 1 else m)
    unfold behN
    rw [List.length_cons]; omega
set_option maxRecDepth 100000 in
set_option maxHeartbeats 4000000 in
theorem mbehind_any {w : World} {p a : Option Addr} {n c : Nat} {L : PL} (h : MaskAt w p a n c L) (hL : L.length ≤ 300) (m : Nat) (hm : m ≤ 1100000) : Calls Try.prog 100 #[.pointer p, .int .i64 m] w fun e w' => e = .returned (.int .i64 (behN L m : Nat)) ∧ Below w.heap.size w w' := by
  have CA := Lib.hid (fun W hb => mall_any (w := W) (h.below hb))
  have hrow := h.row
  have hn : n ≤ 300 := by rw [h.len]; exact hL
  have HN := Lib.hid h.len
  clear h
  obtain ⟨Z, hZ⟩ : ∃ Z, Z = behN L m := ⟨_, rfl⟩
  rw [← hZ]
  by_cases hm0 : m = 0
  · subst hm0
    rw [behN_zero] at hZ
    subst hZ
    go_enter Try.func100, Try.ntmps100
    go_wp2
    go_ret
    exact ⟨rfl, Below.refl _ _⟩
  · have hm1 : ((m : Int) == 0) = false := by simp; omega
    have HM0 := Lib.hid hm0
    have HZ := Lib.hid hZ
    clear hm0 hZ
    go_enter Try.func100, Try.ntmps100
    go_wp2_with (go_at_call 97; refine (CA.out _ (Below.refl _ _)).mono ?_; rintro e w1 ⟨rfl, rfl⟩)
    go_loopw [12, 1] (fun i v wr => ∃ k r : Nat, k ≤ n ∧ i = .int .i64 (k : Int) ∧ v = .int .i64 (r : Int) ∧ 0 < r ∧ r ≤ 1100000 ∧ Hid (behN L m = k + behN (L.drop k) r) ∧ Below w.heap.size w wr)
      (fun i _ _ => n - (intOf i).toNat)
    case atStart => exact ⟨0, m, Nat.zero_le _, rfl, rfl, by have := HM0.out; omega, hm, Lib.hid (by simp), Below.refl _ _⟩
    case round =>
      obtain ⟨k, r, hk, rfl, rfl, hr0, hr1, hst, hbr⟩ := hrel
      have hbs := hbr.size
      by_cases hlt : k < n
      · have hkL : k < L.length := by rw [← HN.out]; exact hlt
        obtain ⟨b, off, rfl, hb, hc0, hc1⟩ := mp_at hrow k hkL
        have hd0 := (hbr.cell (p := ⟨b, off + k * 2, none⟩) hb).trans hc0
        have hd1 := (hbr.cell (p := ⟨b, off + k * 2 + 1, none⟩) hb).trans hc1
        obtain ⟨r', rfl⟩ : ∃ r', r = r' + 1 := ⟨r - 1, by omega⟩
        have hst2 : behN (L.drop k) (r' + 1) = 1 + behN (L.drop (k + 1)) (if (nth pd L k).1 = 0 then r' + 1 else r') := by rw [drop_piece hkL]; rfl
        obtain ⟨q, hq⟩ : ∃ q, q = (nth pd L k).1 := ⟨_, rfl⟩
        obtain ⟨s, hs⟩ : ∃ s, s = (nth pd L k).2 := ⟨_, rfl⟩
        rw [← hq] at hd0 hst2
        rw [← hs] at hd1
        have HST := Lib.hid hst2
        clear hq hs hst2 hc0 hc1 hkL
        by_cases h0 : q = 0
        · have hq : ((q : Int) != 0) = false := by simp [h0]
          rw [if_pos h0] at HST
          have hr2 : (((r' + 1 : Nat) : Int) == 0) = false := by simp; omega
          have hr3 : ((r' : Int) + 1 == 0) = false := by simp; omega
          clear h0
          go_wp2
          go_roundw
          case rel => exact ⟨k + 1, r' + 1, by omega, by go_num, rfl, by omega, hr1, Lib.hid (by rw [hst.out, HST.out]; omega), hbr.alloc hbs _⟩
          case measure => simp [intOf]; omega
        · have hq : ((q : Int) != 0) = true := by simp; omega
          rw [if_neg h0] at HST
          clear h0
          by_cases hr : r' = 0
          · subst hr
            rw [behN_zero] at HST
            go_wp2
            go_ret
            exact ⟨by rw [HZ.out, hst.out, HST.out]; rfl, hbr.alloc hbs _⟩
          · have hr2 : ((r' : Int) == 0) = false := by simp; omega
            have hr3 : 0 < r' := by omega
            clear hr
            go_wp2
            go_roundw
            case rel => exact ⟨k + 1, r', by omega, by go_num, by go_num, hr3, by omega, Lib.hid (by rw [hst.out, HST.out]; omega), hbr.alloc hbs _⟩
            case measure => simp [intOf]; omega
      · obtain rfl : k = n := by omega
        have hZL : Z = k := by
          rw [HZ.out, hst.out, List.drop_of_length_le (by rw [HN.out]; omega)]; rfl
        have HZL := Lib.hid hZL
        clear hZL
        go_wp2_with (go_at_call 97; refine (CA.out _ hbr).mono ?_; rintro e w1 ⟨rfl, rfl⟩)
        go_ret
        exact ⟨by rw [HZL.out]; rfl, hbr⟩
end Go.Proofs.Ytmdpmjabjijjiaa
namespace Go.Proofs.Ytmdpmjabjijjiaa
set_option linter.unusedVariables false
set_option linter.unusedSimpArgs false
open Go.RowKit Go.Shelf Go.Maps
theorem sorts_at {B : Nat} {w : World} {a : Option Addr} {K : List Nat} (h : RowAt B w a (sortV K)) (k : Nat) (hk : k < K.length) : ∃ b off, a = some ⟨b, off, none⟩ ∧ b < B ∧ w.cell? ⟨b, off + k, none⟩ = some (.int .i64 (nth 0 K k : Nat)) := by
  obtain ⟨b, off, e, hb, hc⟩ := h k (by rw [sortV_len]; exact hk)
  exact ⟨b, off, e, hb, by rw [hc, sortV_nth _ _ hk]⟩
theorem slots_le {L : PL} (h : PLok L) (j : Nat) (hj : j < (slotsL L).length) : nth 0 (slotsL L) j ≤ 4 := by
  have e := slot_sort h
  have hl := slotStrs_len L
  rw [nth_eq _ _ _ hj]
  have : (slotsL L)[j] ∈ (slotStrs L).map sortB := by rw [← e]; exact List.getElem_mem hj
  obtain ⟨c, _, hc⟩ := List.mem_map.1 this
  rw [← hc]; exact sortB_le c
theorem allFit_step {K : List Nat} {D : List (List UInt8)} {k : Nat} (h1 : k < K.length) (h2 : k < D.length) : allFit (K.drop k) (D.drop k) = (fitsB (nth 0 K k) (nth [] D k) && allFit (K.drop (k + 1)) (D.drop (k + 1))) := by
  rw [List.drop_eq_getElem_cons h1, List.drop_eq_getElem_cons h2, nth_eq _ _ _ h1, nth_eq _ _ _ h2]; rfl
theorem allFit_end (K : List Nat) (D : List (List UInt8)) : allFit K (D.drop D.length) = true := by
  rw [List.drop_length]; cases K <;> rfl
theorem cut_pos {f : List UInt8} {k : Nat} (h : k < (cutL f).length) : 0 < (nth [] (cutL f) k).length ∧ (nth [] (cutL f) k).length ≤ 64 := by
  have := (nth_clu h).len; omega
set_option maxRecDepth 100000 in
set_option maxHeartbeats 4000000 in
theorem mfits_any {w : World} {p a : Option Addr} {n c : Nat} {L : PL} (h : MaskAt w p a n c L) (hL : PLok L) (f : List UInt8) (hf : f.length ≤ 1100000) : Calls Try.prog 48 #[.pointer p, .string (S f)] w fun e w' => e = .returned (.bool (fitsL L f)) ∧ Below w.heap.size w w' := by
  have CS := Lib.hid (mslots_any h hL.len)
  have CC := Lib.hid (fun W => cut_any f hf W)
  have CF := Lib.hid (fun W => flat_any f hf W)
  have hle := slots_le hL
  have hzl := cutL_len f
  have hsl := slotsL_len L
  have hLl := hL.len
  obtain ⟨Z, hZ⟩ : ∃ Z, Z = fitsL L f := ⟨_, rfl⟩
  rw [← hZ]
  unfold fitsL at hZ
  have hcp := fun k => @cut_pos f k
  obtain ⟨K, hK⟩ : ∃ K, K = slotsL L := ⟨_, rfl⟩
  obtain ⟨D, hD⟩ : ∃ D, D = cutL f := ⟨_, rfl⟩
  obtain ⟨F, hF⟩ : ∃ F, F = flatL f := ⟨_, rfl⟩
  rw [← hK] at CS hle hsl hZ
  rw [← hD] at CC hzl hcp hZ
  rw [← hF] at CF hZ
  have hKl : K.length ≤ 300 := by omega
  have HLE := Lib.hid hle
  have HCP := Lib.hid hcp
  have hse := S_eq F f
  clear h hL hK hD hF hle hcp
  by_cases h1 : K = []
  · have hz0 : Z = false := by rw [hZ, h1]; simp
    subst hz0
    have hK0 : K.length = 0 := by rw [h1]; rfl
    have HK0 := Lib.hid hK0
    clear hZ h1 hK0
    go_enter Try.func48, Try.ntmps48
    go_wp2_with (first
      | (go_at_call 102; refine (CS.out).mono ?_; rintro e w1 ⟨a1, n1, c1, hn1, hnc1, rfl, hrow1, hb1⟩; rw [HK0.out] at hn1; subst hn1)
      | (go_at_call 17; refine (CC.out _).mono ?_; rintro e w2 ⟨a2, n2, c2, hn2, hnc2, hcm2, rfl, hrow2, hb2, _⟩))
    go_ret
    exact ⟨rfl, bnext hb1 hb2⟩
  · have hKp : 0 < K.length := List.length_pos_iff.2 h1
    have hK1 : ((K.length : Int) == 0) = false := by simp; exact h1
    rw [decide_eq_false h1, Bool.not_false, Bool.true_and] at hZ
    clear h1
    by_cases h2 : K.length < D.length
    · have hz0 : Z = false := by rw [hZ, decide_eq_true h2]; rfl
      subst hz0
      have h2' : (K.length : Int) < (D.length : Int) := by omega
      clear hZ h2
      go_enter Try.func48, Try.ntmps48
      go_wp2_with (first
        | (go_at_call 102; refine (CS.out).mono ?_; rintro e w1 ⟨a1, n1, c1, hn1, hnc1, rfl, hrow1, hb1⟩)
        | (go_at_call 17; refine (CC.out _).mono ?_; rintro e w2 ⟨a2, n2, c2, hn2, hnc2, hcm2, rfl, hrow2, hb2, _⟩))
      go_ret
      exact ⟨rfl, bnext hb1 hb2⟩
    · have h2' : ¬ (K.length : Int) < (D.length : Int) := by omega
      rw [decide_eq_false h2, Bool.not_false, Bool.true_and] at hZ
      by_cases h3 : F = f
      · rw [decide_eq_true h3] at hse hZ
        rw [Bool.true_and] at hZ
        have hse2 : ((S F).toList != (S f).toList) = false := by simp [bne, hse]
        have HZ := Lib.hid hZ
        clear hZ h3
        go_enter Try.func48, Try.ntmps48
        go_wp2_with (first
          | (go_at_call 102; refine (CS.out).mono ?_; rintro e w1 ⟨a1, n1, c1, hn1, hnc1, rfl, hrow1, hb1⟩)
          | (go_at_call 17; refine (CC.out _).mono ?_; rintro e w2 ⟨a2, n2, c2, hn2, hnc2, hcm2, rfl, hrow2, hb2, _⟩)
          | (go_at_call 19; refine (CF.out _).mono ?_; rintro e w3 ⟨rfl, hb3⟩))
        replace hrow1 := (hrow1.below (bnext hb2 hb3)).more (bnext hb2 hb3).size
        replace hrow2 := (hrow2.below hb3).more hb3.size
        have hB3 := bnext (bnext hb1 hb2) hb3
        have hDK : D.length ≤ K.length := by omega
        clear hb1 hb2 hb3
        go_loopw [31] (fun i wr => ∃ k : Nat, k ≤ D.length ∧ i = .int .i64 (k : Int) ∧ Hid (allFit K D = allFit (K.drop k) (D.drop k)) ∧ Below w3.heap.size w3 wr) (fun i _ => D.length - (intOf i).toNat)
        case atStart => exact ⟨0, Nat.zero_le _, rfl, Lib.hid rfl, Below.refl _ _⟩
        case round =>
          obtain ⟨k, hk, rfl, hst, hbr⟩ := hrel
          by_cases hlt : k < D.length
          · have hkK : k < K.length := by omega
            obtain ⟨b1, o1, rfl, hb1, hc1⟩ := sorts_at hrow1 k hkK
            obtain ⟨b2, o2, rfl, hb2, hc2⟩ := strs_at hrow2 k hlt
            have hd1 := (hbr.cell (p := ⟨b1, o1 + k, none⟩) hb1).trans hc1
            have hd2 := (hbr.cell (p := ⟨b2, o2 + k, none⟩) hb2).trans hc2
            have hq4 := HLE.out k hkK
            have hx0 := HCP.out k hlt
            have hst2 := allFit_step hkK hlt
            obtain ⟨q, hq⟩ : ∃ q, q = nth 0 K k := ⟨_, rfl⟩
            obtain ⟨x, hx⟩ : ∃ x, x = nth [] D k := ⟨_, rfl⟩
            rw [← hq] at hd1 hq4 hst2
            rw [← hx] at hd2 hx0 hst2
            have CK := fun W => fitsK_any q hq4 x hx0.1 (by omega) W
            have HST := Lib.hid hst2
            clear hq hx hst2 hc1 hc2
            cases hfit : fitsB q x with
            | true =>
              rw [hfit] at CK HST
              have CK := Lib.hid CK
              clear hfit
              go_wp2_with (go_at_call 103; refine (CK.out _).mono ?_; rintro e w4 ⟨rfl, rfl⟩)
              go_roundw
              case rel => exact ⟨k + 1, by omega, by go_num, Lib.hid (by rw [hst.out, HST.out, Bool.true_and]), hbr⟩
              case measure => simp [intOf]; omega
            | false =>
              rw [hfit] at CK HST
              have CK := Lib.hid CK
              clear hfit
              go_wp2_with (go_at_call 103; refine (CK.out _).mono ?_; rintro e w4 ⟨rfl, rfl⟩)
              go_ret
              exact ⟨by rw [HZ.out, hst.out, HST.out]; rfl, bnext hB3 hbr⟩
          · obtain rfl : k = D.length := by omega
            have hZ1 : Z = true := by rw [HZ.out, hst.out]; exact allFit_end _ _
            have HZ1 := Lib.hid hZ1
            clear hZ1
            go_wp2
            go_ret
            exact ⟨by rw [HZ1.out]; rfl, bnext hB3 hbr⟩
      · rw [decide_eq_false h3] at hse hZ
        rw [Bool.false_and] at hZ
        subst hZ
        have hse2 : ((S F).toList != (S f).toList) = true := by simp [bne, hse]
        clear h3
        go_enter Try.func48, Try.ntmps48
        go_wp2_with (first
          | (go_at_call 102; refine (CS.out).mono ?_; rintro e w1 ⟨a1, n1, c1, hn1, hnc1, rfl, hrow1, hb1⟩)
          | (go_at_call 17; refine (CC.out _).mono ?_; rintro e w2 ⟨a2, n2, c2, hn2, hnc2, hcm2, rfl, hrow2, hb2, _⟩)
          | (go_at_call 19; refine (CF.out _).mono ?_; rintro e w3 ⟨rfl, hb3⟩))
        go_ret
        exact ⟨rfl, bnext (bnext hb1 hb2) hb3⟩
end Go.Proofs.Ytmdpmjabjijjiaa
namespace Go.Proofs.Ytmdpmjabjijjiaa
set_option linter.unusedVariables false
set_option linter.unusedSimpArgs false
open Go.RowKit Go.Shelf Go.Maps
set_option maxRecDepth 100000 in
set_option maxHeartbeats 2000000 in
theorem mwhole_any {w : World} {p a : Option Addr} {n c : Nat} {L : PL} (h : MaskAt w p a n c L) (hL : PLok L) (f : List UInt8) (hf : f.length ≤ 1100000) : Calls Try.prog 54 #[.pointer p, .string (S f)] w fun e w' => e = .returned (.bool (wholeL L f)) ∧ Below w.heap.size w w' := by
  have CM := mfits_any h hL f hf
  have CC := Lib.hid (fun W => count_any f hf W)
  have CS := Lib.hid (fun W hb => mslots_any (w := W) (h.below hb) hL.len)
  obtain ⟨Z, hZ⟩ : ∃ Z, Z = wholeL L f := ⟨_, rfl⟩
  rw [← hZ]
  unfold wholeL at hZ
  obtain ⟨K, hK⟩ : ∃ K, K = slotsL L := ⟨_, rfl⟩
  obtain ⟨m, hm⟩ : ∃ m, m = (cutL f).length := ⟨_, rfl⟩
  rw [← hm] at hZ CC
  rw [← hK] at hZ CS
  clear h hL hK hm
  cases hfit : fitsL L f with
  | false =>
    rw [hfit] at CM hZ
    rw [Bool.false_and] at hZ
    subst hZ
    have CM := Lib.hid CM
    clear hfit
    go_enter Try.func54, Try.ntmps54
    go_wp2_with (go_at_call 48; refine (CM.out).mono ?_; rintro e w1 ⟨rfl, hb1⟩)
    go_ret
    exact ⟨rfl, hb1⟩
  | true =>
    rw [hfit] at CM hZ
    rw [Bool.true_and] at hZ
    have CM := Lib.hid CM
    have HZ := Lib.hid hZ
    clear hfit hZ
    go_enter Try.func54, Try.ntmps54
    go_wp2_with (first
      | (go_at_call 48; refine (CM.out).mono ?_; rintro e w1 ⟨rfl, hb1⟩)
      | (go_at_call 25; refine (CC.out _).mono ?_; rintro e w2 ⟨rfl, hb2⟩)
      | (go_at_call 102; refine (CS.out _ (bnext hb1 hb2)).mono ?_; rintro e w3 ⟨a3, n3, c3, hn3, hnc3, rfl, hrow3, hb3⟩))
    go_ret
    refine ⟨ret_bool ?_, bnext (bnext hb1 hb2) hb3⟩
    rw [HZ.out, Bool.eq_iff_iff]
    simp
    omega
theorem taken_len (k : Nat) (s : List UInt8) (h : Clu s) : 1 ≤ (takenB k s).length ∧ (takenB k s).length ≤ 64 := by
  unfold takenB
  split
  · simp
  · exact h.len
set_option maxRecDepth 100000 in
set_option maxHeartbeats 4000000 in
theorem mpush_any {w : World} {p a : Option Addr} {n c : Nat} {L : PL} (h : MaskAt w p a n c L) (hL : PLok L) (f s : List UInt8) (hf : f.length ≤ 1100000) (hs : s.length ≤ 1100000) :
    Calls Try.prog 49 #[.pointer p, .string (S f), .string (S s)] w fun e w' => e = .returned (.tuple #[.string (S (pushL L f s).1), .bool (pushL L f s).2]) ∧ Below w.heap.size w w' := by
  have hn3 : n ≤ 300 := by rw [h.len]; exact hL.len
  have CS := Lib.hid (mslots_any h hL.len)
  have CC := Lib.hid (fun W => count_any f hf W)
  have CM := (fun W hb => mfits_any (w := W) (h.below hb) hL f hf)
  have CI := (fun W => is_any' s hs W)
  have CE := Lib.hid (fun W hb => msame_any (w := W) (h.below hb) f (by omega))
  have hle := slots_le hL
  have htl := fun k => taken_len k s
  have hic := @isCl_clu s
  have hzl := cutL_len f
  have hsl := slotsL_len L
  have hLl := hL.len
  obtain ⟨Z, hZ⟩ : ∃ Z, Z = pushL L f s := ⟨_, rfl⟩
  rw [← hZ]
  unfold pushL at hZ
  obtain ⟨T, hT⟩ : ∃ T, T = sameL L f := ⟨_, rfl⟩
  obtain ⟨K, hK⟩ : ∃ K, K = slotsL L := ⟨_, rfl⟩
  obtain ⟨m, hm⟩ : ∃ m, m = (cutL f).length := ⟨_, rfl⟩
  rw [← hm] at hZ CC hzl
  rw [← hK] at hZ CS hle hsl
  rw [← hT] at hZ CE
  have hsf := S_size f
  have hKl : K.length ≤ 300 := by omega
  clear h hL hK hm hT
  cases hfit : fitsL L f with
  | false =>
    rw [hfit] at CM hZ
    rw [if_neg (by simp)] at hZ
    subst hZ
    have CM := Lib.hid CM
    clear hfit hle htl hic CI
    go_enter Try.func49, Try.ntmps49
    go_wp2_with (first
      | (go_at_call 102; refine (CS.out).mono ?_; rintro e w1 ⟨a1, n1, c1, hn1, hnc1, rfl, hrow1, hb1⟩)
      | (go_at_call 25; refine (CC.out _).mono ?_; rintro e w2 ⟨rfl, hb2⟩)
      | (go_at_call 48; refine (CM.out _ (bnext hb1 hb2)).mono ?_; rintro e w3 ⟨rfl, hb3⟩)
      | (go_at_call 99; refine (CE.out _ (bnext (bnext hb1 hb2) hb3)).mono ?_; rintro e w4 ⟨rfl, rfl⟩))
    refine bodyPost_ret (results_tmp2 rfl _ _ _) rfl ?_
    exact ⟨rfl, bnext (bnext hb1 hb2) hb3⟩
  | true =>
    rw [hfit] at CM hZ
    have CM := Lib.hid CM
    clear hfit
    by_cases hmK : m < K.length
    · have hmK' : ¬ (K.length : Int) ≤ (m : Int) := by omega
      cases hi : isCl s with
      | false =>
        rw [hi] at CI hZ
        rw [if_neg (by simp)] at hZ
        subst hZ
        have CI := Lib.hid CI
        clear hi hle htl hic
        go_enter Try.func49, Try.ntmps49
        go_wp2_with (first
          | (go_at_call 102; refine (CS.out).mono ?_; rintro e w1 ⟨a1, n1, c1, hn1, hnc1, rfl, hrow1, hb1⟩)
          | (go_at_call 25; refine (CC.out _).mono ?_; rintro e w2 ⟨rfl, hb2⟩)
          | (go_at_call 48; refine (CM.out _ (bnext hb1 hb2)).mono ?_; rintro e w3 ⟨rfl, hb3⟩)
          | (go_at_call 26; refine (CI.out _).mono ?_; rintro e w4 ⟨rfl, hb4⟩)
          | (go_at_call 99; refine (CE.out _ (bnext (bnext (bnext hb1 hb2) hb3) hb4)).mono ?_; rintro e w5 ⟨rfl, rfl⟩))
        refine bodyPost_ret (results_tmp2 rfl _ _ _) rfl ?_
        exact ⟨rfl, bnext (bnext (bnext hb1 hb2) hb3) hb4⟩
      | true =>
        rw [hi] at CI hZ
        have CI := Lib.hid CI
        rw [if_pos ⟨rfl, hmK, rfl⟩] at hZ
        have hk4 := hle m hmK
        have htk := htl (nth 0 K m) (hic hi)
        obtain ⟨k, hk⟩ : ∃ k, k = nth 0 K m := ⟨_, rfl⟩
        have HAT := Lib.hid (fun (W : World) (a : Option Addr) (h : RowAt W.heap.size W a (sortV K)) => (by rw [hk]; exact sorts_at h m hmK : ∃ b off, a = some ⟨b, off, none⟩ ∧ b < W.heap.size ∧ W.cell? ⟨b, off + m, none⟩ = some (.int .i64 (k : Nat))))
        rw [← hk] at hZ hk4 htk
        have CT := Lib.hid (fun W => taken_any k hk4 s hs W)
        obtain ⟨x, hx⟩ : ∃ x, x = takenB k s := ⟨_, rfl⟩
        rw [← hx] at hZ htk CT
        have CK := (fun W => fitsK_any k hk4 x (by omega) (by omega) W)
        have hsx := S_size x
        have HAP := Lib.hid (S_append f x)
        clear hi hle htl hic hk hx
        cases hq : fitsB k x with
        | false =>
          rw [hq] at CK hZ
          rw [if_neg (by simp)] at hZ
          subst hZ
          have CK := Lib.hid CK
          clear hq
          go_enter Try.func49, Try.ntmps49
          go_wp2_with (first
            | (go_at_call 102; refine (CS.out).mono ?_; rintro e w1 ⟨a1, n1, c1, hn1, hnc1, rfl, hrow1, hb1⟩; obtain ⟨b0, o0, rfl, hb0, hc0⟩ := HAT.out _ _ hrow1)
            | (go_at_call 25; refine (CC.out _).mono ?_; rintro e w2 ⟨rfl, hb2⟩)
            | (go_at_call 48; refine (CM.out _ (bnext hb1 hb2)).mono ?_; rintro e w3 ⟨rfl, hb3⟩)
            | (go_at_call 26; refine (CI.out _).mono ?_; rintro e w4 ⟨rfl, hb4⟩; have hc4 := (bnext (bnext hb2 hb3) hb4 |>.cell (p := ⟨b0, o0 + m, none⟩) hb0).trans hc0)
            | (go_at_call 104; refine (CT.out _).mono ?_; rintro e w5 ⟨rfl, hb5⟩; have hc5 := ((bnext (bnext (bnext hb2 hb3) hb4) hb5).cell (p := ⟨b0, o0 + m, none⟩) hb0).trans hc0)
            | (go_at_call 103; refine (CK.out _).mono ?_; rintro e w6 ⟨rfl, rfl⟩))
          refine bodyPost_ret (results_tmp2 rfl _ _ _) rfl ?_
          exact ⟨rfl, bnext (bnext (bnext (bnext hb1 hb2) hb3) hb4) hb5⟩
        | true =>
          rw [hq] at CK hZ
          rw [if_pos rfl] at hZ
          subst hZ
          have CK := Lib.hid CK
          clear hq
          go_enter Try.func49, Try.ntmps49
          go_wp2_with (first
            | (go_at_call 102; refine (CS.out).mono ?_; rintro e w1 ⟨a1, n1, c1, hn1, hnc1, rfl, hrow1, hb1⟩; obtain ⟨b0, o0, rfl, hb0, hc0⟩ := HAT.out _ _ hrow1)
            | (go_at_call 25; refine (CC.out _).mono ?_; rintro e w2 ⟨rfl, hb2⟩)
            | (go_at_call 48; refine (CM.out _ (bnext hb1 hb2)).mono ?_; rintro e w3 ⟨rfl, hb3⟩)
            | (go_at_call 26; refine (CI.out _).mono ?_; rintro e w4 ⟨rfl, hb4⟩; have hc4 := (bnext (bnext hb2 hb3) hb4 |>.cell (p := ⟨b0, o0 + m, none⟩) hb0).trans hc0)
            | (go_at_call 104; refine (CT.out _).mono ?_; rintro e w5 ⟨rfl, hb5⟩; have hc5 := ((bnext (bnext (bnext hb2 hb3) hb4) hb5).cell (p := ⟨b0, o0 + m, none⟩) hb0).trans hc0)
            | (go_at_call 103; refine (CK.out _).mono ?_; rintro e w6 ⟨rfl, rfl⟩))
          refine bodyPost_ret (results_tmp2 rfl _ _ _) rfl ?_
          exact ⟨by rw [← HAP.out]; rfl, bnext (bnext (bnext (bnext hb1 hb2) hb3) hb4) hb5⟩
    · rw [if_neg (by simp [hmK])] at hZ
      subst hZ
      have hmK' : (K.length : Int) ≤ (m : Int) := by omega
      clear hle htl hic CI hmK
      go_enter Try.func49, Try.ntmps49
      go_wp2_with (first
        | (go_at_call 102; refine (CS.out).mono ?_; rintro e w1 ⟨a1, n1, c1, hn1, hnc1, rfl, hrow1, hb1⟩)
        | (go_at_call 25; refine (CC.out _).mono ?_; rintro e w2 ⟨rfl, hb2⟩)
        | (go_at_call 48; refine (CM.out _ (bnext hb1 hb2)).mono ?_; rintro e w3 ⟨rfl, hb3⟩)
        | (go_at_call 99; refine (CE.out _ (bnext (bnext hb1 hb2) hb3)).mono ?_; rintro e w4 ⟨rfl, rfl⟩))
      refine bodyPost_ret (results_tmp2 rfl _ _ _) rfl ?_
      exact ⟨rfl, bnext (bnext hb1 hb2) hb3⟩
end Go.Proofs.Ytmdpmjabjijjiaa
namespace Go.Proofs.Ytmdpmjabjijjiaa
set_option linter.unusedVariables false
set_option linter.unusedSimpArgs false
open Go.RowKit Go.Shelf Go.Maps
theorem flat_cut {f : List UInt8} (h : flatL f = f) : (cutL f).flatten = f := by
  have h1 : cutL f = cutL (blanksL f) := by
    have := cut_clean (blanksL f)
    rw [show cleanL (blanksL f) = flatL f from rfl, h] at this
    exact this
  rw [h1]; exact h
theorem fits_flat {L : PL} {f : List UInt8} (h : fitsL L f = true) : flatL f = f := by
  unfold fitsL at h
  rw [Bool.and_eq_true, Bool.and_eq_true, Bool.and_eq_true, decide_eq_true_eq] at h
  exact h.2.2.1
theorem fits_room {L : PL} {f : List UInt8} (h : fitsL L f = true) : (cutL f).length ≤ (slotsL L).length := by
  unfold fitsL at h
  rw [Bool.and_eq_true, Bool.and_eq_true] at h
  have := h.2.1
  simp at this
  exact this
theorem mem_flat_len {D : List (List UInt8)} {x : List UInt8} (h : x ∈ D) : x.length ≤ D.flatten.length := by
  induction D with
  | nil => cases h
  | cons y t ih =>
    rw [List.flatten_cons, List.length_append]
    rcases List.mem_cons.1 h with rfl | h
    · omega
    · have := ih h; omega
set_option maxRecDepth 100000 in
set_option maxHeartbeats 2000000 in
theorem mback_any {w : World} {p a : Option Addr} {n c : Nat} {L : PL} (h : MaskAt w p a n c L) (hL : PLok L) (f : List UInt8) (hf : f.length ≤ 1100000) : Calls Try.prog 50 #[.pointer p, .string (S f)] w fun e w' => e = .returned (.string (S (backL L f))) ∧ Below w.heap.size w w' := by
  have hn3 : n ≤ 300 := by rw [h.len]; exact hL.len
  have CM := (fun W hb => mfits_any (w := W) (h.below hb) hL f hf)
  have CC := Lib.hid (fun W => cut_any f hf W)
  have CE := Lib.hid (fun W hb => msame_any (w := W) (h.below hb) f (by omega))
  obtain ⟨Z, hZ⟩ : ∃ Z, Z = backL L f := ⟨_, rfl⟩
  rw [← hZ]
  unfold backL at hZ
  obtain ⟨T, hT⟩ : ∃ T, T = sameL L f := ⟨_, rfl⟩
  rw [← hT] at hZ CE
  have hzl := cutL_len f
  have hsf := S_size f
  cases hfit : fitsL L f with
  | false =>
    rw [hfit] at CM hZ
    rw [if_neg (by simp)] at hZ
    subst hZ
    have CM := Lib.hid CM
    clear h hL hT hfit
    go_enter Try.func50, Try.ntmps50
    go_wp2_with (first
      | (go_at_call 17; refine (CC.out _).mono ?_; rintro e w1 ⟨a1, n1, c1, hn1, hnc1, hcm1, rfl, hrow1, hb1, _⟩)
      | (go_at_call 48; refine (CM.out _ hb1).mono ?_; rintro e w2 ⟨rfl, hb2⟩)
      | (go_at_call 99; refine (CE.out _ (bnext hb1 hb2)).mono ?_; rintro e w3 ⟨rfl, rfl⟩))
    go_ret
    exact ⟨rfl, bnext hb1 hb2⟩
  | true =>
    have hfl := fits_flat hfit
    rw [hfit] at CM hZ
    have CM := Lib.hid CM
    have hfc := flat_cut hfl
    obtain ⟨D, hD⟩ : ∃ D, D = cutL f := ⟨_, rfl⟩
    rw [← hD] at hZ CC hzl hfc
    by_cases h0 : D.length = 0
    · rw [if_neg (by simp [h0])] at hZ
      subst hZ
      have H0 := Lib.hid h0
      clear h hL hT hfit hfl hfc h0
      go_enter Try.func50, Try.ntmps50
      go_wp2_with (first
        | (go_at_call 17; refine (CC.out _).mono ?_; rintro e w1 ⟨a1, n1, c1, hn1, hnc1, hcm1, rfl, hrow1, hb1, _⟩; rw [H0.out] at hn1; subst hn1)
        | (go_at_call 48; refine (CM.out _ hb1).mono ?_; rintro e w2 ⟨rfl, hb2⟩)
        | (go_at_call 99; refine (CE.out _ (bnext hb1 hb2)).mono ?_; rintro e w3 ⟨rfl, rfl⟩))
      go_ret
      exact ⟨rfl, bnext hb1 hb2⟩
    · obtain ⟨d, hd⟩ : ∃ d, D.length = d + 1 := ⟨D.length - 1, by omega⟩
      rw [if_pos ⟨rfl, by omega⟩, hd, Nat.add_sub_cancel] at hZ
      have hdl : d < D.length := by omega
      have hxm : (nth [] D d).length ≤ f.length := by
        have := mem_flat_len (x := nth [] D d) (D := D) (by rw [nth_eq _ _ _ hdl]; exact List.getElem_mem hdl)
        rw [hfc] at this; exact this
      obtain ⟨x, hx⟩ : ∃ x, x = nth [] D d := ⟨_, rfl⟩
      have HAT := Lib.hid (fun (W : World) (a : Option Addr) (h : RowAt W.heap.size W a (strV D)) => (by rw [hx]; exact strs_at h d hdl : ∃ b off, a = some ⟨b, off, none⟩ ∧ b < W.heap.size ∧ W.cell? ⟨b, off + d, none⟩ = some (.string (S x))))
      rw [← hx] at hZ hxm
      have hsx := S_size x
      have hext : (S f).extract 0 (f.length - x.length) = S Z := by
        rw [S_extract, List.drop_zero, Nat.sub_zero, hZ]
      have HX := Lib.hid hext
      have HD := Lib.hid hd
      have hdb : d ≤ 1100000 := by omega
      have hxi : (x.length : Int) ≤ (f.length : Int) := by omega
      clear h hL hT hfit hfl hfc h0 hZ hx hext hdl hd hD hzl
      go_enter Try.func50, Try.ntmps50
      go_wp2_with (first
        | (go_at_call 17; refine (CC.out _).mono ?_; rintro e w1 ⟨a1, n1, c1, hn1, hnc1, hcm1, rfl, hrow1, hb1, _⟩; rw [HD.out] at hn1; subst hn1; obtain ⟨b0, o0, rfl, hb0, hc0⟩ := HAT.out _ _ hrow1)
        | (go_at_call 48; refine (CM.out _ hb1).mono ?_; rintro e w2 ⟨rfl, hb2⟩; have hc2 := (hb2.cell (p := ⟨b0, o0 + d, none⟩) hb0).trans hc0))
      go_ret
      exact ⟨ret_str HX.out, bnext hb1 hb2⟩
theorem atN_le : ∀ (L : PL) (m : Nat), atN L m ≤ L.length
  | [], _ => Nat.le_refl _
  | p :: t, m => by
    have h1 := atN_le t m
    have h2 := atN_le t (m - 1)
    unfold atN
    rw [List.length_cons]
    split
    · omega
    · split <;> omega
set_option maxRecDepth 100000 in
set_option maxHeartbeats 4000000 in
theorem mat_any {w : World} {p a : Option Addr} {n c : Nat} {L : PL} (h : MaskAt w p a n c L) (hL : PLok L) (f : List UInt8) (hf : f.length ≤ 1100000) : Calls Try.prog 56 #[.pointer p, .string (S f)] w fun e w' => e = .returned (.int .i64 (atL L f : Nat)) ∧ Below w.heap.size w w' := by
  have CM := mfits_any h hL f hf
  have CC := Lib.hid (fun W => count_any f hf W)
  have CA := Lib.hid (fun W hb => mall_any (w := W) (h.below hb))
  have hrow := h.row
  have hn : n ≤ 300 := by rw [h.len]; exact hL.len
  have HN := Lib.hid h.len
  have hzl := cutL_len f
  obtain ⟨Z, hZ⟩ : ∃ Z, Z = atL L f := ⟨_, rfl⟩
  rw [← hZ]
  unfold atL at hZ
  obtain ⟨m, hm⟩ : ∃ m, m = (cutL f).length := ⟨_, rfl⟩
  rw [← hm] at hZ CC hzl
  clear h hL hm
  cases hfit : fitsL L f with
  | false =>
    rw [hfit] at CM hZ
    rw [if_neg (by simp)] at hZ
    subst hZ
    have CM := Lib.hid CM
    clear hfit
    go_enter Try.func56, Try.ntmps56
    go_wp2_with (go_at_call 48; refine (CM.out).mono ?_; rintro e w1 ⟨rfl, hb1⟩)
    go_ret
    exact ⟨rfl, hb1⟩
  | true =>
    rw [hfit] at CM hZ
    rw [if_pos rfl] at hZ
    have CM := Lib.hid CM
    have HZ := Lib.hid hZ
    clear hfit hZ
    go_enter Try.func56, Try.ntmps56
    go_wp2_with (first
      | (go_at_call 48; refine (CM.out).mono ?_; rintro e w1 ⟨rfl, hb1⟩)
      | (go_at_call 25; refine (CC.out _).mono ?_; rintro e w2 ⟨rfl, hb2⟩)
      | (go_at_call 97; refine (CA.out _ (bnext hb1 hb2)).mono ?_; rintro e w3 ⟨rfl, rfl⟩))
    have hB2 := bnext hb1 hb2
    have hBs := hB2.size
    go_loopw [17, 5] (fun i v wr => ∃ k r : Nat, k ≤ n ∧ i = .int .i64 (k : Int) ∧ v = .int .i64 (r : Int) ∧ r ≤ 1100000 ∧ Hid (atN L m = k + atN (L.drop k) r) ∧ Below w.heap.size w wr)
      (fun i _ _ => n - (intOf i).toNat)
    case atStart => exact ⟨0, m, Nat.zero_le _, rfl, rfl, by omega, Lib.hid (by simp), hB2⟩
    case round =>
      obtain ⟨k, r, hk, rfl, rfl, hr1, hst, hbr⟩ := hrel
      have hbs := hbr.size
      by_cases hlt : k < n
      · have hkL : k < L.length := by rw [← HN.out]; exact hlt
        obtain ⟨b, off, rfl, hb, hc0, hc1⟩ := mp_at hrow k hkL
        have hd0 := (hbr.cell (p := ⟨b, off + k * 2, none⟩) hb).trans hc0
        have hd1 := (hbr.cell (p := ⟨b, off + k * 2 + 1, none⟩) hb).trans hc1
        have hst2 : atN (L.drop k) r = if (nth pd L k).1 = 0 then 1 + atN (L.drop (k + 1)) r else if r = 0 then 0 else 1 + atN (L.drop (k + 1)) (r - 1) := by rw [drop_piece hkL]; rfl
        obtain ⟨q, hq⟩ : ∃ q, q = (nth pd L k).1 := ⟨_, rfl⟩
        obtain ⟨s, hs⟩ : ∃ s, s = (nth pd L k).2 := ⟨_, rfl⟩
        rw [← hq] at hd0 hst2
        rw [← hs] at hd1
        by_cases h0 : q = 0
        · have hq2 : ((q : Int) == 0) = true := by simp [h0]
          rw [if_pos h0] at hst2
          have HST := Lib.hid hst2
          clear hst2 hc0 hc1 hkL hq hs h0
          go_wp2
          go_roundw
          case rel => exact ⟨k + 1, r, by omega, by go_num, rfl, hr1, Lib.hid (by rw [hst.out, HST.out]; omega), hbr.alloc hbs _⟩
          case measure => simp [intOf]; omega
        · have hq2 : ((q : Int) == 0) = false := by simp; omega
          rw [if_neg h0] at hst2
          by_cases hr0 : r = 0
          · subst hr0
            rw [if_pos rfl] at hst2
            have HST := Lib.hid hst2
            clear hst2 hc0 hc1 hkL hq hs h0
            go_wp2
            go_ret
            exact ⟨by rw [HZ.out, hst.out, HST.out]; rfl, hbr.alloc hbs _⟩
          · have hr2 : ((r : Int) == 0) = false := by simp; omega
            rw [if_neg hr0] at hst2
            have hr3 : 1 ≤ r := by omega
            have HST := Lib.hid hst2
            clear hst2 hc0 hc1 hkL hq hs h0 hr0
            go_wp2
            go_roundw
            case rel => exact ⟨k + 1, r - 1, by omega, by go_num, by go_num, by omega, Lib.hid (by rw [hst.out, HST.out]; omega), hbr.alloc hbs _⟩
            case measure => simp [intOf]; omega
      · obtain rfl : k = n := by omega
        have hZL : Z = k := by
          rw [HZ.out, hst.out, List.drop_of_length_le (by rw [HN.out]; omega)]; rfl
        have HZL := Lib.hid hZL
        clear hZL
        go_wp2_with (go_at_call 97; refine (CA.out _ hbr).mono ?_; rintro e w1 ⟨rfl, rfl⟩)
        go_ret
        exact ⟨by rw [HZL.out]; rfl, hbr⟩
end Go.Proofs.Ytmdpmjabjijjiaa
