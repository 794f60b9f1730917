/- The program's terminal: between, plain, styled. No condition. The program's terminal: numbers (the iterator), firstTwo. No condition. The program's terminal: firstTwo, modes. No condition. The program's terminal: modes, and obey of a style. No condition. -/
import Derived.Test.YtekodpcedjpnjaaGreatPT8
import Derived.Test.YtekodpcedjpnjaaGreatRune5
import Derived.Test.YtekodpcedjpnjaaGreatRegM
import Derived.Test.YtekodpcedjpnjaaGreatRangeX
import Derived.Test.YtekodpcedjpnjaaGreatGMathIn
namespace Go.Proofs.YtekodpcedjpnjaaGreat
set_option linter.unusedVariables false
set_option linter.unusedSimpArgs false
open Go.RowKit Go.Maps
set_option maxRecDepth 100000 in
theorem between_any (c lo hi : Int) (w : World) : Calls Tryz.prog 258 #[.int .u8 c, .int .u8 lo, .int .u8 hi] w fun e w' => e = .returned (.bool (decide (lo ≤ c ∧ c ≤ hi))) ∧ w = w' := by
  obtain ⟨z, hz⟩ : ∃ z, z = decide (lo ≤ c ∧ c ≤ hi) := ⟨_, rfl⟩
  rw [← hz]
  have HZ := Lib.hid hz
  clear hz
  go_enter Tryz.func258, Tryz.ntmps258
  go_wp2
  all_goals go_ret
  all_goals refine ⟨ret_bool ?_, rfl⟩
  all_goals rw [HZ.out]
  all_goals first | exact (decide_eq_true (by omega)).symm | exact (decide_eq_false (by omega)).symm | (rw [Bool.eq_iff_iff]; simp only [decide_eq_true_eq, Bool.or_eq_true, Bool.and_eq_true]; omega)
def okPl (c : UInt8) : Bool := decide (c = 59) || decide (48 ≤ c.toNat ∧ c.toNat ≤ 57)
theorem plainB_drop (l : List UInt8) (k : Nat) (h : k < l.length) : plainB (l.drop k) = (okPl (nth 0 l k) && plainB (l.drop (k + 1))) := by
  rw [List.drop_eq_getElem_cons h, nth_eq _ _ _ h]
  rfl
theorem okPl_nat (c : UInt8) : okPl c = (decide (c.toNat = 59) || decide (48 ≤ c.toNat ∧ c.toNat ≤ 57)) := by
  unfold okPl
  congr 1
  rw [decide_eq_decide]
  exact ⟨fun h => by rw [h]; rfl, fun h => UInt8.toNat_inj.1 h⟩
set_option maxRecDepth 100000 in
set_option maxHeartbeats 2000000 in
theorem plain_any {W : World} {g off n cap : Nat} {l : List UInt8} (hB : Bys W g off l) (hn : l.length = n) (hn2 : n ≤ 2000000) :
    Calls Tryz.prog 276 #[.slice (some ⟨g, off, none⟩) n cap] W fun e w' => e = .returned (.bool (plainB l)) ∧ W = w' := by
  have HN := Lib.hid hn
  obtain ⟨z, hz⟩ : ∃ z, z = plainB l := ⟨_, rfl⟩
  rw [← hz]
  have HZ : Hid (z = plainB (l.drop 0)) := Lib.hid hz
  clear hz hn
  go_enter Tryz.func276, Tryz.ntmps276
  go_wp2
  go_loop [7] (fun i => ∃ k : Nat, k ≤ n ∧ i = .int .i64 k ∧ Hid (z = plainB (l.drop k))) (fun i => n - (intOf i).toNat)
  case atStart => exact ⟨0, Nat.zero_le _, rfl, HZ⟩
  case round =>
    obtain ⟨k, hk, rfl, hf⟩ := hrel
    by_cases hlt : k < n
    · have hlt2 : k < l.length := by rw [HN.out]; exact hlt
      have hd := plainB_drop l k hlt2
      have hc := hB.at_ k hlt2
      rw [okPl_nat] at hd
      obtain ⟨x, hx⟩ : ∃ x, x = (nth 0 l k).toNat := ⟨_, rfl⟩
      rw [← hx] at hd hc
      have HD := Lib.hid hd
      clear hd hx hlt2
      have CB := fun w => between_any (x : Int) 48 57 w
      obtain ⟨y, hy⟩ : ∃ y, y = decide ((48 : Int) ≤ x ∧ (x : Int) ≤ 57) := ⟨_, rfl⟩
      rw [← hy] at CB
      have hy2 : decide (48 ≤ x ∧ x ≤ 57) = y := by rw [hy]; exact decide_eq_decide.2 (by omega)
      have HY := Lib.hid hy2
      clear hy hy2
      have CB := Lib.hid CB
      by_cases h59 : x = 59
      · have hne : ((x : Int) != 59) = false := by simp; omega
        have HF : Hid (z = plainB (l.drop (k + 1))) := Lib.hid (by rw [hf.out, HD.out, decide_eq_true h59]; rfl)
        clear h59
        go_wp2
        go_round
        case rel => exact ⟨k + 1, hlt, by go_num, HF⟩
        case measure => simp [intOf]; omega
      · have hne : ((x : Int) != 59) = true := by simp; omega
        have HF0 : Hid (z = (y && plainB (l.drop (k + 1)))) := Lib.hid (by rw [hf.out, HD.out, decide_eq_false h59, HY.out]; rfl)
        clear h59 HY
        cases y with
        | true =>
          have HF : Hid (z = plainB (l.drop (k + 1))) := Lib.hid (by rw [HF0.out]; rfl)
          go_wp2_with (go_at_call 258; refine (CB.out _).mono ?_; rintro e w1 ⟨rfl, rfl⟩)
          go_round
          case rel => exact ⟨k + 1, hlt, by go_num, HF⟩
          case measure => simp [intOf]; omega
        | false =>
          have HF : Hid (z = false) := Lib.hid (by rw [HF0.out]; rfl)
          go_wp2_with (go_at_call 258; refine (CB.out _).mono ?_; rintro e w1 ⟨rfl, rfl⟩)
          go_ret
          exact ⟨ret_bool HF.out.symm, rfl⟩
    · obtain rfl : k = n := by omega
      have HF : Hid (z = true) := Lib.hid (by rw [hf.out, List.drop_eq_nil_of_le (by rw [HN.out]; omega)]; rfl)
      go_wp2
      go_ret
      exact ⟨ret_bool HF.out.symm, rfl⟩
set_option maxRecDepth 100000 in
set_option maxHeartbeats 4000000 in
theorem styled_any (b u i : Bool) (f g : Int) (n : Nat) (w : World) : Calls Tryz.prog 279 #[.agg #[.bool b, .bool u, .bool i, .int .i64 f, .int .i64 g], .int .i64 n] w fun e w' => e = .returned (styT ⟨b, u, i, f, g⟩ n).v ∧ Below w.heap.size w w' := by
  obtain ⟨m, hm⟩ : ∃ m : Int, m = (n : Int) := ⟨_, rfl⟩
  rw [← hm]
  have HM := Lib.hid hm
  have h0 : 0 ≤ m := by omega
  clear hm
  go_enter Tryz.func279, Tryz.ntmps279
  go_wp2
  all_goals
    (try simp only [Exit.inBlock, Exit.then])
    refine bodyPost_ret (results_cell_row rfl _ _ (w.heap.size + 1) 36 _ (0, 0) _ rfl (heap_alloc2_new w _ _) Tryz.underlying36 rfl (by kernel_rfl)) rfl ?_
    refine ⟨congrArg Ending.returned ?_, ((Below.refl _ _).alloc (Nat.le_refl _) _).alloc (by simp) _⟩
    have hm := HM.out
    simp only [beq_iff_eq, beq_eq_false_iff_ne, ne_eq] at *
    unfold styT
    repeat (first | rw [if_pos (by omega)] | rw [if_neg (by omega)])
    first | rfl | (simp only [Sy.v, Sy.zero]; simp; omega)
theorem styled_sy (y : Sy) (n : Nat) (w : World) : Calls Tryz.prog 279 #[.agg #[.bool y.b, .bool y.u, .bool y.i, .int .i64 y.f, .int .i64 y.g], .int .i64 n] w fun e w' => e = .returned (.agg #[.bool (styT y n).b, .bool (styT y n).u, .bool (styT y n).i, .int .i64 (styT y n).f, .int .i64 (styT y n).g]) ∧ Below w.heap.size w w' := styled_any y.b y.u y.i y.f y.g n w
end Go.Proofs.YtekodpcedjpnjaaGreat
namespace Go.Proofs.YtekodpcedjpnjaaGreat
set_option linter.unusedVariables false
set_option linter.unusedSimpArgs false
open Go.RowKit Go.Shelf Go.Maps
attribute [local go_sem] Oper.semAt_some
theorem Only.own {S : List Nat} {w W W' : World} {row : Option Nat} {B : Nat} (h : Only S w W) (hB : w.heap.size ≤ B) (hg : W.grownBy W' row) (hr : ∀ r, row = some r → B ≤ r ∧ ∃ o : Obj, W.heap[r]? = some o ∧ o.isCells = false) : Only S w W' :=
  ⟨hg.os.trans h.os, hg.tape.trans h.tape, hg.output.trans h.output, Nat.le_trans h.size hg.size, fun k hk hs => (hg.block k (Nat.lt_of_lt_of_le hk h.size) (fun e => by have := (hr k e.symm).1; omega)).trans (h.block k hk hs)⟩
theorem TmAt.own {W W' : World} {b p q : Nat} {hv : Value} {t : TS} {row : Option Nat} {B : Nat} (a : TmAt W b p q hv t) (hg : W.grownBy W' row) (hr : ∀ r, row = some r → B ≤ r ∧ ∃ o : Obj, W.heap[r]? = some o ∧ o.isCells = false) : TmAt W' b p q hv t :=
  ⟨own_heap a.blk rfl hg hr, { a.g with head := own_heap a.g.head rfl hg hr, blk := own_heap a.g.blk rfl hg hr }, a.bp, a.bq⟩
theorem only_put {S : List Nat} {w W : World} (h : Only S w W) (l : Nat) (o : Obj) (hl : w.heap.size ≤ l) : Only S w (W.putObj l o) :=
  ⟨h.os, h.tape, h.output, by simp [World.putObj]; exact h.size, fun k hk hs => (World.putObj_heap_other (by omega)).trans (h.block k hk hs)⟩
theorem tm_put {W : World} {b p q : Nat} {hv : Value} {t : TS} (a : TmAt W b p q hv t) (l : Nat) (o o' : Obj) (hl : W.heap[l]? = some o) (ho : o.isCells = false) : TmAt (W.putObj l o') b p q hv t :=
  a.own (B := 0) (grownBy_putObj' W l o') (fun r e => by cases e; exact ⟨Nat.zero_le _, o, hl, ho⟩)
theorem num_ge (l : List UInt8) (a : Nat) : ∃ x t, numsT a l = x :: t := by
  induction l generalizing a with
  | nil => exact ⟨_, _, rfl⟩
  | cons c l ih =>
    unfold numsT
    split
    · exact ⟨_, _, rfl⟩
    · exact ih _
theorem numsT_le : ∀ (l : List UInt8) (a : Nat), a ≤ 9999 → ∀ x ∈ numsT a l, x ≤ 9999
  | [], a, h, x, hx => by rw [numsT, List.mem_singleton] at hx; omega
  | c :: l, a, h, x, hx => by
    unfold numsT at hx
    split at hx
    · rcases List.mem_cons.1 hx with h1 | h1
      · omega
      · exact numsT_le l 0 (by omega) x h1
    · exact numsT_le l _ (by omega) x hx
theorem nums_at (l : List UInt8) (k a : Nat) (h : k < l.length) : numsT a (l.drop k) = if (nth 0 l k).toNat = 59 then a :: numsT 0 (l.drop (k + 1)) else numsT (min 9999 (10 * a + ((nth 0 l k).toNat - 48))) (l.drop (k + 1)) := by
  rw [List.drop_eq_getElem_cons h, nth_eq _ _ _ h]
  have e : ((l[k]).toNat = 59) ↔ (l[k] = 59) := ⟨fun h => UInt8.toNat_inj.1 h, fun h => by rw [h]; rfl⟩
  conv => lhs; unfold numsT
  by_cases h1 : l[k] = 59
  · rw [if_pos h1, if_pos (e.2 h1)]
  · rw [if_neg h1, if_neg (fun h2 => h1 (e.1 h2))]
theorem plain_at {l : List UInt8} (h : plainB l = true) {k : Nat} (hk : k < l.length) : (nth 0 l k).toNat = 59 ∨ 48 ≤ (nth 0 l k).toNat ∧ (nth 0 l k).toNat ≤ 57 := by
  unfold plainB at h
  rw [List.all_eq_true] at h
  have := h (nth 0 l k) (by rw [nth_eq _ _ _ hk]; exact List.getElem_mem _)
  rw [show (decide (nth 0 l k = 59) || decide (48 ≤ (nth 0 l k).toNat ∧ (nth 0 l k).toNat ≤ 57)) = okPl (nth 0 l k) from rfl, okPl_nat] at this
  simpa using this
theorem numbers_any (a : Option Addr) (n c : Nat) (w : World) : Calls Tryz.prog 278 #[.slice a n c] w fun e w' =>
    e = .returned (.func (.func 288) #[] #[.pointer (some ⟨w.heap.size, 0, none⟩)]) ∧ w.alloc (.cells #[.slice a n c] 61) = w' := by
  go_enter Tryz.func278, Tryz.ntmps278
  go_wp2
  go_ret
  exact ⟨rfl, rfl⟩
set_option maxRecDepth 100000 in
set_option maxHeartbeats 4000000 in
theorem num1_stops {l : List UInt8} {g off n cap : Nat} (Bx : Nat) (w : World) (hB : Bys w g off l) (hn : l.length = n) (hn2 : n ≤ 2000000) (hp : plainB l = true) (hbx : Bx < w.heap.size) (hcb : w.cell? ⟨Bx, 0, none⟩ = some (.slice (some ⟨g, off, none⟩) n cap)) (mm : Nat) (hm : 1 ≤ mm) :
    SeqStopsK Fence.wide mm Tryz.prog 288 #[.pointer (some ⟨Bx, 0, none⟩)] (fun x : Nat => #[Value.int .i64 (x : Int)]) (KB Bx g) (fun ys => ys = numsT 0 l) (fun pre => pre <+: numsT 0 l) (numsT 0 l).length w := by
  intro l0 J Jx W hW0 hJ hJx hY h0
  have hW := KB.of_below hW0 hbx hB.lt
  clear hW0
  have hcb2 := (cell_block hW.a).trans hcb
  have HN := Lib.hid hn
  have HP := Lib.hid (fun k (hk : k < l.length) => plain_at hp hk)
  have HA := Lib.hid (fun k a (hk : k < l.length) => nums_at l k a hk)
  clear hn hp
  refine callsIn_of_wp Tryz.func288 rfl trivial ?_ rfl
  simp only [Tryz.ntmps288, List.size_toArray, List.length_cons, List.length_nil, Nat.reduceAdd, Nat.reduceSub, Array.replicate_succ, Array.replicate_zero, List.push_toArray, List.append_toArray, List.nil_append, List.cons_append]
  gi_wp2
  gi_loopw [3, 8] (fun a i wr => ∃ (k : Nat) (pre : List Nat) (acc : Nat), k ≤ n ∧ i = .int .i64 k ∧ a = .int .i64 acc ∧ acc ≤ 9999 ∧ Hid (numsT 0 l = pre ++ numsT acc (l.drop k)) ∧ J pre wr ∧ KB Bx g W wr)
    (fun _ i _ => n - (intOf i).toNat)
  case atStart => exact ⟨0, [], 0, Nat.zero_le _, rfl, rfl, by omega, Lib.hid rfl, h0, KB.refl _ _ _⟩
  case round =>
    obtain ⟨k, pre, acc, hk, rfl, rfl, hacc, hf, hJs, hnx⟩ := hrel
    have hbw := hW.trans hnx
    by_cases hlt : k < n
    · have hlt2 : k < l.length := by rw [HN.out]; exact hlt
      have hcc := (hB.of_block hbw.b hbw.size).at_ k hlt2
      have hpa := HP.out k hlt2
      have hna := HA.out k acc hlt2
      obtain ⟨x, hx⟩ : ∃ x, x = (nth 0 l k).toNat := ⟨_, rfl⟩
      rw [← hx] at hcc hpa hna
      clear hx hlt2
      by_cases h59 : x = 59
      · rw [if_pos h59] at hna
        have hne : ((x : Int) == 59) = true := by simp; omega
        have hlen : pre.length < (numsT 0 l).length := by rw [hf.out, hna, List.length_append, List.length_cons]; omega
        have HF : Hid (numsT 0 l = (pre ++ [acc]) ++ numsT 0 (l.drop (k + 1))) := Lib.hid (by rw [hf.out, hna]; simp)
        have HP2 : Hid (pre ++ [acc] <+: numsT 0 l) := Lib.hid (by rw [HF.out]; exact List.prefix_append _ _)
        clear h59 hpa hna
        obtain ⟨fn, tmps, assign, body, hy, hR⟩ := hY pre acc wr hJs hlen
        clear hlen
        gi_wp2
        refine hR.mono ?_
        rintro e W3 (⟨rfl, hJ3, hk3⟩ | ⟨rfl, hJx3⟩)
        · gi_wp2
          go_roundw
          case rel => exact ⟨k + 1, pre ++ [acc], 0, hlt, by go_num, rfl, by omega, HF, hJ3, hnx.trans hk3⟩
          case measure => simp [intOf]; omega
        · gi_wp2
          refine bodyPost_ret (results_none rfl _ _ _) rfl ?_
          exact ⟨⟨_, rfl⟩, .inr ⟨_, HP2.out, hJx3⟩⟩
      · rw [if_neg h59] at hna
        have hne : ((x : Int) == 59) = false := by simp; omega
        have h48 : 48 ≤ (x : Int) ∧ (x : Int) ≤ 57 := by omega
        have HF : Hid (numsT 0 l = pre ++ numsT (min 9999 (10 * acc + (x - 48))) (l.drop (k + 1))) := Lib.hid (by rw [hf.out, hna])
        clear h59 hpa hna
        gi_wp2
        go_roundw
        case rel => exact ⟨k + 1, pre, min 9999 (10 * acc + (x - 48)), hlt, by go_num, congrArg (Value.int _) (by first | omega | (split <;> omega)), by omega, HF, hJs, hnx⟩
        case measure => simp [intOf]; omega
    · obtain rfl : k = n := by omega
      have hend : numsT acc (l.drop k) = [acc] := by rw [List.drop_eq_nil_of_le (by rw [HN.out]; omega)]; rfl
      have hlen : pre.length < (numsT 0 l).length := by rw [hf.out, hend, List.length_append]; simp
      have HF : Hid (numsT 0 l = pre ++ [acc]) := Lib.hid (by rw [hf.out, hend])
      clear hend
      obtain ⟨fn, tmps, assign, body, hy, hR⟩ := hY pre acc wr hJs hlen
      clear hlen
      gi_wp2
      refine hR.mono ?_
      rintro e W3 (⟨rfl, hJ3, hk3⟩ | ⟨rfl, hJx3⟩)
      · gi_wp2
        go_end0
        exact ⟨⟨_, rfl⟩, .inl ⟨_, rfl, by rw [HF.out]; exact hJ3⟩⟩
      · gi_wp2
        go_end0
        exact ⟨⟨_, rfl⟩, .inr ⟨pre ++ [acc], by rw [HF.out]; exact List.prefix_rfl, hJx3⟩⟩
/-! ### the first two -/
/-- What firstTwo has of the numbers that came. -/
def TwoI (w : World) (A : Nat) (pre : List Nat) (W : World) : Prop :=
  (pre.length ≤ 1 ∧ W.heap[A]? = some (.cells #[.int .i64 (nth 0 pre 0 : Nat), .int .i64 0] 332 (0, 0)) ∧ W.heap[A + 1]? = some (.cells #[.int .i64 (pre.length : Nat)] 3 (0, 0))) ∧ Below w.heap.size w W
def TwoX (w : World) (A : Nat) (c : Code) (pre : List Nat) (W : World) : Prop :=
  (c = .exit 0 ∧ pre.length = 2 ∧ W.heap[A]? = some (.cells #[.int .i64 (nth 0 pre 0 : Nat), .int .i64 (nth 0 pre 1 : Nat)] 332 (0, 0))) ∧ Below w.heap.size w W
theorem pre_nth {pre L : List Nat} (h : pre <+: L) {j : Nat} (hj : j < pre.length) : nth 0 pre j = nth 0 L j := by
  obtain ⟨t, rfl⟩ := h
  rw [nth_eq _ _ _ hj, nth_eq _ _ _ (by rw [List.length_append]; omega), List.getElem_append_left hj]
end Go.Proofs.YtekodpcedjpnjaaGreat
namespace Go.Proofs.YtekodpcedjpnjaaGreat
set_option linter.unusedVariables false
set_option linter.unusedSimpArgs false
open Go.RowKit Go.Shelf Go.Maps
attribute [local go_sem] Oper.semAt_some
set_option maxRecDepth 100000 in
set_option maxHeartbeats 4000000 in
theorem firstTwo_any {W : World} {g off n cap : Nat} {l : List UInt8} (hB : Bys W g off l) (hn : l.length = n) (hn2 : n ≤ 2000000) (hp : plainB l = true) :
    Calls Tryz.prog 280 #[.slice (some ⟨g, off, none⟩) n cap] W fun e w' => e = .returned (.tuple #[.int .i64 (nth 0 (numsT 0 l) 0 : Nat), .int .i64 (nth 0 (numsT 0 l) 1 : Nat)]) ∧ Below W.heap.size W w' := by
  obtain ⟨x0, L1, hL⟩ := num_ge l 0
  have HSEQ := Lib.hid (fun (Bx : Nat) (w : World) (hB : Bys w g off l) (hbx : Bx < w.heap.size) (hcb : w.cell? ⟨Bx, 0, none⟩ = some (.slice (some ⟨g, off, none⟩) n cap)) (mm : Nat) (hm : 1 ≤ mm) => num1_stops Bx w hB hn hn2 hp hbx hcb mm hm)
  obtain ⟨NL, hNL⟩ : ∃ NL, NL = numsT 0 l := ⟨_, rfl⟩
  rw [← hNL] at hL HSEQ ⊢
  have HL := Lib.hid hL
  clear hL hNL hn hp
  refine (callsIn_wide (n := 9)).1 ?_
  have h1 : 1 ≤ 9 := by omega
  refine callsIn_of_wp_marks Tryz.func280 rfl trivial ?_ rfl
  simp only [Tryz.ntmps280, List.size_toArray, List.length_cons, List.length_nil, Nat.reduceAdd, Nat.reduceSub, Array.replicate_succ, Array.replicate_zero, List.push_toArray, List.append_toArray, List.nil_append, List.cons_append]
  gi_wp2_with (refine ⟨trivial, ?_⟩; gi_at_call 278; refine (callsIn_wide.2 (numbers_any _ _ _ _)).mono ?_; rintro e w2 ⟨rfl, rfl⟩)
  obtain ⟨X1, hX1⟩ : ∃ X1, W.alloc (.cells #[.int .i64 0, .int .i64 0] 332) = X1 := ⟨_, rfl⟩
  obtain ⟨X2, hX2⟩ : ∃ X2, X1.alloc (.cells #[.int .i64 0] 3) = X2 := ⟨_, rfl⟩
  obtain ⟨W0, hW0⟩ : ∃ W0, X2.alloc (.cells #[.slice (some ⟨g, off, none⟩) n cap] 61) = W0 := ⟨_, rfl⟩
  rw [hX1, hX2, hW0]
  have s1 : X1.heap.size = W.heap.size + 1 := by rw [← hX1]; simp
  have s2 : X2.heap.size = W.heap.size + 1 + 1 := by rw [← hX2]; simp [s1]
  have s3 : W0.heap.size = W.heap.size + 1 + 1 + 1 := by rw [← hW0]; simp [s2]
  have b1 : Below W.heap.size W X1 := by rw [← hX1]; exact (Below.refl _ _).alloc (Nat.le_refl _) _
  have b2 : Below (W.heap.size + 1) X1 X2 := by rw [← hX2]; exact (Below.refl _ _).alloc (by omega) _
  have b3 : Below (W.heap.size + 1 + 1) X2 W0 := by rw [← hW0]; exact (Below.refl _ _).alloc (by omega) _
  have k1 : X1.heap[W.heap.size]? = some (.cells #[.int .i64 0, .int .i64 0] 332 (0, 0)) := by rw [← hX1]; exact World.alloc_heap_new W _
  have k2 : X2.heap[W.heap.size + 1]? = some (.cells #[.int .i64 0] 3 (0, 0)) := by rw [← hX2, ← s1]; exact World.alloc_heap_new X1 _
  have k3 : W0.heap[W.heap.size + 1 + 1]? = some (.cells #[.slice (some ⟨g, off, none⟩) n cap] 61 (0, 0)) := by rw [← hW0, ← s2]; exact World.alloc_heap_new X2 _
  have hBw : Below W.heap.size W W0 := (b1.trans (b2.mono (by omega))).trans (b3.mono (by omega))
  have m1 : W0.heap[W.heap.size]? = some (.cells #[.int .i64 0, .int .i64 0] 332 (0, 0)) := (b3.block _ (by omega)).trans ((b2.block _ (by omega)).trans k1)
  have m2 : W0.heap[W.heap.size + 1]? = some (.cells #[.int .i64 0] 3 (0, 0)) := (b3.block _ (by omega)).trans k2
  have c3 : W0.cell? ⟨W.heap.size + 1 + 1, 0, none⟩ = some (.slice (some ⟨g, off, none⟩) n cap) := by rw [cell_of_row W0 _ 0 _ _ _ k3]; rfl
  have hB0 := hB.below hBw
  have hgl := hB.lt
  clear hX1 hX2 hW0 s1 s2 b1 b2 b3 k1 k2 k3 hB
  refine wpIn_rangeFunc_ownG rfl h1 (gf := 288) (lb := #[.pointer (some ⟨W.heap.size + 1 + 1, 0, none⟩)]) rfl trivial (enters_of Tryz.func288 (by kernel_rfl) rfl)
    (HSEQ.out (W.heap.size + 1 + 1) W0 hB0 (by omega) c3 _ (by omega)) KB.trans (KB.put (by omega) (by omega)) (Below.refl _ _) (fun _ => rfl)
    (TwoI W W.heap.size) (TwoX W W.heap.size)
    (OwnFrom.and (fun s A B row hs hg hr => ⟨hs.1, own_heap hs.2.1 rfl hg hr, own_heap hs.2.2 rfl hg hr⟩) (ownFrom_below (Nat.le_refl _) (by omega)))
    (fun c => OwnFrom.and (fun s A B row hs hg hr => ⟨hs.1, hs.2.1, own_heap hs.2.2 rfl hg hr⟩) (ownFrom_below (Nat.le_refl _) (by omega)))
    ⟨⟨by simp, m1, m2⟩, hBw⟩
    ?_ ?_ ?_ ?_ ?_
  rotate_left 1
  · intro l0 x W1 K hK
    gi_wp2
    exact hK
  · rintro l0 pre x V ⟨⟨hp1, d1, d2⟩, hB1⟩ _
    have e0 : V.cell? ⟨W.heap.size, 0, none⟩ = some (.int .i64 (nth 0 pre 0 : Nat)) ∧ V.cell? ⟨W.heap.size, 1, none⟩ = some (.int .i64 0) ∧ ∀ j, V.frozen? ⟨W.heap.size, j, none⟩ = false := ⟨by rw [cell_of_row V _ 0 _ _ _ d1]; rfl, by rw [cell_of_row V _ 1 _ _ _ d1]; rfl, fun j => by simp [World.frozen?, d1]⟩
    have e1 : V.cell? ⟨W.heap.size + 1, 0, none⟩ = some (.int .i64 (pre.length : Nat)) ∧ V.frozen? ⟨W.heap.size + 1, 0, none⟩ = false := ⟨by rw [cell_of_row V _ 0 _ _ _ d2]; rfl, by simp [World.frozen?, d2]⟩
    obtain ⟨e00, e01, e0f⟩ := e0
    obtain ⟨e10, e1f⟩ := e1
    have HB1 := Lib.hid hB1
    match pre, hp1 with
    | [], _ =>
      have ht1 := set_at d1 0 (.int .i64 (x : Int))
      have ht2 := set_at ((set_other V W.heap.size 0 (W.heap.size + 1) (.int .i64 (x : Int)) (by omega)).trans d2) 0 (.int .i64 1)
      have ht3 := (set_other (V.setCell ⟨W.heap.size, 0, none⟩ (.int .i64 (x : Int))) (W.heap.size + 1) 0 W.heap.size (.int .i64 1) (by omega)).trans ht1
      have HT2 := Lib.hid ht2
      have HT3 := Lib.hid ht3
      clear ht1 ht2 ht3 d1 d2
      simp only [List.length_nil] at e10
      gi_wp2
      exact ⟨((KeepsOthers.setCell _ _ _).trans (KeepsOthers.setCell _ _ _)).from _, (KB.setCell _ _ _ _ (by omega) (by omega)).trans (KB.setCell _ _ _ _ (by omega) (by omega)), ⟨by simp, HT3.out, HT2.out⟩, (HB1.out.setCell (p := ⟨W.heap.size, 0, none⟩) (Nat.le_refl _) _).setCell (p := ⟨W.heap.size + 1, 0, none⟩) (Nat.le_succ _) _⟩
    | [y], _ =>
      have ht1 := set_at d1 1 (.int .i64 (x : Int))
      have ht3 := (set_other (V.setCell ⟨W.heap.size, 1, none⟩ (.int .i64 (x : Int))) (W.heap.size + 1) 0 W.heap.size (.int .i64 2) (by omega)).trans ht1
      have HT3 := Lib.hid ht3
      clear ht1 ht3 d1 d2
      simp only [List.length_cons, List.length_nil] at e10
      gi_wp2
      exact ⟨((KeepsOthers.setCell _ _ _).trans (KeepsOthers.setCell _ _ _)).from _, ⟨rfl, rfl, HT3.out⟩, (HB1.out.setCell (p := ⟨W.heap.size, 1, none⟩) (Nat.le_refl _) _).setCell (p := ⟨W.heap.size + 1, 0, none⟩) (Nat.le_succ _) _⟩
  · rintro D ys V hD rfl ⟨⟨hp1, d1, d2⟩, hB1⟩ hK
    have hz : ys = [x0] := by
      have := HL.out
      rw [this] at hp1 ⊢
      simp only [List.length_cons] at hp1
      rw [List.eq_nil_of_length_eq_zero (by omega : L1.length = 0)]
    subst hz
    have e0 : V.cell? ⟨W.heap.size, 0, none⟩ = some (.int .i64 (x0 : Int)) ∧ V.cell? ⟨W.heap.size, 1, none⟩ = some (.int .i64 0) := ⟨by rw [cell_of_row V _ 0 _ _ _ d1]; rfl, by rw [cell_of_row V _ 1 _ _ _ d1]; rfl⟩
    obtain ⟨e00, e01⟩ := e0
    clear d1 d2
    gi_wp2
    refine wpIn_region_reads04 (l₀ := none) (by kernel_rfl) (by kernel_rfl) (by kernel_rfl) (by intro a w h; cases h.1) ?_
    repeat (quiet_step (fail))
    refine wpQuiet_nil ?_
    rintro _ ⟨m, rfl⟩
    have hK2 : (V.drewN m).heap[D]? = some (.deferred (some [])) := hK
    have hB2 : Below W.heap.size W (V.drewN m) := ⟨hB1.os, hB1.tape, hB1.output, hB1.size, hB1.block⟩
    gi_wp2
    refine ⟨by simp, .inl ⟨_, _, rfl, run_takeDeferred hK2, ?_⟩⟩
    refine ⟨_, results_tmp2 rfl _ _ _, rfl, hB2.trans (belowK_b (w := W) (Nat.le_refl _) _ D _ _ (by omega) hK2 rfl rfl)⟩
  · rintro D c pre V hD hpre ⟨⟨rfl, hp2, d1⟩, hB1⟩ hK
    have q0 : nth 0 NL 0 = nth 0 pre 0 := (pre_nth hpre (by omega)).symm
    have q1 : nth 0 NL 1 = nth 0 pre 1 := (pre_nth hpre (by omega)).symm
    have e0 : V.cell? ⟨W.heap.size, 0, none⟩ = some (.int .i64 (nth 0 pre 0 : Nat)) ∧ V.cell? ⟨W.heap.size, 1, none⟩ = some (.int .i64 (nth 0 pre 1 : Nat)) := ⟨by rw [cell_of_row V _ 0 _ _ _ d1]; rfl, by rw [cell_of_row V _ 1 _ _ _ d1]; rfl⟩
    rw [← q0, ← q1] at e0
    obtain ⟨e00, e01⟩ := e0
    clear d1 q0 q1 hp2
    gi_wp2
    refine wpIn_region_reads04 (l₀ := none) (by kernel_rfl) (by kernel_rfl) (by kernel_rfl) (by intro a w h; cases h.1) ?_
    repeat (quiet_step (fail))
    refine wpQuiet_nil ?_
    rintro _ ⟨m, rfl⟩
    have hK2 : (V.drewN m).heap[D]? = some (.deferred (some [])) := hK
    have hB2 : Below W.heap.size W (V.drewN m) := ⟨hB1.os, hB1.tape, hB1.output, hB1.size, hB1.block⟩
    gi_wp2
    refine ⟨by simp, .inl ⟨_, _, rfl, run_takeDeferred hK2, ?_⟩⟩
    refine ⟨_, results_tmp2 rfl _ _ _, rfl, hB2.trans (belowK_b (w := W) (Nat.le_refl _) _ D _ _ (by omega) hK2 rfl rfl)⟩
end Go.Proofs.YtekodpcedjpnjaaGreat
namespace Go.Proofs.YtekodpcedjpnjaaGreat
set_option linter.unusedVariables false
set_option linter.unusedSimpArgs false
open Go.RowKit Go.Shelf Go.Maps
attribute [local go_sem] Oper.semAt_some
def TS.modeF (on : Bool) (t : TS) (n : Nat) : TS := t.mode on n
theorem fold_snoc {α : Type} (f : TS → α → TS) (t : TS) (pre : List α) (x : α) : (pre ++ [x]).foldl f t = f (pre.foldl f t) x := by rw [List.foldl_append]; rfl
/-- What holds between the numbers of a loop over them: the terminal stands as f has made it; the call's boxes abide. -/
def NumI (w : World) (b p q : Nat) (hv : Value) (t : TS) (f : TS → Nat → TS) (bx : List (Nat × Value × TypeId)) (pre : List Nat) (W : World) : Prop :=
  (TmAt W b p q hv (pre.foldl f t) ∧ ∀ x ∈ bx, W.heap[x.1]? = some (.cells #[x.2.1] x.2.2 (0, 0))) ∧ Only [b, q] w W
theorem NumI.own {w : World} {b p q : Nat} {hv : Value} {t : TS} {f : TS → Nat → TS} {bx : List (Nat × Value × TypeId)} {B : Nat} (hB : w.heap.size ≤ B) : OwnFrom B (NumI w b p q hv t f bx) := fun s A C row h hg hr =>
  ⟨⟨h.1.1.own hg hr, fun x hx => own_heap (h.1.2 x hx) rfl hg hr⟩, h.2.own hB hg hr⟩
theorem box_cell {W : World} {b : Nat} {v : Value} {t : TypeId} (h : W.heap[b]? = some (.cells #[v] t (0, 0))) : W.cell? ⟨b, 0, none⟩ = some v := by rw [cell_of_row W b 0 _ _ _ h]; rfl
set_option maxRecDepth 100000 in
set_option maxHeartbeats 4000000 in
theorem pmodes104 {W : World} {b p q : Nat} {hv : Value} {t : TS} (a : TmAt W b p q hv t) {g off n cap : Nat} {l : List UInt8} (hB : Bys W g off l) (hn : l.length = n) (hn2 : n ≤ 2000000) (hp : plainB l = true) (hgb : g ≠ b) :
    Calls Tryz.prog 277 #[.pointer (some ⟨b, 0, none⟩), .slice (some ⟨g, off, none⟩) n cap, .int .u8 104] W (TmPost b p q hv ((numsT 0 l).foldl (TS.modeF true) t) W) := by
  have HSEQ := Lib.hid (fun (Bx : Nat) (w : World) (hB : Bys w g off l) (hbx : Bx < w.heap.size) (hcb : w.cell? ⟨Bx, 0, none⟩ = some (.slice (some ⟨g, off, none⟩) n cap)) (mm : Nat) (hm : 1 ≤ mm) => num1_stops Bx w hB hn hn2 hp hbx hcb mm hm)
  obtain ⟨NL, hNL⟩ : ∃ NL, NL = numsT 0 l := ⟨_, rfl⟩
  rw [← hNL] at HSEQ ⊢
  clear hNL hn hp
  have hlt := a.lt
  have AA := Lib.hid a
  clear a
  refine (callsIn_wide (n := 9)).1 ?_
  have h1 : 1 ≤ 9 := by omega
  refine callsIn_of_wp_marks Tryz.func277 rfl trivial ?_ rfl
  simp only [Tryz.ntmps277, List.size_toArray, List.length_cons, List.length_nil, Nat.reduceAdd, Nat.reduceSub, Array.replicate_succ, Array.replicate_zero, List.push_toArray, List.append_toArray, List.nil_append, List.cons_append]
  gi_wp2_with (refine ⟨trivial, ?_⟩; gi_at_call 278; refine (callsIn_wide.2 (numbers_any _ _ _ _)).mono ?_; rintro e w2 ⟨rfl, rfl⟩)
  obtain ⟨X1, hX1⟩ : ∃ X1, W.alloc (.cells #[.pointer (some ⟨b, 0, none⟩)] 84) = X1 := ⟨_, rfl⟩
  obtain ⟨X2, hX2⟩ : ∃ X2, X1.alloc (.cells #[.bool true] 4) = X2 := ⟨_, rfl⟩
  obtain ⟨W0, hW0⟩ : ∃ W0, X2.alloc (.cells #[.slice (some ⟨g, off, none⟩) n cap] 61) = W0 := ⟨_, rfl⟩
  rw [hX1, hX2, hW0]
  have s1 : X1.heap.size = W.heap.size + 1 := by rw [← hX1]; simp
  have s2 : X2.heap.size = W.heap.size + 1 + 1 := by rw [← hX2]; simp [s1]
  have s3 : W0.heap.size = W.heap.size + 1 + 1 + 1 := by rw [← hW0]; simp [s2]
  have b1 : Below W.heap.size W X1 := by rw [← hX1]; exact (Below.refl _ _).alloc (Nat.le_refl _) _
  have b2 : Below (W.heap.size + 1) X1 X2 := by rw [← hX2]; exact (Below.refl _ _).alloc (by omega) _
  have b3 : Below (W.heap.size + 1 + 1) X2 W0 := by rw [← hW0]; exact (Below.refl _ _).alloc (by omega) _
  have k1 : X1.heap[W.heap.size]? = some (.cells #[.pointer (some ⟨b, 0, none⟩)] 84 (0, 0)) := by rw [← hX1]; exact World.alloc_heap_new W _
  have k2 : X2.heap[W.heap.size + 1]? = some (.cells #[.bool true] 4 (0, 0)) := by rw [← hX2, ← s1]; exact World.alloc_heap_new X1 _
  have k3 : W0.heap[W.heap.size + 1 + 1]? = some (.cells #[.slice (some ⟨g, off, none⟩) n cap] 61 (0, 0)) := by rw [← hW0, ← s2]; exact World.alloc_heap_new X2 _
  have hBw : Below W.heap.size W W0 := (b1.trans (b2.mono (by omega))).trans (b3.mono (by omega))
  have m1 : W0.heap[W.heap.size]? = some (.cells #[.pointer (some ⟨b, 0, none⟩)] 84 (0, 0)) := (b3.block _ (by omega)).trans ((b2.block _ (by omega)).trans k1)
  have m2 : W0.heap[W.heap.size + 1]? = some (.cells #[.bool true] 4 (0, 0)) := (b3.block _ (by omega)).trans k2
  have c3 : W0.cell? ⟨W.heap.size + 1 + 1, 0, none⟩ = some (.slice (some ⟨g, off, none⟩) n cap) := by rw [cell_of_row W0 _ 0 _ _ _ k3]; rfl
  have hB0 := hB.below hBw
  have hgl := hB.lt
  have a0 := AA.out.below hBw
  clear hX1 hX2 hW0 s1 s2 b1 b2 b3 k1 k2 k3 hB
  refine wpIn_rangeFunc_ownG rfl h1 (gf := 288) (lb := #[.pointer (some ⟨W.heap.size + 1 + 1, 0, none⟩)]) rfl trivial (enters_of Tryz.func288 (by kernel_rfl) rfl)
    (HSEQ.out (W.heap.size + 1 + 1) W0 hB0 (by omega) c3 _ (by omega)) KB.trans (KB.put (by omega) (by omega)) (Below.refl _ _) (fun _ => rfl)
    (NumI W b p q hv t (TS.modeF true) [(W.heap.size, .pointer (some ⟨b, 0, none⟩), 84), (W.heap.size + 1, .bool true, 4)]) (fun _ _ _ => False)
    (NumI.own (by omega))
    (fun c s A B row hs hg hr => hs)
    ⟨⟨a0, fun x hx => by
      simp only [List.mem_cons, List.not_mem_nil, or_false] at hx
      rcases hx with rfl | rfl
      · exact m1
      · exact m2⟩, Only.of_below hBw⟩
    ?_ ?_ ?_ ?_ ?_
  rotate_left 1
  · intro l0 x W1 K hK
    gi_wp2
    exact hK
  · rintro l0 pre x V ⟨⟨aV, hbx⟩, oV⟩ _
    have d1 := box_cell (hbx (W.heap.size, .pointer (some ⟨b, 0, none⟩), 84) (by simp))
    have d2 := box_cell (hbx (W.heap.size + 1, .bool true, 4) (by simp))
    have HBX := Lib.hid hbx
    have hfs := fold_snoc (TS.modeF true) t pre x
    have HFS := Lib.hid hfs
    clear hbx hfs
    obtain ⟨t1, ht1⟩ : ∃ t1, t1 = pre.foldl (TS.modeF true) t := ⟨_, rfl⟩
    rw [← ht1] at aV HFS
    have HT1 := Lib.hid ht1
    clear ht1
    obtain ⟨c0, c1, c2, c3, c4, c5, c6, c7, c8, c9, c10, c11, c12, c13, c14, c15, c16, fz⟩ := aV.cells
    by_cases h25 : x = 25
    · subst h25
      have aN := aV.put 10 (.bool false) hv { t1 with seen := true } rfl rfl rfl rfl
      have HE : Hid (TS.modeF true t1 25 = { t1 with seen := true }) := Lib.hid rfl
      gi_wp2
      refine ⟨(KeepsOthers.setCell _ _ _).from _, KB.setCell _ _ _ _ (by omega) hgb, ⟨?_, fun x hx => ?_⟩, oV.trans (set_only _ _ _ _).ob⟩
      · rw [HFS.out, HE.out]; exact aN
      · refine (set_other _ _ _ _ _ ?_).trans (HBX.out x hx)
        simp only [List.mem_cons, List.not_mem_nil, or_false] at hx
        rcases hx with rfl | rfl
        · show W.heap.size ≠ b; omega
        · show W.heap.size + 1 ≠ b; omega
    have n25 : ((x : Int) == 25) = false := by simp; omega
    by_cases h2004 : x = 2004
    · subst h2004
      have aN := aV.put 11 (.bool true) hv { t1 with marked := true } rfl rfl rfl rfl
      have HE : Hid (TS.modeF true t1 2004 = { t1 with marked := true }) := Lib.hid rfl
      clear h25
      gi_wp2
      refine ⟨(KeepsOthers.setCell _ _ _).from _, KB.setCell _ _ _ _ (by omega) hgb, ⟨?_, fun x hx => ?_⟩, oV.trans (set_only _ _ _ _).ob⟩
      · rw [HFS.out, HE.out]; exact aN
      · refine (set_other _ _ _ _ _ ?_).trans (HBX.out x hx)
        simp only [List.mem_cons, List.not_mem_nil, or_false] at hx
        rcases hx with rfl | rfl
        · show W.heap.size ≠ b; omega
        · show W.heap.size + 1 ≠ b; omega
    · have n2004 : ((x : Int) == 2004) = false := by simp; omega
      have HE : Hid (TS.modeF true t1 x = t1) := Lib.hid (by unfold TS.modeF TS.mode; rw [if_neg h25, if_neg h2004])
      clear h25 h2004
      gi_wp2
      refine ⟨KeepsFrom.refl _ _, KB.refl _ _ _, ⟨?_, HBX.out⟩, oV⟩
      rw [HFS.out, HE.out]; exact aV
  · rintro D ys V hD rfl ⟨⟨aV, hbx⟩, oV⟩ hK
    clear hbx
    gi_wp2
    refine ⟨by simp, .inl ⟨_, _, rfl, run_takeDeferred hK, ?_⟩⟩
    exact ⟨_, results_none rfl _ _ _, rfl, tm_put aV D _ _ hK rfl, only_put oV D _ (by omega)⟩
  · rintro D c pre V hD hpre hF hK
    exact hF.elim
set_option maxRecDepth 100000 in
set_option maxHeartbeats 4000000 in
theorem pmodes108 {W : World} {b p q : Nat} {hv : Value} {t : TS} (a : TmAt W b p q hv t) {g off n cap : Nat} {l : List UInt8} (hB : Bys W g off l) (hn : l.length = n) (hn2 : n ≤ 2000000) (hp : plainB l = true) (hgb : g ≠ b) :
    Calls Tryz.prog 277 #[.pointer (some ⟨b, 0, none⟩), .slice (some ⟨g, off, none⟩) n cap, .int .u8 108] W (TmPost b p q hv ((numsT 0 l).foldl (TS.modeF false) t) W) := by
  have HSEQ := Lib.hid (fun (Bx : Nat) (w : World) (hB : Bys w g off l) (hbx : Bx < w.heap.size) (hcb : w.cell? ⟨Bx, 0, none⟩ = some (.slice (some ⟨g, off, none⟩) n cap)) (mm : Nat) (hm : 1 ≤ mm) => num1_stops Bx w hB hn hn2 hp hbx hcb mm hm)
  obtain ⟨NL, hNL⟩ : ∃ NL, NL = numsT 0 l := ⟨_, rfl⟩
  rw [← hNL] at HSEQ ⊢
  clear hNL hn hp
  have hlt := a.lt
  have AA := Lib.hid a
  clear a
  refine (callsIn_wide (n := 9)).1 ?_
  have h1 : 1 ≤ 9 := by omega
  refine callsIn_of_wp_marks Tryz.func277 rfl trivial ?_ rfl
  simp only [Tryz.ntmps277, List.size_toArray, List.length_cons, List.length_nil, Nat.reduceAdd, Nat.reduceSub, Array.replicate_succ, Array.replicate_zero, List.push_toArray, List.append_toArray, List.nil_append, List.cons_append]
  gi_wp2_with (refine ⟨trivial, ?_⟩; gi_at_call 278; refine (callsIn_wide.2 (numbers_any _ _ _ _)).mono ?_; rintro e w2 ⟨rfl, rfl⟩)
  obtain ⟨X1, hX1⟩ : ∃ X1, W.alloc (.cells #[.pointer (some ⟨b, 0, none⟩)] 84) = X1 := ⟨_, rfl⟩
  obtain ⟨X2, hX2⟩ : ∃ X2, X1.alloc (.cells #[.bool false] 4) = X2 := ⟨_, rfl⟩
  obtain ⟨W0, hW0⟩ : ∃ W0, X2.alloc (.cells #[.slice (some ⟨g, off, none⟩) n cap] 61) = W0 := ⟨_, rfl⟩
  rw [hX1, hX2, hW0]
  have s1 : X1.heap.size = W.heap.size + 1 := by rw [← hX1]; simp
  have s2 : X2.heap.size = W.heap.size + 1 + 1 := by rw [← hX2]; simp [s1]
  have s3 : W0.heap.size = W.heap.size + 1 + 1 + 1 := by rw [← hW0]; simp [s2]
  have b1 : Below W.heap.size W X1 := by rw [← hX1]; exact (Below.refl _ _).alloc (Nat.le_refl _) _
  have b2 : Below (W.heap.size + 1) X1 X2 := by rw [← hX2]; exact (Below.refl _ _).alloc (by omega) _
  have b3 : Below (W.heap.size + 1 + 1) X2 W0 := by rw [← hW0]; exact (Below.refl _ _).alloc (by omega) _
  have k1 : X1.heap[W.heap.size]? = some (.cells #[.pointer (some ⟨b, 0, none⟩)] 84 (0, 0)) := by rw [← hX1]; exact World.alloc_heap_new W _
  have k2 : X2.heap[W.heap.size + 1]? = some (.cells #[.bool false] 4 (0, 0)) := by rw [← hX2, ← s1]; exact World.alloc_heap_new X1 _
  have k3 : W0.heap[W.heap.size + 1 + 1]? = some (.cells #[.slice (some ⟨g, off, none⟩) n cap] 61 (0, 0)) := by rw [← hW0, ← s2]; exact World.alloc_heap_new X2 _
  have hBw : Below W.heap.size W W0 := (b1.trans (b2.mono (by omega))).trans (b3.mono (by omega))
  have m1 : W0.heap[W.heap.size]? = some (.cells #[.pointer (some ⟨b, 0, none⟩)] 84 (0, 0)) := (b3.block _ (by omega)).trans ((b2.block _ (by omega)).trans k1)
  have m2 : W0.heap[W.heap.size + 1]? = some (.cells #[.bool false] 4 (0, 0)) := (b3.block _ (by omega)).trans k2
  have c3 : W0.cell? ⟨W.heap.size + 1 + 1, 0, none⟩ = some (.slice (some ⟨g, off, none⟩) n cap) := by rw [cell_of_row W0 _ 0 _ _ _ k3]; rfl
  have hB0 := hB.below hBw
  have hgl := hB.lt
  have a0 := AA.out.below hBw
  clear hX1 hX2 hW0 s1 s2 b1 b2 b3 k1 k2 k3 hB
  refine wpIn_rangeFunc_ownG rfl h1 (gf := 288) (lb := #[.pointer (some ⟨W.heap.size + 1 + 1, 0, none⟩)]) rfl trivial (enters_of Tryz.func288 (by kernel_rfl) rfl)
    (HSEQ.out (W.heap.size + 1 + 1) W0 hB0 (by omega) c3 _ (by omega)) KB.trans (KB.put (by omega) (by omega)) (Below.refl _ _) (fun _ => rfl)
    (NumI W b p q hv t (TS.modeF false) [(W.heap.size, .pointer (some ⟨b, 0, none⟩), 84), (W.heap.size + 1, .bool false, 4)]) (fun _ _ _ => False)
    (NumI.own (by omega))
    (fun c s A B row hs hg hr => hs)
    ⟨⟨a0, fun x hx => by
      simp only [List.mem_cons, List.not_mem_nil, or_false] at hx
      rcases hx with rfl | rfl
      · exact m1
      · exact m2⟩, Only.of_below hBw⟩
    ?_ ?_ ?_ ?_ ?_
  rotate_left 1
  · intro l0 x W1 K hK
    gi_wp2
    exact hK
  · rintro l0 pre x V ⟨⟨aV, hbx⟩, oV⟩ _
    have d1 := box_cell (hbx (W.heap.size, .pointer (some ⟨b, 0, none⟩), 84) (by simp))
    have d2 := box_cell (hbx (W.heap.size + 1, .bool false, 4) (by simp))
    have HBX := Lib.hid hbx
    have hfs := fold_snoc (TS.modeF false) t pre x
    have HFS := Lib.hid hfs
    clear hbx hfs
    obtain ⟨t1, ht1⟩ : ∃ t1, t1 = pre.foldl (TS.modeF false) t := ⟨_, rfl⟩
    rw [← ht1] at aV HFS
    have HT1 := Lib.hid ht1
    clear ht1
    obtain ⟨c0, c1, c2, c3, c4, c5, c6, c7, c8, c9, c10, c11, c12, c13, c14, c15, c16, fz⟩ := aV.cells
    by_cases h25 : x = 25
    · subst h25
      have aN := aV.put 10 (.bool true) hv { t1 with seen := false } rfl rfl rfl rfl
      have HE : Hid (TS.modeF false t1 25 = { t1 with seen := false }) := Lib.hid rfl
      gi_wp2
      refine ⟨(KeepsOthers.setCell _ _ _).from _, KB.setCell _ _ _ _ (by omega) hgb, ⟨?_, fun x hx => ?_⟩, oV.trans (set_only _ _ _ _).ob⟩
      · rw [HFS.out, HE.out]; exact aN
      · refine (set_other _ _ _ _ _ ?_).trans (HBX.out x hx)
        simp only [List.mem_cons, List.not_mem_nil, or_false] at hx
        rcases hx with rfl | rfl
        · show W.heap.size ≠ b; omega
        · show W.heap.size + 1 ≠ b; omega
    have n25 : ((x : Int) == 25) = false := by simp; omega
    by_cases h2004 : x = 2004
    · subst h2004
      have aN := aV.put 11 (.bool false) hv { t1 with marked := false } rfl rfl rfl rfl
      have HE : Hid (TS.modeF false t1 2004 = { t1 with marked := false }) := Lib.hid rfl
      clear h25
      gi_wp2
      refine ⟨(KeepsOthers.setCell _ _ _).from _, KB.setCell _ _ _ _ (by omega) hgb, ⟨?_, fun x hx => ?_⟩, oV.trans (set_only _ _ _ _).ob⟩
      · rw [HFS.out, HE.out]; exact aN
      · refine (set_other _ _ _ _ _ ?_).trans (HBX.out x hx)
        simp only [List.mem_cons, List.not_mem_nil, or_false] at hx
        rcases hx with rfl | rfl
        · show W.heap.size ≠ b; omega
        · show W.heap.size + 1 ≠ b; omega
    · have n2004 : ((x : Int) == 2004) = false := by simp; omega
      have HE : Hid (TS.modeF false t1 x = t1) := Lib.hid (by unfold TS.modeF TS.mode; rw [if_neg h25, if_neg h2004])
      clear h25 h2004
      gi_wp2
      refine ⟨KeepsFrom.refl _ _, KB.refl _ _ _, ⟨?_, HBX.out⟩, oV⟩
      rw [HFS.out, HE.out]; exact aV
  · rintro D ys V hD rfl ⟨⟨aV, hbx⟩, oV⟩ hK
    clear hbx
    gi_wp2
    refine ⟨by simp, .inl ⟨_, _, rfl, run_takeDeferred hK, ?_⟩⟩
    exact ⟨_, results_none rfl _ _ _, rfl, tm_put aV D _ _ hK rfl, only_put oV D _ (by omega)⟩
  · rintro D c pre V hD hpre hF hK
    exact hF.elim
set_option maxRecDepth 100000 in
set_option maxHeartbeats 4000000 in
theorem pmodesN {W : World} {b p q : Nat} {hv : Value} {t : TS} (a : TmAt W b p q hv t) (v : Value) (e : Nat) (he : e < 256) (k1 : ((e : Int) != 104) = true) (k2 : ((e : Int) != 108) = true) :
    Calls Tryz.prog 277 #[.pointer (some ⟨b, 0, none⟩), v, .int .u8 (e : Int)] W (TmPost b p q hv t W) := by
  have b1 : Below W.heap.size W (W.alloc (.cells #[.pointer (some ⟨b, 0, none⟩)] 84)) := (Below.refl _ _).alloc (Nat.le_refl _) _
  go_enter Tryz.func277, Tryz.ntmps277
  go_wp2
  (try simp only [Exit.inBlock, Exit.then]); refine bodyPost_ret (results_none rfl _ _ _) rfl ?_
  exact ⟨rfl, a.below b1, Only.on b1⟩
theorem pmodes_any {W : World} {b p q : Nat} {hv : Value} {t : TS} (a : TmAt W b p q hv t) {g off n cap : Nat} {l : List UInt8} (hB : Bys W g off l) (hn : l.length = n) (hn2 : n ≤ 2000000) (hp : plainB l = true) (hgb : g ≠ b) (e : Nat) (he : e < 256) :
    Calls Tryz.prog 277 #[.pointer (some ⟨b, 0, none⟩), .slice (some ⟨g, off, none⟩) n cap, .int .u8 (e : Int)] W (TmPost b p q hv (t.modes (numsT 0 l) e) W) := by
  unfold TS.modes
  by_cases h1 : e = 104
  · subst h1; rw [if_pos (.inl rfl)]; exact pmodes104 a hB hn hn2 hp hgb
  by_cases h2 : e = 108
  · subst h2; rw [if_pos (.inr rfl)]; exact pmodes108 a hB hn hn2 hp hgb
  rw [if_neg (by omega)]
  exact pmodesN a _ e he (by simp; omega) (by simp; omega)
end Go.Proofs.YtekodpcedjpnjaaGreat
