/- The program's terminal: between, plain, styled. No condition. The program's terminal: numbers (the iterator), firstTwo. No condition. -/
import Derived.Test.YtekodpcedjpnjaaPT1
import Derived.Test.YtekodpcedjpnjaaRune5
import Derived.Test.YtekodpcedjpnjaaRegM
import Derived.Test.YtekodpcedjpnjaaRangeX
namespace Go.Proofs.Ytekodpcedjpnjaa
set_option linter.unusedVariables false
set_option linter.unusedSimpArgs false
open Go.RowKit Go.Maps
set_option maxRecDepth 100000 in
theorem between_any (c lo hi : Int) (w : World) : Calls Try.prog 141 #[.int .u8 c, .int .u8 lo, .int .u8 hi] w fun e w' => e = .returned (.bool (decide (lo ≤ c ∧ c ≤ hi))) ∧ w = w' := by
  obtain ⟨z, hz⟩ : ∃ z, z = decide (lo ≤ c ∧ c ≤ hi) := ⟨_, rfl⟩
  rw [← hz]
  have HZ := Lib.hid hz
  clear hz
  go_enter Try.func141, Try.ntmps141
  go_wp2
  all_goals go_ret
  all_goals refine ⟨ret_bool ?_, rfl⟩
  all_goals rw [HZ.out]
  all_goals first | exact (decide_eq_true (by omega)).symm | exact (decide_eq_false (by omega)).symm | (rw [Bool.eq_iff_iff]; simp only [decide_eq_true_eq, Bool.or_eq_true, Bool.and_eq_true]; omega)
def okPl (c : UInt8) : Bool := decide (c = 59) || decide (48 ≤ c.toNat ∧ c.toNat ≤ 57)
theorem plainB_drop (l : List UInt8) (k : Nat) (h : k < l.length) : plainB (l.drop k) = (okPl (nth 0 l k) && plainB (l.drop (k + 1))) := by
  rw [List.drop_eq_getElem_cons h, nth_eq _ _ _ h]
  rfl
theorem okPl_nat (c : UInt8) : okPl c = (decide (c.toNat = 59) || decide (48 ≤ c.toNat ∧ c.toNat ≤ 57)) := by
  unfold okPl
  congr 1
  rw [decide_eq_decide]
  exact ⟨fun h => by rw [h]; rfl, fun h => UInt8.toNat_inj.1 h⟩
set_option maxRecDepth 100000 in
set_option maxHeartbeats 2000000 in
theorem plain_any {W : World} {g off n cap : Nat} {l : List UInt8} (hB : Bys W g off l) (hn : l.length = n) (hn2 : n ≤ 2000000) :
    Calls Try.prog 154 #[.slice (some ⟨g, off, none⟩) n cap] W fun e w' => e = .returned (.bool (plainB l)) ∧ W = w' := by
  have HN := Lib.hid hn
  obtain ⟨z, hz⟩ : ∃ z, z = plainB l := ⟨_, rfl⟩
  rw [← hz]
  have HZ : Hid (z = plainB (l.drop 0)) := Lib.hid hz
  clear hz hn
  go_enter Try.func154, Try.ntmps154
  go_wp2
  go_loop [7] (fun i => ∃ k : Nat, k ≤ n ∧ i = .int .i64 k ∧ Hid (z = plainB (l.drop k))) (fun i => n - (intOf i).toNat)
  case atStart => exact ⟨0, Nat.zero_le _, rfl, HZ⟩
  case round =>
    obtain ⟨k, hk, rfl, hf⟩ := hrel
    by_cases hlt : k < n
    · have hlt2 : k < l.length := by rw [HN.out]; exact hlt
      have hd := plainB_drop l k hlt2
      have hc := hB.at_ k hlt2
      rw [okPl_nat] at hd
      obtain ⟨x, hx⟩ : ∃ x, x = (nth 0 l k).toNat := ⟨_, rfl⟩
      rw [← hx] at hd hc
      have HD := Lib.hid hd
      clear hd hx hlt2
      have CB := fun w => between_any (x : Int) 48 57 w
      obtain ⟨y, hy⟩ : ∃ y, y = decide ((48 : Int) ≤ x ∧ (x : Int) ≤ 57) := ⟨_, rfl⟩
      rw [← hy] at CB
      have hy2 : decide (48 ≤ x ∧ x ≤ 57) = y := by rw [hy]; exact decide_eq_decide.2 (by omega)
      have HY := Lib.hid hy2
      clear hy hy2
      have CB := Lib.hid CB
      by_cases h59 : x = 59
      · have hne : ((x : Int) != 59) = false := by simp; omega
        have HF : Hid (z = plainB (l.drop (k + 1))) := Lib.hid (by rw [hf.out, HD.out, decide_eq_true h59]; rfl)
        clear h59
        go_wp2
        go_round
        case rel => exact ⟨k + 1, hlt, by go_num, HF⟩
        case measure => simp [intOf]; omega
      · have hne : ((x : Int) != 59) = true := by simp; omega
        have HF0 : Hid (z = (y && plainB (l.drop (k + 1)))) := Lib.hid (by rw [hf.out, HD.out, decide_eq_false h59, HY.out]; rfl)
        clear h59 HY
        cases y with
        | true =>
          have HF : Hid (z = plainB (l.drop (k + 1))) := Lib.hid (by rw [HF0.out]; rfl)
          go_wp2_with (go_at_call 141; refine (CB.out _).mono ?_; rintro e w1 ⟨rfl, rfl⟩)
          go_round
          case rel => exact ⟨k + 1, hlt, by go_num, HF⟩
          case measure => simp [intOf]; omega
        | false =>
          have HF : Hid (z = false) := Lib.hid (by rw [HF0.out]; rfl)
          go_wp2_with (go_at_call 141; refine (CB.out _).mono ?_; rintro e w1 ⟨rfl, rfl⟩)
          go_ret
          exact ⟨ret_bool HF.out.symm, rfl⟩
    · obtain rfl : k = n := by omega
      have HF : Hid (z = true) := Lib.hid (by rw [hf.out, List.drop_eq_nil_of_le (by rw [HN.out]; omega)]; rfl)
      go_wp2
      go_ret
      exact ⟨ret_bool HF.out.symm, rfl⟩
set_option maxRecDepth 100000 in
set_option maxHeartbeats 4000000 in
theorem styled_any (b u i : Bool) (f g : Int) (n : Nat) (w : World) : Calls Try.prog 157 #[.agg #[.bool b, .bool u, .bool i, .int .i64 f, .int .i64 g], .int .i64 n] w fun e w' => e = .returned (styT ⟨b, u, i, f, g⟩ n).v ∧ Below w.heap.size w w' := by
  obtain ⟨m, hm⟩ : ∃ m : Int, m = (n : Int) := ⟨_, rfl⟩
  rw [← hm]
  have HM := Lib.hid hm
  have h0 : 0 ≤ m := by omega
  clear hm
  go_enter Try.func157, Try.ntmps157
  go_wp2
  all_goals
    (try simp only [Exit.inBlock, Exit.then])
    refine bodyPost_ret (results_cell_row rfl _ _ (w.heap.size + 1) 34 _ (0, 0) _ rfl (heap_alloc2_new w _ _) Try.underlying34 rfl (by kernel_rfl)) rfl ?_
    refine ⟨congrArg Ending.returned ?_, ((Below.refl _ _).alloc (Nat.le_refl _) _).alloc (by simp) _⟩
    have hm := HM.out
    simp only [beq_iff_eq, beq_eq_false_iff_ne, ne_eq] at *
    unfold styT
    repeat (first | rw [if_pos (by omega)] | rw [if_neg (by omega)])
    first | rfl | (simp only [Sy.v, Sy.zero]; simp; omega)
theorem styled_sy (y : Sy) (n : Nat) (w : World) : Calls Try.prog 157 #[.agg #[.bool y.b, .bool y.u, .bool y.i, .int .i64 y.f, .int .i64 y.g], .int .i64 n] w fun e w' => e = .returned (.agg #[.bool (styT y n).b, .bool (styT y n).u, .bool (styT y n).i, .int .i64 (styT y n).f, .int .i64 (styT y n).g]) ∧ Below w.heap.size w w' := styled_any y.b y.u y.i y.f y.g n w
end Go.Proofs.Ytekodpcedjpnjaa
namespace Go.Proofs.Ytekodpcedjpnjaa
set_option linter.unusedVariables false
set_option linter.unusedSimpArgs false
open Go.RowKit Go.Shelf Go.Maps
attribute [local go_sem] Oper.semAt_some
theorem Only.own {S : List Nat} {w W W' : World} {row : Option Nat} {B : Nat} (h : Only S w W) (hB : w.heap.size ≤ B) (hg : W.grownBy W' row) (hr : ∀ r, row = some r → B ≤ r ∧ ∃ o : Obj, W.heap[r]? = some o ∧ o.isCells = false) : Only S w W' :=
  ⟨hg.os.trans h.os, hg.tape.trans h.tape, hg.output.trans h.output, Nat.le_trans h.size hg.size, fun k hk hs => (hg.block k (Nat.lt_of_lt_of_le hk h.size) (fun e => by have := (hr k e.symm).1; omega)).trans (h.block k hk hs)⟩
theorem TmAt.own {W W' : World} {b p q : Nat} {hv : Value} {t : TS} {row : Option Nat} {B : Nat} (a : TmAt W b p q hv t) (hg : W.grownBy W' row) (hr : ∀ r, row = some r → B ≤ r ∧ ∃ o : Obj, W.heap[r]? = some o ∧ o.isCells = false) : TmAt W' b p q hv t :=
  ⟨own_heap a.blk rfl hg hr, { a.g with head := own_heap a.g.head rfl hg hr, blk := own_heap a.g.blk rfl hg hr }, a.bp, a.bq⟩
theorem only_put {S : List Nat} {w W : World} (h : Only S w W) (l : Nat) (o : Obj) (hl : w.heap.size ≤ l) : Only S w (W.putObj l o) :=
  ⟨h.os, h.tape, h.output, by simp [World.putObj]; exact h.size, fun k hk hs => (World.putObj_heap_other (by omega)).trans (h.block k hk hs)⟩
theorem tm_put {W : World} {b p q : Nat} {hv : Value} {t : TS} (a : TmAt W b p q hv t) (l : Nat) (o o' : Obj) (hl : W.heap[l]? = some o) (ho : o.isCells = false) : TmAt (W.putObj l o') b p q hv t :=
  a.own (B := 0) (grownBy_putObj' W l o') (fun r e => by cases e; exact ⟨Nat.zero_le _, o, hl, ho⟩)
theorem num_ge (l : List UInt8) (a : Nat) : ∃ x t, numsT a l = x :: t := by
  induction l generalizing a with
  | nil => exact ⟨_, _, rfl⟩
  | cons c l ih =>
    unfold numsT
    split
    · exact ⟨_, _, rfl⟩
    · exact ih _
theorem numsT_le : ∀ (l : List UInt8) (a : Nat), a ≤ 9999 → ∀ x ∈ numsT a l, x ≤ 9999
  | [], a, h, x, hx => by rw [numsT, List.mem_singleton] at hx; omega
  | c :: l, a, h, x, hx => by
    unfold numsT at hx
    split at hx
    · rcases List.mem_cons.1 hx with h1 | h1
      · omega
      · exact numsT_le l 0 (by omega) x h1
    · exact numsT_le l _ (by omega) x hx
theorem nums_at (l : List UInt8) (k a : Nat) (h : k < l.length) : numsT a (l.drop k) = if (nth 0 l k).toNat = 59 then a :: numsT 0 (l.drop (k + 1)) else numsT (min 9999 (10 * a + ((nth 0 l k).toNat - 48))) (l.drop (k + 1)) := by
  rw [List.drop_eq_getElem_cons h, nth_eq _ _ _ h]
  have e : ((l[k]).toNat = 59) ↔ (l[k] = 59) := ⟨fun h => UInt8.toNat_inj.1 h, fun h => by rw [h]; rfl⟩
  conv => lhs; unfold numsT
  by_cases h1 : l[k] = 59
  · rw [if_pos h1, if_pos (e.2 h1)]
  · rw [if_neg h1, if_neg (fun h2 => h1 (e.1 h2))]
theorem plain_at {l : List UInt8} (h : plainB l = true) {k : Nat} (hk : k < l.length) : (nth 0 l k).toNat = 59 ∨ 48 ≤ (nth 0 l k).toNat ∧ (nth 0 l k).toNat ≤ 57 := by
  unfold plainB at h
  rw [List.all_eq_true] at h
  have := h (nth 0 l k) (by rw [nth_eq _ _ _ hk]; exact List.getElem_mem _)
  rw [show (decide (nth 0 l k = 59) || decide (48 ≤ (nth 0 l k).toNat ∧ (nth 0 l k).toNat ≤ 57)) = okPl (nth 0 l k) from rfl, okPl_nat] at this
  simpa using this
theorem numbers_any (a : Option Addr) (n c : Nat) (w : World) : Calls Try.prog 156 #[.slice a n c] w fun e w' =>
    e = .returned (.func (.func 168) #[] #[.pointer (some ⟨w.heap.size, 0, none⟩)]) ∧ w.alloc (.cells #[.slice a n c] 67) = w' := by
  go_enter Try.func156, Try.ntmps156
  go_wp2
  go_ret
  exact ⟨rfl, rfl⟩
set_option maxRecDepth 100000 in
set_option maxHeartbeats 4000000 in
theorem num1_stops {l : List UInt8} {g off n cap : Nat} (Bx : Nat) (w : World) (hB : Bys w g off l) (hn : l.length = n) (hn2 : n ≤ 2000000) (hp : plainB l = true) (hbx : Bx < w.heap.size) (hcb : w.cell? ⟨Bx, 0, none⟩ = some (.slice (some ⟨g, off, none⟩) n cap)) (mm : Nat) (hm : 1 ≤ mm) :
    SeqStopsK Fence.wide mm Try.prog 168 #[.pointer (some ⟨Bx, 0, none⟩)] (fun x : Nat => #[Value.int .i64 (x : Int)]) (KB Bx g) (fun ys => ys = numsT 0 l) (fun pre => pre <+: numsT 0 l) (numsT 0 l).length w := by
  intro l0 J Jx W hW0 hJ hJx hY h0
  have hW := KB.of_below hW0 hbx hB.lt
  clear hW0
  have hcb2 := (cell_block hW.a).trans hcb
  have HN := Lib.hid hn
  have HP := Lib.hid (fun k (hk : k < l.length) => plain_at hp hk)
  have HA := Lib.hid (fun k a (hk : k < l.length) => nums_at l k a hk)
  clear hn hp
  refine callsIn_of_wp Try.func168 rfl trivial ?_ rfl
  simp only [Try.ntmps168, List.size_toArray, List.length_cons, List.length_nil, Nat.reduceAdd, Nat.reduceSub, Array.replicate_succ, Array.replicate_zero, List.push_toArray, List.append_toArray, List.nil_append, List.cons_append]
  gi_wp2
  gi_loopw [3, 8] (fun a i wr => ∃ (k : Nat) (pre : List Nat) (acc : Nat), k ≤ n ∧ i = .int .i64 k ∧ a = .int .i64 acc ∧ acc ≤ 9999 ∧ Hid (numsT 0 l = pre ++ numsT acc (l.drop k)) ∧ J pre wr ∧ KB Bx g W wr)
    (fun _ i _ => n - (intOf i).toNat)
  case atStart => exact ⟨0, [], 0, Nat.zero_le _, rfl, rfl, by omega, Lib.hid rfl, h0, KB.refl _ _ _⟩
  case round =>
    obtain ⟨k, pre, acc, hk, rfl, rfl, hacc, hf, hJs, hnx⟩ := hrel
    have hbw := hW.trans hnx
    by_cases hlt : k < n
    · have hlt2 : k < l.length := by rw [HN.out]; exact hlt
      have hcc := (hB.of_block hbw.b hbw.size).at_ k hlt2
      have hpa := HP.out k hlt2
      have hna := HA.out k acc hlt2
      obtain ⟨x, hx⟩ : ∃ x, x = (nth 0 l k).toNat := ⟨_, rfl⟩
      rw [← hx] at hcc hpa hna
      clear hx hlt2
      by_cases h59 : x = 59
      · rw [if_pos h59] at hna
        have hne : ((x : Int) == 59) = true := by simp; omega
        have hlen : pre.length < (numsT 0 l).length := by rw [hf.out, hna, List.length_append, List.length_cons]; omega
        have HF : Hid (numsT 0 l = (pre ++ [acc]) ++ numsT 0 (l.drop (k + 1))) := Lib.hid (by rw [hf.out, hna]; simp)
        have HP2 : Hid (pre ++ [acc] <+: numsT 0 l) := Lib.hid (by rw [HF.out]; exact List.prefix_append _ _)
        clear h59 hpa hna
        obtain ⟨fn, tmps, assign, body, hy, hR⟩ := hY pre acc wr hJs hlen
        clear hlen
        gi_wp2
        refine hR.mono ?_
        rintro e W3 (⟨rfl, hJ3, hk3⟩ | ⟨rfl, hJx3⟩)
        · gi_wp2
          go_roundw
          case rel => exact ⟨k + 1, pre ++ [acc], 0, hlt, by go_num, rfl, by omega, HF, hJ3, hnx.trans hk3⟩
          case measure => simp [intOf]; omega
        · gi_wp2
          refine bodyPost_ret (results_none rfl _ _ _) rfl ?_
          exact ⟨⟨_, rfl⟩, .inr ⟨_, HP2.out, hJx3⟩⟩
      · rw [if_neg h59] at hna
        have hne : ((x : Int) == 59) = false := by simp; omega
        have h48 : 48 ≤ (x : Int) ∧ (x : Int) ≤ 57 := by omega
        have HF : Hid (numsT 0 l = pre ++ numsT (min 9999 (10 * acc + (x - 48))) (l.drop (k + 1))) := Lib.hid (by rw [hf.out, hna])
        clear h59 hpa hna
        gi_wp2
        go_roundw
        case rel => exact ⟨k + 1, pre, min 9999 (10 * acc + (x - 48)), hlt, by go_num, congrArg (Value.int _) (by first | omega | (split <;> omega)), by omega, HF, hJs, hnx⟩
        case measure => simp [intOf]; omega
    · obtain rfl : k = n := by omega
      have hend : numsT acc (l.drop k) = [acc] := by rw [List.drop_eq_nil_of_le (by rw [HN.out]; omega)]; rfl
      have hlen : pre.length < (numsT 0 l).length := by rw [hf.out, hend, List.length_append]; simp
      have HF : Hid (numsT 0 l = pre ++ [acc]) := Lib.hid (by rw [hf.out, hend])
      clear hend
      obtain ⟨fn, tmps, assign, body, hy, hR⟩ := hY pre acc wr hJs hlen
      clear hlen
      gi_wp2
      refine hR.mono ?_
      rintro e W3 (⟨rfl, hJ3, hk3⟩ | ⟨rfl, hJx3⟩)
      · gi_wp2
        go_end0
        exact ⟨⟨_, rfl⟩, .inl ⟨_, rfl, by rw [HF.out]; exact hJ3⟩⟩
      · gi_wp2
        go_end0
        exact ⟨⟨_, rfl⟩, .inr ⟨pre ++ [acc], by rw [HF.out]; exact List.prefix_rfl, hJx3⟩⟩
/-! ### the first two -/
/-- What firstTwo has of the numbers that came. -/
def TwoI (w : World) (A : Nat) (pre : List Nat) (W : World) : Prop :=
  (pre.length ≤ 1 ∧ W.heap[A]? = some (.cells #[.int .i64 (nth 0 pre 0 : Nat), .int .i64 0] 209 (0, 0)) ∧ W.heap[A + 1]? = some (.cells #[.int .i64 (pre.length : Nat)] 3 (0, 0))) ∧ Below w.heap.size w W
def TwoX (w : World) (A : Nat) (c : Code) (pre : List Nat) (W : World) : Prop :=
  (c = .exit 0 ∧ pre.length = 2 ∧ W.heap[A]? = some (.cells #[.int .i64 (nth 0 pre 0 : Nat), .int .i64 (nth 0 pre 1 : Nat)] 209 (0, 0))) ∧ Below w.heap.size w W
theorem pre_nth {pre L : List Nat} (h : pre <+: L) {j : Nat} (hj : j < pre.length) : nth 0 pre j = nth 0 L j := by
  obtain ⟨t, rfl⟩ := h
  rw [nth_eq _ _ _ hj, nth_eq _ _ _ (by rw [List.length_append]; omega), List.getElem_append_left hj]
end Go.Proofs.Ytekodpcedjpnjaa
