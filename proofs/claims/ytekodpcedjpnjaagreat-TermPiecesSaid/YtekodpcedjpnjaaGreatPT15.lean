/- The program's terminal: sequence. No condition but that the counters are not at their ends. The program's terminal: escape, take. No condition but that the counters are not at their ends. -/
import Derived.Test.YtekodpcedjpnjaaGreatPT13
import Derived.Deep.CutBlock
import Derived.Test.YtekodpcedjpnjaaGreatPT8
namespace Go.Proofs.YtekodpcedjpnjaaGreat
set_option linter.unusedVariables false
set_option linter.unusedSimpArgs false
open Go.RowKit Go.Shelf Go.Maps
/-- What a call that takes bytes leaves: how many, and the terminal. -/
def TmRet (b p q : Nat) (hv : Value) (x : TS × Nat) (W : World) (e : Ending) (w' : World) : Prop := e = .returned (.int .i64 (x.2 : Nat)) ∧ TmAt w' b p q hv x.1 ∧ Only [b, q] W w'
/-- Where the parameters end, and where what stands behind them ends; not beyond 32. -/
def par1 (r : List UInt8) : Nat := 2 + min (spanN parB r) 30
def par2 (r : List UInt8) (i : Nat) : Nat := min 32 (i + spanN midB (r.drop (i - 2)))
theorem par1_bd (r : List UInt8) : 2 ≤ par1 r ∧ par1 r ≤ 32 ∧ par1 r ≤ r.length + 2 := by
  have := spanN_le parB r
  unfold par1; omega
theorem par2_bd (r : List UInt8) (i : Nat) (h : 2 ≤ i) (h2 : i ≤ 32) (h3 : i ≤ r.length + 2) : i ≤ par2 r i ∧ par2 r i ≤ 32 ∧ par2 r i ≤ r.length + 2 := by
  have := spanN_le midB (r.drop (i - 2))
  rw [List.length_drop] at this
  unfold par2; omega
theorem seq_32 (t : TS) (r : List UInt8) (h : par2 r (par1 r) = 32) : t.seq r = (t.off, 32) := by
  unfold TS.seq
  dsimp only
  have h1 := spanN_le parB r
  refine if_pos ?_
  unfold par2 par1 at h
  rcases Nat.lt_or_ge (spanN parB r) 30 with hp | hp
  · rw [show 2 + min (spanN parB r) 30 = 2 + spanN parB r by omega, show 2 + spanN parB r - 2 = spanN parB r by omega] at h
    omega
  · omega
theorem par_lt (r : List UInt8) (h : par2 r (par1 r) < 32) : par1 r = 2 + spanN parB r ∧ par2 r (par1 r) = 2 + spanN parB r + spanN midB (r.drop (spanN parB r)) := by
  have hb := par1_bd r
  have hc := par2_bd r (par1 r) hb.1 hb.2.1 hb.2.2
  have h1 : par1 r = 2 + spanN parB r := by
    have : par1 r < 32 := by omega
    unfold par1 at this ⊢
    omega
  refine ⟨h1, ?_⟩
  rw [h1] at h ⊢
  unfold par2 at h ⊢
  rw [show 2 + spanN parB r - 2 = spanN parB r by omega] at h ⊢
  omega
theorem seq_wait (t : TS) (r : List UInt8) (h : par2 r (par1 r) < 32) (h2 : par2 r (par1 r) = r.length + 2) : t.seq r = (t, 0) := by
  obtain ⟨h3, h4⟩ := par_lt r h
  unfold TS.seq
  dsimp only
  rw [if_neg (by omega), if_pos (by omega)]
theorem seq_no (t : TS) (r : List UInt8) (h : par2 r (par1 r) < 32) (h2 : par2 r (par1 r) < r.length + 2) (he : endB (nth 0 r (par2 r (par1 r) - 2)) = false) : t.seq r = (t.off, par2 r (par1 r)) := by
  obtain ⟨h3, h4⟩ := par_lt r h
  rw [h4] at h h2 he ⊢
  rw [show 2 + spanN parB r + spanN midB (r.drop (spanN parB r)) - 2 = spanN parB r + spanN midB (r.drop (spanN parB r)) by omega] at he
  unfold TS.seq
  dsimp only
  rw [if_neg (by omega), if_neg (by omega), he]
  rfl
theorem seq_mid (t : TS) (r : List UInt8) (h : par2 r (par1 r) < 32) (h2 : par2 r (par1 r) < r.length + 2) (he : endB (nth 0 r (par2 r (par1 r) - 2)) = true) (hm : par1 r ≠ par2 r (par1 r)) : t.seq r = (t.off, par2 r (par1 r) + 1) := by
  obtain ⟨h3, h4⟩ := par_lt r h
  rw [h4] at h h2 he hm ⊢
  rw [show 2 + spanN parB r + spanN midB (r.drop (spanN parB r)) - 2 = spanN parB r + spanN midB (r.drop (spanN parB r)) by omega] at he
  unfold TS.seq
  dsimp only
  rw [if_neg (by omega), if_neg (by omega), he, if_pos rfl, if_neg (by omega)]
theorem seq_obey (t : TS) (r : List UInt8) (h : par2 r (par1 r) < 32) (h2 : par2 r (par1 r) < r.length + 2) (he : endB (nth 0 r (par2 r (par1 r) - 2)) = true) (hm : par1 r = par2 r (par1 r)) :
    t.seq r = (t.off.obey (r.take (par2 r (par1 r) - 2)) (nth 0 r (par2 r (par1 r) - 2)).toNat, par2 r (par1 r) + 1) := by
  obtain ⟨h3, h4⟩ := par_lt r h
  have hq : spanN midB (r.drop (spanN parB r)) = 0 := by omega
  rw [h4] at h h2 he ⊢
  rw [hq, show 2 + spanN parB r + 0 - 2 = spanN parB r by omega] at he ⊢
  unfold TS.seq
  dsimp only
  rw [if_neg (by omega), if_neg (by omega), hq, Nat.add_zero, he, if_pos rfl, if_pos rfl]
theorem span_at (f : UInt8 → Bool) (r : List UInt8) (k : Nat) (h : k < r.length) : spanN f (r.drop k) = if f (nth 0 r k) then spanN f (r.drop (k + 1)) + 1 else 0 := by
  rw [List.drop_eq_getElem_cons h, nth_eq _ _ _ h]
  rfl
theorem span_end (f : UInt8 → Bool) (r : List UInt8) (k : Nat) (h : r.length ≤ k) : spanN f (r.drop k) = 0 := by rw [List.drop_eq_nil_of_le h]; rfl
theorem parB_nat (c : UInt8) : parB c = decide ((48 : Int) ≤ (c.toNat : Int) ∧ (c.toNat : Int) ≤ 63) := by unfold parB; exact decide_eq_decide.2 (by omega)
theorem midB_nat (c : UInt8) : midB c = decide ((32 : Int) ≤ (c.toNat : Int) ∧ (c.toNat : Int) ≤ 47) := by unfold midB; exact decide_eq_decide.2 (by omega)
theorem endB_nat (c : UInt8) : endB c = decide ((64 : Int) ≤ (c.toNat : Int) ∧ (c.toNat : Int) ≤ 126) := by unfold endB; exact decide_eq_decide.2 (by omega)
theorem Bys.at2 {W : World} {g off : Nat} {c d : UInt8} {r : List UInt8} (h : Bys W g off (c :: d :: r)) {k : Nat} (h2 : 2 ≤ k) (hk : k < r.length + 2) : W.cell? ⟨g, off + k, none⟩ = some (.int .u8 ((nth 0 r (k - 2)).toNat : Int)) := by
  have := h.at_ k (by simpa using hk)
  obtain ⟨j, rfl⟩ : ∃ j, k = j + 2 := ⟨k - 2, by omega⟩
  rw [this]
  rfl
set_option maxRecDepth 100000 in
set_option maxHeartbeats 8000000 in
theorem psequence_any {W : World} {b p q : Nat} {hv : Value} {t : TS} (a : TmAt W b p q hv t) (ok : TO0 t) {g off n cap : Nat} {c d : UInt8} {r : List UInt8} (hB : Bys W g off (c :: d :: r)) (hn : r.length + 2 = n) (hn2 : n ≤ 1000000) (hc : n ≤ cap ∧ cap ≤ 9223372036854775807) (hgb : g ≠ b) (hgq : g ≠ q) :
    Calls Tryz.prog 224 #[.pointer (some ⟨b, 0, none⟩), .slice (some ⟨g, off, none⟩) n cap] W (TmRet b p q hv (t.seq r) W) := by
  have q1 := par1_bd r
  have q2 := par2_bd r (par1 r) q1.1 q1.2.1 q1.2.2
  have S1 := seq_32 t r
  have S2 := seq_wait t r
  have S3 := seq_no t r
  have S4 := seq_mid t r
  have S5 := seq_obey t r
  obtain ⟨I1, hI1⟩ : ∃ I1, I1 = par1 r := ⟨_, rfl⟩
  rw [← hI1] at q1 q2 S1 S2 S3 S4 S5
  obtain ⟨I2, hI2⟩ : ∃ I2, I2 = par2 r I1 := ⟨_, rfl⟩
  rw [← hI2] at q2 S1 S2 S3 S4 S5
  have HI1 : Hid (I1 = 2 + min (spanN parB (r.drop (2 - 2))) (32 - 2)) := Lib.hid hI1
  have HI2 : Hid (I2 = I1 + min (spanN midB (r.drop (I1 - 2))) (32 - I1)) := Lib.hid (by rw [hI2]; unfold par2; omega)
  obtain ⟨z, hz⟩ : ∃ z, z = t.seq r := ⟨_, rfl⟩
  rw [← hz] at S1 S2 S3 S4 S5 ⊢
  rw [hn] at q1 q2 S2 S3 S4 S5
  replace S1 := Lib.hid S1
  replace S2 := Lib.hid S2
  replace S3 := Lib.hid S3
  replace S4 := Lib.hid S4
  replace S5 := Lib.hid S5
  have HP := Lib.hid (fun k (hk : k < r.length) => span_at parB r k hk)
  have HM := Lib.hid (fun k (hk : k < r.length) => span_at midB r k hk)
  have HPE := Lib.hid (fun k (hk : r.length ≤ k) => span_end parB r k hk)
  have HME := Lib.hid (fun k (hk : r.length ≤ k) => span_end midB r k hk)
  have HN := Lib.hid hn
  have AA := Lib.hid a
  have OK := Lib.hid ok
  have HB := Lib.hid hB
  obtain ⟨hc1, hc2⟩ := hc
  obtain ⟨q11, q12, q13⟩ := q1
  obtain ⟨q21, q22, q23⟩ := q2
  clear hz hI1 hI2 a ok hB hn
  go_enter Tryz.func224, Tryz.ntmps224
  go_upto_block 0 with (fail)
  go_cut [5] (fun i wx => i = .int .i64 I1 ∧ W = wx)
  case first =>
    go_wp2
    go_loop [5] (fun i => ∃ k : Nat, 2 ≤ k ∧ k ≤ 32 ∧ k ≤ n ∧ i = .int .i64 k ∧ Hid (I1 = k + min (spanN parB (r.drop (k - 2))) (32 - k))) (fun i => 32 - (intOf i).toNat)
    case atStart => exact ⟨2, by omega, by omega, by omega, rfl, HI1⟩
    case round =>
      obtain ⟨k, hk2, hk32, hkn, rfl, hf⟩ := hrel
      by_cases hlt : k < n
      · by_cases h32 : k < 32
        · have hc0 := HB.out.at2 hk2 (by rw [HN.out]; exact hlt)
          have hsp := HP.out (k - 2) (by have := HN.out; omega)
          rw [parB_nat] at hsp
          obtain ⟨x, hx⟩ : ∃ x, x = (nth 0 r (k - 2)).toNat := ⟨_, rfl⟩
          rw [← hx] at hsp hc0
          have CB := fun w => between_any (x : Int) 48 63 w
          obtain ⟨y, hy⟩ : ∃ y, y = decide ((48 : Int) ≤ x ∧ (x : Int) ≤ 63) := ⟨_, rfl⟩
          rw [← hy] at CB hsp
          replace CB := Lib.hid CB
          have HS := Lib.hid hsp
          clear hsp hx hy
          cases y with
          | true =>
            have HF : Hid (I1 = (k + 1) + min (spanN parB (r.drop (k + 1 - 2))) (32 - (k + 1))) := Lib.hid (by
              have h1 := HS.out
              rw [if_pos rfl, show k - 2 + 1 = k + 1 - 2 by omega] at h1
              have h2 := hf.out
              omega)
            go_wp2_with (go_at_call 258; refine (CB.out _).mono ?_; rintro e w1 ⟨rfl, rfl⟩)
            go_round
            case rel => exact ⟨k + 1, by omega, by omega, by omega, by go_num, HF⟩
            case measure => simp [intOf]; omega
          | false =>
            have HF : Hid (I1 = k) := Lib.hid (by
              have h1 := HS.out
              rw [if_neg (by simp)] at h1
              have h2 := hf.out
              omega)
            go_wp2_with (go_at_call 258; refine (CB.out _).mono ?_; rintro e w1 ⟨rfl, rfl⟩)
            go_meet
            exact ⟨by rw [HF.out], rfl⟩
        · have HF : Hid (I1 = k) := Lib.hid (by have h2 := hf.out; omega)
          go_wp2
          go_meet
          exact ⟨by rw [HF.out], rfl⟩
      · have HF : Hid (I1 = k) := Lib.hid (by
          have h1 := HPE.out (k - 2) (by have := HN.out; omega)
          have h2 := hf.out
          omega)
        go_wp2
        go_meet
        exact ⟨by rw [HF.out], rfl⟩
  case rest =>
    obtain ⟨rfl, rfl⟩ := hcut
    refine (‹∀ (a : Act) (w : World), Code.wp Tryz.prog _ _ a w → _›) _ _ ?_
    go_upto_block 2 with (fail)
    go_cut [5, 6] (fun i m wx => i = .int .i64 I2 ∧ m = .int .i64 I1 ∧ W = wx)
    case first =>
      go_wp2
      go_loop [5] (fun i => ∃ k : Nat, 2 ≤ k ∧ k ≤ 32 ∧ k ≤ n ∧ i = .int .i64 k ∧ Hid (I2 = k + min (spanN midB (r.drop (k - 2))) (32 - k))) (fun i => 32 - (intOf i).toNat)
      case atStart => exact ⟨I1, by omega, by omega, by omega, rfl, HI2⟩
      case round =>
        obtain ⟨k, hk2, hk32, hkn, rfl, hf⟩ := hrel
        by_cases hlt : k < n
        · by_cases h32 : k < 32
          · have hc0 := HB.out.at2 hk2 (by rw [HN.out]; exact hlt)
            have hsp := HM.out (k - 2) (by have := HN.out; omega)
            rw [midB_nat] at hsp
            obtain ⟨x, hx⟩ : ∃ x, x = (nth 0 r (k - 2)).toNat := ⟨_, rfl⟩
            rw [← hx] at hsp hc0
            have CB := fun w => between_any (x : Int) 32 47 w
            obtain ⟨y, hy⟩ : ∃ y, y = decide ((32 : Int) ≤ x ∧ (x : Int) ≤ 47) := ⟨_, rfl⟩
            rw [← hy] at CB hsp
            replace CB := Lib.hid CB
            have HS := Lib.hid hsp
            clear hsp hx hy
            cases y with
            | true =>
              have HF : Hid (I2 = (k + 1) + min (spanN midB (r.drop (k + 1 - 2))) (32 - (k + 1))) := Lib.hid (by
                have h1 := HS.out
                rw [if_pos rfl, show k - 2 + 1 = k + 1 - 2 by omega] at h1
                have h2 := hf.out
                omega)
              go_wp2_with (go_at_call 258; refine (CB.out _).mono ?_; rintro e w1 ⟨rfl, rfl⟩)
              go_round
              case rel => exact ⟨k + 1, by omega, by omega, by omega, by go_num, HF⟩
              case measure => simp [intOf]; omega
            | false =>
              have HF : Hid (I2 = k) := Lib.hid (by
                have h1 := HS.out
                rw [if_neg (by simp)] at h1
                have h2 := hf.out
                omega)
              go_wp2_with (go_at_call 258; refine (CB.out _).mono ?_; rintro e w1 ⟨rfl, rfl⟩)
              go_meet
              exact ⟨by rw [HF.out], rfl, rfl⟩
          · have HF : Hid (I2 = k) := Lib.hid (by have h2 := hf.out; omega)
            go_wp2
            go_meet
            exact ⟨by rw [HF.out], rfl, rfl⟩
        · have HF : Hid (I2 = k) := Lib.hid (by
            have h1 := HME.out (k - 2) (by have := HN.out; omega)
            have h2 := hf.out
            omega)
          go_wp2
          go_meet
          exact ⟨by rw [HF.out], rfl, rfl⟩
    case rest =>
      obtain ⟨rfl, rfl, rfl⟩ := hcut
      refine (‹∀ (a : Act) (w : World), Code.wp Tryz.prog _ _ a w → _›) _ _ ?_
      have aW := AA.out
      obtain ⟨c0, c1, c2, c3, c4, c5, c6, c7, c8, c9, c10, c11, c12, c13, c14, c15, c16, fz⟩ := aW.cells
      have aO := aW.put 14 (.bool false) hv t.off rfl rfl rfl rfl
      have oO := set_only W b 14 (.bool false)
      by_cases h32 : I2 = 32
      · have HZ := Lib.hid (S1.out h32)
        subst h32
        clear HI2
        go_wp2
        go_ret
        rw [HZ.out]
        exact ⟨rfl, aO, oO.ob⟩
      have hlt : I2 < 32 := by omega
      have n32 : ((I2 : Int) == 32) = false := by simp; omega
      by_cases hen : I2 = n
      · have HZ := Lib.hid (S2.out hlt hen)
        have een : ((I2 : Int) == (n : Int)) = true := by simp; omega
        clear hen h32
        go_wp2
        go_ret
        rw [HZ.out]
        exact ⟨rfl, aW, Only.refl _ _⟩
      have hltn : I2 < n := by omega
      have nen : ((I2 : Int) == (n : Int)) = false := by simp; omega
      have hc0 := HB.out.at2 (k := I2) (by omega) (by rw [HN.out]; exact hltn)
      have hgl := HB.out.lt
      have hc1' : (W.setCell ⟨b, 14, none⟩ (.bool false)).cell? ⟨g, off + I2, none⟩ = some (.int .u8 ((nth 0 r (I2 - 2)).toNat : Int)) := (cell_block (set_other _ _ _ _ _ hgb)).trans hc0
      have hBO : Bys (W.setCell ⟨b, 14, none⟩ (.bool false)) g off (c :: d :: r) := HB.out.of_block (set_other _ _ _ _ _ hgb) (by simp [World.setCell])
      have hen1 := endB_nat (nth 0 r (I2 - 2))
      have hx256 := (nth 0 r (I2 - 2)).toNat_lt
      obtain ⟨x, hx⟩ : ∃ x, x = (nth 0 r (I2 - 2)).toNat := ⟨_, rfl⟩
      rw [← hx] at hc0 hc1' hen1 hx256
      have CB := fun w => between_any (x : Int) 64 126 w
      obtain ⟨y, hy⟩ : ∃ y, y = decide ((64 : Int) ≤ x ∧ (x : Int) ≤ 126) := ⟨_, rfl⟩
      rw [← hy] at CB hen1
      replace CB := Lib.hid CB
      have HX := Lib.hid hx
      clear h32 hen hy hx
      cases y with
      | false =>
        have HZ := Lib.hid (S3.out hlt hltn hen1)
        clear hen1
        go_wp2_with (go_at_call 258; refine (CB.out _).mono ?_; rintro e w1 ⟨rfl, rfl⟩)
        go_ret
        rw [HZ.out]
        exact ⟨rfl, aO, oO.ob⟩
      | true =>
        by_cases hm : I1 = I2
        · have HZ := Lib.hid (S5.out hlt hltn hen1 hm)
          rw [← HX.out] at HZ
          subst hm
          have okO : TO0 t.off := ⟨OK.out.w1, OK.out.w2, OK.out.h1, OK.out.h2, OK.out.ok, OK.out.ro, OK.out.row, OK.out.col⟩
          obtain ⟨V, hV⟩ : ∃ V, W.setCell ⟨b, 14, none⟩ (.bool false) = V := ⟨_, rfl⟩
          rw [hV] at aO oO hc1' hBO
          have hVs : V.heap.size = W.heap.size := by rw [← hV]; simp [World.setCell]
          have HV := Lib.hid hV
          have hlen : r.length + 2 = n := HN.out
          have hbt : Bys V g (off + 2) (r.take (I1 - 2)) := ⟨hBO.lt, fun j hj => by
            rw [List.length_take] at hj
            have := hBO.at2 (k := j + 2) (by omega) (by omega)
            rw [show off + (j + 2) = off + 2 + j by omega, show j + 2 - 2 = j by omega] at this
            rw [this]
            simp only [nth, List.getD_eq_getElem?_getD]
            rw [List.getElem?_take_of_lt (by omega)]⟩
          have dB : Below V.heap.size V V.drew := (Below.refl _ _).drew
          have CO := Lib.hid (pobey_any (cap := cap - 2) (m := I1 - 2) (aO.below dB) okO (hbt.below dB) (by rw [List.length_take]; omega) (by omega) (by omega) hgb x hx256)
          have hcap : ¬ cap = 2 := by omega
          have hI2 : (2 : Int) ≤ (I1 : Int) := by omega
          have hIc : (I1 : Int) ≤ (cap : Int) := by omega
          clear hen1 hV okO hbt hlen
          go_upto_region 16 with (go_at_call 258; refine (CB.out _).mono ?_; rintro e w1 ⟨rfl, rfl⟩)
          rw [HV.out]
          have hblk : V.heap[g]? = V.heap[g]? := rfl
          go_wp2_with fail
          refine wp_region_mix2 [(true, 0), (true, 1), (true, 2), (true, 3), (true, 4), (true, 5), (true, 6), (true, 7), (false, 8)] (fun w' => w'.heap[g]? = V.heap[g]?) (by kernel_rfl) (by kernel_rfl) (by rfl) (by kernel_rfl) (by kernel_rfl) (fun _ _ d _ _ h => by cases d <;> exact h) rfl ?_
          simp only [mixL, List.getElem?_cons_succ, List.getElem?_cons_zero]
          repeat (refine' wpMix2_read (v := _) rfl ?_ ?_; rotate_left 1; (intro w' hw'; have d1' := (cell_block (o := off + I1) hw').trans hc1'; go_simp; try with_reducible rfl); try simp only [Act.put, List.setIfInBounds_toArray, List.set_cons_zero, List.set_cons_succ])
          refine wpMix2_act (fun K hK => ?_)
          go_wp2_with fail
          refine (CO.out).mono ?_
          rintro e w3 ⟨rfl, a3, o3⟩
          go_wp2
          refine hK _ _ (o3.block g (by show g < V.heap.size; omega) (by simp; exact ⟨hgb, hgq⟩)) ?_
          clear hK K
          refine wpMix2_nil ?_
          go_wp2
          go_ret
          rw [HZ.out]
          exact ⟨rfl, a3, oO.ob.trans ((Only.on dB).trans o3)⟩
        · have HZ := Lib.hid (S4.out hlt hltn hen1 hm)
          have nm : ((I1 : Int) == (I2 : Int)) = false := by simp; omega
          clear hen1 hm
          go_wp2_with (go_at_call 258; refine (CB.out _).mono ?_; rintro e w1 ⟨rfl, rfl⟩)
          go_ret
          rw [HZ.out]
          exact ⟨rfl, aO, oO.ob⟩
end Go.Proofs.YtekodpcedjpnjaaGreat
namespace Go.Proofs.YtekodpcedjpnjaaGreat
set_option linter.unusedVariables false
set_option linter.unusedSimpArgs false
open Go.RowKit Go.Shelf Go.Maps
theorem TOk.to0 {t : TS} (k : TOk t) : TO0 t := k.toTO0
set_option maxRecDepth 100000 in
set_option maxHeartbeats 8000000 in
theorem pescape_any {W : World} {b p q : Nat} {hv : Value} {t : TS} (a : TmAt W b p q hv t) (ok : TO0 t) {g off n cap : Nat} {c : UInt8} {r : List UInt8} (hc27 : c.toNat = 27) (hB : Bys W g off (c :: r)) (hn : r.length + 1 = n) (hn2 : n ≤ 1000000) (hc : n ≤ cap ∧ cap ≤ 9223372036854775807) (hgb : g ≠ b) (hgq : g ≠ q) :
    Calls Tryz.prog 183 #[.pointer (some ⟨b, 0, none⟩), .slice (some ⟨g, off, none⟩) n cap] W (TmRet b p q hv (t.first (c :: r)) W) := by
  obtain ⟨z, hz⟩ : ∃ z, z = t.first (c :: r) := ⟨_, rfl⟩
  rw [← hz]
  unfold TS.first at hz
  dsimp only at hz
  rw [if_pos hc27] at hz
  have aO := a.put 14 (.bool false) hv t.off rfl rfl rfl rfl
  have oO := set_only W b 14 (.bool false)
  have AA := Lib.hid a
  cases r with
  | nil =>
    obtain rfl : n = 1 := by simpa using hn.symm
    have HZ := Lib.hid hz
    clear hz hn a hB hc27
    go_enter Tryz.func183, Tryz.ntmps183
    go_wp2
    go_ret
    rw [HZ.out]
    exact ⟨rfl, AA.out, Only.refl _ _⟩
  | cons d r' =>
    dsimp only at hz
    have hn' : r'.length + 2 = n := by simpa using hn
    have hx0 := hB.at_ 1 (by simp)
    replace hx0 : W.cell? ⟨g, off + 1, none⟩ = some (.int .u8 (d.toNat : Int)) := hx0
    have hgl := hB.lt
    have hd256 := d.toNat_lt
    have hnn : ((n : Int) == 1) = false := by simp; omega
    have h1n : (1 : Int) < (n : Int) := by omega
    by_cases h91 : d.toNat = 91
    · rw [if_pos h91] at hz
      rw [h91] at hx0
      have CS := psequence_any a ok hB hn' hn2 hc hgb hgq
      rw [← hz] at CS
      replace CS := Lib.hid CS
      replace hx0 : W.cell? ⟨g, off + 1, none⟩ = some (.int .u8 91) := hx0
      clear hz hn hn' a hB hc27 h91
      go_enter Tryz.func183, Tryz.ntmps183
      go_wp2_with (go_at_call 224; refine (CS.out).mono ?_; rintro e w3 ⟨rfl, a3, o3⟩)
      go_ret
      exact ⟨rfl, a3, o3⟩
    · rw [if_neg h91] at hz
      obtain ⟨c0, c1, c2, c3, c4, c5, c6, c7, c8, c9, c10, c11, c12, c13, c14, c15, c16, fz⟩ := a.cells
      have hx1 : (W.setCell ⟨b, 14, none⟩ (.bool false)).cell? ⟨g, off + 1, none⟩ = some (.int .u8 (d.toNat : Int)) := (cell_block (set_other _ _ _ _ _ hgb)).trans hx0
      obtain ⟨x, hx⟩ : ∃ x, x = d.toNat := ⟨_, rfl⟩
      rw [← hx] at hx0 hx1 h91 hz hd256
      have nx : ((x : Int) == 91) = false := by simp; omega
      have HZ := Lib.hid hz
      clear hz hn hn' a hB hc27 h91 hx
      go_enter Tryz.func183, Tryz.ntmps183
      go_wp2
      all_goals
        go_ret
        rw [HZ.out]
        refine ⟨?_, aO, oO.ob⟩
        first
          | (rw [if_pos (by omega)]; rfl)
          | (rw [if_neg (by omega)]; rfl)
theorem first_ctl (t : TS) (c : UInt8) (r : List UInt8) (h27 : c.toNat ≠ 27) (h : c.toNat < 32 ∨ c.toNat = 127) : t.first (c :: r) = (t.control c.toNat, 1) := by
  unfold TS.first
  dsimp only
  rw [if_neg h27, if_pos h]
theorem first_more (t : TS) (c : UInt8) (r : List UInt8) (h27 : c.toNat ≠ 27) (h : ¬ (c.toNat < 32 ∨ c.toNat = 127)) (hm : moreL (c :: r) = true) : t.first (c :: r) = (t, 0) := by
  unfold TS.first
  dsimp only
  rw [if_neg h27, if_neg h, if_pos hm]
theorem first_one (t : TS) (c : UInt8) (r : List UInt8) (h27 : c.toNat ≠ 27) (h : ¬ (c.toNat < 32 ∨ c.toNat = 127)) (hm : moreL (c :: r) = false) : t.first (c :: r) = (t.rune (stepL (c :: r)).1, (stepL (c :: r)).2) := by
  unfold TS.first
  dsimp only
  rw [if_neg h27, if_neg h, if_neg (by rw [hm]; simp)]
set_option maxRecDepth 100000 in
set_option maxHeartbeats 8000000 in
theorem ptake_any {W : World} {b p q : Nat} {hv : Value} {t : TS} (a : TmAt W b p q hv t) (ok : TOk t) (hg : t.gone < 4611686018427387904) (hbl : t.bells < 4611686018427387904) {g off n cap : Nat} {c : UInt8} {r : List UInt8} (hB : Bys W g off (c :: r)) (hn : r.length + 1 = n) (hn2 : n ≤ 1000000) (hc : n ≤ cap ∧ cap ≤ 9223372036854775807) (hgb : g ≠ b) (hgq : g ≠ q) :
    Calls Tryz.prog 112 #[.pointer (some ⟨b, 0, none⟩), .slice (some ⟨g, off, none⟩) n cap] W (TmRet b p q hv (t.first (c :: r)) W) := by
  have hx0 := hB.at_ 0 (by simp)
  rw [Nat.add_zero] at hx0
  replace hx0 : W.cell? ⟨g, off, none⟩ = some (.int .u8 (c.toNat : Int)) := hx0
  have hn0 : (0 : Int) < (n : Int) := by omega
  have hc256 := c.toNat_lt
  have AA := Lib.hid a
  by_cases h27 : c.toNat = 27
  · have CE := Lib.hid (pescape_any a ok.to0 h27 hB hn hn2 hc hgb hgq)
    rw [h27] at hx0
    replace hx0 : W.cell? ⟨g, off, none⟩ = some (.int .u8 27) := hx0
    obtain ⟨z, hz⟩ : ∃ z, z = t.first (c :: r) := ⟨_, rfl⟩
    rw [← hz] at CE ⊢
    clear hz hn a hB h27 ok
    go_enter Tryz.func112, Tryz.ntmps112
    go_wp2_with (go_at_call 183; refine (CE.out).mono ?_; rintro e w3 ⟨rfl, a3, o3⟩)
    go_ret
    exact ⟨rfl, a3, o3⟩
  by_cases hct : c.toNat < 32 ∨ c.toNat = 127
  · rw [first_ctl t c r h27 hct]
    have CC := pcontrol_any a ok.to0 hg hbl c.toNat (by omega)
    obtain ⟨x, hx⟩ : ∃ x, x = c.toNat := ⟨_, rfl⟩
    rw [← hx] at CC hx0 h27 hct hc256 ⊢
    replace CC := Lib.hid CC
    have nx : ((x : Int) == 27) = false := by simp; omega
    clear hx h27 hn a hB ok
    by_cases h127 : (x : Int) < 32
    all_goals
      have h3 : ((x : Int) == 127) = decide (¬ (x : Int) < 32) := by
        rw [Bool.eq_iff_iff, beq_iff_eq, decide_eq_true_eq]; omega
      simp only [h127, not_true_eq_false, not_false_eq_true, decide_true, decide_false] at h3
      clear hct
      go_enter Tryz.func112, Tryz.ntmps112
      go_wp2_with (go_at_call 184; refine (CC.out).mono ?_; rintro e w3 ⟨rfl, a3, o3⟩)
      go_ret
      exact ⟨rfl, a3, o3⟩
  · have CN := next_any c r g off cap W (by rw [List.length_cons]; omega) hB
    rw [show (c :: r).length = n by simpa using hn] at CN
    replace CN := Lib.hid CN
    have HM := Lib.hid (first_more t c r h27 hct)
    have HO := Lib.hid (first_one t c r h27 hct)
    have CR := Lib.hid (fun (X : World) (hX : Below W.heap.size W X) (k : Nat) (hk : k ≤ 1114111) (hi : isR (k : Int) = true) => prune_any (a.below hX) ok hg k hk hi)
    have HI := Lib.hid (stepL_isR (c :: r))
    obtain ⟨x, hx⟩ : ∃ x, x = c.toNat := ⟨_, rfl⟩
    rw [← hx] at hx0 h27 hct hc256
    have nx : ((x : Int) == 27) = false := by simp; omega
    have n127 : ((x : Int) == 127) = false := by simp; omega
    have n32 : ¬ (x : Int) < 32 := by omega
    obtain ⟨l, hl⟩ : ∃ l, l = c :: r := ⟨_, rfl⟩
    rw [← hl] at CN HM HO HI ⊢
    clear hx h27 hct hn a hB ok hl
    go_enter Tryz.func112, Tryz.ntmps112
    go_wp2_with fail
    refine (CN.out).mono ?_
    rintro e w3 ⟨⟨rr, nn, m, rfl, hh⟩, hb3⟩
    rcases hh with ⟨rfl, _, hm⟩ | ⟨rfl, hr, hnn, hm⟩
    · have HZ := Lib.hid (HM.out hm)
      clear hm
      go_wp2
      go_ret
      rw [HZ.out]
      exact ⟨rfl, AA.out.below hb3, Only.on hb3⟩
    · have HZ := Lib.hid (HO.out hm)
      have hi := HI.out
      obtain ⟨k, hk⟩ : ∃ k, k = (stepL l).1 := ⟨_, rfl⟩
      rw [← hk] at hr hi HZ
      rw [← hnn] at HZ
      have hk2 : k ≤ 1114111 := by
        have := (isR_iff k).1 hi
        omega
      have CR2 := Lib.hid (CR.out w3 hb3 k hk2 hi)
      clear hm hk hnn CR hi
      subst hr
      go_wp2_with (go_at_call 186; refine (CR2.out).mono ?_; rintro e w4 ⟨rfl, a4, o4⟩)
      go_ret
      rw [HZ.out]
      exact ⟨rfl, a4, (Only.on hb3).trans o4⟩
end Go.Proofs.YtekodpcedjpnjaaGreat
