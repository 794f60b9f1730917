/- The reference's terminal: sequence. No condition. The reference's terminal: rune1, but for joins. No condition. The reference's terminal: rune1, joins. The reference's terminal: rune1 whole, first. No condition. The reference's terminal: Write. No condition but that the counters are not at their ends and the bytes not too many. The reference's terminal: New. The reference's grid: Text. No condition but that the rows' strings are not too long. The law's comparison of the program's terminal with the reference's: shows is true where both stand as the same state. No condition. -/
import Derived.Test.YtekodpcedjpnjaaGreatRC02
import Derived.Test.YtekodpcedjpnjaaGreatRC04
import Derived.Test.YtekodpcedjpnjaaGreatRC07
import Derived.Test.YtekodpcedjpnjaaGreatRC13
import Derived.Test.YtekodpcedjpnjaaGreatRC15
import Derived.Test.YtekodpcedjpnjaaGreatRC17
import Derived.Test.YtekodpcedjpnjaaGreatRC24
import Derived.Test.YtekodpcedjpnjaaGreatRC43
import Derived.Test.YtekodpcedjpnjaaGreatRC44
import Derived.Test.YtekodpcedjpnjaaGreatRC45
import Derived.Test.YtekodpcedjpnjaaGreatRC47
import Derived.Test.YtekodpcedjpnjaaGreatRC48
set_option linter.unusedVariables false
set_option linter.unusedSimpArgs false
namespace Go.Proofs.YtekodpcedjpnjaaGreat
open Go.RowKit Go.Shelf Go.Maps
theorem TO0.off {t : TS} (k : TO0 t) : TO0 t.off := { w1 := k.w1, w2 := k.w2, h1 := k.h1, h2 := k.h2, ok := k.ok, ro := k.ro, row := k.row, col := k.col }
def TPost2 (F : Nat → Prop) (x : TS × Nat) (bv : Value) (W : World) (e : Ending) (w' : World) : Prop := ∃ a c, e = .returned (.tuple #[.agg (tCells a c x.1 bv), .int .i64 (x.2 : Nat)]) ∧ RG F w' a c x.1.W x.1.H x.1.R ∧ Below W.heap.size W w'
set_option maxRecDepth 100000 in
theorem tret2 {fn : Func} {p u : Tmp} {R : Ending → World → Prop} {act : Act} {w : World} {b : Nat} {a : Option Addr} {cap : Nat} {t : TS} {bv v : Value} (h : fn.results = #[.cell p 63, .tmp u]) (hp : act.tmps.getD p undef = .pointer (some ⟨b, 0, none⟩)) (hu : act.tmps.getD u undef = v) (hb : TBx w b (tCells a cap t bv)) (hd : act.defers = []) (hR : R (.returned (.tuple #[.agg (tCells a cap t bv), v])) w) :
    bodyPost Tryz.prog fn R Exit.ret act w := by
  subst hu
  refine bodyPost_ret (results_row2 h _ _ b _ hp (hb.load rfl)) hd ?_
  exact hR
theorem tpost2 {F : Nat → Prop} {x : TS × Nat} {bv : Value} {W w' : World} {a : Option Addr} {c : Nat} {v : Value} (hv : v = .int .i64 (x.2 : Nat)) (hg : RG F w' a c x.1.W x.1.H x.1.R) (hb : Below W.heap.size W w') : TPost2 F x bv W (.returned (.tuple #[.agg (tCells a c x.1 bv), v])) w' := ⟨a, c, by rw [hv], hg, hb⟩
set_option maxRecDepth 100000 in
set_option maxHeartbeats 8000000 in
theorem rsequence_any {F : Nat → Prop} {W : World} (hF : ∀ b, W.heap.size ≤ b → F b) {a : Option Addr} {cap : Nat} {t : TS} {bv : Value} (h1 : OneV bv) (ok : TO0 t) (gR : RG F W a cap t.W t.H t.R) {g off n cb : Nat} {c d : UInt8} {r : List UInt8} (hB : Bys W g off (c :: d :: r)) (hn : r.length + 2 = n) (hn2 : n ≤ 10000000) (hcb : n ≤ cb) :
    Calls Tryz.prog 176 #[.agg (tCells a cap t bv), .slice (some ⟨g, off, none⟩) n cb] W (TPost2 F (t.seq r) bv W) := by
  obtain ⟨I1, hI1⟩ : ∃ I1, I1 = 2 + spanN parB r := ⟨_, rfl⟩
  obtain ⟨I2, hI2⟩ : ∃ I2, I2 = I1 + spanN midB (r.drop (I1 - 2)) := ⟨_, rfl⟩
  have q1 : 2 ≤ I1 ∧ I1 ≤ n := by have := spanN_le parB r; omega
  have q2 : I1 ≤ I2 ∧ I2 ≤ n := by
    have h := spanN_le midB (r.drop (I1 - 2))
    rw [List.length_drop] at h
    omega
  have hz0 : t.seq r = if 32 ≤ I2 then (t.off, 32) else if I2 = n then (t, 0) else if endB (nth 0 r (I2 - 2)) then (if I1 = I2 then t.off.obey (r.take (I1 - 2)) (nth 0 r (I1 - 2)).toNat else t.off, I2 + 1) else (t.off, I2) := by
    have e1 : spanN parB r = I1 - 2 := by omega
    have e2 : spanN midB (r.drop (I1 - 2)) = I2 - I1 := by omega
    unfold TS.seq
    simp only [e1, e2]
    rw [show 2 + (I1 - 2) + (I2 - I1) = I2 by omega, show I1 - 2 + (I2 - I1) = I2 - 2 by omega, hn]
    by_cases h : I1 = I2
    · rw [if_pos (show I2 - I1 = 0 by omega), if_pos h]
    · rw [if_neg (show ¬ I2 - I1 = 0 by omega), if_neg h]
  have HI1 : Hid (I1 = 2 + spanN parB (r.drop (2 - 2))) := Lib.hid hI1
  have HI2 : Hid (I2 = I1 + spanN midB (r.drop (I1 - 2))) := Lib.hid hI2
  obtain ⟨z, hz⟩ : ∃ z, z = t.seq r := ⟨_, rfl⟩
  rw [← hz] at hz0 ⊢
  have HZ := Lib.hid hz0
  have HP := Lib.hid (fun k (hk : k < r.length) => span_at parB r k hk)
  have HM := Lib.hid (fun k (hk : k < r.length) => span_at midB r k hk)
  have HPE := Lib.hid (fun k (hk : r.length ≤ k) => span_end parB r k hk)
  have HME := Lib.hid (fun k (hk : r.length ≤ k) => span_end midB r k hk)
  have HN := Lib.hid hn
  have OK := Lib.hid ok
  have HB0 := Lib.hid hB
  have HG := Lib.hid gR
  obtain ⟨q11, q13⟩ := q1
  obtain ⟨q21, q23⟩ := q2
  clear hz hz0 hI1 hI2 ok hB hn gR
  go_enter Tryz.func176, Tryz.ntmps176
  go_upto_region 0 with (fail)
  go_cut [2, 4, 5] (fun u v y wx => u = .pointer (some ⟨W.heap.size, 0, none⟩) ∧ v = .pointer (some ⟨W.heap.size + 1, 0, none⟩) ∧ y = .int .i64 0 ∧ TIn W (tCells a cap t bv) wx)
  case first =>
    go_wp2
    go_meet
    exact ⟨rfl, rfl, rfl, tin W _⟩
  case rest =>
    obtain ⟨rfl, rfl, rfl, p1, p2, bX, sX⟩ := hcut
    have HB := Lib.hid (HB0.out.below bX)
    go_upto_block 0 with (fail)
    go_cut [6] (fun i wx => i = .int .i64 I1 ∧ wc = wx)
    case first =>
      go_wp2
      go_loop [6] (fun i => ∃ k : Nat, 2 ≤ k ∧ k ≤ n ∧ i = .int .i64 k ∧ Hid (I1 = k + spanN parB (r.drop (k - 2)))) (fun i => n - (intOf i).toNat)
      case atStart => exact ⟨2, by omega, by omega, rfl, HI1⟩
      case round =>
        obtain ⟨k, hk2, hkn, rfl, hf⟩ := hrel
        by_cases hlt : k < n
        · have hc0 := HB.out.at2 hk2 (by rw [HN.out]; exact hlt)
          have hsp := HP.out (k - 2) (by have := HN.out; omega)
          rw [parB_nat] at hsp
          obtain ⟨x, hx⟩ : ∃ x, x = (nth 0 r (k - 2)).toNat := ⟨_, rfl⟩
          rw [← hx] at hsp hc0
          clear hx
          by_cases hy : (48 : Int) ≤ (x : Int) ∧ (x : Int) ≤ 63
          · rw [decide_eq_true hy, if_pos rfl, show k - 2 + 1 = k + 1 - 2 by omega] at hsp
            have HF : Hid (I1 = (k + 1) + spanN parB (r.drop (k + 1 - 2))) := Lib.hid (by
              have h2 := hf.out
              omega)
            clear hsp
            obtain ⟨hy1, hy2⟩ := hy
            go_wp2
            go_round
            case rel => exact ⟨k + 1, by omega, by omega, by go_num, HF⟩
            case measure => simp [intOf]; omega
          · rw [decide_eq_false hy, if_neg (by simp)] at hsp
            have HF : Hid (I1 = k) := Lib.hid (by
              have h2 := hf.out
              omega)
            clear hsp
            by_cases hy1 : (48 : Int) ≤ (x : Int)
            · have hy2 : ¬ (x : Int) ≤ 63 := by omega
              clear hy
              go_wp2
              go_meet
              exact ⟨by rw [HF.out], rfl⟩
            · clear hy
              go_wp2
              go_meet
              exact ⟨by rw [HF.out], rfl⟩
        · have HF : Hid (I1 = k) := Lib.hid (by
            have h1 := HPE.out (k - 2) (by have := HN.out; omega)
            have h2 := hf.out
            omega)
          go_wp2
          go_meet
          exact ⟨by rw [HF.out], rfl⟩
    case rest =>
      obtain ⟨rfl, rfl⟩ := hcut
      refine (‹∀ (a : Act) (w : World), Code.wp Tryz.prog _ _ a w → _›) _ _ ?_
      go_upto_block 2 with (fail)
      go_cut [6, 7] (fun i m wx => i = .int .i64 I2 ∧ m = .int .i64 I1 ∧ wc = wx)
      case first =>
        go_wp2
        go_loop [6] (fun i => ∃ k : Nat, 2 ≤ k ∧ k ≤ n ∧ i = .int .i64 k ∧ Hid (I2 = k + spanN midB (r.drop (k - 2)))) (fun i => n - (intOf i).toNat)
        case atStart => exact ⟨I1, by omega, by omega, rfl, HI2⟩
        case round =>
          obtain ⟨k, hk2, hkn, rfl, hf⟩ := hrel
          by_cases hlt : k < n
          · have hc0 := HB.out.at2 hk2 (by rw [HN.out]; exact hlt)
            have hsp := HM.out (k - 2) (by have := HN.out; omega)
            rw [midB_nat] at hsp
            obtain ⟨x, hx⟩ : ∃ x, x = (nth 0 r (k - 2)).toNat := ⟨_, rfl⟩
            rw [← hx] at hsp hc0
            clear hx
            by_cases hy : (32 : Int) ≤ (x : Int) ∧ (x : Int) ≤ 47
            · rw [decide_eq_true hy, if_pos rfl, show k - 2 + 1 = k + 1 - 2 by omega] at hsp
              have HF : Hid (I2 = (k + 1) + spanN midB (r.drop (k + 1 - 2))) := Lib.hid (by
                have h2 := hf.out
                omega)
              clear hsp
              obtain ⟨hy1, hy2⟩ := hy
              go_wp2
              go_round
              case rel => exact ⟨k + 1, by omega, by omega, by go_num, HF⟩
              case measure => simp [intOf]; omega
            · rw [decide_eq_false hy, if_neg (by simp)] at hsp
              have HF : Hid (I2 = k) := Lib.hid (by
                have h2 := hf.out
                omega)
              clear hsp
              by_cases hy1 : (32 : Int) ≤ (x : Int)
              · have hy2 : ¬ (x : Int) ≤ 47 := by omega
                clear hy
                go_wp2
                go_meet
                exact ⟨by rw [HF.out], rfl, rfl⟩
              · clear hy
                go_wp2
                go_meet
                exact ⟨by rw [HF.out], rfl, rfl⟩
          · have HF : Hid (I2 = k) := Lib.hid (by
              have h1 := HME.out (k - 2) (by have := HN.out; omega)
              have h2 := hf.out
              omega)
            go_wp2
            go_meet
            exact ⟨by rw [HF.out], rfl, rfl⟩
      case rest =>
        obtain ⟨rfl, rfl, rfl⟩ := hcut
        refine (‹∀ (a : Act) (w : World), Code.wp Tryz.prog _ _ a w → _›) _ _ ?_
        by_cases hA : I2 < 32 ∧ I2 = n
        · have HZ2 : Hid (z = (t, 0)) := Lib.hid (by rw [HZ.out, if_neg (by omega), if_pos hA.2])
          obtain ⟨hA1, hA2⟩ := hA
          subst hA2
          go_wp2_with (first
            | (refine wpList_tload rfl _ rfl W.heap.size rfl (tCells a cap t bv) ?_ rfl ?_; exact p1)
            | (refine wpList_tstore rfl _ _ rfl (W.heap.size + 1) rfl _ rfl zCells ?_ rfl rfl (tCells_one _ _ _ h1) ?_; exact p2; intro w7 p7 o7))
          have b7 : Below W.heap.size W w7 := bX.trans (o7.below (by simp) bX.size)
          refine tret2 rfl rfl rfl p7 rfl ?_
          rw [HZ2.out]
          exact tpost2 (by go_num) (HG.out.below b7) b7
        · obtain ⟨pA, oA⟩ := p1.set 16 (.bool false) (tCells a cap t.off bv) rfl
          have qA := p2.only oA (by simp)
          have bA := bX.trans (oA.below (by simp) bX.size)
          have fz := p1.tc.2.2.2.2.2.2.2.2.2.2.2.2.2.2.2.2.2.2.2
          have c16 := p1.tc.2.2.2.2.2.2.2.2.2.2.2.2.2.2.2.2.1
          by_cases h32 : 32 ≤ I2
          · have HZ2 : Hid (z = (t.off, 32)) := Lib.hid (by rw [HZ.out, if_pos h32])
            clear hA
            go_wp2_with (first
              | (refine wpList_tload rfl _ rfl W.heap.size rfl (tCells a cap t.off bv) ?_ rfl ?_; exact pA)
              | (refine wpList_tstore rfl _ _ rfl (W.heap.size + 1) rfl _ rfl zCells ?_ rfl rfl (tCells_one _ _ _ h1) ?_; exact qA; intro w7 p7 o7))
            have b7 : Below W.heap.size W w7 := bA.trans (o7.below (by simp) bA.size)
            refine tret2 rfl rfl rfl p7 rfl ?_
            rw [HZ2.out]
            exact tpost2 (by go_num) (HG.out.below b7) b7
          · have h32' : I2 < 32 := by omega
            have hnn : I2 < n := by omega
            have hne : ¬ I2 = n := by omega
            clear hA
            have hc0 := HB.out.at2 (show 2 ≤ I2 by omega) (by rw [HN.out]; exact hnn)
            obtain ⟨x, hx⟩ : ∃ x, x = (nth 0 r (I2 - 2)).toNat := ⟨_, rfl⟩
            rw [← hx] at hc0
            have hcA : (wc.setCell ⟨W.heap.size, 16, none⟩ (.bool false)).cell? ⟨g, off + I2, none⟩ = some (.int .u8 (x : Int)) := by
              have := (HB0.out.below bA).at2 (show 2 ≤ I2 by omega) (by rw [HN.out]; exact hnn)
              rw [this, ← hx]
            have hxe := endB_nat (nth 0 r (I2 - 2))
            rw [← hx] at hxe
            clear hx
            by_cases hE : (64 : Int) ≤ (x : Int) ∧ (x : Int) ≤ 126
            · rw [decide_eq_true hE] at hxe
              by_cases hmid : I1 = I2
              · have HZ2 : Hid (z = (t.off.obey (r.take (I1 - 2)) (nth 0 r (I1 - 2)).toNat, I2 + 1)) := Lib.hid (by rw [HZ.out, if_neg h32, if_neg hne, if_pos hxe, if_pos hmid])
                subst hmid
                obtain ⟨m, rfl⟩ : ∃ m, I1 = m + 2 := ⟨I1 - 2, by omega⟩
                obtain ⟨hE1, hE2⟩ := hE
                have hmr : m < r.length := by have := HN.out; omega
                have hbb : ∀ X, Below W.heap.size W X → Bys X g (off + 2) (r.take m ++ [nth 0 r m]) := fun X hX => by
                  have h := (HB0.out.below hX).tail.tail
                  refine ⟨h.lt, fun k hk => ?_⟩
                  rw [List.length_append, List.length_take, List.length_singleton] at hk
                  have h2 := h.at_ k (by omega)
                  rw [show off + 2 = off + 1 + 1 from rfl, h2]
                  have e1 : nth 0 (r.take m ++ [nth 0 r m]) k = nth 0 r k := by
                    unfold nth
                    rw [List.getD_eq_getElem?_getD, List.getD_eq_getElem?_getD, List.getD_eq_getElem?_getD]
                    rcases Nat.lt_or_ge k m with hkm | hkm
                    · rw [List.getElem?_append_left (by rw [List.length_take]; omega), List.getElem?_take_of_lt hkm]
                    · have ek : k = m := by omega
                      subst ek
                      rw [List.getElem?_append_right (by rw [List.length_take]; omega), List.length_take, show k - min k r.length = 0 by omega]
                      rfl
                  rw [e1]
                have CO := Lib.hid (fun (X : World) (hX : W.heap.size + 1 < X.heap.size) (bX : Below W.heap.size W X) => robeyed_any (F := fun b => F b ∧ b ≠ W.heap.size ∧ b ≠ W.heap.size + 1) (W := X) (cb := cb - 2) (n := m) (fun b hb => ⟨hF b (by omega), by omega, by omega⟩) h1 OK.out.off ((HG.out.mono (F' := fun b => F b ∧ b ≠ W.heap.size ∧ b ≠ W.heap.size + 1) (fun b h1 h2 => ⟨h1, by omega, by omega⟩)).below bX) (hbb X bX) (by rw [List.length_take]; omega) (by omega) (by omega))
                have HZ3 : Hid (z = (t.off.obey (r.take m) (nth 0 r m).toNat, m + 2 + 1)) := Lib.hid HZ2.out
                have hs1 : m + 2 + 1 ≤ cb := by omega
                have hs2 : (0 : Int) ≤ (m : Int) + 2 + 1 := by omega
                have hs3 : (m : Int) + 2 + 1 ≤ (cb : Int) := by omega
                have hs4 : (2 : Int) ≤ (m : Int) + 2 + 1 := by omega
                have hwr : IntKind.i64.wrap ((m : Int) + 2 + 1) = (m : Int) + 2 + 1 := by
                  unfold IntKind.wrap
                  simp [IntKind.signed, IntKind.bits]
                  omega
                clear hxe hbb HZ2
                go_wp2_with fail
                have dB : Below (wc.setCell ⟨W.heap.size, 16, none⟩ (.bool false)).heap.size (wc.setCell ⟨W.heap.size, 16, none⟩ (.bool false)) (wc.setCell ⟨W.heap.size, 16, none⟩ (.bool false)).drew := (Below.refl _ _).drew
                have uA := pA.below dB
                have vA := qA.below dB
                have b2 := bto bA dB bA.size
                have C1 := Lib.hid (CO.out _ vA.lt b2)
                refine wp_region_mixT 12 [(true, 0), (true, 1), (true, 2), (true, 3), (true, 4), (true, 6), (true, 7), (false, 5), (false, 8), (false, 9)] (fun X => TBx X W.heap.size (tCells a cap t.off bv)) (by kernel_rfl) (by kernel_rfl) (by rfl) (by kernel_rfl) (by kernel_rfl) (fun _ _ d _ _ h => by cases d <;> exact h) uA ?_
                simp only [mixL, List.getElem?_cons_succ, List.getElem?_cons_zero]
                refine' wpMix_read (v := .agg (tCells a cap t.off bv)) rfl ?_ ?_; (intro w' hw1; exact run_tload _ rfl W.heap.size rfl _ hw1 rfl)
                try simp only [Act.put, List.setIfInBounds_toArray, List.set_cons_zero, List.set_cons_succ]
                repeat (refine' wpMix_read (v := _) rfl ?_ ?_; rotate_left 1; (intro w' hw1; go_simp; try with_reducible rfl); try simp only [Act.put, List.setIfInBounds_toArray, List.set_cons_zero, List.set_cons_succ])
                refine wpMix_act (fun K hK => ?_)
                go_wp2_with fail
                refine (C1.out).mono ?_
                rintro e w2 ⟨a2, cap2, rfl, g2, hb3⟩
                have v1 := uA.below hb3
                have v2 := vA.below hb3
                have b3 := bto b2 hb3 b2.size
                go_wp2_with fail
                refine hK _ _ (fun _ => v1) ?_
                clear hK K
                refine wpMix_act (fun K hK => ?_)
                go_wp2_with (refine wpList_tstore rfl _ _ rfl (W.heap.size + 1) rfl _ rfl zCells ?_ rfl rfl (tCells_one _ _ _ h1) ?_; exact v2; intro w7 p7 o7)
                have v7 := v1.only o7 (by simp)
                refine hK _ _ (fun _ => v7) ?_
                clear hK K
                refine wpMix_act (fun K hK => ?_)
                go_wp2_with fail
                refine hK _ _ (fun h => absurd rfl h) ?_
                clear hK K
                refine wpMix_nil ?_
                go_wp2_with fail
                have b7 : Below W.heap.size W w7 := b3.trans (o7.below (by simp) b3.size)
                refine tret2 rfl rfl rfl p7 rfl ?_
                rw [HZ3.out]
                exact tpost2 (by go_num) ((g2.keep o7.size (fun b hb hlt => o7.block b hlt (by simpa using hb.2.2))).mono (fun b hb _ => hb.1)) b7
              · have HZ2 : Hid (z = (t.off, I2 + 1)) := Lib.hid (by rw [HZ.out, if_neg h32, if_neg hne, if_pos hxe, if_neg hmid])
                have hlt : I1 < I2 := by omega
                obtain ⟨hE1, hE2⟩ := hE
                clear hxe hmid
                go_wp2_with (first
                  | (refine wpList_tload rfl _ rfl W.heap.size rfl (tCells a cap t.off bv) ?_ rfl ?_; exact pA)
                  | (refine wpList_tstore rfl _ _ rfl (W.heap.size + 1) rfl _ rfl zCells ?_ rfl rfl (tCells_one _ _ _ h1) ?_; exact qA; intro w7 p7 o7))
                have b7 : Below W.heap.size W w7 := bA.trans (o7.below (by simp) bA.size)
                refine tret2 rfl rfl rfl p7 rfl ?_
                rw [HZ2.out]
                exact tpost2 (by go_num) (HG.out.below b7) b7
            · rw [decide_eq_false hE] at hxe
              have HZ2 : Hid (z = (t.off, I2)) := Lib.hid (by rw [HZ.out, if_neg h32, if_neg hne, if_neg (by rw [hxe]; simp)])
              clear hxe
              by_cases hE1 : (x : Int) < 64
              · clear hE
                go_wp2_with (first
                  | (refine wpList_tload rfl _ rfl W.heap.size rfl (tCells a cap t.off bv) ?_ rfl ?_; exact pA)
                  | (refine wpList_tstore rfl _ _ rfl (W.heap.size + 1) rfl _ rfl zCells ?_ rfl rfl (tCells_one _ _ _ h1) ?_; exact qA; intro w7 p7 o7))
                have b7 : Below W.heap.size W w7 := bA.trans (o7.below (by simp) bA.size)
                refine tret2 rfl rfl rfl p7 rfl ?_
                rw [HZ2.out]
                exact tpost2 (by go_num) (HG.out.below b7) b7
              · have hE2 : 126 < (x : Int) := by omega
                clear hE
                go_wp2_with (first
                  | (refine wpList_tload rfl _ rfl W.heap.size rfl (tCells a cap t.off bv) ?_ rfl ?_; exact pA)
                  | (refine wpList_tstore rfl _ _ rfl (W.heap.size + 1) rfl _ rfl zCells ?_ rfl rfl (tCells_one _ _ _ h1) ?_; exact qA; intro w7 p7 o7))
                have b7 : Below W.heap.size W w7 := bA.trans (o7.below (by simp) bA.size)
                refine tret2 rfl rfl rfl p7 rfl ?_
                rw [HZ2.out]
                exact tpost2 (by go_num) (HG.out.below b7) b7
end Go.Proofs.YtekodpcedjpnjaaGreat
namespace Go.Proofs.YtekodpcedjpnjaaGreat
open Go.RowKit Go.Shelf Go.Maps
set_option maxRecDepth 100000 in
set_option maxHeartbeats 8000000 in
theorem rrune_off {F : Nat → Prop} {W : World} {a : Option Addr} {cap : Nat} {t : TS} {bv : Value} (h1 : OneV bv) (g : RG F W a cap t.W t.H t.R) (r : Int) (hw : ¬ 0 < colsB r) (hj : joinB r = false) :
    Calls Tryz.prog 179 #[.agg (tCells a cap t bv), .int .i32 r] W (TPost F t.off bv W) := by
  have G := Lib.hid g
  have CW := Lib.hid (fun X => refOf_any r X)
  have CJ := Lib.hid (fun X => refMark3_any r X)
  obtain ⟨z, hz⟩ : ∃ z, z = colsB r := ⟨_, rfl⟩
  rw [← hz] at CW hw
  rw [hj] at CJ
  clear g hz hj
  go_enter Tryz.func179, Tryz.ntmps179
  go_upto_region 0 with (fail)
  go_cut [2, 4] (fun u v wx => u = .pointer (some ⟨W.heap.size, 0, none⟩) ∧ v = .pointer (some ⟨W.heap.size + 1, 0, none⟩) ∧ TIn W (tCells a cap t bv) wx)
  case first =>
    go_wp2
    go_meet
    exact ⟨rfl, rfl, tin W _⟩
  case rest =>
    obtain ⟨rfl, rfl, p1, p2, bX, sX⟩ := hcut
    go_wp2_with fail
    refine (CW.out _).mono ?_
    rintro e w1 ⟨rfl, hb1⟩
    replace p1 := p1.below hb1
    replace p2 := p2.below hb1
    have b1 : Below W.heap.size W w1 := bto bX hb1 bX.size
    go_wp2_with fail
    refine (CJ.out _).mono ?_
    rintro e w2 ⟨rfl, hb2⟩
    replace p1 := p1.below hb2
    replace p2 := p2.below hb2
    have b2 : Below W.heap.size W w2 := bto b1 hb2 b1.size
    have fz := p1.tc.2.2.2.2.2.2.2.2.2.2.2.2.2.2.2.2.2.2.2
    have c16 := p1.tc.2.2.2.2.2.2.2.2.2.2.2.2.2.2.2.2.1
    obtain ⟨x3, oa⟩ := p1.set 16 (.bool false) (tCells a cap t.off bv) rfl
    have q4 := p2.only oa (by simp)
    go_wp2_with (first
      | (refine wpList_tload rfl _ rfl W.heap.size rfl (tCells a cap t.off bv) ?_ rfl ?_; exact x3)
      | (refine wpList_tstore rfl _ _ rfl (W.heap.size + 1) rfl _ rfl zCells ?_ rfl rfl (tCells_one _ _ _ h1) ?_; exact q4; intro w5 p5 o5))
    have b5 : Below W.heap.size W w5 := (b2.trans (oa.below (by simp) b2.size)).trans (o5.below (by simp) (by simp only [set_size]; exact b2.size))
    exact tret rfl rfl p5 rfl ⟨a, cap, rfl, G.out.below b5, b5⟩
set_option maxRecDepth 100000 in
set_option maxHeartbeats 8000000 in
theorem rrune_stay {F : Nat → Prop} {W : World} {a : Option Addr} {cap : Nat} {t : TS} {bv : Value} (h1 : OneV bv) (g : RG F W a cap t.W t.H t.R) (r : Int) (hw : ¬ 0 < colsB r) (hj : joinB r = true) (hl : t.last = false) :
    Calls Tryz.prog 179 #[.agg (tCells a cap t bv), .int .i32 r] W (TPost F t bv W) := by
  have G := Lib.hid g
  have CW := Lib.hid (fun X => refOf_any r X)
  have CJ := Lib.hid (fun X => refMark3_any r X)
  obtain ⟨z, hz⟩ : ∃ z, z = colsB r := ⟨_, rfl⟩
  rw [← hz] at CW hw
  rw [hj] at CJ
  clear g hz hj
  go_enter Tryz.func179, Tryz.ntmps179
  go_upto_region 0 with (fail)
  go_cut [2, 4] (fun u v wx => u = .pointer (some ⟨W.heap.size, 0, none⟩) ∧ v = .pointer (some ⟨W.heap.size + 1, 0, none⟩) ∧ TIn W (tCells a cap t bv) wx)
  case first =>
    go_wp2
    go_meet
    exact ⟨rfl, rfl, tin W _⟩
  case rest =>
    obtain ⟨rfl, rfl, p1, p2, bX, sX⟩ := hcut
    go_wp2_with fail
    refine (CW.out _).mono ?_
    rintro e w1 ⟨rfl, hb1⟩
    replace p1 := p1.below hb1
    replace p2 := p2.below hb1
    have b1 : Below W.heap.size W w1 := bto bX hb1 bX.size
    go_wp2_with fail
    refine (CJ.out _).mono ?_
    rintro e w2 ⟨rfl, hb2⟩
    replace p1 := p1.below hb2
    replace p2 := p2.below hb2
    have b2 : Below W.heap.size W w2 := bto b1 hb2 b1.size
    have fz := p1.tc.2.2.2.2.2.2.2.2.2.2.2.2.2.2.2.2.2.2.2
    have c16 := p1.tc.2.2.2.2.2.2.2.2.2.2.2.2.2.2.2.2.1
    rw [hl] at c16
    clear hl
    go_wp2_with (first
      | (refine wpList_tload rfl _ rfl W.heap.size rfl (tCells a cap t bv) ?_ rfl ?_; exact p1)
      | (refine wpList_tstore rfl _ _ rfl (W.heap.size + 1) rfl _ rfl zCells ?_ rfl rfl (tCells_one _ _ _ h1) ?_; exact p2; intro w5 p5 o5))
    have b5 : Below W.heap.size W w5 := b2.trans (o5.below (by simp) b2.size)
    exact tret rfl rfl p5 rfl ⟨a, cap, rfl, G.out.below b5, b5⟩
set_option maxRecDepth 100000 in
set_option maxHeartbeats 8000000 in
theorem rrune_print {F : Nat → Prop} {W : World} (hF : ∀ b, W.heap.size ≤ b → F b) {a : Option Addr} {cap : Nat} {t : TS} {bv : Value} (h1 : OneV bv) (ok : TOk t) (hg : t.gone < 4611686018427387904) (g : RG F W a cap t.W t.H t.R) (n : Nat) (hr : isR n = true) (hw : 0 < colsB n) :
    Calls Tryz.prog 179 #[.agg (tCells a cap t bv), .int .i32 n] W (TPost F (t.print n) bv W) := by
  have CW := Lib.hid (fun X => refOf_any (n : Int) X)
  have CP := Lib.hid (fun (X : World) (hX : W.heap.size + 1 < X.heap.size) (bX : Below W.heap.size W X) => show Calls Tryz.prog 221 #[.agg (tCells a cap t bv), .int .i32 n] X (TPost (fun b => F b ∧ b ≠ W.heap.size ∧ b ≠ W.heap.size + 1) (t.print n) bv X) by
    have gX := (g.mono (F' := fun b => F b ∧ b ≠ W.heap.size ∧ b ≠ W.heap.size + 1) (fun b h1 h2 => ⟨h1, by omega, by omega⟩)).below bX
    unfold TS.print
    by_cases hwide : (t.W : Int) < colsB n
    · rw [if_pos hwide]; exact rprint_wide h1 gX n hwide
    · rw [if_neg hwide]
      have := rprint_ok (W := X) (fun b hb => ⟨hF b (by omega), by omega, by omega⟩) h1 ok hg gX (n : Int) hr (by omega) (by omega)
      rwa [Int.toNat_natCast] at this)
  obtain ⟨RS, hRS⟩ : ∃ RS, RS = t.print n := ⟨_, rfl⟩
  rw [← hRS] at CP ⊢
  obtain ⟨m, hm⟩ : ∃ m : Int, m = (n : Int) := ⟨_, rfl⟩
  rw [← hm] at CW CP hw ⊢
  obtain ⟨z, hz⟩ : ∃ z, z = colsB m := ⟨_, rfl⟩
  rw [← hz] at CW hw
  clear g hz ok hr hm hRS hg
  go_enter Tryz.func179, Tryz.ntmps179
  go_upto_region 0 with (fail)
  go_cut [2, 4] (fun u v wx => u = .pointer (some ⟨W.heap.size, 0, none⟩) ∧ v = .pointer (some ⟨W.heap.size + 1, 0, none⟩) ∧ TIn W (tCells a cap t bv) wx)
  case first =>
    go_wp2
    go_meet
    exact ⟨rfl, rfl, tin W _⟩
  case rest =>
    obtain ⟨rfl, rfl, p1, p2, bX, sX⟩ := hcut
    go_wp2_with fail
    refine (CW.out _).mono ?_
    rintro e w1 ⟨rfl, hb1⟩
    replace p1 := p1.below hb1
    replace p2 := p2.below hb1
    have b1 : Below W.heap.size W w1 := bto bX hb1 bX.size
    have C1 := Lib.hid (CP.out _ p2.lt b1)
    go_wp2_with (refine wpList_tload rfl _ rfl W.heap.size rfl (tCells a cap t bv) ?_ rfl ?_; exact p1)
    refine (C1.out).mono ?_
    rintro e w2 ⟨a2, cap2, rfl, g2, hb3⟩
    have v2 := p2.below hb3
    have b2 := bto b1 hb3 b1.size
    go_wp2_with (refine wpList_tstore rfl _ _ rfl (W.heap.size + 1) rfl _ rfl zCells ?_ rfl rfl (tCells_one _ _ _ h1) ?_; exact v2; intro w7 p7 o7)
    have b7 : Below W.heap.size W w7 := b2.trans (o7.below (by simp) b2.size)
    refine tret rfl rfl p7 rfl ?_
    exact ⟨a2, cap2, rfl, (g2.keep o7.size (fun b hb hlt => o7.block b hlt (by simpa using hb.2.2))).mono (fun b hb _ => hb.1), b7⟩
end Go.Proofs.YtekodpcedjpnjaaGreat
namespace Go.Proofs.YtekodpcedjpnjaaGreat
open Go.RowKit Go.Shelf Go.Maps
set_option maxRecDepth 100000 in
set_option maxHeartbeats 8000000 in
theorem rrune_join {F : Nat → Prop} {W : World} (hF : ∀ b, W.heap.size ≤ b → F b) {a : Option Addr} {cap : Nat} {t : TS} {bv : Value} (h1 : OneV bv) (ok : TO0 t) (g : RG F W a cap t.W t.H t.R) (r : Int) (hr : isR r = true) (hw : ¬ 0 < colsB r) (hj : joinB r = true) (hl : t.last = true) :
    Calls Tryz.prog 179 #[.agg (tCells a cap t bv), .int .i32 r] W (TPost F { t with R := joinR t.W t.H t.R t.lrow t.lcol (S (bytesN r.toNat)) } bv W) := by
  have CW := Lib.hid (fun X => refOf_any r X)
  have CJ := Lib.hid (fun X => refMark3_any r X)
  have CB := Lib.hid (fun X => refBytes_any r X)
  have hbr : bytesR r = bytesN r.toNat := by unfold bytesR runeN; rw [if_pos hr]
  rw [hbr] at CB
  have CV := Lib.hid (fun W => conv_newB W (bytesN r.toNat))
  have CP := Lib.hid (fun (X : World) (hX : W.heap.size + 1 < X.heap.size) (bX : Below W.heap.size W X) => rjoin_any (F := fun b => F b ∧ b ≠ W.heap.size ∧ b ≠ W.heap.size + 1) (W := X) (fun b hb => ⟨hF b (by omega), by omega, by omega⟩) ((g.mono (F' := fun b => F b ∧ b ≠ W.heap.size ∧ b ≠ W.heap.size + 1) (fun b h1 h2 => ⟨h1, by omega, by omega⟩)).below bX) ok.ro ⟨ok.w1, by have := ok.w2; omega⟩ (by have := ok.h2; omega) (t.lrow : Int) (t.lcol : Int) (S (bytesN r.toNat)))
  obtain ⟨z, hz⟩ : ∃ z, z = colsB r := ⟨_, rfl⟩
  rw [← hz] at CW hw
  rw [hj] at CJ
  clear g hz hj ok hbr
  go_enter Tryz.func179, Tryz.ntmps179
  go_upto_region 0 with (fail)
  go_cut [2, 4] (fun u v wx => u = .pointer (some ⟨W.heap.size, 0, none⟩) ∧ v = .pointer (some ⟨W.heap.size + 1, 0, none⟩) ∧ TIn W (tCells a cap t bv) wx)
  case first =>
    go_wp2
    go_meet
    exact ⟨rfl, rfl, tin W _⟩
  case rest =>
    obtain ⟨rfl, rfl, p1, p2, bX, sX⟩ := hcut
    go_wp2_with fail
    refine (CW.out _).mono ?_
    rintro e w1 ⟨rfl, hb1⟩
    replace p1 := p1.below hb1
    replace p2 := p2.below hb1
    have b1 : Below W.heap.size W w1 := bto bX hb1 bX.size
    go_wp2_with fail
    refine (CJ.out _).mono ?_
    rintro e w2 ⟨rfl, hb2⟩
    replace p1 := p1.below hb2
    replace p2 := p2.below hb2
    have b2 : Below W.heap.size W w2 := bto b1 hb2 b1.size
    have fz := p1.tc.2.2.2.2.2.2.2.2.2.2.2.2.2.2.2.2.2.2.2
    have c16 := p1.tc.2.2.2.2.2.2.2.2.2.2.2.2.2.2.2.2.1
    rw [hl] at c16
    clear hl
    go_wp2_with fail
    have dB : Below w2.heap.size w2 w2.drew := (Below.refl _ _).drew
    have uA := p1.below dB
    have vA := p2.below dB
    have b3 := bto b2 dB b2.size
    refine wp_region_tree (fun j y y' => j ∉ [15] → TBx y W.heap.size (tCells a cap t bv) → TBx y' W.heap.size (tCells a cap t bv)) (by kernel_rfl) ?_
    simp only [List.size_toArray, List.length_cons, List.length_nil, Nat.reduceAdd]
    refine' wpAnyY_read 0 (fun w' => TBx w' W.heap.size (tCells a cap t bv)) [15] (v := _) (by kernel_rfl) (fun _ _ d _ _ h => by cases d <;> exact h) (by kernel_rfl) rfl (fun j y y' hj h hs => h hj hs) (fun _ _ h => h) uA rfl ?_ ?_
    rotate_left 1
    · intro w' hw'; obtain ⟨c0, c1, c2, c3, c4, c5, c6, c7, c8, c9, c10, c11, c12, c13, c14, c15, c16, c17, c18, fz⟩ := hw'.tc; go_simp; try with_reducible rfl
    try simp only [Act.put, List.setIfInBounds_toArray, List.set_cons_zero, List.set_cons_succ]
    refine' wpAnyY_read 1 (fun w' => TBx w' W.heap.size (tCells a cap t bv)) [15] (v := _) (by kernel_rfl) (fun _ _ d _ _ h => by cases d <;> exact h) (by kernel_rfl) rfl (fun j y y' hj h hs => h hj hs) (fun _ _ h => h) uA rfl ?_ ?_
    rotate_left 1
    · intro w' hw'; obtain ⟨c0, c1, c2, c3, c4, c5, c6, c7, c8, c9, c10, c11, c12, c13, c14, c15, c16, c17, c18, fz⟩ := hw'.tc; go_simp; try with_reducible rfl
    try simp only [Act.put, List.setIfInBounds_toArray, List.set_cons_zero, List.set_cons_succ]
    refine' wpAnyY_read 2 (fun w' => TBx w' W.heap.size (tCells a cap t bv)) [15] (v := _) (by kernel_rfl) (fun _ _ d _ _ h => by cases d <;> exact h) (by kernel_rfl) rfl (fun j y y' hj h hs => h hj hs) (fun _ _ h => h) uA rfl ?_ ?_
    rotate_left 1
    · intro w' hw'; obtain ⟨c0, c1, c2, c3, c4, c5, c6, c7, c8, c9, c10, c11, c12, c13, c14, c15, c16, c17, c18, fz⟩ := hw'.tc; go_simp; try with_reducible rfl
    try simp only [Act.put, List.setIfInBounds_toArray, List.set_cons_zero, List.set_cons_succ]
    refine' wpAnyY_read 3 (fun w' => TBx w' W.heap.size (tCells a cap t bv)) [15] (v := _) (by kernel_rfl) (fun _ _ d _ _ h => by cases d <;> exact h) (by kernel_rfl) rfl (fun j y y' hj h hs => h hj hs) (fun _ _ h => h) uA rfl ?_ ?_
    rotate_left 1
    · intro w' hw'; obtain ⟨c0, c1, c2, c3, c4, c5, c6, c7, c8, c9, c10, c11, c12, c13, c14, c15, c16, c17, c18, fz⟩ := hw'.tc; go_simp; try with_reducible rfl
    try simp only [Act.put, List.setIfInBounds_toArray, List.set_cons_zero, List.set_cons_succ]
    refine' wpAnyY_read 4 (fun w' => TBx w' W.heap.size (tCells a cap t bv)) [15] (v := _) (by kernel_rfl) (fun _ _ d _ _ h => by cases d <;> exact h) (by kernel_rfl) rfl (fun j y y' hj h hs => h hj hs) (fun _ _ h => h) uA rfl ?_ ?_
    rotate_left 1
    · intro w' hw'; obtain ⟨c0, c1, c2, c3, c4, c5, c6, c7, c8, c9, c10, c11, c12, c13, c14, c15, c16, c17, c18, fz⟩ := hw'.tc; go_simp; try with_reducible rfl
    try simp only [Act.put, List.setIfInBounds_toArray, List.set_cons_zero, List.set_cons_succ]
    refine' wpAnyY_read 5 (fun w' => TBx w' W.heap.size (tCells a cap t bv)) [15] (v := _) (by kernel_rfl) (fun _ _ d _ _ h => by cases d <;> exact h) (by kernel_rfl) rfl (fun j y y' hj h hs => h hj hs) (fun _ _ h => h) uA rfl ?_ ?_
    rotate_left 1
    · intro w' hw'; obtain ⟨c0, c1, c2, c3, c4, c5, c6, c7, c8, c9, c10, c11, c12, c13, c14, c15, c16, c17, c18, fz⟩ := hw'.tc; go_simp; try with_reducible rfl
    try simp only [Act.put, List.setIfInBounds_toArray, List.set_cons_zero, List.set_cons_succ]
    refine' wpAnyY_read 6 (fun w' => TBx w' W.heap.size (tCells a cap t bv)) [15] (v := _) (by kernel_rfl) (fun _ _ d _ _ h => by cases d <;> exact h) (by kernel_rfl) rfl (fun j y y' hj h hs => h hj hs) (fun _ _ h => h) uA rfl ?_ ?_
    rotate_left 1
    · intro w' hw'; obtain ⟨c0, c1, c2, c3, c4, c5, c6, c7, c8, c9, c10, c11, c12, c13, c14, c15, c16, c17, c18, fz⟩ := hw'.tc; go_simp; try with_reducible rfl
    try simp only [Act.put, List.setIfInBounds_toArray, List.set_cons_zero, List.set_cons_succ]
    refine wpAnyY_one (i := 7) (by kernel_rfl) rfl (fun K hK => ?_)
    simp only [List.getElem_toArray, List.getElem_cons_succ, List.getElem_cons_zero]
    go_wp2_with fail
    refine (CB.out _).mono ?_
    rintro e w4 ⟨k, hk, rfl, hw4⟩
    have hcv : (convert 61 9 (.slice (some ⟨w2.heap.size, 0, none⟩) k k)).run Tryz.prog w4 = .ok (.string (S (bytesN r.toNat))) w4 := by subst hk; rw [← hw4]; exact CV.out w2.drew
    have hb4 : Below w2.heap.size w2 w4 := by rw [← hw4]; exact dB.alloc (Nat.le_refl _) _
    have HCV := Lib.hid hcv
    clear hk hw4 hcv
    go_wp2
    refine hK _ _ (fun _ h => p1.below hb4) ?_
    clear hK K
    refine wpAnyY_one (i := 8) (by kernel_rfl) rfl (fun K hK => ?_)
    simp only [List.getElem_toArray, List.getElem_cons_succ, List.getElem_cons_zero]
    have hcv := HCV.out
    go_wp2
    refine hK _ _ (fun _ h => h) ?_
    clear hK K hcv
    refine wpAnyY_one (i := 9) (by kernel_rfl) rfl (fun K hK => ?_)
    simp only [List.getElem_toArray, List.getElem_cons_succ, List.getElem_cons_zero]
    have b4 := bto b2 hb4 b2.size
    have hs4 := hb4.size
    have hlt := p2.lt
    go_wp2_with fail
    refine (CP.out _ (by omega) b4).mono ?_
    rintro e w5 ⟨a5, c5, rfl, g5, hb5⟩
    go_wp2
    refine hK _ _ (fun _ h => h.below hb5) ?_
    clear hK K
    refine' wpAnyY_read 10 (fun _ => True) [] (v := _) (by kernel_rfl) (fun _ _ d _ _ h => by cases d <;> exact h) (by kernel_rfl) rfl (fun _ _ _ _ _ _ => trivial) (fun _ _ h => h) trivial rfl ?_ ?_
    rotate_left 1
    · intro w' hw'; go_simp; try with_reducible rfl
    try simp only [Act.put, List.setIfInBounds_toArray, List.set_cons_zero, List.set_cons_succ]
    refine' wpAnyY_read 11 (fun _ => True) [] (v := _) (by kernel_rfl) (fun _ _ d _ _ h => by cases d <;> exact h) (by kernel_rfl) rfl (fun _ _ _ _ _ _ => trivial) (fun _ _ h => h) trivial rfl ?_ ?_
    rotate_left 1
    · intro w' hw'; go_simp; try with_reducible rfl
    try simp only [Act.put, List.setIfInBounds_toArray, List.set_cons_zero, List.set_cons_succ]
    refine' wpAnyY_read 12 (fun _ => True) [] (v := _) (by kernel_rfl) (fun _ _ d _ _ h => by cases d <;> exact h) (by kernel_rfl) rfl (fun _ _ _ _ _ _ => trivial) (fun _ _ h => h) trivial rfl ?_ ?_
    rotate_left 1
    · intro w' hw'; go_simp; try with_reducible rfl
    try simp only [Act.put, List.setIfInBounds_toArray, List.set_cons_zero, List.set_cons_succ]
    refine' wpAnyY_read 13 (fun _ => True) [] (v := _) (by kernel_rfl) (fun _ _ d _ _ h => by cases d <;> exact h) (by kernel_rfl) rfl (fun _ _ _ _ _ _ => trivial) (fun _ _ h => h) trivial rfl ?_ ?_
    rotate_left 1
    · intro w' hw'; go_simp; try with_reducible rfl
    try simp only [Act.put, List.setIfInBounds_toArray, List.set_cons_zero, List.set_cons_succ]
    refine' wpAnyY_read 14 (fun _ => True) [] (v := _) (by kernel_rfl) (fun _ _ d _ _ h => by cases d <;> exact h) (by kernel_rfl) rfl (fun _ _ _ _ _ _ => trivial) (fun _ _ h => h) trivial rfl ?_ ?_
    rotate_left 1
    · intro w' hw'; go_simp; try with_reducible rfl
    try simp only [Act.put, List.setIfInBounds_toArray, List.set_cons_zero, List.set_cons_succ]
    refine wpAnyY_one (i := 15) (by kernel_rfl) rfl (fun K hK => ?_)
    simp only [List.getElem_toArray, List.getElem_cons_succ, List.getElem_cons_zero]
    have b5 := bto b4 hb5 b4.size
    have q1 := p1.below (bto hb4 hb5 hs4)
    have q2 := p2.below (bto hb4 hb5 hs4)
    clear p1 p2 b4 hlt hs4
    obtain ⟨R9, hR9⟩ : ∃ R9, joinR t.W t.H t.R t.lrow t.lcol (S (bytesN r.toNat)) = R9 := ⟨_, rfl⟩
    rw [hR9] at g5
    have HR9 := Lib.hid hR9
    clear hR9
    obtain ⟨w3, hw3⟩ : ∃ w3, ((w5.setCell ⟨W.heap.size, 0, none⟩ (.int .i64 t.W)).setCell ⟨W.heap.size, 1, none⟩ (.int .i64 t.H)).setCell ⟨W.heap.size, 2, none⟩ (.slice a5 t.H c5) = w3 := ⟨_, rfl⟩
    obtain ⟨x0, y0⟩ := q1.set 0 (.int .i64 t.W) _ rfl
    obtain ⟨x1, y1⟩ := x0.set 1 (.int .i64 t.H) _ rfl
    obtain ⟨x2, y2⟩ := x1.set 2 (.slice a5 t.H c5) (tCells a5 c5 { t with R := R9 } bv) rfl
    have o3 := (y0.trans y1).trans y2
    rw [hw3] at x2 o3
    have HW3 := Lib.hid hw3
    clear x0 x1 y0 y1 y2 hw3
    obtain ⟨c0, c1, c2, c3, c4, c5', c6, c7, c8, c9, c10, c11, c12, c13, c14, c15, c16', c17, c18, fz'⟩ := q1.tc
    clear c3 c4 c5' c6 c7 c8 c9 c10 c11 c12 c13 c14 c15 c16' c17 c18 fz c16
    go_wp2
    rw [HW3.out]
    refine hK _ _ (fun hn => absurd (by decide) hn) (wpAnyY_end (by kernel_rfl) ?_)
    clear hK K c0 c1 c2 fz'
    have b3 : Below W.heap.size W w3 := b5.trans (o3.below (by simp) b5.size)
    have q3 := q2.only o3 (by simp)
    have g3 := g5.keep o3.size (fun b hb hlt => o3.block b hlt (by simpa using hb.2.1))
    go_wp2_with (first
      | (refine wpList_tload rfl _ rfl W.heap.size rfl (tCells a5 c5 { t with R := R9 } bv) ?_ rfl ?_; exact x2)
      | (refine wpList_tstore rfl _ _ rfl (W.heap.size + 1) rfl _ rfl zCells ?_ rfl rfl (tCells_one _ _ _ h1) ?_; exact q3; intro w7 p7 o7))
    have b7 : Below W.heap.size W w7 := b3.trans (o7.below (by simp) b3.size)
    refine tret rfl rfl p7 rfl ?_
    refine ⟨a5, c5, rfl, ?_, b7⟩
    show RG F w7 a5 c5 t.W t.H (joinR t.W t.H t.R t.lrow t.lcol (S (bytesN r.toNat)))
    rw [HR9.out]
    exact (g3.keep o7.size (fun b hb hlt => o7.block b hlt (by simpa using hb.2.2))).mono (fun b hb _ => hb.1)
end Go.Proofs.YtekodpcedjpnjaaGreat
namespace Go.Proofs.YtekodpcedjpnjaaGreat
open Go.RowKit Go.Shelf Go.Maps
theorem rrune_any {F : Nat → Prop} {W : World} (hF : ∀ b, W.heap.size ≤ b → F b) {a : Option Addr} {cap : Nat} {t : TS} {bv : Value} (h1 : OneV bv) (ok : TOk t) (hg : t.gone < 4611686018427387904) (g : RG F W a cap t.W t.H t.R) (n : Nat) (hr : isR n = true) :
    Calls Tryz.prog 179 #[.agg (tCells a cap t bv), .int .i32 n] W (TPost F (t.rune n) bv W) := by
  unfold TS.rune
  by_cases hw : 0 < colsB n
  · rw [if_pos hw]; exact rrune_print hF h1 ok hg g n hr hw
  rw [if_neg hw]
  cases hj : joinB n with
  | false => exact rrune_off h1 g n hw hj
  | true =>
    rw [if_pos rfl]
    by_cases hl : t.last = true
    · rw [if_pos hl]
      have := rrune_join hF h1 ok.toTO0 g n hr hw hj hl
      rwa [Int.toNat_natCast] at this
    · rw [if_neg hl]
      exact rrune_stay h1 g n hw hj (by simpa using hl)
set_option maxRecDepth 100000 in
set_option maxHeartbeats 8000000 in
theorem rfirst_any {F : Nat → Prop} {W : World} (hF : ∀ b, W.heap.size ≤ b → F b) {a : Option Addr} {cap : Nat} {t : TS} {bv : Value} (h1 : OneV bv) (ok : TOk t) (hg : t.gone < 4611686018427387904) (hbl : t.bells < 4611686018427387904) (gR : RG F W a cap t.W t.H t.R) {g off n cb : Nat} {c : UInt8} {r : List UInt8} (hB : Bys W g off (c :: r)) (hn : r.length + 1 = n) (hn2 : n ≤ 10000000) (hcb : n ≤ cb) :
    Calls Tryz.prog 104 #[.agg (tCells a cap t bv), .slice (some ⟨g, off, none⟩) n cb] W (TPost2 F (t.first (c :: r)) bv W) := by
  have HG := Lib.hid gR
  have HB0 := Lib.hid hB
  have gF := gR.mono (F' := fun b => F b ∧ b ≠ W.heap.size ∧ b ≠ W.heap.size + 1) (fun b h1 h2 => ⟨h1, by omega, by omega⟩)
  have hc256 := c.toNat_lt
  have hn0 : (0 : Int) < (n : Int) := by omega
  have hn0' : 0 < n := by omega
  obtain ⟨z, hz⟩ : ∃ z, z = t.first (c :: r) := ⟨_, rfl⟩
  rw [← hz]
  have hat : ∀ X, Below W.heap.size W X → X.cell? ⟨g, off, none⟩ = some (.int .u8 (c.toNat : Int)) := fun X hX => by
    have := (HB0.out.below hX).at_ 0 (by simp)
    rw [Nat.add_zero] at this
    exact this
  by_cases h27 : c.toNat = 27
  · unfold TS.first at hz
    dsimp only at hz
    rw [if_pos h27] at hz
    rw [h27] at hat
    replace hat : ∀ X, Below W.heap.size W X → X.cell? ⟨g, off, none⟩ = some (.int .u8 27) := hat
    cases r with
    | nil =>
      have hnn : n = 1 := by simpa using hn.symm
      subst hnn
      have HZ := Lib.hid hz
      clear hz hn hB h27 gR gF ok
      go_enter Tryz.func104, Tryz.ntmps104
      go_upto_region 0 with (fail)
      go_cut [2, 4, 5] (fun u v y wx => u = .pointer (some ⟨W.heap.size, 0, none⟩) ∧ v = .pointer (some ⟨W.heap.size + 1, 0, none⟩) ∧ y = .int .i64 0 ∧ TIn W (tCells a cap t bv) wx)
      case first =>
        go_wp2
        go_meet
        exact ⟨rfl, rfl, rfl, tin W _⟩
      case rest =>
        obtain ⟨rfl, rfl, rfl, p1, p2, bX, sX⟩ := hcut
        have hx0 := hat wc bX
        go_wp2_with (first
          | (refine wpList_tload rfl _ rfl W.heap.size rfl (tCells a cap t bv) ?_ rfl ?_; exact p1)
          | (refine wpList_tstore rfl _ _ rfl (W.heap.size + 1) rfl _ rfl zCells ?_ rfl rfl (tCells_one _ _ _ h1) ?_; exact p2; intro w7 p7 o7))
        have b7 : Below W.heap.size W w7 := (bX).trans (o7.below (by simp) (bX).size)
        refine tret2 rfl rfl rfl p7 rfl ?_
        rw [HZ.out]
        exact tpost2 (by go_num) (HG.out.below b7) b7
    | cons d r' =>
      dsimp only at hz
      have hn' : r'.length + 2 = n := by simpa using hn
      have hat1 : ∀ X, Below W.heap.size W X → X.cell? ⟨g, off + 1, none⟩ = some (.int .u8 (d.toNat : Int)) := fun X hX => (HB0.out.below hX).at_ 1 (by simp)
      have hd256 := d.toNat_lt
      have hnn : ((n : Int) == 1) = false := by simp; omega
      have h1n : (1 : Int) < (n : Int) := by omega
      by_cases h91 : d.toNat = 91
      · rw [if_pos h91] at hz
        rw [h91] at hat1
        replace hat1 : ∀ X, Below W.heap.size W X → X.cell? ⟨g, off + 1, none⟩ = some (.int .u8 91) := hat1
        have CS := Lib.hid (fun (X : World) (hX : W.heap.size + 1 < X.heap.size) (bX : Below W.heap.size W X) => rsequence_any (F := fun b => F b ∧ b ≠ W.heap.size ∧ b ≠ W.heap.size + 1) (W := X) (cb := cb) (fun b hb => ⟨hF b (by omega), by omega, by omega⟩) h1 ok.toTO0 (gF.below bX) (HB0.out.below bX) hn' hn2 hcb)
        rw [← hz] at CS
        clear hz hn hn' hB h27 gR gF ok h91
        go_enter Tryz.func104, Tryz.ntmps104
        go_upto_region 0 with (fail)
        go_cut [2, 4, 5] (fun u v y wx => u = .pointer (some ⟨W.heap.size, 0, none⟩) ∧ v = .pointer (some ⟨W.heap.size + 1, 0, none⟩) ∧ y = .int .i64 0 ∧ TIn W (tCells a cap t bv) wx)
        case first =>
          go_wp2
          go_meet
          exact ⟨rfl, rfl, rfl, tin W _⟩
        case rest =>
          obtain ⟨rfl, rfl, rfl, p1, p2, bX, sX⟩ := hcut
          have hx0 := hat wc bX
          have hx1 := hat1 wc bX
          have C1 := Lib.hid (CS.out _ p2.lt bX)
          go_wp2_with (refine wpList_tload rfl _ rfl W.heap.size rfl (tCells a cap t bv) ?_ rfl ?_; exact p1)
          refine (C1.out).mono ?_
          rintro e w2 ⟨a2, cap2, rfl, g2, hb3⟩
          have v2 := p2.below hb3
          have b2 := bto bX hb3 bX.size
          go_wp2_with (refine wpList_tstore rfl _ _ rfl (W.heap.size + 1) rfl _ rfl zCells ?_ rfl rfl (tCells_one _ _ _ h1) ?_; exact v2; intro w7 p7 o7)
          have b7 : Below W.heap.size W w7 := b2.trans (o7.below (by simp) b2.size)
          refine tret2 rfl rfl rfl p7 rfl ?_
          exact tpost2 (by go_num) ((g2.keep o7.size (fun b hb hlt => o7.block b hlt (by simpa using hb.2.2))).mono (fun b hb _ => hb.1)) b7
      · rw [if_neg h91] at hz
        obtain ⟨x, hx⟩ : ∃ x, x = d.toNat := ⟨_, rfl⟩
        rw [← hx] at hat1 h91 hz hd256
        have nx : ((x : Int) == 91) = false := by simp; omega
        have HZ0 := Lib.hid hz
        clear hz hn hn' hB h27 gR gF ok h91 hx
        go_enter Tryz.func104, Tryz.ntmps104
        go_upto_region 0 with (fail)
        go_cut [2, 4, 5] (fun u v y wx => u = .pointer (some ⟨W.heap.size, 0, none⟩) ∧ v = .pointer (some ⟨W.heap.size + 1, 0, none⟩) ∧ y = .int .i64 0 ∧ TIn W (tCells a cap t bv) wx)
        case first =>
          go_wp2
          go_meet
          exact ⟨rfl, rfl, rfl, tin W _⟩
        case rest =>
          obtain ⟨rfl, rfl, rfl, p1, p2, bX, sX⟩ := hcut
          have hx0 := hat wc bX
          have hx1 := hat1 wc bX
          have fz := p1.tc.2.2.2.2.2.2.2.2.2.2.2.2.2.2.2.2.2.2.2
          have c16 := p1.tc.2.2.2.2.2.2.2.2.2.2.2.2.2.2.2.2.1
          obtain ⟨pA, oA⟩ := p1.set 16 (.bool false) (tCells a cap t.off bv) rfl
          have qA := p2.only oA (by simp)
          have bA := bX.trans (oA.below (by simp) bX.size)
          have hy0 := hat _ bA
          have hy1 := hat1 _ bA
          by_cases hd : (32 : Int) ≤ (x : Int) ∧ (x : Int) ≤ 126
          · have HZ : Hid (z = (t.off, 2)) := Lib.hid (by rw [HZ0.out, if_pos (by omega)])
            obtain ⟨hd1, hd2⟩ := hd
            go_wp2_with (first
              | (refine wpList_tload rfl _ rfl W.heap.size rfl (tCells a cap t.off bv) ?_ rfl ?_; exact pA)
              | (refine wpList_tstore rfl _ _ rfl (W.heap.size + 1) rfl _ rfl zCells ?_ rfl rfl (tCells_one _ _ _ h1) ?_; exact qA; intro w7 p7 o7))
            have b7 : Below W.heap.size W w7 := (bA).trans (o7.below (by simp) (bA).size)
            refine tret2 rfl rfl rfl p7 rfl ?_
            rw [HZ.out]
            exact tpost2 (by go_num) (HG.out.below b7) b7
          · have HZ : Hid (z = (t.off, 1)) := Lib.hid (by rw [HZ0.out, if_neg (by omega)])
            by_cases hd1 : (32 : Int) ≤ (x : Int)
            · have hd2 : ¬ (x : Int) ≤ 126 := by omega
              clear hd
              go_wp2_with (first
                | (refine wpList_tload rfl _ rfl W.heap.size rfl (tCells a cap t.off bv) ?_ rfl ?_; exact pA)
                | (refine wpList_tstore rfl _ _ rfl (W.heap.size + 1) rfl _ rfl zCells ?_ rfl rfl (tCells_one _ _ _ h1) ?_; exact qA; intro w7 p7 o7))
              have b7 : Below W.heap.size W w7 := (bA).trans (o7.below (by simp) (bA).size)
              refine tret2 rfl rfl rfl p7 rfl ?_
              rw [HZ.out]
              exact tpost2 (by go_num) (HG.out.below b7) b7
            · clear hd
              go_wp2_with (first
                | (refine wpList_tload rfl _ rfl W.heap.size rfl (tCells a cap t.off bv) ?_ rfl ?_; exact pA)
                | (refine wpList_tstore rfl _ _ rfl (W.heap.size + 1) rfl _ rfl zCells ?_ rfl rfl (tCells_one _ _ _ h1) ?_; exact qA; intro w7 p7 o7))
              have b7 : Below W.heap.size W w7 := (bA).trans (o7.below (by simp) (bA).size)
              refine tret2 rfl rfl rfl p7 rfl ?_
              rw [HZ.out]
              exact tpost2 (by go_num) (HG.out.below b7) b7
  by_cases hct : c.toNat < 32 ∨ c.toNat = 127
  · have hz2 := hz.trans (first_ctl t c r h27 hct)
    have CC := Lib.hid (fun (X : World) (hX : W.heap.size + 1 < X.heap.size) (bX : Below W.heap.size W X) => rcontrol_any (F := fun b => F b ∧ b ≠ W.heap.size ∧ b ≠ W.heap.size + 1) (W := X) (fun b hb => ⟨hF b (by omega), by omega, by omega⟩) h1 ok.toTO0 hg hbl (gF.below bX) c.toNat hc256)
    obtain ⟨x, hx⟩ : ∃ x, x = c.toNat := ⟨_, rfl⟩
    rw [← hx] at CC hat h27 hct hc256 hz2
    have HZ := Lib.hid hz2
    have nx : ((x : Int) == 27) = false := by simp; omega
    clear hx h27 hn hB ok gR gF hz hz2
    by_cases h127 : (x : Int) < 32
    all_goals
      have h3 : ((x : Int) == 127) = decide (¬ (x : Int) < 32) := by
        rw [Bool.eq_iff_iff, beq_iff_eq, decide_eq_true_eq]; omega
      simp only [h127, not_true_eq_false, not_false_eq_true, decide_true, decide_false] at h3
      clear hct
      go_enter Tryz.func104, Tryz.ntmps104
      go_upto_region 0 with (fail)
      go_cut [2, 4, 5] (fun u v y wx => u = .pointer (some ⟨W.heap.size, 0, none⟩) ∧ v = .pointer (some ⟨W.heap.size + 1, 0, none⟩) ∧ y = .int .i64 0 ∧ TIn W (tCells a cap t bv) wx)
      case first =>
        go_wp2
        go_meet
        exact ⟨rfl, rfl, rfl, tin W _⟩
      case rest =>
        obtain ⟨rfl, rfl, rfl, p1, p2, bX, sX⟩ := hcut
        have hx0 := hat wc bX
        go_wp2_with fail
        have dB : Below wc.heap.size wc wc.drew := (Below.refl _ _).drew
        have uA := p1.below dB
        have vA := p2.below dB
        have b2 := bto bX dB bX.size
        have C1 := Lib.hid (CC.out _ vA.lt b2)
        refine wp_region_mixT 12 [(true, 0), (true, 1), (true, 2), (true, 3), (false, 4), (false, 5), (false, 6)] (fun X => TBx X W.heap.size (tCells a cap t bv) ∧ X.cell? ⟨g, off, none⟩ = some (.int .u8 (x : Int))) (by kernel_rfl) (by kernel_rfl) (by rfl) (by kernel_rfl) (by kernel_rfl) (fun _ _ d _ _ h => by cases d <;> exact h) ⟨uA, hat _ b2⟩ ?_
        simp only [mixL, List.getElem?_cons_succ, List.getElem?_cons_zero]
        refine' wpMix_read (v := .agg (tCells a cap t bv)) rfl ?_ ?_; (intro w' hw1; exact run_tload _ rfl W.heap.size rfl _ hw1.1 rfl)
        try simp only [Act.put, List.setIfInBounds_toArray, List.set_cons_zero, List.set_cons_succ]
        repeat (refine' wpMix_read (v := _) rfl ?_ ?_; rotate_left 1; (intro w' hw1; have hy1 := hw1.2; go_simp; try with_reducible rfl); try simp only [Act.put, List.setIfInBounds_toArray, List.set_cons_zero, List.set_cons_succ])
        refine wpMix_act (fun K hK => ?_)
        go_wp2_with fail
        refine (C1.out).mono ?_
        rintro e w2 ⟨a2, cap2, rfl, g2, hb3⟩
        have v1 := uA.below hb3
        have v2 := vA.below hb3
        have b3 := bto b2 hb3 b2.size
        go_wp2_with fail
        refine hK _ _ (fun _ => ⟨v1, hat _ b3⟩) ?_
        clear hK K
        refine wpMix_act (fun K hK => ?_)
        go_wp2_with (refine wpList_tstore rfl _ _ rfl (W.heap.size + 1) rfl _ rfl zCells ?_ rfl rfl (tCells_one _ _ _ h1) ?_; exact v2; intro w7 p7 o7)
        have v7 := v1.only o7 (by simp)
        have b7 : Below W.heap.size W w7 := b3.trans (o7.below (by simp) b3.size)
        refine hK _ _ (fun _ => ⟨v7, hat _ b7⟩) ?_
        clear hK K
        refine wpMix_act (fun K hK => ?_)
        go_wp2_with fail
        refine hK _ _ (fun h => absurd rfl h) ?_
        clear hK K
        refine wpMix_nil ?_
        go_wp2_with fail
        refine tret2 rfl rfl rfl p7 rfl ?_
        rw [HZ.out]
        exact tpost2 (by go_num) ((g2.keep o7.size (fun b hb hlt => o7.block b hlt (by simpa using hb.2.2))).mono (fun b hb _ => hb.1)) b7
  · have CN := Lib.hid (fun (X : World) (bX : Below W.heap.size W X) => refNext_any c r g off n cb X hn.symm (by omega) hcb (HB0.out.below bX))
    have HM := Lib.hid (fun h => hz.trans (first_more t c r h27 hct h))
    have HO := Lib.hid (fun h => hz.trans (first_one t c r h27 hct h))
    have CR := Lib.hid (fun (X : World) (hX : W.heap.size + 1 < X.heap.size) (bX : Below W.heap.size W X) (k : Nat) (hi : isR (k : Int) = true) => rrune_any (F := fun b => F b ∧ b ≠ W.heap.size ∧ b ≠ W.heap.size + 1) (W := X) (fun b hb => ⟨hF b (by omega), by omega, by omega⟩) h1 ok hg (gF.below bX) k hi)
    have HI := Lib.hid (stepL_isR (c :: r))
    obtain ⟨x, hx⟩ : ∃ x, x = c.toNat := ⟨_, rfl⟩
    rw [← hx] at hat h27 hct hc256
    have nx : ((x : Int) == 27) = false := by simp; omega
    have n127 : ((x : Int) == 127) = false := by simp; omega
    have n32 : ¬ (x : Int) < 32 := by omega
    obtain ⟨l, hl⟩ : ∃ l, l = c :: r := ⟨_, rfl⟩
    rw [← hl] at CN HM HO HI
    clear hx h27 hct hn hB ok gR gF hz hl
    go_enter Tryz.func104, Tryz.ntmps104
    go_upto_region 0 with (fail)
    go_cut [2, 4, 5] (fun u v y wx => u = .pointer (some ⟨W.heap.size, 0, none⟩) ∧ v = .pointer (some ⟨W.heap.size + 1, 0, none⟩) ∧ y = .int .i64 0 ∧ TIn W (tCells a cap t bv) wx)
    case first =>
      go_wp2
      go_meet
      exact ⟨rfl, rfl, rfl, tin W _⟩
    case rest =>
      obtain ⟨rfl, rfl, rfl, p1, p2, bX, sX⟩ := hcut
      have hx0 := hat wc bX
      go_wp2_with fail
      refine (CN.out _ bX).mono ?_
      rintro e w3 ⟨⟨rr, nn, m, rfl, hh⟩, hb3⟩
      have r1 := p1.below hb3
      have r2 := p2.below hb3
      have b3 := bto bX hb3 bX.size
      rcases hh with ⟨rfl, -, hm⟩ | ⟨rfl, hr, hnn, hm⟩
      · have HZ := Lib.hid (HM.out hm)
        clear hm
        go_wp2_with (first
          | (refine wpList_tload rfl _ rfl W.heap.size rfl (tCells a cap t bv) ?_ rfl ?_; exact r1)
          | (refine wpList_tstore rfl _ _ rfl (W.heap.size + 1) rfl _ rfl zCells ?_ rfl rfl (tCells_one _ _ _ h1) ?_; exact r2; intro w7 p7 o7))
        have b7 : Below W.heap.size W w7 := (b3).trans (o7.below (by simp) (b3).size)
        refine tret2 rfl rfl rfl p7 rfl ?_
        rw [HZ.out]
        exact tpost2 (by go_num) (HG.out.below b7) b7
      · have HZ := Lib.hid (HO.out hm)
        have hi := HI.out
        obtain ⟨k, hk⟩ : ∃ k, k = (stepL l).1 := ⟨_, rfl⟩
        rw [← hk] at hr hi HZ
        rw [← hnn] at HZ
        have C1 := Lib.hid (CR.out w3 r2.lt b3 k hi)
        clear hm hk hnn CR hi
        subst hr
        go_wp2_with (refine wpList_tload rfl _ rfl W.heap.size rfl (tCells a cap t bv) ?_ rfl ?_; exact r1)
        refine (C1.out).mono ?_
        rintro e w4 ⟨a4, cap4, rfl, g4, hb4⟩
        have v2 := r2.below hb4
        have b4 := bto b3 hb4 b3.size
        go_wp2_with (refine wpList_tstore rfl _ _ rfl (W.heap.size + 1) rfl _ rfl zCells ?_ rfl rfl (tCells_one _ _ _ h1) ?_; exact v2; intro w7 p7 o7)
        have b7 : Below W.heap.size W w7 := b4.trans (o7.below (by simp) b4.size)
        refine tret2 rfl rfl rfl p7 rfl ?_
        rw [HZ.out]
        exact tpost2 (by go_num) ((g4.keep o7.size (fun b hb hlt => o7.block b hlt (by simpa using hb.2.2))).mono (fun b hb _ => hb.1)) b7
end Go.Proofs.YtekodpcedjpnjaaGreat
namespace Go.Proofs.YtekodpcedjpnjaaGreat
open Go.RowKit Go.Shelf Go.Maps
def HB (F : Nat → Prop) (W : World) (v : Value) (l : List UInt8) : Prop :=
  (v = .slice none 0 0 ∧ l = []) ∨ ∃ g off n c, v = .slice (some ⟨g, off, none⟩) n c ∧ l.length = n ∧ (n ≤ c ∧ c ≤ maxLen) ∧ Bys W g off l ∧ F g
def HAF (F : Nat → Prop) (W : World) (v : Value) (l : List UInt8) : Prop := HB F W v l ∨ ∃ ad c, v = .slice (some ad) 0 c ∧ l = []
abbrev HA (W : World) (v : Value) (l : List UInt8) : Prop := HAF (fun _ => True) W v l
theorem HB.one {F : Nat → Prop} {W : World} {v : Value} {l : List UInt8} (h : HB F W v l) : OneV v := by
  rcases h with ⟨rfl, _⟩ | ⟨g, off, n, c, rfl, _⟩ <;> rfl
theorem HB.below {F : Nat → Prop} {W W' : World} {v : Value} {l : List UInt8} (h : HB F W v l) (hb : Below W.heap.size W W') : HB F W' v l := by
  rcases h with h | ⟨g, off, n, c, h1, h2, h3, h4, h5⟩
  · exact .inl h
  · exact .inr ⟨g, off, n, c, h1, h2, h3, h4.below hb, h5⟩
theorem HB.slice {F : Nat → Prop} {W : World} {v : Value} {l : List UInt8} (h : HB F W v l) : ∃ a c, v = .slice a l.length c := by
  rcases h with ⟨rfl, rfl⟩ | ⟨g, off, n, c, rfl, rfl, _⟩
  · exact ⟨_, _, rfl⟩
  · exact ⟨_, _, rfl⟩
theorem HAF.slice {F : Nat → Prop} {W : World} {v : Value} {l : List UInt8} (h : HAF F W v l) : ∃ a c, v = .slice a l.length c := by
  rcases h with h | ⟨ad, c, rfl, rfl⟩
  · exact h.slice
  · exact ⟨_, _, rfl⟩
theorem HAF.below {F : Nat → Prop} {W W' : World} {v : Value} {l : List UInt8} (h : HAF F W v l) (hb : Below W.heap.size W W') : HAF F W' v l := h.imp (fun h => h.below hb) id
theorem Bys.dropAt {W : World} {b off : Nat} {l : List UInt8} (h : Bys W b off l) (k : Nat) : Bys W b (off + k) (l.drop k) := ⟨h.lt, fun j hj => by
  rw [List.length_drop] at hj
  rw [Nat.add_assoc, h.at_ (k + j) (by omega)]
  simp [nth, List.getD, List.getElem?_drop]⟩
theorem HB.mono {F F' : Nat → Prop} {W : World} {v : Value} {l : List UInt8} (h : HB F W v l) (hF : ∀ b, F b → b < W.heap.size → F' b) : HB F' W v l := by
  rcases h with h | ⟨g, off, n, c, h1, h2, h3, h4, h5⟩
  · exact .inl h
  · exact .inr ⟨g, off, n, c, h1, h2, h3, h4, hF _ h5 h4.lt⟩
theorem HAF.mono {F F' : Nat → Prop} {W : World} {v : Value} {l : List UInt8} (h : HAF F W v l) (hF : ∀ b, F b → b < W.heap.size → F' b) : HAF F' W v l := h.imp (fun h => h.mono hF) id
theorem HB.keep {F : Nat → Prop} {W Y : World} {v : Value} {l : List UInt8} (h : HB F W v l) (hs : W.heap.size ≤ Y.heap.size) (hk : ∀ b, F b → b < W.heap.size → Y.heap[b]? = W.heap[b]?) : HB F Y v l := by
  rcases h with h | ⟨g, off, n, c, h1, h2, h3, h4, h5⟩
  · exact .inl h
  · exact .inr ⟨g, off, n, c, h1, h2, h3, h4.of_block (hk g h5 h4.lt) hs, h5⟩
theorem HAF.keep {F : Nat → Prop} {W Y : World} {v : Value} {l : List UInt8} (h : HAF F W v l) (hs : W.heap.size ≤ Y.heap.size) (hk : ∀ b, F b → b < W.heap.size → Y.heap[b]? = W.heap[b]?) : HAF F Y v l := h.imp (fun h => h.keep hs hk) id
theorem TBx.grow {W W' : World} {b : Nat} {cs : Array Value} {row : Option Nat} (h : TBx W b cs) (hg : W.grownBy W' row) (hr : ∀ k, row = some k → k ≠ b) : TBx W' b cs :=
  (hg.block b h.lt (fun e => hr b e.symm rfl)).trans h
def WPost (F : Nat → Prop) (x : TS × List UInt8) (W : World) (e : Ending) (w' : World) : Prop :=
  ∃ a c bv, e = .returned (.agg (tCells a c x.1 bv)) ∧ RG F w' a c x.1.W x.1.H x.1.R ∧ HB F w' bv x.2 ∧ Below W.heap.size W w'
def JB (n₀ : Nat) (W : World) (v : Value) (L : List UInt8) : Prop :=
  (∃ a c, v = .slice a L.length c) ∧ (L ≠ [] → ∃ g c, v = .slice (some ⟨g, 0, none⟩) L.length c ∧ (L.length ≤ c ∧ c ≤ maxLen) ∧ Bys W g 0 L ∧ n₀ ≤ g)
theorem JB.of_held {n₀ : Nat} {W : World} {v : Value} {L : List UInt8} (h : Held W n₀ v L) : JB n₀ W v L :=
  ⟨own_slice h, fun hne => by
    have hl : L.length ≠ 0 := fun e => hne (List.eq_nil_of_length_eq_zero e)
    obtain ⟨g, c, rfl⟩ := own_ne h hl
    have hk := (own_cells h g rfl).1
    obtain ⟨h1, _, h3, h4⟩ := Held.bys h
    exact ⟨g, c, rfl, ⟨h3, h4⟩, h1, hk⟩⟩
def JSt (W : World) (cs : Array Value) (L : List UInt8) (v : Value) (X : World) : Prop :=
  JB (W.heap.size + 1 + 1) X v L ∧ TBx X W.heap.size cs ∧ TBx X (W.heap.size + 1) zCells ∧ Below W.heap.size W X
structure JMid (W : World) (cs : Array Value) (L : List UInt8) (v : Value) (X : World) : Prop where
  held : Held X (W.heap.size + 1 + 1) v L
  p1 : TBx X W.heap.size cs
  p2 : TBx X (W.heap.size + 1) zCells
  b : Below W.heap.size W X
  sz : W.heap.size + 1 + 1 ≤ X.heap.size
theorem JMid.next {W X Y : World} {cs : Array Value} {L L' : List UInt8} {v v' : Value} (m : JMid W cs L v X) (h : Held Y (W.heap.size + 1 + 1) v' L') (hg : X.grownBy Y v.ownBlock) : JMid W cs L' v' Y := by
  have hr : ∀ k, v.ownBlock = some k → W.heap.size + 1 + 1 ≤ k := fun k e => (own_cells m.held k e).1
  exact ⟨h, m.p1.grow hg (fun k e => by have := hr k e; omega), m.p2.grow hg (fun k e => by have := hr k e; omega), m.b.grown hg m.b.size (fun k e => by have := hr k e; omega), Nat.le_trans m.sz hg.size⟩
theorem held_app {W : World} {n₀ : Nat} {v : Value} {l s L : List UInt8} {n m : Nat} (h : W.ownsRow n₀ 5 1 v (n + m) (u8v l ++ u8v s)) (hl : l.length = n) (hs : s.length = m) (hL : L = l ++ s) : Held W n₀ v L := by
  unfold Held
  rw [hL, u8v_app, List.length_append, hl, hs]
  exact h
theorem JMid.done {W X : World} {cs : Array Value} {L : List UInt8} {v : Value} (m : JMid W cs L v X) : JSt W cs L v X := ⟨JB.of_held m.held, m.p1, m.p2, m.b⟩
def lenV : Value → Nat
  | .slice _ n _ => n
  | _ => 0
structure WSt (F : Nat → Prop) (W : World) (n : Nat) (L : List UInt8) (t : TS) (y : Value) (X : World) (k : Nat) (t' : TS) (a : Option Addr) (c : Nat) : Prop where
  le : k ≤ n
  ok : TOk t'
  run : runT t L = runT t' (L.drop k)
  gone : t'.gone ≤ t.gone + k
  bells : t'.bells ≤ t.bells + k
  sl : ∃ ya yc, y = .slice ya (n - k) yc
  by_ : k < n → ∃ g off yc, y = .slice (some ⟨g, off, none⟩) (n - k) yc ∧ (n - k ≤ yc ∧ yc ≤ maxLen) ∧ Bys X g off (L.drop k) ∧ W.heap.size + 1 + 1 ≤ g
  p : TBx X W.heap.size (tCells a c t' (.slice none 0 0))
  q : TBx X (W.heap.size + 1) zCells
  g : RG (fun b => F b ∧ b ≠ W.heap.size ∧ b ≠ W.heap.size + 1) X a c t'.W t'.H t'.R
  b : Below W.heap.size W X
set_option maxRecDepth 100000 in
set_option maxHeartbeats 8000000 in
theorem rwrite_any {F : Nat → Prop} {W : World} (hF : ∀ b, W.heap.size ≤ b → F b) {a : Option Addr} {cap : Nat} {t : TS} {bv v : Value} {l s : List UInt8} (hb : HB F W bv l) (hs : HA W v s) (ok : TOk t) (hlen : l.length + s.length ≤ 10000000)
    (hg : t.gone + 10000000 < 4611686018427387904) (hbl : t.bells + 10000000 < 4611686018427387904) (gR : RG F W a cap t.W t.H t.R) :
    Calls Tryz.prog 32 #[.agg (tCells a cap t bv), v] W (WPost F (runT t (l ++ s)) W) := by
  obtain ⟨i0, hi, hz0, hz1, hz2⟩ := info_parts infoU8c
  have h1 := hb.one
  have gF := gR.mono (F' := fun b => F b ∧ b ≠ W.heap.size ∧ b ≠ W.heap.size + 1) (fun b h1 h2 => ⟨h1, by omega, by omega⟩)
  have GF := Lib.hid gF
  have OK := Lib.hid ok
  obtain ⟨L, hL⟩ : ∃ L, L = l ++ s := ⟨_, rfl⟩
  have hLl : L.length = l.length + s.length := by rw [hL, List.length_append]
  rw [← hL]
  have HL := Lib.hid hL
  have hLb : L.length ≤ 10000000 := by omega
  have HLL := Lib.hid hLl
  obtain ⟨va, vc, hvs⟩ := hs.slice
  have HS := Lib.hid hs
  have HBB := Lib.hid hb
  clear gR gF ok hL hb hs hLl
  go_enter Tryz.func32, Tryz.ntmps32
  go_upto_region 0 with (fail)
  go_cut [2, 4] (fun u y wx => u = .pointer (some ⟨W.heap.size, 0, none⟩) ∧ y = .pointer (some ⟨W.heap.size + 1, 0, none⟩) ∧ TIn W (tCells a cap t bv) wx)
  case first =>
    go_wp2
    go_meet
    exact ⟨rfl, rfl, tin W _⟩
  case rest =>
    obtain ⟨rfl, rfl, p1, p2, bX, sX0⟩ := hcut
    have sX := Lib.hid sX0
    clear sX0
    go_upto_region 1 with (fail)
    go_cut [1] (fun y wx => JSt W (tCells a cap t bv) L y wx)
    case first =>
      have hm := World.ownsRow_made (base := W.heap.size + 1 + 1) (e := 5) (size := 1) wc #[] 0 (by have := sX.out; omega) (by unfold maxLen; omega) rfl
      have b1 : Below wc.heap.size wc (wc.alloc (.cells #[] 5)) := (Below.refl _ _).alloc (Nat.le_refl _) _
      have m0 : JMid W (tCells a cap t bv) [] (.slice (some ⟨wc.heap.size, 0, none⟩) 0 0) (wc.alloc (.cells #[] 5)) := ⟨hm, p1.below b1, p2.below b1, bto bX b1 bX.size, by have := b1.size; have := sX.out; omega⟩
      have M0 := Lib.hid m0
      have q1 := m0.p1
      have c15 := q1.tc.2.2.2.2.2.2.2.2.2.2.2.2.2.2.2.1
      have hz := m0.sz
      have hll := HLL.out
      clear m0 hm b1 p1 p2 q1
      rcases HBB.out with ⟨rfl, rfl⟩ | ⟨gb, ob, nb, cb, rfl, hlb, ⟨hcb1, hcb2⟩, hBb, hFb⟩
      · rcases HS.out with (⟨rfl, rfl⟩ | ⟨gs, os, ns, cs, rfl, hls, ⟨hcs1, hcs2⟩, hBs, hFs⟩) | ⟨ad, cs, rfl, rfl⟩
        · have FIN : Hid (JSt W (tCells a cap t (.slice none 0 0)) L (.slice (some ⟨wc.heap.size, 0, none⟩) 0 0) (wc.alloc (.cells #[] 5))) := Lib.hid (by rw [HL.out]; exact M0.out.done)
          clear hvs
          go_wp2_with (at_builtin; refine wpList_append_own_none rfl _ _ 61 rfl (W.heap.size + 1 + 1) 5 i0 1 Tryz.underlying61 hi _ _ _ rfl M0.out.held rfl ?_)
          go_meet
          exact FIN.out
        · have hBX := hBs.below (w' := wc.alloc (.cells #[] 5)) M0.out.b
          have hnews := bys_news hBX
          have HLS := Lib.hid hls
          have hns : ns ≤ 10000000 := by omega
          have HLs : Hid (L = s) := Lib.hid HL.out
          clear hvs hls hBs hBX hll
          go_wp2_with (first
            | (at_builtin; refine wpList_append_own_none rfl _ _ 61 rfl (W.heap.size + 1 + 1) 5 i0 1 Tryz.underlying61 hi _ _ _ rfl M0.out.held rfl ?_)
            | (at_builtin; refine wpList_append_own_at _ rfl _ _ 61 rfl (W.heap.size + 1 + 1) 5 i0 (.int .u8 0) 1 1 Tryz.underlying61 hi hz0 hz1 hz2 rfl (by decide) _ _ _ rfl M0.out.held _ _ _ (u8v s) rfl (by rw [u8v_len, HLS.out, Nat.mul_one]) hnews (u8v_one _) (by unfold maxLen; simp; omega) (by simp; omega) hz ?_; intro v' w1 hown' hgrow _ _; have HM1 : Hid (JMid W (tCells a cap t (.slice none 0 0)) L v' w1) := Lib.hid (M0.out.next (held_app hown' rfl HLS.out HL.out) hgrow); clear hown' hgrow))
          go_meet
          exact HM1.out.done
        · clear hvs
          go_wp2_with (first
            | (at_builtin; refine wpList_append_own_none rfl _ _ 61 rfl (W.heap.size + 1 + 1) 5 i0 1 Tryz.underlying61 hi _ _ _ rfl M0.out.held rfl ?_)
            | (at_builtin; refine wpList_append_own_at _ rfl _ _ 61 rfl (W.heap.size + 1 + 1) 5 i0 (.int .u8 0) 1 1 Tryz.underlying61 hi hz0 hz1 hz2 rfl (by decide) _ _ _ rfl M0.out.held ad 0 cs (u8v []) rfl rfl (fun j u hj => by simp [u8v] at hj) (u8v_one _) (by unfold maxLen; simp) (by simp) hz ?_; intro v' w1 hown' hgrow _ _; have HM1 : Hid (JMid W (tCells a cap t (.slice none 0 0)) L v' w1) := Lib.hid (M0.out.next (held_app hown' rfl rfl HL.out) hgrow); clear hown' hgrow))
          go_meet
          exact HM1.out.done
      · have hBX := hBb.below (w' := wc.alloc (.cells #[] 5)) M0.out.b
        have hnewb := bys_news hBX
        have HLB := Lib.hid hlb
        have hnb : nb ≤ 10000000 := by omega
        rcases HS.out with (⟨rfl, rfl⟩ | ⟨gs, os, ns, cs, rfl, hls, ⟨hcs1, hcs2⟩, hBs, hFs⟩) | ⟨ad, cs, rfl, rfl⟩
        · have HLs : Hid (L = [] ++ l) := Lib.hid (by rw [HL.out, List.append_nil]; rfl)
          clear hvs hlb hBb hBX hll
          go_wp2_with (first
            | (at_builtin; refine wpList_append_own_at _ rfl _ _ 61 rfl (W.heap.size + 1 + 1) 5 i0 (.int .u8 0) 1 1 Tryz.underlying61 hi hz0 hz1 hz2 rfl (by decide) _ _ _ rfl M0.out.held _ _ _ (u8v l) rfl (by rw [u8v_len, HLB.out, Nat.mul_one]) hnewb (u8v_one _) (by unfold maxLen; simp; omega) (by simp; omega) hz ?_; intro v' w1 hown' hgrow _ _; have HM1 : Hid (JMid W (tCells a cap t (.slice (some ⟨gb, ob, none⟩) nb cb)) L v' w1) := Lib.hid (M0.out.next (held_app hown' rfl HLB.out HLs.out) hgrow); clear hown' hgrow)
            | (at_builtin; refine wpList_append_own_none rfl _ _ 61 rfl (W.heap.size + 1 + 1) 5 i0 1 Tryz.underlying61 hi _ _ _ rfl HM1.out.held rfl ?_))
          go_meet
          exact HM1.out.done
        · have HLS := Lib.hid hls
          have HBS := Lib.hid hBs
          have hns : l.length + ns ≤ 10000000 := by omega
          clear hvs hlb hBb hBX hll hls hBs
          go_wp2_with (first
            | (at_builtin; refine wpList_append_own_at _ rfl _ _ 61 rfl (W.heap.size + 1 + 1) 5 i0 (.int .u8 0) 1 1 Tryz.underlying61 hi hz0 hz1 hz2 rfl (by decide) _ _ _ rfl M0.out.held _ _ _ (u8v l) rfl (by rw [u8v_len, HLB.out, Nat.mul_one]) hnewb (u8v_one _) (by unfold maxLen; simp; omega) (by simp; omega) hz ?_; intro v' w1 hown' hgrow _ _; have HM1 : Hid (JMid W (tCells a cap t (.slice (some ⟨gb, ob, none⟩) nb cb)) l v' w1) := Lib.hid (M0.out.next (held_app (L := l) hown' rfl HLB.out rfl) hgrow); clear hown' hgrow)
            | (at_builtin; refine wpList_append_own_at _ rfl _ _ 61 rfl (W.heap.size + 1 + 1) 5 i0 (.int .u8 0) 1 1 Tryz.underlying61 hi hz0 hz1 hz2 rfl (by decide) _ _ _ rfl HM1.out.held _ _ _ (u8v s) rfl (by rw [u8v_len, HLS.out, Nat.mul_one]) (bys_news (HBS.out.below HM1.out.b)) (u8v_one _) (by unfold maxLen; omega) (by omega) HM1.out.sz ?_; intro v2 w2 hown2 hgrow2 _ _; have HM2 : Hid (JMid W (tCells a cap t (.slice (some ⟨gb, ob, none⟩) nb cb)) L v2 w2) := Lib.hid (HM1.out.next (held_app hown2 rfl HLS.out HL.out) hgrow2); clear hown2 hgrow2))
          go_meet
          exact HM2.out.done
        · have HLs : Hid (L = [] ++ l) := Lib.hid (by rw [HL.out, List.append_nil]; rfl)
          clear hvs hlb hBb hBX hll
          go_wp2_with (first
            | (at_builtin; refine wpList_append_own_at _ rfl _ _ 61 rfl (W.heap.size + 1 + 1) 5 i0 (.int .u8 0) 1 1 Tryz.underlying61 hi hz0 hz1 hz2 rfl (by decide) _ _ _ rfl M0.out.held _ _ _ (u8v l) rfl (by rw [u8v_len, HLB.out, Nat.mul_one]) hnewb (u8v_one _) (by unfold maxLen; simp; omega) (by simp; omega) hz ?_; intro v' w1 hown' hgrow _ _; have HM1 : Hid (JMid W (tCells a cap t (.slice (some ⟨gb, ob, none⟩) nb cb)) l v' w1) := Lib.hid (M0.out.next (held_app (L := l) hown' rfl HLB.out rfl) hgrow); clear hown' hgrow)
            | (at_builtin; refine wpList_append_own_at _ rfl _ _ 61 rfl (W.heap.size + 1 + 1) 5 i0 (.int .u8 0) 1 1 Tryz.underlying61 hi hz0 hz1 hz2 rfl (by decide) _ _ _ rfl HM1.out.held ad 0 cs (u8v []) rfl rfl (fun j u hj => by simp [u8v] at hj) (u8v_one _) (by unfold maxLen; omega) (by omega) HM1.out.sz ?_; intro v2 w2 hown2 hgrow2 _ _; have HM2 : Hid (JMid W (tCells a cap t (.slice (some ⟨gb, ob, none⟩) nb cb)) L v2 w2) := Lib.hid (HM1.out.next (held_app hown2 rfl rfl HL.out) hgrow2); clear hown2 hgrow2))
          go_meet
          exact HM2.out.done
    case rest =>
      obtain ⟨jb, p3, p4, b3⟩ := hcut
      clear p1 p2 bX sX
      obtain ⟨n, hn⟩ : ∃ n, n = L.length := ⟨_, rfl⟩
      unfold JB at jb
      rw [← hn] at jb
      have hn5 : n ≤ 10000000 := by omega
      obtain ⟨⟨ya, yc, rfl⟩, jb2⟩ := jb
      obtain ⟨pA, oA⟩ := p3.set 15 (.slice none 0 0) (tCells a cap t (.slice none 0 0)) rfl
      have qA := p4.only oA (by simp)
      have bA := b3.trans (oA.below (by simp) b3.size)
      have fz := p3.tc.2.2.2.2.2.2.2.2.2.2.2.2.2.2.2.2.2.2.2
      have c15 := p3.tc.2.2.2.2.2.2.2.2.2.2.2.2.2.2.2.1
      have hn1 : OneV (.slice none 0 0) := rfl
      have st0 : WSt F W n L t (.slice ya n yc) (wc.setCell ⟨W.heap.size, 15, none⟩ (.slice none 0 0)) 0 t a cap :=
        { le := Nat.zero_le _, ok := OK.out, run := rfl, gone := Nat.le_refl _, bells := Nat.le_refl _, sl := ⟨ya, yc, rfl⟩, p := pA, q := qA, g := GF.out.below bA, b := bA,
          by_ := fun h0 => by
            obtain ⟨g, c, e, h1, h2, h3⟩ := jb2 (fun e => by rw [e] at hn; simp at hn; omega)
            exact ⟨g, 0, c, e, h1, ⟨by simp [World.setCell]; exact h2.lt, fun j hj => by rw [cell_block (set_other _ _ _ _ _ (by omega))]; exact h2.at_ j hj⟩, h3⟩ }
      have ST0 := Lib.hid st0
      have HN := Lib.hid hn
      clear st0 jb2 hn pA qA bA oA b3 p4 p3
      refine (‹∀ (a : Act) (w : World), Code.wp Tryz.prog _ _ a w → _›) _ _ ?_
      go_wp2
      go_loopw [1] (fun y wr => ∃ k t' a' c', WSt F W n L t y wr k t' a' c') (fun y _ => lenV y)
      case atStart => exact ⟨0, t, a, cap, ST0.out⟩
      case round =>
        obtain ⟨k, t', a', c', st⟩ := hrel
        clear c15 fz
        have hFX : ∀ b, wr.heap.size ≤ b → F b ∧ b ≠ W.heap.size ∧ b ≠ W.heap.size + 1 := fun b hb => by
          have := st.b.size
          have := st.q.lt
          exact ⟨hF b (by omega), by omega, by omega⟩
        by_cases hkn : k < n
        · obtain ⟨g, off, yc', rfl, ⟨hc1, hc2⟩, hB, hg2⟩ := st.by_ hkn
          unfold maxLen at hc2
          obtain ⟨ch, r, hcr⟩ : ∃ ch r, L.drop k = ch :: r := ⟨L[k]'(by rw [← HN.out]; exact hkn), L.drop (k + 1), List.drop_eq_getElem_cons (by rw [← HN.out]; exact hkn)⟩
          have hrl : r.length + 1 = n - k := by
            have := congrArg List.length hcr
            rw [List.length_drop, ← HN.out, List.length_cons] at this
            omega
          have hgo := st.gone
          have hbe := st.bells
          have hB' := hB
          rw [hcr] at hB'
          have CF := rfirst_any (cb := yc') hFX hn1 st.ok (by omega) (by omega) st.g hB' hrl (by omega) hc1
          rw [← hcr] at CF
          have hfle := t'.first_le (L.drop k)
          rw [List.length_drop, ← HN.out] at hfle
          have hcnt' := t'.first_cnt (L.drop k)
          have hokf := st.ok.first (L.drop k)
          have hstep := run_step t' (L.drop k)
          have hwait := run_wait t' (L.drop k)
          obtain ⟨z, hz⟩ : ∃ z, z = t'.first (L.drop k) := ⟨_, rfl⟩
          rw [← hz] at CF hfle hcnt' hokf hstep hwait
          obtain ⟨tn, m⟩ := z
          dsimp only at hfle hcnt' hokf hstep hwait
          obtain ⟨N, hN⟩ : ∃ N, N = n - k := ⟨_, rfl⟩
          rw [← hN] at CF hc1 hfle hrl
          have CFH := Lib.hid CF
          have HS := Lib.hid st
          have HBX := Lib.hid hB
          have pV := st.p
          have qV := st.q
          have HNN := Lib.hid hN
          have hN0 : 0 < N := by omega
          have hN1 : N ≤ 10000000 := by omega
          have hNi : (0 : Int) < (N : Int) := by omega
          have hdl : Hid ((L.drop k).length = N) := Lib.hid (by rw [List.length_drop, ← HN.out, hN])
          rw [← hN]
          by_cases hm : m = 0
          · have hw := hwait hm
            have ht := (hfle.2 hm).1
            subst hm
            subst ht
            have HRUN : Hid (runT t L = (tn, L.drop k)) := Lib.hid (st.run.trans hw)
            have HG2 := Lib.hid hg2
            clear hw hwait hstep hfle hcnt' hokf hcr hrl hB hB' CF st hz hgo hbe hg2 hN
            go_wp2_with (refine wpList_tload rfl _ rfl W.heap.size rfl (tCells a' c' tn (.slice none 0 0)) ?_ rfl ?_; exact pV)
            refine (CFH.out).mono ?_
            rintro e w2 ⟨a2, c2, rfl, g2, hb2⟩
            dsimp only at g2
            have pn : TBx (w2.alloc (.cells zCells 63)) w2.heap.size zCells := TBx.new _ _
            have b2 := bto HS.out.b hb2 HS.out.b.size
            have hlt := (qV.below hb2).lt
            obtain ⟨X2, hX2⟩ : ∃ X2, w2.alloc (.cells zCells 63) = X2 := ⟨_, rfl⟩
            have bX2 : Below w2.heap.size w2 X2 := by rw [← hX2]; exact (Below.refl _ _).alloc (Nat.le_refl _) _
            rw [hX2] at pn
            have HX2 := Lib.hid hX2
            clear hX2
            have pW := (pV.below hb2).below bX2
            have qW := (qV.below hb2).below bX2
            go_upto_region 5 with (refine wpList_tstore rfl _ _ rfl w2.heap.size rfl _ rfl zCells ?_ rfl rfl (tCells_one _ _ _ hn1) ?_; rw [← HX2.out] at pn; exact pn; intro w3 p3 o3)
            have o3' : Only [w2.heap.size] X2 w3 := by rw [← HX2.out]; exact o3
            clear o3 HX2
            have pW3 := pW.only o3' (by simp; omega)
            have qW3 := qW.only o3' (by simp; omega)
            have bX := bto b2 bX2 b2.size
            have b3 := bX.trans (o3'.below (by simp; exact b2.size) bX.size)
            have g3 := g2.keep (Y := w3) (Nat.le_trans bX2.size o3'.size) (fun b hb hlt => (o3'.block b (Nat.lt_of_lt_of_le hlt bX2.size) (by simp; omega)).trans (bX2.block b hlt))
            have hgw := HBX.out.lt
            have hB3 : Bys w3 g off (L.drop k) := ((HBX.out.below hb2).below bX2).of_block (o3'.block g (by have := hb2.size; have := bX2.size; omega) (by have := hb2.size; simp; omega)) o3'.size
            go_upto_region 7 with (first
              | (refine wpList_tload rfl _ rfl w2.heap.size rfl (tCells a2 c2 tn (.slice none 0 0)) ?_ rfl ?_; exact p3)
              | (refine wpList_tstore rfl _ _ rfl W.heap.size rfl _ rfl (tCells a' c' tn (.slice none 0 0)) ?_ rfl rfl (tCells_one _ _ _ hn1) ?_; exact pW3; intro w4 p4 o4))
            have q4 := qW3.only o4 (by simp)
            have b4 := b3.trans (o4.below (by simp) b3.size)
            have g4 := g3.keep o4.size (fun b hb hlt => o4.block b hlt (by simpa using hb.2.1))
            have fz := p4.tc.2.2.2.2.2.2.2.2.2.2.2.2.2.2.2.2.2.2.2
            have c15 := p4.tc.2.2.2.2.2.2.2.2.2.2.2.2.2.2.2.1
            obtain ⟨p5, o5⟩ := p4.set 15 (.slice (some ⟨g, off, none⟩) N yc') (tCells a2 c2 tn (.slice (some ⟨g, off, none⟩) N yc')) rfl
            have q5 := q4.only o5 (by simp)
            have b5 := b4.trans (o5.below (by simp) b4.size)
            have g5 := g4.keep o5.size (fun b hb hlt => o5.block b hlt (by simpa using hb.2.1))
            go_wp2_with (first
              | (refine wpList_tload rfl _ rfl W.heap.size rfl (tCells a2 c2 tn (.slice (some ⟨g, off, none⟩) N yc')) ?_ rfl ?_; exact p5)
              | (refine wpList_tstore rfl _ _ rfl (W.heap.size + 1) rfl _ rfl zCells ?_ rfl rfl (tCells_one _ _ _ rfl) ?_; exact q5; intro w7 p7 o7))
            have b7 : Below W.heap.size W w7 := b5.trans (o7.below (by simp) b5.size)
            refine tret rfl rfl p7 rfl ?_
            rw [HRUN.out]
            have hgn := HG2.out
            have hB4 := hB3.of_block (o4.block g hB3.lt (by simp; omega)) o4.size
            have hB5 := hB4.of_block (o5.block g hB4.lt (by simp; omega)) o5.size
            exact ⟨a2, c2, _, rfl, (g5.keep o7.size (fun b hb hlt => o7.block b hlt (by simpa using hb.2.2))).mono (fun b hb _ => hb.1), .inr ⟨g, off, N, yc', rfl, hdl.out, ⟨hc1, by unfold maxLen; omega⟩, hB5.of_block (o7.block g hB5.lt (by simp; omega)) o7.size, hF g (by omega)⟩, b7⟩
          · have hmi : ((m : Int) == 0) = false := by simp; omega
            have hru : runT t L = runT tn (L.drop (k + m)) := by rw [st.run, hstep hm, List.drop_drop]
            have HM : Hid (k + m ≤ n ∧ TOk tn ∧ runT t L = runT tn (L.drop (k + m)) ∧ tn.gone ≤ t.gone + (k + m) ∧ tn.bells ≤ t.bells + (k + m)) := Lib.hid ⟨by omega, hokf, hru, by omega, by omega⟩
            have hmN : m ≤ N := hfle.1
            have hm0 : 0 < m := by omega
            have HG2 := Lib.hid hg2
            clear hru hwait hstep hfle hcnt' hokf hcr hrl hB hB' CF st hz hgo hbe hg2 hN hm
            go_wp2_with (refine wpList_tload rfl _ rfl W.heap.size rfl (tCells a' c' t' (.slice none 0 0)) ?_ rfl ?_; exact pV)
            refine (CFH.out).mono ?_
            rintro e w2 ⟨a2, c2, rfl, g2, hb2⟩
            dsimp only at g2
            have pn : TBx (w2.alloc (.cells zCells 63)) w2.heap.size zCells := TBx.new _ _
            have b2 := bto HS.out.b hb2 HS.out.b.size
            have hlt := (qV.below hb2).lt
            obtain ⟨X2, hX2⟩ : ∃ X2, w2.alloc (.cells zCells 63) = X2 := ⟨_, rfl⟩
            have bX2 : Below w2.heap.size w2 X2 := by rw [← hX2]; exact (Below.refl _ _).alloc (Nat.le_refl _) _
            rw [hX2] at pn
            have HX2 := Lib.hid hX2
            clear hX2
            have pW := (pV.below hb2).below bX2
            have qW := (qV.below hb2).below bX2
            go_upto_region 5 with (refine wpList_tstore rfl _ _ rfl w2.heap.size rfl _ rfl zCells ?_ rfl rfl (tCells_one _ _ _ hn1) ?_; rw [← HX2.out] at pn; exact pn; intro w3 p3 o3)
            have o3' : Only [w2.heap.size] X2 w3 := by rw [← HX2.out]; exact o3
            clear o3 HX2
            have pW3 := pW.only o3' (by simp; omega)
            have qW3 := qW.only o3' (by simp; omega)
            have bX := bto b2 bX2 b2.size
            have b3 := bX.trans (o3'.below (by simp; exact b2.size) bX.size)
            have g3 := g2.keep (Y := w3) (Nat.le_trans bX2.size o3'.size) (fun b hb hlt => (o3'.block b (Nat.lt_of_lt_of_le hlt bX2.size) (by simp; omega)).trans (bX2.block b hlt))
            have hgw := HBX.out.lt
            have hB3 : Bys w3 g off (L.drop k) := ((HBX.out.below hb2).below bX2).of_block (o3'.block g (by have := hb2.size; have := bX2.size; omega) (by have := hb2.size; simp; omega)) o3'.size
            have hmi1 : (0 : Int) ≤ (m : Int) := by omega
            have hmi2 : (m : Int) ≤ (N : Int) := by omega
            have hmi3 : (m : Int) ≤ (yc' : Int) := by omega
            have hmi4 : m ≤ yc' := by omega
            by_cases hmc : m = yc'
            all_goals
              go_wp2_with (first
                | (refine wpList_tload rfl _ rfl w2.heap.size rfl (tCells a2 c2 tn (.slice none 0 0)) ?_ rfl ?_; exact p3)
                | (refine wpList_tstore rfl _ _ rfl W.heap.size rfl _ rfl (tCells a' c' t' (.slice none 0 0)) ?_ rfl rfl (tCells_one _ _ _ hn1) ?_; exact pW3; intro w4 p4 o4))
              have q4 := qW3.only o4 (by simp)
              have b4 := b3.trans (o4.below (by simp) b3.size)
              have g4 := g3.keep o4.size (fun b hb hlt => o4.block b hlt (by simpa using hb.2.1))
              have hB4 := hB3.of_block (o4.block g hB3.lt (by have := HG2.out; simp; omega)) o4.size
              have HB4 := Lib.hid hB4
              clear hB4 hB3
              go_roundw
              case rel =>
                obtain ⟨m1, m2, m3, m4, m5⟩ := HM.out
                have hN := HNN.out
                have hbd := HB4.out.dropAt m
                rw [List.drop_drop] at hbd
                first
                  | exact ⟨k + m, tn, a2, c2, { le := m1, ok := m2, run := m3, gone := m4, bells := m5, sl := ⟨some ⟨g, off, none⟩, 0, by rw [show n - (k + m) = 0 by omega]⟩, by_ := fun h => by omega, p := p4, q := q4, g := g4, b := b4 }⟩
                  | exact ⟨k + m, tn, a2, c2, { le := m1, ok := m2, run := m3, gone := m4, bells := m5, sl := ⟨some ⟨g, off + m, none⟩, yc' - m, by rw [show n - (k + m) = N - m by omega]⟩, by_ := fun _ => ⟨g, off + m, yc' - m, by rw [show n - (k + m) = N - m by omega], ⟨by omega, by unfold maxLen; omega⟩, hbd, HG2.out⟩, p := p4, q := q4, g := g4, b := b4 }⟩
              case measure => simp [lenV]; omega
        · have hk : k = n := by have := st.le; omega
          subst hk
          obtain ⟨ya', yc', rfl⟩ := st.sl
          rw [Nat.sub_self]
          have pV := st.p
          have qV := st.q
          have HS := Lib.hid st
          clear st
          go_wp2_with (first
            | (refine wpList_tload rfl _ rfl W.heap.size rfl (tCells a' c' t' (.slice none 0 0)) ?_ rfl ?_; exact pV)
            | (refine wpList_tstore rfl _ _ rfl (W.heap.size + 1) rfl _ rfl zCells ?_ rfl rfl (tCells_one _ _ _ hn1) ?_; exact qV; intro w7 p7 o7))
          have st := HS.out
          have b7 : Below W.heap.size W w7 := st.b.trans (o7.below (by simp) st.b.size)
          refine tret rfl rfl p7 rfl ?_
          have hrun : runT t L = (t', []) := by
            have := st.run
            rw [List.drop_eq_nil_of_le (by rw [HN.out]; exact Nat.le_refl _)] at this
            rw [this]; rfl
          rw [hrun]
          exact ⟨a', c', _, rfl, (st.g.keep o7.size (fun b hb hlt => o7.block b hlt (by simpa using hb.2.2))).mono (fun b hb _ => hb.1), .inl ⟨rfl, rfl⟩, b7⟩
end Go.Proofs.YtekodpcedjpnjaaGreat
namespace Go.Proofs.YtekodpcedjpnjaaGreat
open Go.RowKit Go.Shelf Go.Maps
set_option maxRecDepth 100000 in
set_option maxHeartbeats 8000000 in
theorem rtnew_ok {F : Nat → Prop} {W : World} (hF : ∀ b, W.heap.size ≤ b → F b) (w h : Nat) (hd : 1 ≤ w ∧ w ≤ 500 ∧ 1 ≤ h ∧ h ≤ 500) :
    Calls Tryz.prog 48 #[.int .i64 w, .int .i64 h] W (TPost2 F (TS.new w h, 0) (.slice none 0 0) W) := by
  have CN := Lib.hid (fun (X : World) (hX : W.heap.size < X.heap.size) (bX : Below W.heap.size W X) => rnew_ok (F := fun b => F b ∧ b ≠ W.heap.size) (W := X) (fun b hb => ⟨hF b (by omega), by omega⟩) w h hd)
  have hn1 : OneV (.slice none 0 0) := rfl
  go_enter Tryz.func48, Tryz.ntmps48
  go_upto_region 0 with (fail)
  go_cut [4, 5] (fun u y wx => u = .pointer (some ⟨W.heap.size, 0, none⟩) ∧ y = .int .i64 0 ∧ TBx wx W.heap.size zCells ∧ Below W.heap.size W wx)
  case first =>
    have FIN : Hid (TBx (W.alloc (.cells zCells 63)) W.heap.size zCells ∧ Below W.heap.size W (W.alloc (.cells zCells 63))) := Lib.hid ⟨TBx.new _ _, (Below.refl _ _).alloc (Nat.le_refl _) _⟩
    go_wp2
    go_meet
    exact ⟨rfl, rfl, FIN.out⟩
  case rest =>
    obtain ⟨rfl, rfl, p1, bX⟩ := hcut
    go_wp2_with fail
    refine (CN.out _ p1.lt bX).mono ?_
    rintro e w2 ⟨a2, c2, rfl, g2, hb2⟩
    have p2 := p1.below hb2
    have b2 := bto bX hb2 bX.size
    have bG : Below w2.heap.size w2 (w2.alloc (.cells #[.int .i64 w, .int .i64 h, .slice a2 h c2] 29)) := (Below.refl _ _).alloc (Nat.le_refl _) _
    have p3 := p2.below bG
    have b3 := bto b2 bG b2.size
    have g3 := g2.below bG
    have G3 := Lib.hid g3
    have hlt := p2.lt
    clear g2 g3 p1 p2 hb2
    go_wp2_with (refine wpList_tstore rfl _ _ rfl W.heap.size rfl (tCells a2 c2 (TS.new w h) (.slice none 0 0)) rfl zCells ?_ rfl rfl (tCells_one _ _ _ hn1) ?_; exact p3; intro w7 p7 o7)
    have b7 : Below W.heap.size W w7 := b3.trans (o7.below (by simp) b3.size)
    refine tret2 rfl rfl rfl p7 rfl ?_
    exact tpost2 rfl ((G3.out.keep o7.size (fun b hb hlt => o7.block b hlt (by simpa using hb.2))).mono (fun b hb _ => hb.1)) b7
end Go.Proofs.YtekodpcedjpnjaaGreat
namespace Go.Proofs.YtekodpcedjpnjaaGreat
open Go.RowKit Go.Shelf Go.Maps
end Go.Proofs.YtekodpcedjpnjaaGreat
