/- The reference's terminal: sequence. No condition. The reference's terminal: rune1, but for joins. No condition. The reference's terminal: rune1, joins. The reference's terminal: rune1 whole, first. No condition. -/
import Derived.Test.YtjkajojjehgmdaaGreatRE17
import Derived.Test.YtjkajojjehgmdaaGreatRE33
import Derived.Test.YtjkajojjehgmdaaGreatRE34
import Derived.Test.YtjkajojjehgmdaaGreatRE36
set_option linter.unusedVariables false
set_option linter.unusedSimpArgs false
namespace Go.Proofs.YtjkajojjehgmdaaGreat
open Go.RowKit Go.Shelf Go.Maps
theorem TO0.off {t : TS} (k : TO0 t) : TO0 t.off := { w1 := k.w1, w2 := k.w2, h1 := k.h1, h2 := k.h2, ok := k.ok, ro := k.ro, row := k.row, col := k.col }
def TPost2 (F : Nat → Prop) (x : TS × Nat) (bv : Value) (W : World) (e : Ending) (w' : World) : Prop := ∃ a c, e = .returned (.tuple #[.agg (tCells a c x.1 bv), .int .i64 (x.2 : Nat)]) ∧ RG F w' a c x.1.W x.1.H x.1.R ∧ Below W.heap.size W w'
set_option maxRecDepth 100000 in
theorem tret2 {fn : Func} {p u : Tmp} {R : Ending → World → Prop} {act : Act} {w : World} {b : Nat} {a : Option Addr} {cap : Nat} {t : TS} {bv v : Value} (h : fn.results = #[.cell p 34, .tmp u]) (hp : act.tmps.getD p undef = .pointer (some ⟨b, 0, none⟩)) (hu : act.tmps.getD u undef = v) (hb : TBx w b (tCells a cap t bv)) (hd : act.defers = []) (hR : R (.returned (.tuple #[.agg (tCells a cap t bv), v])) w) :
    bodyPost Tryz.prog fn R Exit.ret act w := by
 subst hu
 refine bodyPost_ret (results_row2 h _ _ b _ hp (hb.load rfl)) hd ?_
 exact hR
theorem tpost2 {F : Nat → Prop} {x : TS × Nat} {bv : Value} {W w' : World} {a : Option Addr} {c : Nat} {v : Value} (hv : v = .int .i64 (x.2 : Nat)) (hg : RG F w' a c x.1.W x.1.H x.1.R) (hb : Below W.heap.size W w') : TPost2 F x bv W (.returned (.tuple #[.agg (tCells a c x.1 bv), v])) w' := ⟨a, c, by rw [hv], hg, hb⟩
set_option maxRecDepth 100000 in
set_option maxHeartbeats 8000000 in
theorem rsequence_any {F : Nat → Prop} {W : World} (hF : ∀ b, W.heap.size ≤ b → F b) {a : Option Addr} {cap : Nat} {t : TS} {bv : Value} (h1 : OneV bv) (ok : TO0 t) (gR : RG F W a cap t.W t.H t.R) {g off n cb : Nat} {c d : UInt8} {r : List UInt8} (hB : Bys W g off (c :: d :: r)) (hn : r.length + 2 = n) (hn2 : n ≤ 10000000) (hcb : n ≤ cb) :
    Calls Tryz.prog 59 #[.agg (tCells a cap t bv), .slice (some ⟨g, off, none⟩) n cb] W (TPost2 F (t.seq r) bv W) := by
 obtain ⟨I1, hI1⟩ : ∃ I1, I1 = 2 + spanN parB r := ⟨_, rfl⟩
 obtain ⟨I2, hI2⟩ : ∃ I2, I2 = I1 + spanN midB (r.drop (I1 - 2)) := ⟨_, rfl⟩
 have q1 : 2 ≤ I1 ∧ I1 ≤ n := by have := spanN_le parB r; omega
 have q2 : I1 ≤ I2 ∧ I2 ≤ n := by
  have h := spanN_le midB (r.drop (I1 - 2))
  rw [List.length_drop] at h
  omega
 have hz0 : t.seq r = if 32 ≤ I2 then (t.off, 32) else if I2 = n then (t, 0) else if endB (nth 0 r (I2 - 2)) then (if I1 = I2 then t.off.obey (r.take (I1 - 2)) (nth 0 r (I1 - 2)).toNat else t.off, I2 + 1) else (t.off, I2) := by
  have e1 : spanN parB r = I1 - 2 := by omega
  have e2 : spanN midB (r.drop (I1 - 2)) = I2 - I1 := by omega
  unfold TS.seq
  simp only [e1, e2]
  rw [show 2 + (I1 - 2) + (I2 - I1) = I2 by omega, show I1 - 2 + (I2 - I1) = I2 - 2 by omega, hn]
  by_cases h : I1 = I2
  ·rw [if_pos (show I2 - I1 = 0 by omega), if_pos h]
  ·rw [if_neg (show ¬ I2 - I1 = 0 by omega), if_neg h]
 have HI1 : Hid (I1 = 2 + spanN parB (r.drop (2 - 2))) := Lib.hid hI1
 have HI2 : Hid (I2 = I1 + spanN midB (r.drop (I1 - 2))) := Lib.hid hI2
 obtain ⟨z, hz⟩ : ∃ z, z = t.seq r := ⟨_, rfl⟩
 rw [← hz] at hz0 ⊢
 have HZ := Lib.hid hz0
 have HP := Lib.hid (fun k (hk : k < r.length) => span_at parB r k hk)
 have HM := Lib.hid (fun k (hk : k < r.length) => span_at midB r k hk)
 have HPE := Lib.hid (fun k (hk : r.length ≤ k) => span_end parB r k hk)
 have HME := Lib.hid (fun k (hk : r.length ≤ k) => span_end midB r k hk)
 have HN := Lib.hid hn
 have OK := Lib.hid ok
 have HB0 := Lib.hid hB
 have HG := Lib.hid gR
 obtain ⟨q11, q13⟩ := q1
 obtain ⟨q21, q23⟩ := q2
 clear hz hz0 hI1 hI2 ok hB hn gR
 go_enter Tryz.func59, Tryz.ntmps59
 go_upto_region 0 with (fail)
 go_cut [2, 4, 5] (fun u v y wx => u = .pointer (some ⟨W.heap.size, 0, none⟩) ∧ v = .pointer (some ⟨W.heap.size + 1, 0, none⟩) ∧ y = .int .i64 0 ∧ TIn W (tCells a cap t bv) wx)
 case first =>
  go_wp2
  go_meet
  exact ⟨rfl, rfl, rfl, tin W _⟩
 case rest =>
  obtain ⟨rfl, rfl, rfl, p1, p2, bX, sX⟩ := hcut
  have HB := Lib.hid (HB0.out.below bX)
  go_upto_block 0 with (fail)
  go_cut [6] (fun i wx => i = .int .i64 I1 ∧ wc = wx)
  case first =>
   go_wp2
   go_loop [6] (fun i => ∃ k : Nat, 2 ≤ k ∧ k ≤ n ∧ i = .int .i64 k ∧ Hid (I1 = k + spanN parB (r.drop (k - 2)))) (fun i => n - (intOf i).toNat)
   case atStart => exact ⟨2, by omega, by omega, rfl, HI1⟩
   case round =>
    obtain ⟨k, hk2, hkn, rfl, hf⟩ := hrel
    by_cases hlt : k < n
    ·have hc0 := HB.out.at2 hk2 (by rw [HN.out]; exact hlt)
     have hsp := HP.out (k - 2) (by have := HN.out; omega)
     rw [parB_nat] at hsp
     obtain ⟨x, hx⟩ : ∃ x, x = (nth 0 r (k - 2)).toNat := ⟨_, rfl⟩
     rw [← hx] at hsp hc0
     clear hx
     by_cases hy : (48 : Int) ≤ (x : Int) ∧ (x : Int) ≤ 63
     ·rw [decide_eq_true hy, if_pos rfl, show k - 2 + 1 = k + 1 - 2 by omega] at hsp
      have HF : Hid (I1 = (k + 1) + spanN parB (r.drop (k + 1 - 2))) := Lib.hid (by
       have h2 := hf.out
       omega)
      clear hsp
      obtain ⟨hy1, hy2⟩ := hy
      go_wp2
      go_round
      case rel => exact ⟨k + 1, by omega, by omega, by go_num, HF⟩
      case measure => simp [intOf]; omega
     ·rw [decide_eq_false hy, if_neg (by simp)] at hsp
      have HF : Hid (I1 = k) := Lib.hid (by
       have h2 := hf.out
       omega)
      clear hsp
      by_cases hy1 : (48 : Int) ≤ (x : Int)
      ·have hy2 : ¬ (x : Int) ≤ 63 := by omega
       clear hy
       go_wp2
       go_meet
       exact ⟨by rw [HF.out], rfl⟩
      ·clear hy
       go_wp2
       go_meet
       exact ⟨by rw [HF.out], rfl⟩
    ·have HF : Hid (I1 = k) := Lib.hid (by
      have h1 := HPE.out (k - 2) (by have := HN.out; omega)
      have h2 := hf.out
      omega)
     go_wp2
     go_meet
     exact ⟨by rw [HF.out], rfl⟩
  case rest =>
   obtain ⟨rfl, rfl⟩ := hcut
   refine (‹∀ (a : Act) (w : World), Code.wp Tryz.prog _ _ a w → _›) _ _ ?_
   go_upto_block 2 with (fail)
   go_cut [6, 7] (fun i m wx => i = .int .i64 I2 ∧ m = .int .i64 I1 ∧ wc = wx)
   case first =>
    go_wp2
    go_loop [6] (fun i => ∃ k : Nat, 2 ≤ k ∧ k ≤ n ∧ i = .int .i64 k ∧ Hid (I2 = k + spanN midB (r.drop (k - 2)))) (fun i => n - (intOf i).toNat)
    case atStart => exact ⟨I1, by omega, by omega, rfl, HI2⟩
    case round =>
     obtain ⟨k, hk2, hkn, rfl, hf⟩ := hrel
     by_cases hlt : k < n
     ·have hc0 := HB.out.at2 hk2 (by rw [HN.out]; exact hlt)
      have hsp := HM.out (k - 2) (by have := HN.out; omega)
      rw [midB_nat] at hsp
      obtain ⟨x, hx⟩ : ∃ x, x = (nth 0 r (k - 2)).toNat := ⟨_, rfl⟩
      rw [← hx] at hsp hc0
      clear hx
      by_cases hy : (32 : Int) ≤ (x : Int) ∧ (x : Int) ≤ 47
      ·rw [decide_eq_true hy, if_pos rfl, show k - 2 + 1 = k + 1 - 2 by omega] at hsp
       have HF : Hid (I2 = (k + 1) + spanN midB (r.drop (k + 1 - 2))) := Lib.hid (by
        have h2 := hf.out
        omega)
       clear hsp
       obtain ⟨hy1, hy2⟩ := hy
       go_wp2
       go_round
       case rel => exact ⟨k + 1, by omega, by omega, by go_num, HF⟩
       case measure => simp [intOf]; omega
      ·rw [decide_eq_false hy, if_neg (by simp)] at hsp
       have HF : Hid (I2 = k) := Lib.hid (by
        have h2 := hf.out
        omega)
       clear hsp
       by_cases hy1 : (32 : Int) ≤ (x : Int)
       ·have hy2 : ¬ (x : Int) ≤ 47 := by omega
        clear hy
        go_wp2
        go_meet
        exact ⟨by rw [HF.out], rfl, rfl⟩
       ·clear hy
        go_wp2
        go_meet
        exact ⟨by rw [HF.out], rfl, rfl⟩
     ·have HF : Hid (I2 = k) := Lib.hid (by
       have h1 := HME.out (k - 2) (by have := HN.out; omega)
       have h2 := hf.out
       omega)
      go_wp2
      go_meet
      exact ⟨by rw [HF.out], rfl, rfl⟩
   case rest =>
    obtain ⟨rfl, rfl, rfl⟩ := hcut
    refine (‹∀ (a : Act) (w : World), Code.wp Tryz.prog _ _ a w → _›) _ _ ?_
    by_cases hA : I2 < 32 ∧ I2 = n
    ·have HZ2 : Hid (z = (t, 0)) := Lib.hid (by rw [HZ.out, if_neg (by omega), if_pos hA.2])
     obtain ⟨hA1, hA2⟩ := hA
     subst hA2
     go_wp2_with (first
      | (refine wpList_tload rfl _ rfl W.heap.size rfl (tCells a cap t bv) ?_ rfl ?_; exact p1)
      | (refine wpList_tstore rfl _ _ rfl (W.heap.size + 1) rfl _ rfl zCells ?_ rfl rfl (tCells_one _ _ _ h1) ?_; exact p2; intro w7 p7 o7))
     have b7 : Below W.heap.size W w7 := bX.trans (o7.below (by simp) bX.size)
     refine tret2 rfl rfl rfl p7 rfl ?_
     rw [HZ2.out]
     exact tpost2 (by go_num) (HG.out.below b7) b7
    ·obtain ⟨pA, oA⟩ := p1.set 16 (.bool false) (tCells a cap t.off bv) rfl
     have qA := p2.only oA (by simp)
     have bA := bX.trans (oA.below (by simp) bX.size)
     have fz := p1.tc.2.2.2.2.2.2.2.2.2.2.2.2.2.2.2.2.2.2.2
     have c16 := p1.tc.2.2.2.2.2.2.2.2.2.2.2.2.2.2.2.2.1
     by_cases h32 : 32 ≤ I2
     ·have HZ2 : Hid (z = (t.off, 32)) := Lib.hid (by rw [HZ.out, if_pos h32])
      clear hA
      go_wp2_with (first
       | (refine wpList_tload rfl _ rfl W.heap.size rfl (tCells a cap t.off bv) ?_ rfl ?_; exact pA)
       | (refine wpList_tstore rfl _ _ rfl (W.heap.size + 1) rfl _ rfl zCells ?_ rfl rfl (tCells_one _ _ _ h1) ?_; exact qA; intro w7 p7 o7))
      have b7 : Below W.heap.size W w7 := bA.trans (o7.below (by simp) bA.size)
      refine tret2 rfl rfl rfl p7 rfl ?_
      rw [HZ2.out]
      exact tpost2 (by go_num) (HG.out.below b7) b7
     ·have h32' : I2 < 32 := by omega
      have hnn : I2 < n := by omega
      have hne : ¬ I2 = n := by omega
      clear hA
      have hc0 := HB.out.at2 (show 2 ≤ I2 by omega) (by rw [HN.out]; exact hnn)
      obtain ⟨x, hx⟩ : ∃ x, x = (nth 0 r (I2 - 2)).toNat := ⟨_, rfl⟩
      rw [← hx] at hc0
      have hcA : (wc.setCell ⟨W.heap.size, 16, none⟩ (.bool false)).cell? ⟨g, off + I2, none⟩ = some (.int .u8 (x : Int)) := by
       have := (HB0.out.below bA).at2 (show 2 ≤ I2 by omega) (by rw [HN.out]; exact hnn)
       rw [this, ← hx]
      have hxe := endB_nat (nth 0 r (I2 - 2))
      rw [← hx] at hxe
      clear hx
      by_cases hE : (64 : Int) ≤ (x : Int) ∧ (x : Int) ≤ 126
      ·rw [decide_eq_true hE] at hxe
       by_cases hmid : I1 = I2
       ·have HZ2 : Hid (z = (t.off.obey (r.take (I1 - 2)) (nth 0 r (I1 - 2)).toNat, I2 + 1)) := Lib.hid (by rw [HZ.out, if_neg h32, if_neg hne, if_pos hxe, if_pos hmid])
        subst hmid
        obtain ⟨m, rfl⟩ : ∃ m, I1 = m + 2 := ⟨I1 - 2, by omega⟩
        obtain ⟨hE1, hE2⟩ := hE
        have hmr : m < r.length := by have := HN.out; omega
        have hbb : ∀ X, Below W.heap.size W X → Bys X g (off + 2) (r.take m ++ [nth 0 r m]) := fun X hX => by
         have h := (HB0.out.below hX).tail.tail
         refine ⟨h.lt, fun k hk => ?_⟩
         rw [List.length_append, List.length_take, List.length_singleton] at hk
         have h2 := h.at_ k (by omega)
         rw [show off + 2 = off + 1 + 1 from rfl, h2]
         have e1 : nth 0 (r.take m ++ [nth 0 r m]) k = nth 0 r k := by
          unfold nth
          rw [List.getD_eq_getElem?_getD, List.getD_eq_getElem?_getD, List.getD_eq_getElem?_getD]
          rcases Nat.lt_or_ge k m with hkm | hkm
          ·rw [List.getElem?_append_left (by rw [List.length_take]; omega), List.getElem?_take_of_lt hkm]
          ·have ek : k = m := by omega
           subst ek
           rw [List.getElem?_append_right (by rw [List.length_take]; omega), List.length_take, show k - min k r.length = 0 by omega]
           rfl
         rw [e1]
        have CO := Lib.hid (fun (X : World) (hX : W.heap.size + 1 < X.heap.size) (bX : Below W.heap.size W X) => robeyed_any (F := fun b => F b ∧ b ≠ W.heap.size ∧ b ≠ W.heap.size + 1) (W := X) (cb := cb - 2) (n := m) (fun b hb => ⟨hF b (by omega), by omega, by omega⟩) h1 OK.out.off ((HG.out.mono (F' := fun b => F b ∧ b ≠ W.heap.size ∧ b ≠ W.heap.size + 1) (fun b h1 h2 => ⟨h1, by omega, by omega⟩)).below bX) (hbb X bX) (by rw [List.length_take]; omega) (by omega) (by omega))
        have HZ3 : Hid (z = (t.off.obey (r.take m) (nth 0 r m).toNat, m + 2 + 1)) := Lib.hid HZ2.out
        have hs1 : m + 2 + 1 ≤ cb := by omega
        have hs2 : (0 : Int) ≤ (m : Int) + 2 + 1 := by omega
        have hs3 : (m : Int) + 2 + 1 ≤ (cb : Int) := by omega
        have hs4 : (2 : Int) ≤ (m : Int) + 2 + 1 := by omega
        have hwr : IntKind.i64.wrap ((m : Int) + 2 + 1) = (m : Int) + 2 + 1 := by
         unfold IntKind.wrap
         simp [IntKind.signed, IntKind.bits]
         omega
        clear hxe hbb HZ2
        go_wp2_with fail
        have dB : Below (wc.setCell ⟨W.heap.size, 16, none⟩ (.bool false)).heap.size (wc.setCell ⟨W.heap.size, 16, none⟩ (.bool false)) (wc.setCell ⟨W.heap.size, 16, none⟩ (.bool false)).drew := (Below.refl _ _).drew
        have uA := pA.below dB
        have vA := qA.below dB
        have b2 := bto bA dB bA.size
        have C1 := Lib.hid (CO.out _ vA.lt b2)
        refine wp_region_mixT 12 [(true, 0), (true, 1), (true, 2), (true, 3), (true, 4), (true, 6), (true, 7), (false, 5), (false, 8), (false, 9)] (fun X => TBx X W.heap.size (tCells a cap t.off bv)) (by kernel_rfl) (by kernel_rfl) (by rfl) (by kernel_rfl) (by kernel_rfl) (fun _ _ d _ _ h => by cases d <;> exact h) uA ?_
        simp only [mixL, List.getElem?_cons_succ, List.getElem?_cons_zero]
        refine' wpMix_read (v := .agg (tCells a cap t.off bv)) rfl ?_ ?_; (intro w' hw1; exact run_tload _ rfl W.heap.size rfl _ hw1 rfl)
        try simp only [Act.put, List.setIfInBounds_toArray, List.set_cons_zero, List.set_cons_succ]
        repeat (refine' wpMix_read (v := _) rfl ?_ ?_; rotate_left 1; (intro w' hw1; go_simp; try with_reducible rfl); try simp only [Act.put, List.setIfInBounds_toArray, List.set_cons_zero, List.set_cons_succ])
        refine wpMix_act (fun K hK => ?_)
        go_wp2_with fail
        refine (C1.out).mono ?_
        rintro e w2 ⟨a2, cap2, rfl, g2, hb3⟩
        have v1 := uA.below hb3
        have v2 := vA.below hb3
        have b3 := bto b2 hb3 b2.size
        go_wp2_with fail
        refine hK _ _ (fun _ => v1) ?_
        clear hK K
        refine wpMix_act (fun K hK => ?_)
        go_wp2_with (refine wpList_tstore rfl _ _ rfl (W.heap.size + 1) rfl _ rfl zCells ?_ rfl rfl (tCells_one _ _ _ h1) ?_; exact v2; intro w7 p7 o7)
        have v7 := v1.only o7 (by simp)
        refine hK _ _ (fun _ => v7) ?_
        clear hK K
        refine wpMix_act (fun K hK => ?_)
        go_wp2_with fail
        refine hK _ _ (fun h => absurd rfl h) ?_
        clear hK K
        refine wpMix_nil ?_
        go_wp2_with fail
        have b7 : Below W.heap.size W w7 := b3.trans (o7.below (by simp) b3.size)
        refine tret2 rfl rfl rfl p7 rfl ?_
        rw [HZ3.out]
        exact tpost2 (by go_num) ((g2.keep o7.size (fun b hb hlt => o7.block b hlt (by simpa using hb.2.2))).mono (fun b hb _ => hb.1)) b7
       ·have HZ2 : Hid (z = (t.off, I2 + 1)) := Lib.hid (by rw [HZ.out, if_neg h32, if_neg hne, if_pos hxe, if_neg hmid])
        have hlt : I1 < I2 := by omega
        obtain ⟨hE1, hE2⟩ := hE
        clear hxe hmid
        go_wp2_with (first
         | (refine wpList_tload rfl _ rfl W.heap.size rfl (tCells a cap t.off bv) ?_ rfl ?_; exact pA)
         | (refine wpList_tstore rfl _ _ rfl (W.heap.size + 1) rfl _ rfl zCells ?_ rfl rfl (tCells_one _ _ _ h1) ?_; exact qA; intro w7 p7 o7))
        have b7 : Below W.heap.size W w7 := bA.trans (o7.below (by simp) bA.size)
        refine tret2 rfl rfl rfl p7 rfl ?_
        rw [HZ2.out]
        exact tpost2 (by go_num) (HG.out.below b7) b7
      ·rw [decide_eq_false hE] at hxe
       have HZ2 : Hid (z = (t.off, I2)) := Lib.hid (by rw [HZ.out, if_neg h32, if_neg hne, if_neg (by rw [hxe]; simp)])
       clear hxe
       by_cases hE1 : (x : Int) < 64
       ·clear hE
        go_wp2_with (first
         | (refine wpList_tload rfl _ rfl W.heap.size rfl (tCells a cap t.off bv) ?_ rfl ?_; exact pA)
         | (refine wpList_tstore rfl _ _ rfl (W.heap.size + 1) rfl _ rfl zCells ?_ rfl rfl (tCells_one _ _ _ h1) ?_; exact qA; intro w7 p7 o7))
        have b7 : Below W.heap.size W w7 := bA.trans (o7.below (by simp) bA.size)
        refine tret2 rfl rfl rfl p7 rfl ?_
        rw [HZ2.out]
        exact tpost2 (by go_num) (HG.out.below b7) b7
       ·have hE2 : 126 < (x : Int) := by omega
        clear hE
        go_wp2_with (first
         | (refine wpList_tload rfl _ rfl W.heap.size rfl (tCells a cap t.off bv) ?_ rfl ?_; exact pA)
         | (refine wpList_tstore rfl _ _ rfl (W.heap.size + 1) rfl _ rfl zCells ?_ rfl rfl (tCells_one _ _ _ h1) ?_; exact qA; intro w7 p7 o7))
        have b7 : Below W.heap.size W w7 := bA.trans (o7.below (by simp) bA.size)
        refine tret2 rfl rfl rfl p7 rfl ?_
        rw [HZ2.out]
        exact tpost2 (by go_num) (HG.out.below b7) b7
set_option maxRecDepth 100000 in
set_option maxHeartbeats 8000000 in
theorem rrune_off {F : Nat → Prop} {W : World} {a : Option Addr} {cap : Nat} {t : TS} {bv : Value} (h1 : OneV bv) (g : RG F W a cap t.W t.H t.R) (r : Int) (hw : ¬ 0 < colsB r) (hj : joinB r = false) :
    Calls Tryz.prog 62 #[.agg (tCells a cap t bv), .int .i32 r] W (TPost F t.off bv W) := by
 have G := Lib.hid g
 have CW := Lib.hid (fun X => refOf_any r X)
 have CJ := Lib.hid (fun X => refMark3_any r X)
 obtain ⟨z, hz⟩ : ∃ z, z = colsB r := ⟨_, rfl⟩
 rw [← hz] at CW hw
 rw [hj] at CJ
 clear g hz hj
 go_enter Tryz.func62, Tryz.ntmps62
 go_upto_region 0 with (fail)
 go_cut [2, 4] (fun u v wx => u = .pointer (some ⟨W.heap.size, 0, none⟩) ∧ v = .pointer (some ⟨W.heap.size + 1, 0, none⟩) ∧ TIn W (tCells a cap t bv) wx)
 case first =>
  go_wp2
  go_meet
  exact ⟨rfl, rfl, tin W _⟩
 case rest =>
  obtain ⟨rfl, rfl, p1, p2, bX, sX⟩ := hcut
  go_wp2_with fail
  refine (CW.out _).mono ?_
  rintro e w1 ⟨rfl, hb1⟩
  replace p1 := p1.below hb1
  replace p2 := p2.below hb1
  have b1 : Below W.heap.size W w1 := bto bX hb1 bX.size
  go_wp2_with fail
  refine (CJ.out _).mono ?_
  rintro e w2 ⟨rfl, hb2⟩
  replace p1 := p1.below hb2
  replace p2 := p2.below hb2
  have b2 : Below W.heap.size W w2 := bto b1 hb2 b1.size
  have fz := p1.tc.2.2.2.2.2.2.2.2.2.2.2.2.2.2.2.2.2.2.2
  have c16 := p1.tc.2.2.2.2.2.2.2.2.2.2.2.2.2.2.2.2.1
  obtain ⟨x3, oa⟩ := p1.set 16 (.bool false) (tCells a cap t.off bv) rfl
  have q4 := p2.only oa (by simp)
  go_wp2_with (first
   | (refine wpList_tload rfl _ rfl W.heap.size rfl (tCells a cap t.off bv) ?_ rfl ?_; exact x3)
   | (refine wpList_tstore rfl _ _ rfl (W.heap.size + 1) rfl _ rfl zCells ?_ rfl rfl (tCells_one _ _ _ h1) ?_; exact q4; intro w5 p5 o5))
  have b5 : Below W.heap.size W w5 := (b2.trans (oa.below (by simp) b2.size)).trans (o5.below (by simp) (by simp only [set_size]; exact b2.size))
  exact tret rfl rfl p5 rfl ⟨a, cap, rfl, G.out.below b5, b5⟩
set_option maxRecDepth 100000 in
set_option maxHeartbeats 8000000 in
theorem rrune_stay {F : Nat → Prop} {W : World} {a : Option Addr} {cap : Nat} {t : TS} {bv : Value} (h1 : OneV bv) (g : RG F W a cap t.W t.H t.R) (r : Int) (hw : ¬ 0 < colsB r) (hj : joinB r = true) (hl : t.last = false) :
    Calls Tryz.prog 62 #[.agg (tCells a cap t bv), .int .i32 r] W (TPost F t bv W) := by
 have G := Lib.hid g
 have CW := Lib.hid (fun X => refOf_any r X)
 have CJ := Lib.hid (fun X => refMark3_any r X)
 obtain ⟨z, hz⟩ : ∃ z, z = colsB r := ⟨_, rfl⟩
 rw [← hz] at CW hw
 rw [hj] at CJ
 clear g hz hj
 go_enter Tryz.func62, Tryz.ntmps62
 go_upto_region 0 with (fail)
 go_cut [2, 4] (fun u v wx => u = .pointer (some ⟨W.heap.size, 0, none⟩) ∧ v = .pointer (some ⟨W.heap.size + 1, 0, none⟩) ∧ TIn W (tCells a cap t bv) wx)
 case first =>
  go_wp2
  go_meet
  exact ⟨rfl, rfl, tin W _⟩
 case rest =>
  obtain ⟨rfl, rfl, p1, p2, bX, sX⟩ := hcut
  go_wp2_with fail
  refine (CW.out _).mono ?_
  rintro e w1 ⟨rfl, hb1⟩
  replace p1 := p1.below hb1
  replace p2 := p2.below hb1
  have b1 : Below W.heap.size W w1 := bto bX hb1 bX.size
  go_wp2_with fail
  refine (CJ.out _).mono ?_
  rintro e w2 ⟨rfl, hb2⟩
  replace p1 := p1.below hb2
  replace p2 := p2.below hb2
  have b2 : Below W.heap.size W w2 := bto b1 hb2 b1.size
  have fz := p1.tc.2.2.2.2.2.2.2.2.2.2.2.2.2.2.2.2.2.2.2
  have c16 := p1.tc.2.2.2.2.2.2.2.2.2.2.2.2.2.2.2.2.1
  rw [hl] at c16
  clear hl
  go_wp2_with (first
   | (refine wpList_tload rfl _ rfl W.heap.size rfl (tCells a cap t bv) ?_ rfl ?_; exact p1)
   | (refine wpList_tstore rfl _ _ rfl (W.heap.size + 1) rfl _ rfl zCells ?_ rfl rfl (tCells_one _ _ _ h1) ?_; exact p2; intro w5 p5 o5))
  have b5 : Below W.heap.size W w5 := b2.trans (o5.below (by simp) b2.size)
  exact tret rfl rfl p5 rfl ⟨a, cap, rfl, G.out.below b5, b5⟩
set_option maxRecDepth 100000 in
set_option maxHeartbeats 8000000 in
theorem rrune_print {F : Nat → Prop} {W : World} (hF : ∀ b, W.heap.size ≤ b → F b) {a : Option Addr} {cap : Nat} {t : TS} {bv : Value} (h1 : OneV bv) (ok : TOk t) (hg : t.gone < 4611686018427387904) (g : RG F W a cap t.W t.H t.R) (n : Nat) (hr : isR n = true) (hw : 0 < colsB n) :
    Calls Tryz.prog 62 #[.agg (tCells a cap t bv), .int .i32 n] W (TPost F (t.print n) bv W) := by
 have CW := Lib.hid (fun X => refOf_any (n : Int) X)
 have CP := Lib.hid (fun (X : World) (hX : W.heap.size + 1 < X.heap.size) (bX : Below W.heap.size W X) => show Calls Tryz.prog 89 #[.agg (tCells a cap t bv), .int .i32 n] X (TPost (fun b => F b ∧ b ≠ W.heap.size ∧ b ≠ W.heap.size + 1) (t.print n) bv X) by
  have gX := (g.mono (F' := fun b => F b ∧ b ≠ W.heap.size ∧ b ≠ W.heap.size + 1) (fun b h1 h2 => ⟨h1, by omega, by omega⟩)).below bX
  unfold TS.print
  by_cases hwide : (t.W : Int) < colsB n
  ·rw [if_pos hwide]; exact rprint_wide h1 gX n hwide
  ·rw [if_neg hwide]
   have := rprint_ok (W := X) (fun b hb => ⟨hF b (by omega), by omega, by omega⟩) h1 ok hg gX (n : Int) hr (by omega) (by omega)
   rwa [Int.toNat_natCast] at this)
 obtain ⟨RS, hRS⟩ : ∃ RS, RS = t.print n := ⟨_, rfl⟩
 rw [← hRS] at CP ⊢
 obtain ⟨m, hm⟩ : ∃ m : Int, m = (n : Int) := ⟨_, rfl⟩
 rw [← hm] at CW CP hw ⊢
 obtain ⟨z, hz⟩ : ∃ z, z = colsB m := ⟨_, rfl⟩
 rw [← hz] at CW hw
 clear g hz ok hr hm hRS hg
 go_enter Tryz.func62, Tryz.ntmps62
 go_upto_region 0 with (fail)
 go_cut [2, 4] (fun u v wx => u = .pointer (some ⟨W.heap.size, 0, none⟩) ∧ v = .pointer (some ⟨W.heap.size + 1, 0, none⟩) ∧ TIn W (tCells a cap t bv) wx)
 case first =>
  go_wp2
  go_meet
  exact ⟨rfl, rfl, tin W _⟩
 case rest =>
  obtain ⟨rfl, rfl, p1, p2, bX, sX⟩ := hcut
  go_wp2_with fail
  refine (CW.out _).mono ?_
  rintro e w1 ⟨rfl, hb1⟩
  replace p1 := p1.below hb1
  replace p2 := p2.below hb1
  have b1 : Below W.heap.size W w1 := bto bX hb1 bX.size
  have C1 := Lib.hid (CP.out _ p2.lt b1)
  go_wp2_with (refine wpList_tload rfl _ rfl W.heap.size rfl (tCells a cap t bv) ?_ rfl ?_; exact p1)
  refine (C1.out).mono ?_
  rintro e w2 ⟨a2, cap2, rfl, g2, hb3⟩
  have v2 := p2.below hb3
  have b2 := bto b1 hb3 b1.size
  go_wp2_with (refine wpList_tstore rfl _ _ rfl (W.heap.size + 1) rfl _ rfl zCells ?_ rfl rfl (tCells_one _ _ _ h1) ?_; exact v2; intro w7 p7 o7)
  have b7 : Below W.heap.size W w7 := b2.trans (o7.below (by simp) b2.size)
  refine tret rfl rfl p7 rfl ?_
  exact ⟨a2, cap2, rfl, (g2.keep o7.size (fun b hb hlt => o7.block b hlt (by simpa using hb.2.2))).mono (fun b hb _ => hb.1), b7⟩
set_option maxRecDepth 100000 in
set_option maxHeartbeats 8000000 in
theorem rrune_join {F : Nat → Prop} {W : World} (hF : ∀ b, W.heap.size ≤ b → F b) {a : Option Addr} {cap : Nat} {t : TS} {bv : Value} (h1 : OneV bv) (ok : TO0 t) (g : RG F W a cap t.W t.H t.R) (r : Int) (hr : isR r = true) (hw : ¬ 0 < colsB r) (hj : joinB r = true) (hl : t.last = true) :
    Calls Tryz.prog 62 #[.agg (tCells a cap t bv), .int .i32 r] W (TPost F { t with R := joinR t.W t.H t.R t.lrow t.lcol (S (bytesN r.toNat)) } bv W) := by
 have CW := Lib.hid (fun X => refOf_any r X)
 have CJ := Lib.hid (fun X => refMark3_any r X)
 have CB := Lib.hid (fun X => refBytes_any r X)
 have hbr : bytesR r = bytesN r.toNat := by unfold bytesR runeN; rw [if_pos hr]
 rw [hbr] at CB
 have CV := Lib.hid (fun W => conv_newB W (bytesN r.toNat))
 have CP := Lib.hid (fun (X : World) (hX : W.heap.size + 1 < X.heap.size) (bX : Below W.heap.size W X) => rjoin_any (F := fun b => F b ∧ b ≠ W.heap.size ∧ b ≠ W.heap.size + 1) (W := X) (fun b hb => ⟨hF b (by omega), by omega, by omega⟩) ((g.mono (F' := fun b => F b ∧ b ≠ W.heap.size ∧ b ≠ W.heap.size + 1) (fun b h1 h2 => ⟨h1, by omega, by omega⟩)).below bX) ok.ro ⟨ok.w1, by have := ok.w2; omega⟩ (by have := ok.h2; omega) (t.lrow : Int) (t.lcol : Int) (S (bytesN r.toNat)))
 obtain ⟨z, hz⟩ : ∃ z, z = colsB r := ⟨_, rfl⟩
 rw [← hz] at CW hw
 rw [hj] at CJ
 clear g hz hj ok hbr
 go_enter Tryz.func62, Tryz.ntmps62
 go_upto_region 0 with (fail)
 go_cut [2, 4] (fun u v wx => u = .pointer (some ⟨W.heap.size, 0, none⟩) ∧ v = .pointer (some ⟨W.heap.size + 1, 0, none⟩) ∧ TIn W (tCells a cap t bv) wx)
 case first =>
  go_wp2
  go_meet
  exact ⟨rfl, rfl, tin W _⟩
 case rest =>
  obtain ⟨rfl, rfl, p1, p2, bX, sX⟩ := hcut
  go_wp2_with fail
  refine (CW.out _).mono ?_
  rintro e w1 ⟨rfl, hb1⟩
  replace p1 := p1.below hb1
  replace p2 := p2.below hb1
  have b1 : Below W.heap.size W w1 := bto bX hb1 bX.size
  go_wp2_with fail
  refine (CJ.out _).mono ?_
  rintro e w2 ⟨rfl, hb2⟩
  replace p1 := p1.below hb2
  replace p2 := p2.below hb2
  have b2 : Below W.heap.size W w2 := bto b1 hb2 b1.size
  have fz := p1.tc.2.2.2.2.2.2.2.2.2.2.2.2.2.2.2.2.2.2.2
  have c16 := p1.tc.2.2.2.2.2.2.2.2.2.2.2.2.2.2.2.2.1
  rw [hl] at c16
  clear hl
  go_wp2_with fail
  have dB : Below w2.heap.size w2 w2.drew := (Below.refl _ _).drew
  have uA := p1.below dB
  have vA := p2.below dB
  have b3 := bto b2 dB b2.size
  refine wp_region_tree (fun j y y' => j ∉ [15] → TBx y W.heap.size (tCells a cap t bv) → TBx y' W.heap.size (tCells a cap t bv)) (by kernel_rfl) ?_
  simp only [List.size_toArray, List.length_cons, List.length_nil, Nat.reduceAdd]
  refine' wpAnyY_read 0 (fun w' => TBx w' W.heap.size (tCells a cap t bv)) [15] (v := _) (by kernel_rfl) (fun _ _ d _ _ h => by cases d <;> exact h) (by kernel_rfl) rfl (fun j y y' hj h hs => h hj hs) (fun _ _ h => h) uA rfl ?_ ?_
  rotate_left 1
  ·intro w' hw'; obtain ⟨c0, c1, c2, c3, c4, c5, c6, c7, c8, c9, c10, c11, c12, c13, c14, c15, c16, c17, c18, fz⟩ := hw'.tc; go_simp; try with_reducible rfl
  try simp only [Act.put, List.setIfInBounds_toArray, List.set_cons_zero, List.set_cons_succ]
  refine' wpAnyY_read 1 (fun w' => TBx w' W.heap.size (tCells a cap t bv)) [15] (v := _) (by kernel_rfl) (fun _ _ d _ _ h => by cases d <;> exact h) (by kernel_rfl) rfl (fun j y y' hj h hs => h hj hs) (fun _ _ h => h) uA rfl ?_ ?_
  rotate_left 1
  ·intro w' hw'; obtain ⟨c0, c1, c2, c3, c4, c5, c6, c7, c8, c9, c10, c11, c12, c13, c14, c15, c16, c17, c18, fz⟩ := hw'.tc; go_simp; try with_reducible rfl
  try simp only [Act.put, List.setIfInBounds_toArray, List.set_cons_zero, List.set_cons_succ]
  refine' wpAnyY_read 2 (fun w' => TBx w' W.heap.size (tCells a cap t bv)) [15] (v := _) (by kernel_rfl) (fun _ _ d _ _ h => by cases d <;> exact h) (by kernel_rfl) rfl (fun j y y' hj h hs => h hj hs) (fun _ _ h => h) uA rfl ?_ ?_
  rotate_left 1
  ·intro w' hw'; obtain ⟨c0, c1, c2, c3, c4, c5, c6, c7, c8, c9, c10, c11, c12, c13, c14, c15, c16, c17, c18, fz⟩ := hw'.tc; go_simp; try with_reducible rfl
  try simp only [Act.put, List.setIfInBounds_toArray, List.set_cons_zero, List.set_cons_succ]
  refine' wpAnyY_read 3 (fun w' => TBx w' W.heap.size (tCells a cap t bv)) [15] (v := _) (by kernel_rfl) (fun _ _ d _ _ h => by cases d <;> exact h) (by kernel_rfl) rfl (fun j y y' hj h hs => h hj hs) (fun _ _ h => h) uA rfl ?_ ?_
  rotate_left 1
  ·intro w' hw'; obtain ⟨c0, c1, c2, c3, c4, c5, c6, c7, c8, c9, c10, c11, c12, c13, c14, c15, c16, c17, c18, fz⟩ := hw'.tc; go_simp; try with_reducible rfl
  try simp only [Act.put, List.setIfInBounds_toArray, List.set_cons_zero, List.set_cons_succ]
  refine' wpAnyY_read 4 (fun w' => TBx w' W.heap.size (tCells a cap t bv)) [15] (v := _) (by kernel_rfl) (fun _ _ d _ _ h => by cases d <;> exact h) (by kernel_rfl) rfl (fun j y y' hj h hs => h hj hs) (fun _ _ h => h) uA rfl ?_ ?_
  rotate_left 1
  ·intro w' hw'; obtain ⟨c0, c1, c2, c3, c4, c5, c6, c7, c8, c9, c10, c11, c12, c13, c14, c15, c16, c17, c18, fz⟩ := hw'.tc; go_simp; try with_reducible rfl
  try simp only [Act.put, List.setIfInBounds_toArray, List.set_cons_zero, List.set_cons_succ]
  refine' wpAnyY_read 5 (fun w' => TBx w' W.heap.size (tCells a cap t bv)) [15] (v := _) (by kernel_rfl) (fun _ _ d _ _ h => by cases d <;> exact h) (by kernel_rfl) rfl (fun j y y' hj h hs => h hj hs) (fun _ _ h => h) uA rfl ?_ ?_
  rotate_left 1
  ·intro w' hw'; obtain ⟨c0, c1, c2, c3, c4, c5, c6, c7, c8, c9, c10, c11, c12, c13, c14, c15, c16, c17, c18, fz⟩ := hw'.tc; go_simp; try with_reducible rfl
  try simp only [Act.put, List.setIfInBounds_toArray, List.set_cons_zero, List.set_cons_succ]
  refine' wpAnyY_read 6 (fun w' => TBx w' W.heap.size (tCells a cap t bv)) [15] (v := _) (by kernel_rfl) (fun _ _ d _ _ h => by cases d <;> exact h) (by kernel_rfl) rfl (fun j y y' hj h hs => h hj hs) (fun _ _ h => h) uA rfl ?_ ?_
  rotate_left 1
  ·intro w' hw'; obtain ⟨c0, c1, c2, c3, c4, c5, c6, c7, c8, c9, c10, c11, c12, c13, c14, c15, c16, c17, c18, fz⟩ := hw'.tc; go_simp; try with_reducible rfl
  try simp only [Act.put, List.setIfInBounds_toArray, List.set_cons_zero, List.set_cons_succ]
  refine wpAnyY_one (i := 7) (by kernel_rfl) rfl (fun K hK => ?_)
  simp only [List.getElem_toArray, List.getElem_cons_succ, List.getElem_cons_zero]
  go_wp2_with fail
  refine (CB.out _).mono ?_
  rintro e w4 ⟨k, hk, rfl, hw4⟩
  have hcv : (convert 22 9 (.slice (some ⟨w2.heap.size, 0, none⟩) k k)).run Tryz.prog w4 = .ok (.string (S (bytesN r.toNat))) w4 := by subst hk; rw [← hw4]; exact CV.out w2.drew
  have hb4 : Below w2.heap.size w2 w4 := by rw [← hw4]; exact dB.alloc (Nat.le_refl _) _
  have HCV := Lib.hid hcv
  clear hk hw4 hcv
  go_wp2
  refine hK _ _ (fun _ h => p1.below hb4) ?_
  clear hK K
  refine wpAnyY_one (i := 8) (by kernel_rfl) rfl (fun K hK => ?_)
  simp only [List.getElem_toArray, List.getElem_cons_succ, List.getElem_cons_zero]
  have hcv := HCV.out
  go_wp2
  refine hK _ _ (fun _ h => h) ?_
  clear hK K hcv
  refine wpAnyY_one (i := 9) (by kernel_rfl) rfl (fun K hK => ?_)
  simp only [List.getElem_toArray, List.getElem_cons_succ, List.getElem_cons_zero]
  have b4 := bto b2 hb4 b2.size
  have hs4 := hb4.size
  have hlt := p2.lt
  go_wp2_with fail
  refine (CP.out _ (by omega) b4).mono ?_
  rintro e w5 ⟨a5, c5, rfl, g5, hb5⟩
  go_wp2
  refine hK _ _ (fun _ h => h.below hb5) ?_
  clear hK K
  refine' wpAnyY_read 10 (fun _ => True) [] (v := _) (by kernel_rfl) (fun _ _ d _ _ h => by cases d <;> exact h) (by kernel_rfl) rfl (fun _ _ _ _ _ _ => trivial) (fun _ _ h => h) trivial rfl ?_ ?_
  rotate_left 1
  ·intro w' hw'; go_simp; try with_reducible rfl
  try simp only [Act.put, List.setIfInBounds_toArray, List.set_cons_zero, List.set_cons_succ]
  refine' wpAnyY_read 11 (fun _ => True) [] (v := _) (by kernel_rfl) (fun _ _ d _ _ h => by cases d <;> exact h) (by kernel_rfl) rfl (fun _ _ _ _ _ _ => trivial) (fun _ _ h => h) trivial rfl ?_ ?_
  rotate_left 1
  ·intro w' hw'; go_simp; try with_reducible rfl
  try simp only [Act.put, List.setIfInBounds_toArray, List.set_cons_zero, List.set_cons_succ]
  refine' wpAnyY_read 12 (fun _ => True) [] (v := _) (by kernel_rfl) (fun _ _ d _ _ h => by cases d <;> exact h) (by kernel_rfl) rfl (fun _ _ _ _ _ _ => trivial) (fun _ _ h => h) trivial rfl ?_ ?_
  rotate_left 1
  ·intro w' hw'; go_simp; try with_reducible rfl
  try simp only [Act.put, List.setIfInBounds_toArray, List.set_cons_zero, List.set_cons_succ]
  refine' wpAnyY_read 13 (fun _ => True) [] (v := _) (by kernel_rfl) (fun _ _ d _ _ h => by cases d <;> exact h) (by kernel_rfl) rfl (fun _ _ _ _ _ _ => trivial) (fun _ _ h => h) trivial rfl ?_ ?_
  rotate_left 1
  ·intro w' hw'; go_simp; try with_reducible rfl
  try simp only [Act.put, List.setIfInBounds_toArray, List.set_cons_zero, List.set_cons_succ]
  refine' wpAnyY_read 14 (fun _ => True) [] (v := _) (by kernel_rfl) (fun _ _ d _ _ h => by cases d <;> exact h) (by kernel_rfl) rfl (fun _ _ _ _ _ _ => trivial) (fun _ _ h => h) trivial rfl ?_ ?_
  rotate_left 1
  ·intro w' hw'; go_simp; try with_reducible rfl
  try simp only [Act.put, List.setIfInBounds_toArray, List.set_cons_zero, List.set_cons_succ]
  refine wpAnyY_one (i := 15) (by kernel_rfl) rfl (fun K hK => ?_)
  simp only [List.getElem_toArray, List.getElem_cons_succ, List.getElem_cons_zero]
  have b5 := bto b4 hb5 b4.size
  have q1 := p1.below (bto hb4 hb5 hs4)
  have q2 := p2.below (bto hb4 hb5 hs4)
  clear p1 p2 b4 hlt hs4
  obtain ⟨R9, hR9⟩ : ∃ R9, joinR t.W t.H t.R t.lrow t.lcol (S (bytesN r.toNat)) = R9 := ⟨_, rfl⟩
  rw [hR9] at g5
  have HR9 := Lib.hid hR9
  clear hR9
  obtain ⟨w3, hw3⟩ : ∃ w3, ((w5.setCell ⟨W.heap.size, 0, none⟩ (.int .i64 t.W)).setCell ⟨W.heap.size, 1, none⟩ (.int .i64 t.H)).setCell ⟨W.heap.size, 2, none⟩ (.slice a5 t.H c5) = w3 := ⟨_, rfl⟩
  obtain ⟨x0, y0⟩ := q1.set 0 (.int .i64 t.W) _ rfl
  obtain ⟨x1, y1⟩ := x0.set 1 (.int .i64 t.H) _ rfl
  obtain ⟨x2, y2⟩ := x1.set 2 (.slice a5 t.H c5) (tCells a5 c5 { t with R := R9 } bv) rfl
  have o3 := (y0.trans y1).trans y2
  rw [hw3] at x2 o3
  have HW3 := Lib.hid hw3
  clear x0 x1 y0 y1 y2 hw3
  obtain ⟨c0, c1, c2, c3, c4, c5', c6, c7, c8, c9, c10, c11, c12, c13, c14, c15, c16', c17, c18, fz'⟩ := q1.tc
  clear c3 c4 c5' c6 c7 c8 c9 c10 c11 c12 c13 c14 c15 c16' c17 c18 fz c16
  go_wp2
  rw [HW3.out]
  refine hK _ _ (fun hn => absurd (by decide) hn) (wpAnyY_end (by kernel_rfl) ?_)
  clear hK K c0 c1 c2 fz'
  have b3 : Below W.heap.size W w3 := b5.trans (o3.below (by simp) b5.size)
  have q3 := q2.only o3 (by simp)
  have g3 := g5.keep o3.size (fun b hb hlt => o3.block b hlt (by simpa using hb.2.1))
  go_wp2_with (first
   | (refine wpList_tload rfl _ rfl W.heap.size rfl (tCells a5 c5 { t with R := R9 } bv) ?_ rfl ?_; exact x2)
   | (refine wpList_tstore rfl _ _ rfl (W.heap.size + 1) rfl _ rfl zCells ?_ rfl rfl (tCells_one _ _ _ h1) ?_; exact q3; intro w7 p7 o7))
  have b7 : Below W.heap.size W w7 := b3.trans (o7.below (by simp) b3.size)
  refine tret rfl rfl p7 rfl ?_
  refine ⟨a5, c5, rfl, ?_, b7⟩
  show RG F w7 a5 c5 t.W t.H (joinR t.W t.H t.R t.lrow t.lcol (S (bytesN r.toNat)))
  rw [HR9.out]
  exact (g3.keep o7.size (fun b hb hlt => o7.block b hlt (by simpa using hb.2.2))).mono (fun b hb _ => hb.1)
theorem rrune_any {F : Nat → Prop} {W : World} (hF : ∀ b, W.heap.size ≤ b → F b) {a : Option Addr} {cap : Nat} {t : TS} {bv : Value} (h1 : OneV bv) (ok : TOk t) (hg : t.gone < 4611686018427387904) (g : RG F W a cap t.W t.H t.R) (n : Nat) (hr : isR n = true) :
    Calls Tryz.prog 62 #[.agg (tCells a cap t bv), .int .i32 n] W (TPost F (t.rune n) bv W) := by
 unfold TS.rune
 by_cases hw : 0 < colsB n
 ·rw [if_pos hw]; exact rrune_print hF h1 ok hg g n hr hw
 rw [if_neg hw]
 cases hj : joinB n with
 | false => exact rrune_off h1 g n hw hj
 | true =>
  rw [if_pos rfl]
  by_cases hl : t.last = true
  ·rw [if_pos hl]
   have := rrune_join hF h1 ok.toTO0 g n hr hw hj hl
   rwa [Int.toNat_natCast] at this
  ·rw [if_neg hl]
   exact rrune_stay h1 g n hw hj (by simpa using hl)
set_option maxRecDepth 100000 in
set_option maxHeartbeats 8000000 in
theorem rfirst_any {F : Nat → Prop} {W : World} (hF : ∀ b, W.heap.size ≤ b → F b) {a : Option Addr} {cap : Nat} {t : TS} {bv : Value} (h1 : OneV bv) (ok : TOk t) (hg : t.gone < 4611686018427387904) (hbl : t.bells < 4611686018427387904) (gR : RG F W a cap t.W t.H t.R) {g off n cb : Nat} {c : UInt8} {r : List UInt8} (hB : Bys W g off (c :: r)) (hn : r.length + 1 = n) (hn2 : n ≤ 10000000) (hcb : n ≤ cb) :
    Calls Tryz.prog 36 #[.agg (tCells a cap t bv), .slice (some ⟨g, off, none⟩) n cb] W (TPost2 F (t.first (c :: r)) bv W) := by
 have HG := Lib.hid gR
 have HB0 := Lib.hid hB
 have gF := gR.mono (F' := fun b => F b ∧ b ≠ W.heap.size ∧ b ≠ W.heap.size + 1) (fun b h1 h2 => ⟨h1, by omega, by omega⟩)
 have hc256 := c.toNat_lt
 have hn0 : (0 : Int) < (n : Int) := by omega
 have hn0' : 0 < n := by omega
 obtain ⟨z, hz⟩ : ∃ z, z = t.first (c :: r) := ⟨_, rfl⟩
 rw [← hz]
 have hat : ∀ X, Below W.heap.size W X → X.cell? ⟨g, off, none⟩ = some (.int .u8 (c.toNat : Int)) := fun X hX => by
  have := (HB0.out.below hX).at_ 0 (by simp)
  rw [Nat.add_zero] at this
  exact this
 by_cases h27 : c.toNat = 27
 ·unfold TS.first at hz
  dsimp only at hz
  rw [if_pos h27] at hz
  rw [h27] at hat
  replace hat : ∀ X, Below W.heap.size W X → X.cell? ⟨g, off, none⟩ = some (.int .u8 27) := hat
  cases r with
  | nil =>
   have hnn : n = 1 := by simpa using hn.symm
   subst hnn
   have HZ := Lib.hid hz
   clear hz hn hB h27 gR gF ok
   go_enter Tryz.func36, Tryz.ntmps36
   go_upto_region 0 with (fail)
   go_cut [2, 4, 5] (fun u v y wx => u = .pointer (some ⟨W.heap.size, 0, none⟩) ∧ v = .pointer (some ⟨W.heap.size + 1, 0, none⟩) ∧ y = .int .i64 0 ∧ TIn W (tCells a cap t bv) wx)
   case first =>
    go_wp2
    go_meet
    exact ⟨rfl, rfl, rfl, tin W _⟩
   case rest =>
    obtain ⟨rfl, rfl, rfl, p1, p2, bX, sX⟩ := hcut
    have hx0 := hat wc bX
    go_wp2_with (first
     | (refine wpList_tload rfl _ rfl W.heap.size rfl (tCells a cap t bv) ?_ rfl ?_; exact p1)
     | (refine wpList_tstore rfl _ _ rfl (W.heap.size + 1) rfl _ rfl zCells ?_ rfl rfl (tCells_one _ _ _ h1) ?_; exact p2; intro w7 p7 o7))
    have b7 : Below W.heap.size W w7 := (bX).trans (o7.below (by simp) (bX).size)
    refine tret2 rfl rfl rfl p7 rfl ?_
    rw [HZ.out]
    exact tpost2 (by go_num) (HG.out.below b7) b7
  | cons d r' =>
   dsimp only at hz
   have hn' : r'.length + 2 = n := by simpa using hn
   have hat1 : ∀ X, Below W.heap.size W X → X.cell? ⟨g, off + 1, none⟩ = some (.int .u8 (d.toNat : Int)) := fun X hX => (HB0.out.below hX).at_ 1 (by simp)
   have hd256 := d.toNat_lt
   have hnn : ((n : Int) == 1) = false := by simp; omega
   have h1n : (1 : Int) < (n : Int) := by omega
   by_cases h91 : d.toNat = 91
   ·rw [if_pos h91] at hz
    rw [h91] at hat1
    replace hat1 : ∀ X, Below W.heap.size W X → X.cell? ⟨g, off + 1, none⟩ = some (.int .u8 91) := hat1
    have CS := Lib.hid (fun (X : World) (hX : W.heap.size + 1 < X.heap.size) (bX : Below W.heap.size W X) => rsequence_any (F := fun b => F b ∧ b ≠ W.heap.size ∧ b ≠ W.heap.size + 1) (W := X) (cb := cb) (fun b hb => ⟨hF b (by omega), by omega, by omega⟩) h1 ok.toTO0 (gF.below bX) (HB0.out.below bX) hn' hn2 hcb)
    rw [← hz] at CS
    clear hz hn hn' hB h27 gR gF ok h91
    go_enter Tryz.func36, Tryz.ntmps36
    go_upto_region 0 with (fail)
    go_cut [2, 4, 5] (fun u v y wx => u = .pointer (some ⟨W.heap.size, 0, none⟩) ∧ v = .pointer (some ⟨W.heap.size + 1, 0, none⟩) ∧ y = .int .i64 0 ∧ TIn W (tCells a cap t bv) wx)
    case first =>
     go_wp2
     go_meet
     exact ⟨rfl, rfl, rfl, tin W _⟩
    case rest =>
     obtain ⟨rfl, rfl, rfl, p1, p2, bX, sX⟩ := hcut
     have hx0 := hat wc bX
     have hx1 := hat1 wc bX
     have C1 := Lib.hid (CS.out _ p2.lt bX)
     go_wp2_with (refine wpList_tload rfl _ rfl W.heap.size rfl (tCells a cap t bv) ?_ rfl ?_; exact p1)
     refine (C1.out).mono ?_
     rintro e w2 ⟨a2, cap2, rfl, g2, hb3⟩
     have v2 := p2.below hb3
     have b2 := bto bX hb3 bX.size
     go_wp2_with (refine wpList_tstore rfl _ _ rfl (W.heap.size + 1) rfl _ rfl zCells ?_ rfl rfl (tCells_one _ _ _ h1) ?_; exact v2; intro w7 p7 o7)
     have b7 : Below W.heap.size W w7 := b2.trans (o7.below (by simp) b2.size)
     refine tret2 rfl rfl rfl p7 rfl ?_
     exact tpost2 (by go_num) ((g2.keep o7.size (fun b hb hlt => o7.block b hlt (by simpa using hb.2.2))).mono (fun b hb _ => hb.1)) b7
   ·rw [if_neg h91] at hz
    obtain ⟨x, hx⟩ : ∃ x, x = d.toNat := ⟨_, rfl⟩
    rw [← hx] at hat1 h91 hz hd256
    have nx : ((x : Int) == 91) = false := by simp; omega
    have HZ0 := Lib.hid hz
    clear hz hn hn' hB h27 gR gF ok h91 hx
    go_enter Tryz.func36, Tryz.ntmps36
    go_upto_region 0 with (fail)
    go_cut [2, 4, 5] (fun u v y wx => u = .pointer (some ⟨W.heap.size, 0, none⟩) ∧ v = .pointer (some ⟨W.heap.size + 1, 0, none⟩) ∧ y = .int .i64 0 ∧ TIn W (tCells a cap t bv) wx)
    case first =>
     go_wp2
     go_meet
     exact ⟨rfl, rfl, rfl, tin W _⟩
    case rest =>
     obtain ⟨rfl, rfl, rfl, p1, p2, bX, sX⟩ := hcut
     have hx0 := hat wc bX
     have hx1 := hat1 wc bX
     have fz := p1.tc.2.2.2.2.2.2.2.2.2.2.2.2.2.2.2.2.2.2.2
     have c16 := p1.tc.2.2.2.2.2.2.2.2.2.2.2.2.2.2.2.2.1
     obtain ⟨pA, oA⟩ := p1.set 16 (.bool false) (tCells a cap t.off bv) rfl
     have qA := p2.only oA (by simp)
     have bA := bX.trans (oA.below (by simp) bX.size)
     have hy0 := hat _ bA
     have hy1 := hat1 _ bA
     by_cases hd : (32 : Int) ≤ (x : Int) ∧ (x : Int) ≤ 126
     ·have HZ : Hid (z = (t.off, 2)) := Lib.hid (by rw [HZ0.out, if_pos (by omega)])
      obtain ⟨hd1, hd2⟩ := hd
      go_wp2_with (first
       | (refine wpList_tload rfl _ rfl W.heap.size rfl (tCells a cap t.off bv) ?_ rfl ?_; exact pA)
       | (refine wpList_tstore rfl _ _ rfl (W.heap.size + 1) rfl _ rfl zCells ?_ rfl rfl (tCells_one _ _ _ h1) ?_; exact qA; intro w7 p7 o7))
      have b7 : Below W.heap.size W w7 := (bA).trans (o7.below (by simp) (bA).size)
      refine tret2 rfl rfl rfl p7 rfl ?_
      rw [HZ.out]
      exact tpost2 (by go_num) (HG.out.below b7) b7
     ·have HZ : Hid (z = (t.off, 1)) := Lib.hid (by rw [HZ0.out, if_neg (by omega)])
      by_cases hd1 : (32 : Int) ≤ (x : Int)
      ·have hd2 : ¬ (x : Int) ≤ 126 := by omega
       clear hd
       go_wp2_with (first
        | (refine wpList_tload rfl _ rfl W.heap.size rfl (tCells a cap t.off bv) ?_ rfl ?_; exact pA)
        | (refine wpList_tstore rfl _ _ rfl (W.heap.size + 1) rfl _ rfl zCells ?_ rfl rfl (tCells_one _ _ _ h1) ?_; exact qA; intro w7 p7 o7))
       have b7 : Below W.heap.size W w7 := (bA).trans (o7.below (by simp) (bA).size)
       refine tret2 rfl rfl rfl p7 rfl ?_
       rw [HZ.out]
       exact tpost2 (by go_num) (HG.out.below b7) b7
      ·clear hd
       go_wp2_with (first
        | (refine wpList_tload rfl _ rfl W.heap.size rfl (tCells a cap t.off bv) ?_ rfl ?_; exact pA)
        | (refine wpList_tstore rfl _ _ rfl (W.heap.size + 1) rfl _ rfl zCells ?_ rfl rfl (tCells_one _ _ _ h1) ?_; exact qA; intro w7 p7 o7))
       have b7 : Below W.heap.size W w7 := (bA).trans (o7.below (by simp) (bA).size)
       refine tret2 rfl rfl rfl p7 rfl ?_
       rw [HZ.out]
       exact tpost2 (by go_num) (HG.out.below b7) b7
 by_cases hct : c.toNat < 32 ∨ c.toNat = 127
 ·have hz2 := hz.trans (first_ctl t c r h27 hct)
  have CC := Lib.hid (fun (X : World) (hX : W.heap.size + 1 < X.heap.size) (bX : Below W.heap.size W X) => rcontrol_any (F := fun b => F b ∧ b ≠ W.heap.size ∧ b ≠ W.heap.size + 1) (W := X) (fun b hb => ⟨hF b (by omega), by omega, by omega⟩) h1 ok.toTO0 hg hbl (gF.below bX) c.toNat hc256)
  obtain ⟨x, hx⟩ : ∃ x, x = c.toNat := ⟨_, rfl⟩
  rw [← hx] at CC hat h27 hct hc256 hz2
  have HZ := Lib.hid hz2
  have nx : ((x : Int) == 27) = false := by simp; omega
  clear hx h27 hn hB ok gR gF hz hz2
  by_cases h127 : (x : Int) < 32
  all_goals
   have h3 : ((x : Int) == 127) = decide (¬ (x : Int) < 32) := by
    rw [Bool.eq_iff_iff, beq_iff_eq, decide_eq_true_eq]; omega
   simp only [h127, not_true_eq_false, not_false_eq_true, decide_true, decide_false] at h3
   clear hct
   go_enter Tryz.func36, Tryz.ntmps36
   go_upto_region 0 with (fail)
   go_cut [2, 4, 5] (fun u v y wx => u = .pointer (some ⟨W.heap.size, 0, none⟩) ∧ v = .pointer (some ⟨W.heap.size + 1, 0, none⟩) ∧ y = .int .i64 0 ∧ TIn W (tCells a cap t bv) wx)
   case first =>
    go_wp2
    go_meet
    exact ⟨rfl, rfl, rfl, tin W _⟩
   case rest =>
    obtain ⟨rfl, rfl, rfl, p1, p2, bX, sX⟩ := hcut
    have hx0 := hat wc bX
    go_wp2_with fail
    have dB : Below wc.heap.size wc wc.drew := (Below.refl _ _).drew
    have uA := p1.below dB
    have vA := p2.below dB
    have b2 := bto bX dB bX.size
    have C1 := Lib.hid (CC.out _ vA.lt b2)
    refine wp_region_mixT 12 [(true, 0), (true, 1), (true, 2), (true, 3), (false, 4), (false, 5), (false, 6)] (fun X => TBx X W.heap.size (tCells a cap t bv) ∧ X.cell? ⟨g, off, none⟩ = some (.int .u8 (x : Int))) (by kernel_rfl) (by kernel_rfl) (by rfl) (by kernel_rfl) (by kernel_rfl) (fun _ _ d _ _ h => by cases d <;> exact h) ⟨uA, hat _ b2⟩ ?_
    simp only [mixL, List.getElem?_cons_succ, List.getElem?_cons_zero]
    refine' wpMix_read (v := .agg (tCells a cap t bv)) rfl ?_ ?_; (intro w' hw1; exact run_tload _ rfl W.heap.size rfl _ hw1.1 rfl)
    try simp only [Act.put, List.setIfInBounds_toArray, List.set_cons_zero, List.set_cons_succ]
    repeat (refine' wpMix_read (v := _) rfl ?_ ?_; rotate_left 1; (intro w' hw1; have hy1 := hw1.2; go_simp; try with_reducible rfl); try simp only [Act.put, List.setIfInBounds_toArray, List.set_cons_zero, List.set_cons_succ])
    refine wpMix_act (fun K hK => ?_)
    go_wp2_with fail
    refine (C1.out).mono ?_
    rintro e w2 ⟨a2, cap2, rfl, g2, hb3⟩
    have v1 := uA.below hb3
    have v2 := vA.below hb3
    have b3 := bto b2 hb3 b2.size
    go_wp2_with fail
    refine hK _ _ (fun _ => ⟨v1, hat _ b3⟩) ?_
    clear hK K
    refine wpMix_act (fun K hK => ?_)
    go_wp2_with (refine wpList_tstore rfl _ _ rfl (W.heap.size + 1) rfl _ rfl zCells ?_ rfl rfl (tCells_one _ _ _ h1) ?_; exact v2; intro w7 p7 o7)
    have v7 := v1.only o7 (by simp)
    have b7 : Below W.heap.size W w7 := b3.trans (o7.below (by simp) b3.size)
    refine hK _ _ (fun _ => ⟨v7, hat _ b7⟩) ?_
    clear hK K
    refine wpMix_act (fun K hK => ?_)
    go_wp2_with fail
    refine hK _ _ (fun h => absurd rfl h) ?_
    clear hK K
    refine wpMix_nil ?_
    go_wp2_with fail
    refine tret2 rfl rfl rfl p7 rfl ?_
    rw [HZ.out]
    exact tpost2 (by go_num) ((g2.keep o7.size (fun b hb hlt => o7.block b hlt (by simpa using hb.2.2))).mono (fun b hb _ => hb.1)) b7
 ·have CN := Lib.hid (fun (X : World) (bX : Below W.heap.size W X) => refNext_any c r g off n cb X hn.symm (by omega) hcb (HB0.out.below bX))
  have HM := Lib.hid (fun h => hz.trans (first_more t c r h27 hct h))
  have HO := Lib.hid (fun h => hz.trans (first_one t c r h27 hct h))
  have CR := Lib.hid (fun (X : World) (hX : W.heap.size + 1 < X.heap.size) (bX : Below W.heap.size W X) (k : Nat) (hi : isR (k : Int) = true) => rrune_any (F := fun b => F b ∧ b ≠ W.heap.size ∧ b ≠ W.heap.size + 1) (W := X) (fun b hb => ⟨hF b (by omega), by omega, by omega⟩) h1 ok hg (gF.below bX) k hi)
  have HI := Lib.hid (stepL_isR (c :: r))
  obtain ⟨x, hx⟩ : ∃ x, x = c.toNat := ⟨_, rfl⟩
  rw [← hx] at hat h27 hct hc256
  have nx : ((x : Int) == 27) = false := by simp; omega
  have n127 : ((x : Int) == 127) = false := by simp; omega
  have n32 : ¬ (x : Int) < 32 := by omega
  obtain ⟨l, hl⟩ : ∃ l, l = c :: r := ⟨_, rfl⟩
  rw [← hl] at CN HM HO HI
  clear hx h27 hct hn hB ok gR gF hz hl
  go_enter Tryz.func36, Tryz.ntmps36
  go_upto_region 0 with (fail)
  go_cut [2, 4, 5] (fun u v y wx => u = .pointer (some ⟨W.heap.size, 0, none⟩) ∧ v = .pointer (some ⟨W.heap.size + 1, 0, none⟩) ∧ y = .int .i64 0 ∧ TIn W (tCells a cap t bv) wx)
  case first =>
   go_wp2
   go_meet
   exact ⟨rfl, rfl, rfl, tin W _⟩
  case rest =>
   obtain ⟨rfl, rfl, rfl, p1, p2, bX, sX⟩ := hcut
   have hx0 := hat wc bX
   go_wp2_with fail
   refine (CN.out _ bX).mono ?_
   rintro e w3 ⟨⟨rr, nn, m, rfl, hh⟩, hb3⟩
   have r1 := p1.below hb3
   have r2 := p2.below hb3
   have b3 := bto bX hb3 bX.size
   rcases hh with ⟨rfl, -, hm⟩ | ⟨rfl, hr, hnn, hm⟩
   ·have HZ := Lib.hid (HM.out hm)
    clear hm
    go_wp2_with (first
     | (refine wpList_tload rfl _ rfl W.heap.size rfl (tCells a cap t bv) ?_ rfl ?_; exact r1)
     | (refine wpList_tstore rfl _ _ rfl (W.heap.size + 1) rfl _ rfl zCells ?_ rfl rfl (tCells_one _ _ _ h1) ?_; exact r2; intro w7 p7 o7))
    have b7 : Below W.heap.size W w7 := (b3).trans (o7.below (by simp) (b3).size)
    refine tret2 rfl rfl rfl p7 rfl ?_
    rw [HZ.out]
    exact tpost2 (by go_num) (HG.out.below b7) b7
   ·have HZ := Lib.hid (HO.out hm)
    have hi := HI.out
    obtain ⟨k, hk⟩ : ∃ k, k = (stepL l).1 := ⟨_, rfl⟩
    rw [← hk] at hr hi HZ
    rw [← hnn] at HZ
    have C1 := Lib.hid (CR.out w3 r2.lt b3 k hi)
    clear hm hk hnn CR hi
    subst hr
    go_wp2_with (refine wpList_tload rfl _ rfl W.heap.size rfl (tCells a cap t bv) ?_ rfl ?_; exact r1)
    refine (C1.out).mono ?_
    rintro e w4 ⟨a4, cap4, rfl, g4, hb4⟩
    have v2 := r2.below hb4
    have b4 := bto b3 hb4 b3.size
    go_wp2_with (refine wpList_tstore rfl _ _ rfl (W.heap.size + 1) rfl _ rfl zCells ?_ rfl rfl (tCells_one _ _ _ h1) ?_; exact v2; intro w7 p7 o7)
    have b7 : Below W.heap.size W w7 := b4.trans (o7.below (by simp) b4.size)
    refine tret2 rfl rfl rfl p7 rfl ?_
    rw [HZ.out]
    exact tpost2 (by go_num) ((g4.keep o7.size (fun b hb hlt => o7.block b hlt (by simpa using hb.2.2))).mono (fun b hb _ => hb.1)) b7
end Go.Proofs.YtjkajojjehgmdaaGreat
