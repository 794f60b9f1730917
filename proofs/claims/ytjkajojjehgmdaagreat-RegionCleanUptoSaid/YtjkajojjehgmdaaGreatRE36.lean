/- The reference's terminal: obeyed. No condition. The reference's terminal: obeyed, with a question mark. No condition. -/
import Derived.Test.YtjkajojjehgmdaaGreatRE35
set_option linter.unusedVariables false
set_option linter.unusedSimpArgs false
namespace Go.Proofs.YtjkajojjehgmdaaGreat
open Go.RowKit Go.Shelf Go.Maps
theorem own_ints {W : World} {n₀ : Nat} {g c : Nat} {L : List Nat} (h : W.ownsRow n₀ 3 1 (.slice (some ⟨g, 0, none⟩) L.length c) L.length (intV L)) : Ints W g L :=
 ⟨by
  obtain ⟨_, cur, hcc⟩ := own_cells h g rfl
  exact (Array.getElem?_eq_some_iff.1 hcc).1, fun k hk => by
  rw [(own_cell1 h k hk).1]
  unfold nth intV
  rw [List.getD_eq_getElem?_getD, List.getD_eq_getElem?_getD, List.getElem?_map, List.getElem?_eq_getElem hk]
  rfl⟩
theorem obey_np (t : TS) (l : List UInt8) (e : Nat) (h : l.length = 0 ∨ (nth 0 l 0).toNat ≠ 63) : t.obey l e = if plainB l then t.plain (numsT 0 l) e else t := by
 match l with
 | [] => rfl
 | c :: r =>
  have hc : ¬ c = 63 := fun hc => by
   subst hc
   rcases h with h | h
   ·cases h
   ·exact h rfl
  simp [TS.obey, hc]
set_option maxRecDepth 100000 in
set_option maxHeartbeats 8000000 in
theorem robeyed_np {F : Nat → Prop} {W : World} (hF : ∀ b, W.heap.size ≤ b → F b) {a : Option Addr} {cap : Nat} {t : TS} {bv : Value} (h1 : OneV bv) (ok : TO0 t) (g : RG F W a cap t.W t.H t.R) {gb off n cb : Nat} {l : List UInt8} {e : UInt8} (hB : Bys W gb off (l ++ [e])) (hn : l.length = n) (hn2 : n ≤ 100000) (hcb : n + 1 ≤ cb) (hq : n = 0 ∨ (0 < n ∧ (nth 0 l 0).toNat ≠ 63)) :
    Calls Tryz.prog 83 #[.agg (tCells a cap t bv), .slice (some ⟨gb, off, none⟩) (n + 1) cb] W (TPost F (t.obey l e.toNat) bv W) := by
 rw [obey_np t l e.toNat (by omega)]
 have hbl : Bys W gb off l := ⟨hB.lt, fun k hk => by
  have := hB.at_ k (by rw [List.length_append]; omega)
  rw [this]
  unfold nth
  rw [List.getD_eq_getElem?_getD, List.getD_eq_getElem?_getD, List.getElem?_append_left hk]⟩
 have HBE := Lib.hid (fun (X : World) (hX : Below W.heap.size W X) => show X.cell? ⟨gb, off + n, none⟩ = some (.int .u8 (e.toNat : Int)) by
  have := (hB.below hX).at_ n (by rw [List.length_append]; simp; omega)
  rw [this]
  unfold nth
  rw [List.getD_eq_getElem?_getD, ← hn, List.getElem?_append_right (Nat.le_refl _), Nat.sub_self]
  rfl)
 have HB0 := Lib.hid (fun (X : World) (hX : Below W.heap.size W X) (h0 : 0 < n) => (hbl.below hX).at_ 0 (by omega))
 have CN := Lib.hid (fun (X : World) (hX : Below W.heap.size W X) => rnumbers_any (cap := cb) (hbl.below hX) hn (by omega))
 have hLlen := nums_len l 0
 have hLmax := numsT_le l 0 (by omega)
 obtain ⟨y, ys, hLne⟩ := num_ge l 0
 obtain ⟨L, hL⟩ : ∃ L, L = numsT 0 l := ⟨_, rfl⟩
 rw [← hL] at hLlen hLmax hLne ⊢
 have hL1 : 1 ≤ L.length := by rw [hLne]; simp
 have HL := Lib.hid hL
 obtain ⟨RS, hRS⟩ : ∃ RS, RS = if plainB l then t.plain L e.toNat else t := ⟨_, rfl⟩
 rw [← hRS]
 have HRS := Lib.hid hRS
 clear hRS
 have HLM := Lib.hid hLmax
 have CP := Lib.hid (fun (X : World) (hX : W.heap.size + 1 < X.heap.size) (bX : Below W.heap.size W X) (gl cl : Nat) (hI : Ints X gl L) => rplain_any (F := fun b => F b ∧ b ≠ W.heap.size ∧ b ≠ W.heap.size + 1) (W := X) (cl := cl) (fun b hb => ⟨hF b (by omega), by omega, by omega⟩) h1 ok ((g.mono (F' := fun b => F b ∧ b ≠ W.heap.size ∧ b ≠ W.heap.size + 1) (fun b h1 h2 => ⟨h1, by omega, by omega⟩)).below bX) hI hL1 (by omega) hLmax e.toNat)
 have HG := Lib.hid g
 have hlen2 : L.length ≤ 100001 := by omega
 clear hL hLne hLmax hLlen hbl hB hn g ok
 obtain ⟨x, hx⟩ : ∃ x, x = (nth 0 l 0).toNat := ⟨_, rfl⟩
 rw [← hx] at hq
 have HX := Lib.hid hx
 obtain ⟨ez, hez⟩ : ∃ ez, ez = e.toNat := ⟨_, rfl⟩
 clear hx
 go_enter Tryz.func83, Tryz.ntmps83
 go_upto_region 0 with (fail)
 go_cut [2, 4] (fun u v wx => u = .pointer (some ⟨W.heap.size, 0, none⟩) ∧ v = .pointer (some ⟨W.heap.size + 1, 0, none⟩) ∧ TIn W (tCells a cap t bv) wx)
 case first =>
  go_wp2
  go_meet
  exact ⟨rfl, rfl, tin W _⟩
 case rest =>
  obtain ⟨rfl, rfl, p1, p2, bX, sX⟩ := hcut
  have ce := HBE.out wc bX
  have C1 := Lib.hid (CN.out wc bX)
  have hn1 : n ≤ n + 1 := by omega
  have hn3 : n ≤ cb := by omega
  rcases hq with hq0 | ⟨hq0, hq63⟩
  ·have hn0 : ¬ (0 : Int) < (n : Int) := by omega
   clear hq0
   go_wp2_with fail
   all_goals
    refine (C1.out).mono ?_
    rintro e' w2 (⟨hp, hN⟩ | ⟨hp, rfl, hb3⟩)
    ·rw [← HL.out] at hN
     obtain ⟨ga, c2, rfl, ho, hb3⟩ := hN
     obtain ⟨g', c', hv⟩ := own_ne ho (by omega)
     cases hv
     have hI := own_ints ho
     have b2 := bto bX hb3 bX.size
     have v1 := p1.below hb3
     have v2 := p2.below hb3
     have CPw := Lib.hid (CP.out w2 v2.lt b2 g' c2 hI)
     have HP := Lib.hid hp
     clear ho hI hp
     go_wp2_with (refine wpList_tload rfl _ rfl W.heap.size rfl (tCells a cap t bv) ?_ rfl ?_; exact v1)
     refine (CPw.out).mono ?_
     rintro e3 w3 ⟨a2, cap2, rfl, g2, hb4⟩
     have v3 := v2.below hb4
     have b3 := bto b2 hb4 b2.size
     go_wp2_with (refine wpList_tstore rfl _ _ rfl (W.heap.size + 1) rfl _ rfl zCells ?_ rfl rfl (tCells_one _ _ _ h1) ?_; exact v3; intro w7 p7 o7)
     have b7 : Below W.heap.size W w7 := b3.trans (o7.below (by simp) b3.size)
     refine tret rfl rfl p7 rfl ?_
     rw [HRS.out, if_pos HP.out]
     exact ⟨a2, cap2, rfl, (g2.keep o7.size (fun b hb hlt => o7.block b hlt (by simpa using hb.2.2))).mono (fun b hb _ => hb.1), b7⟩
    ·have b2 := bto bX hb3 bX.size
     have v1 := p1.below hb3
     have v2 := p2.below hb3
     have HP := Lib.hid hp
     clear hp
     go_wp2_with (first
      | (refine wpList_tload rfl _ rfl W.heap.size rfl (tCells a cap t bv) ?_ rfl ?_; exact v1)
      | (refine wpList_tstore rfl _ _ rfl (W.heap.size + 1) rfl _ rfl zCells ?_ rfl rfl (tCells_one _ _ _ h1) ?_; exact v2; intro w7 p7 o7))
     have b7 : Below W.heap.size W w7 := b2.trans (o7.below (by simp) b2.size)
     refine tret rfl rfl p7 rfl ?_
     rw [HRS.out, HP.out, if_neg (by simp)]
     exact ⟨a, cap, rfl, HG.out.below b7, b7⟩
  ·have c00 := HB0.out wc bX hq0
   rw [← HX.out] at c00
   have k63 : ((x : Int) == 63) = false := by simp; omega
   have hn0 : (0 : Int) < (n : Int) := by omega
   rw [Nat.add_zero] at c00
   go_wp2_with fail
   all_goals
    refine (C1.out).mono ?_
    rintro e' w2 (⟨hp, hN⟩ | ⟨hp, rfl, hb3⟩)
    ·rw [← HL.out] at hN
     obtain ⟨ga, c2, rfl, ho, hb3⟩ := hN
     obtain ⟨g', c', hv⟩ := own_ne ho (by omega)
     cases hv
     have hI := own_ints ho
     have b2 := bto bX hb3 bX.size
     have v1 := p1.below hb3
     have v2 := p2.below hb3
     have CPw := Lib.hid (CP.out w2 v2.lt b2 g' c2 hI)
     have HP := Lib.hid hp
     clear ho hI hp
     go_wp2_with (refine wpList_tload rfl _ rfl W.heap.size rfl (tCells a cap t bv) ?_ rfl ?_; exact v1)
     refine (CPw.out).mono ?_
     rintro e3 w3 ⟨a2, cap2, rfl, g2, hb4⟩
     have v3 := v2.below hb4
     have b3 := bto b2 hb4 b2.size
     go_wp2_with (refine wpList_tstore rfl _ _ rfl (W.heap.size + 1) rfl _ rfl zCells ?_ rfl rfl (tCells_one _ _ _ h1) ?_; exact v3; intro w7 p7 o7)
     have b7 : Below W.heap.size W w7 := b3.trans (o7.below (by simp) b3.size)
     refine tret rfl rfl p7 rfl ?_
     rw [HRS.out, if_pos HP.out]
     exact ⟨a2, cap2, rfl, (g2.keep o7.size (fun b hb hlt => o7.block b hlt (by simpa using hb.2.2))).mono (fun b hb _ => hb.1), b7⟩
    ·have b2 := bto bX hb3 bX.size
     have v1 := p1.below hb3
     have v2 := p2.below hb3
     have HP := Lib.hid hp
     clear hp
     go_wp2_with (first
      | (refine wpList_tload rfl _ rfl W.heap.size rfl (tCells a cap t bv) ?_ rfl ?_; exact v1)
      | (refine wpList_tstore rfl _ _ rfl (W.heap.size + 1) rfl _ rfl zCells ?_ rfl rfl (tCells_one _ _ _ h1) ?_; exact v2; intro w7 p7 o7))
     have b7 : Below W.heap.size W w7 := b2.trans (o7.below (by simp) b2.size)
     refine tret rfl rfl p7 rfl ?_
     rw [HRS.out, HP.out, if_neg (by simp)]
     exact ⟨a, cap, rfl, HG.out.below b7, b7⟩
theorem Ints.only {W W' : World} {g : Nat} {L : List Nat} {S : List Nat} (h : Ints W g L) (o : Only S W W') (hS : g ∉ S) : Ints W' g L := ⟨by have := o.size; have := h.1; omega, fun k hk => by
 rw [← h.2 k hk]
 unfold World.cell?
 rw [o.block g h.1 hS]⟩
set_option maxRecDepth 100000 in
set_option maxHeartbeats 8000000 in
theorem robeyed_q104 {F : Nat → Prop} {W : World} {a : Option Addr} {cap : Nat} {t : TS} {bv : Value} (h1 : OneV bv) (g : RG F W a cap t.W t.H t.R) {gb off n cb : Nat} {l : List UInt8} {e : UInt8} (hB : Bys W gb off (63 :: (l ++ [e]))) (hn : l.length = n) (hn2 : n ≤ 100000) (hcb : n + 1 + 1 ≤ cb) (hez : e.toNat = 104) :
    Calls Tryz.prog 83 #[.agg (tCells a cap t bv), .slice (some ⟨gb, off, none⟩) (n + 1 + 1) cb] W (TPost F (if plainB l then t.modes (numsT 0 l) 104 else t) bv W) := by
 have hbt := hB.tail
 have hbl : Bys W gb (off + 1) l := ⟨hbt.lt, fun k hk => by
  have := hbt.at_ k (by rw [List.length_append]; omega)
  rw [this]
  unfold nth
  rw [List.getD_eq_getElem?_getD, List.getD_eq_getElem?_getD, List.getElem?_append_left hk]⟩
 have HBE := Lib.hid (fun (X : World) (hX : Below W.heap.size W X) => show X.cell? ⟨gb, off + (n + 1), none⟩ = some (.int .u8 104) by
  have := (hbt.below hX).at_ n (by rw [List.length_append]; simp; omega)
  rw [show off + (n + 1) = off + 1 + n by omega, this]
  unfold nth
  rw [List.getD_eq_getElem?_getD, ← hn, List.getElem?_append_right (Nat.le_refl _), Nat.sub_self]
  show some (Value.int .u8 ((e.toNat : Nat) : Int)) = _
  rw [hez]; rfl)
 have HB0 := Lib.hid (fun (X : World) (hX : Below W.heap.size W X) => show X.cell? ⟨gb, off, none⟩ = some (.int .u8 63) by
  have := (hB.below hX).at_ 0 (by simp)
  rw [Nat.add_zero] at this
  rw [this]; rfl)
 have CN := Lib.hid (fun (X : World) (hX : Below W.heap.size W X) => rnumbers_any (cap := cb - 1) (hbl.below hX) hn (by omega))
 have hLlen := nums_len l 0
 obtain ⟨y, ys, hLne⟩ := num_ge l 0
 obtain ⟨L, hL⟩ : ∃ L, L = numsT 0 l := ⟨_, rfl⟩
 rw [← hL] at hLlen hLne ⊢
 have hL1 : 1 ≤ L.length := by rw [hLne]; simp
 have HL := Lib.hid hL
 obtain ⟨RS, hRS⟩ : ∃ RS, RS = if plainB l then t.modes L 104 else t := ⟨_, rfl⟩
 rw [← hRS]
 have HRS := Lib.hid hRS
 have HRT : Hid (plainB l = true → RS = (L.drop 0).foldl (fun t n => t.mode true n) { t with seen := t.seen, marked := t.marked }) := Lib.hid (fun h => by rw [hRS, if_pos h]; simp [TS.modes])
 have HG := Lib.hid g
 have hlen2 : L.length ≤ 100001 := by omega
 clear hL hLne hLlen hbl hB hbt hn g hRS hez
 go_enter Tryz.func83, Tryz.ntmps83
 go_upto_region 0 with (fail)
 go_cut [2, 4] (fun u v wx => u = .pointer (some ⟨W.heap.size, 0, none⟩) ∧ v = .pointer (some ⟨W.heap.size + 1, 0, none⟩) ∧ TIn W (tCells a cap t bv) wx)
 case first =>
  go_wp2
  go_meet
  exact ⟨rfl, rfl, tin W _⟩
 case rest =>
  obtain ⟨rfl, rfl, p1, p2, bX, sX⟩ := hcut
  have ce := HBE.out wc bX
  have C1 := Lib.hid (CN.out wc bX)
  have hn1 : n + 1 ≤ n + 1 + 1 := by omega
  have hn3 : n + 1 ≤ cb := by omega
  have hcb1 : ¬ cb = 1 := by omega
  have c00 := HB0.out wc bX
  go_wp2_with fail
  refine (C1.out).mono ?_
  rintro e' w2 (⟨hp, hN⟩ | ⟨hp, rfl, hb3⟩)
  ·rw [← HL.out] at hN
   obtain ⟨ga, c2, rfl, ho, hb3⟩ := hN
   obtain ⟨g', c', hv⟩ := own_ne ho (by omega)
   cases hv
   have hI := own_ints ho
   have hgg := (own_cells ho g' rfl).1
   have hgne : g' ≠ W.heap.size := by omega
   have b2 := bto bX hb3 bX.size
   have v1 := p1.below hb3
   have v2 := p2.below hb3
   have HI2 := Lib.hid hI
   have HT := Lib.hid (HRT.out hp)
   clear ho hI hp p1 p2 c00 ce
   go_wp2
   go_loopw [9] (fun i wr => ∃ (k : Nat) (sn mk : Bool), i = .int .i64 k ∧ k ≤ L.length ∧ TBx wr W.heap.size (tCells a cap { t with seen := sn, marked := mk } bv) ∧ TBx wr (W.heap.size + 1) zCells ∧ Hid (Ints wr g' L) ∧ Below W.heap.size W wr ∧ Hid (RS = (L.drop k).foldl (fun t n => t.mode true n) { t with seen := sn, marked := mk }))
    (fun i _ => L.length - (intOf i).toNat)
   case atStart => exact ⟨0, t.seen, t.marked, rfl, Nat.zero_le _, v1, v2, HI2, b2, HT⟩
   case round =>
    obtain ⟨k, sn, mk, rfl, hk, q1, q2, HJ, hb, HE⟩ := hrel
    clear v1 v2
    by_cases hlt : k < L.length
    ·have lk := HJ.out.2 k hlt
     have HE2 : Hid (RS = (L.drop (k + 1)).foldl (fun t n => t.mode true n) (TS.mode { t with seen := sn, marked := mk } true (nth 0 L k))) := Lib.hid (by
      rw [HE.out, List.drop_eq_getElem_cons hlt, List.foldl_cons]
      congr 2
      unfold nth
      rw [List.getD_eq_getElem?_getD, List.getElem?_eq_getElem hlt]; rfl)
     obtain ⟨x, hxk⟩ : ∃ x, x = nth 0 L k := ⟨_, rfl⟩
     rw [← hxk] at lk HE2
     have HXK := Lib.hid hxk
     clear hxk HE
     have hkc : (k : Int) < (L.length : Int) := by omega
     have EA : x = 25 → Hid (RS = (L.drop (k + 1)).foldl (fun t n => t.mode true n) { t with seen := true, marked := mk }) := fun h => Lib.hid (by rw [HE2.out, h]; simp [TS.mode])
     have EB : x = 2004 → Hid (RS = (L.drop (k + 1)).foldl (fun t n => t.mode true n) { t with seen := sn, marked := true }) := fun h => Lib.hid (by rw [HE2.out, h]; simp [TS.mode])
     have EC : x ≠ 25 → x ≠ 2004 → Hid (RS = (L.drop (k + 1)).foldl (fun t n => t.mode true n) { t with seen := sn, marked := mk }) := fun h h' => Lib.hid (by rw [HE2.out]; simp [TS.mode, h, h'])
     replace EA := Lib.hid EA
     replace EB := Lib.hid EB
     replace EC := Lib.hid EC
     obtain ⟨sa, oa⟩ := q1.set 11 (.bool true) (tCells a cap { t with seen := true, marked := mk } bv) rfl
     obtain ⟨sb, ob⟩ := q1.set 12 (.bool true) (tCells a cap { t with seen := sn, marked := true } bv) rfl
     have GA : Hid (TBx (wr.setCell ⟨W.heap.size, 11, none⟩ (.bool true)) (W.heap.size + 1) zCells ∧ Ints (wr.setCell ⟨W.heap.size, 11, none⟩ (.bool true)) g' L ∧ Below W.heap.size W (wr.setCell ⟨W.heap.size, 11, none⟩ (.bool true))) := Lib.hid ⟨q2.only oa (by simp), HJ.out.only oa (by simpa using hgne), hb.trans (oa.below (by simp) hb.size)⟩
     have GB : Hid (TBx (wr.setCell ⟨W.heap.size, 12, none⟩ (.bool true)) (W.heap.size + 1) zCells ∧ Ints (wr.setCell ⟨W.heap.size, 12, none⟩ (.bool true)) g' L ∧ Below W.heap.size W (wr.setCell ⟨W.heap.size, 12, none⟩ (.bool true))) := Lib.hid ⟨q2.only ob (by simp), HJ.out.only ob (by simpa using hgne), hb.trans (ob.below (by simp) hb.size)⟩
     replace sa := Lib.hid sa
     replace sb := Lib.hid sb
     clear oa ob HE2
     have la := (GA.out.2.1).2 k hlt
     rw [← HXK.out] at la
     obtain ⟨c0, c1, c2, c3, c4, c5, c6, c7, c8, c9, c10, c11, c12, c13, c14, c15, c16, c17, c18, fz⟩ := q1.tc
     clear c0 c1 c2 c3 c4 c5 c6 c7 c8 c9 c10 c13 c14 c15 c16 c17 c18
     by_cases e25 : x = 25
     ·have f25 : ((x : Int) == 25) = true := by simp; omega
      have f2 : ((x : Int) == 2004) = false := by simp; omega
      go_wp2
      all_goals
       first
        | (exfalso; simp only [beq_iff_eq, beq_eq_false_iff_ne, ne_eq] at *; omega)
        | (refine ⟨⟨k + 1, true, mk, by go_num, by omega, sa.out, GA.out.1, Lib.hid GA.out.2.1, GA.out.2.2, EA.out e25⟩, ?_⟩
           simp only [intOf]
           omega)
     ·by_cases e2 : x = 2004
      ·have f25 : ((x : Int) == 25) = false := by simp; omega
       have f2 : ((x : Int) == 2004) = true := by simp; omega
       go_wp2
       refine ⟨⟨k + 1, sn, true, by go_num, by omega, sb.out, GB.out.1, Lib.hid GB.out.2.1, GB.out.2.2, EB.out e2⟩, ?_⟩
       simp only [intOf]
       omega
      ·have f25 : ((x : Int) == 25) = false := by simp; omega
       have f2 : ((x : Int) == 2004) = false := by simp; omega
       go_wp2
       refine ⟨⟨k + 1, sn, mk, by go_num, by omega, q1, q2, HJ, hb, EC.out e25 e2⟩, ?_⟩
       simp only [intOf]
       omega
    ·have hz : L.drop k = [] := List.drop_eq_nil_of_le (by omega)
     have HE2 : Hid (RS = { t with seen := sn, marked := mk }) := Lib.hid (by rw [HE.out, hz]; rfl)
     go_wp2_with (first
      | (refine wpList_tload rfl _ rfl W.heap.size rfl (tCells a cap { t with seen := sn, marked := mk } bv) ?_ rfl ?_; exact q1)
      | (refine wpList_tstore rfl _ _ rfl (W.heap.size + 1) rfl _ rfl zCells ?_ rfl rfl (tCells_one _ _ _ h1) ?_; exact q2; intro w7 p7 o7))
     have b7 : Below W.heap.size W w7 := hb.trans (o7.below (by simp) hb.size)
     refine tret rfl rfl p7 rfl ?_
     rw [HE2.out]
     exact ⟨a, cap, rfl, HG.out.below b7, b7⟩
  ·have b2 := bto bX hb3 bX.size
   have v1 := p1.below hb3
   have v2 := p2.below hb3
   have HP := Lib.hid hp
   clear hp
   go_wp2_with (first
    | (refine wpList_tload rfl _ rfl W.heap.size rfl (tCells a cap t bv) ?_ rfl ?_; exact v1)
    | (refine wpList_tstore rfl _ _ rfl (W.heap.size + 1) rfl _ rfl zCells ?_ rfl rfl (tCells_one _ _ _ h1) ?_; exact v2; intro w7 p7 o7))
   have b7 : Below W.heap.size W w7 := b2.trans (o7.below (by simp) b2.size)
   refine tret rfl rfl p7 rfl ?_
   rw [HRS.out, HP.out, if_neg (by simp)]
   exact ⟨a, cap, rfl, HG.out.below b7, b7⟩
set_option maxRecDepth 100000 in
set_option maxHeartbeats 8000000 in
theorem robeyed_q108 {F : Nat → Prop} {W : World} {a : Option Addr} {cap : Nat} {t : TS} {bv : Value} (h1 : OneV bv) (g : RG F W a cap t.W t.H t.R) {gb off n cb : Nat} {l : List UInt8} {e : UInt8} (hB : Bys W gb off (63 :: (l ++ [e]))) (hn : l.length = n) (hn2 : n ≤ 100000) (hcb : n + 1 + 1 ≤ cb) (hez : e.toNat = 108) :
    Calls Tryz.prog 83 #[.agg (tCells a cap t bv), .slice (some ⟨gb, off, none⟩) (n + 1 + 1) cb] W (TPost F (if plainB l then t.modes (numsT 0 l) 108 else t) bv W) := by
 have hbt := hB.tail
 have hbl : Bys W gb (off + 1) l := ⟨hbt.lt, fun k hk => by
  have := hbt.at_ k (by rw [List.length_append]; omega)
  rw [this]
  unfold nth
  rw [List.getD_eq_getElem?_getD, List.getD_eq_getElem?_getD, List.getElem?_append_left hk]⟩
 have HBE := Lib.hid (fun (X : World) (hX : Below W.heap.size W X) => show X.cell? ⟨gb, off + (n + 1), none⟩ = some (.int .u8 108) by
  have := (hbt.below hX).at_ n (by rw [List.length_append]; simp; omega)
  rw [show off + (n + 1) = off + 1 + n by omega, this]
  unfold nth
  rw [List.getD_eq_getElem?_getD, ← hn, List.getElem?_append_right (Nat.le_refl _), Nat.sub_self]
  show some (Value.int .u8 ((e.toNat : Nat) : Int)) = _
  rw [hez]; rfl)
 have HB0 := Lib.hid (fun (X : World) (hX : Below W.heap.size W X) => show X.cell? ⟨gb, off, none⟩ = some (.int .u8 63) by
  have := (hB.below hX).at_ 0 (by simp)
  rw [Nat.add_zero] at this
  rw [this]; rfl)
 have CN := Lib.hid (fun (X : World) (hX : Below W.heap.size W X) => rnumbers_any (cap := cb - 1) (hbl.below hX) hn (by omega))
 have hLlen := nums_len l 0
 obtain ⟨y, ys, hLne⟩ := num_ge l 0
 obtain ⟨L, hL⟩ : ∃ L, L = numsT 0 l := ⟨_, rfl⟩
 rw [← hL] at hLlen hLne ⊢
 have hL1 : 1 ≤ L.length := by rw [hLne]; simp
 have HL := Lib.hid hL
 obtain ⟨RS, hRS⟩ : ∃ RS, RS = if plainB l then t.modes L 108 else t := ⟨_, rfl⟩
 rw [← hRS]
 have HRS := Lib.hid hRS
 have HRT : Hid (plainB l = true → RS = (L.drop 0).foldl (fun t n => t.mode false n) { t with seen := t.seen, marked := t.marked }) := Lib.hid (fun h => by rw [hRS, if_pos h]; simp [TS.modes])
 have HG := Lib.hid g
 have hlen2 : L.length ≤ 100001 := by omega
 clear hL hLne hLlen hbl hB hbt hn g hRS hez
 go_enter Tryz.func83, Tryz.ntmps83
 go_upto_region 0 with (fail)
 go_cut [2, 4] (fun u v wx => u = .pointer (some ⟨W.heap.size, 0, none⟩) ∧ v = .pointer (some ⟨W.heap.size + 1, 0, none⟩) ∧ TIn W (tCells a cap t bv) wx)
 case first =>
  go_wp2
  go_meet
  exact ⟨rfl, rfl, tin W _⟩
 case rest =>
  obtain ⟨rfl, rfl, p1, p2, bX, sX⟩ := hcut
  have ce := HBE.out wc bX
  have C1 := Lib.hid (CN.out wc bX)
  have hn1 : n + 1 ≤ n + 1 + 1 := by omega
  have hn3 : n + 1 ≤ cb := by omega
  have hcb1 : ¬ cb = 1 := by omega
  have c00 := HB0.out wc bX
  go_wp2_with fail
  refine (C1.out).mono ?_
  rintro e' w2 (⟨hp, hN⟩ | ⟨hp, rfl, hb3⟩)
  ·rw [← HL.out] at hN
   obtain ⟨ga, c2, rfl, ho, hb3⟩ := hN
   obtain ⟨g', c', hv⟩ := own_ne ho (by omega)
   cases hv
   have hI := own_ints ho
   have hgg := (own_cells ho g' rfl).1
   have hgne : g' ≠ W.heap.size := by omega
   have b2 := bto bX hb3 bX.size
   have v1 := p1.below hb3
   have v2 := p2.below hb3
   have HI2 := Lib.hid hI
   have HT := Lib.hid (HRT.out hp)
   clear ho hI hp p1 p2 c00 ce
   go_wp2
   go_loopw [9] (fun i wr => ∃ (k : Nat) (sn mk : Bool), i = .int .i64 k ∧ k ≤ L.length ∧ TBx wr W.heap.size (tCells a cap { t with seen := sn, marked := mk } bv) ∧ TBx wr (W.heap.size + 1) zCells ∧ Hid (Ints wr g' L) ∧ Below W.heap.size W wr ∧ Hid (RS = (L.drop k).foldl (fun t n => t.mode false n) { t with seen := sn, marked := mk }))
    (fun i _ => L.length - (intOf i).toNat)
   case atStart => exact ⟨0, t.seen, t.marked, rfl, Nat.zero_le _, v1, v2, HI2, b2, HT⟩
   case round =>
    obtain ⟨k, sn, mk, rfl, hk, q1, q2, HJ, hb, HE⟩ := hrel
    clear v1 v2
    by_cases hlt : k < L.length
    ·have lk := HJ.out.2 k hlt
     have HE2 : Hid (RS = (L.drop (k + 1)).foldl (fun t n => t.mode false n) (TS.mode { t with seen := sn, marked := mk } false (nth 0 L k))) := Lib.hid (by
      rw [HE.out, List.drop_eq_getElem_cons hlt, List.foldl_cons]
      congr 2
      unfold nth
      rw [List.getD_eq_getElem?_getD, List.getElem?_eq_getElem hlt]; rfl)
     obtain ⟨x, hxk⟩ : ∃ x, x = nth 0 L k := ⟨_, rfl⟩
     rw [← hxk] at lk HE2
     have HXK := Lib.hid hxk
     clear hxk HE
     have hkc : (k : Int) < (L.length : Int) := by omega
     have EA : x = 25 → Hid (RS = (L.drop (k + 1)).foldl (fun t n => t.mode false n) { t with seen := false, marked := mk }) := fun h => Lib.hid (by rw [HE2.out, h]; simp [TS.mode])
     have EB : x = 2004 → Hid (RS = (L.drop (k + 1)).foldl (fun t n => t.mode false n) { t with seen := sn, marked := false }) := fun h => Lib.hid (by rw [HE2.out, h]; simp [TS.mode])
     have EC : x ≠ 25 → x ≠ 2004 → Hid (RS = (L.drop (k + 1)).foldl (fun t n => t.mode false n) { t with seen := sn, marked := mk }) := fun h h' => Lib.hid (by rw [HE2.out]; simp [TS.mode, h, h'])
     replace EA := Lib.hid EA
     replace EB := Lib.hid EB
     replace EC := Lib.hid EC
     obtain ⟨sa, oa⟩ := q1.set 11 (.bool false) (tCells a cap { t with seen := false, marked := mk } bv) rfl
     obtain ⟨sb, ob⟩ := q1.set 12 (.bool false) (tCells a cap { t with seen := sn, marked := false } bv) rfl
     have GA : Hid (TBx (wr.setCell ⟨W.heap.size, 11, none⟩ (.bool false)) (W.heap.size + 1) zCells ∧ Ints (wr.setCell ⟨W.heap.size, 11, none⟩ (.bool false)) g' L ∧ Below W.heap.size W (wr.setCell ⟨W.heap.size, 11, none⟩ (.bool false))) := Lib.hid ⟨q2.only oa (by simp), HJ.out.only oa (by simpa using hgne), hb.trans (oa.below (by simp) hb.size)⟩
     have GB : Hid (TBx (wr.setCell ⟨W.heap.size, 12, none⟩ (.bool false)) (W.heap.size + 1) zCells ∧ Ints (wr.setCell ⟨W.heap.size, 12, none⟩ (.bool false)) g' L ∧ Below W.heap.size W (wr.setCell ⟨W.heap.size, 12, none⟩ (.bool false))) := Lib.hid ⟨q2.only ob (by simp), HJ.out.only ob (by simpa using hgne), hb.trans (ob.below (by simp) hb.size)⟩
     replace sa := Lib.hid sa
     replace sb := Lib.hid sb
     clear oa ob HE2
     have la := (GA.out.2.1).2 k hlt
     rw [← HXK.out] at la
     obtain ⟨c0, c1, c2, c3, c4, c5, c6, c7, c8, c9, c10, c11, c12, c13, c14, c15, c16, c17, c18, fz⟩ := q1.tc
     clear c0 c1 c2 c3 c4 c5 c6 c7 c8 c9 c10 c13 c14 c15 c16 c17 c18
     by_cases e25 : x = 25
     ·have f25 : ((x : Int) == 25) = true := by simp; omega
      have f2 : ((x : Int) == 2004) = false := by simp; omega
      go_wp2
      all_goals
       first
        | (exfalso; simp only [beq_iff_eq, beq_eq_false_iff_ne, ne_eq] at *; omega)
        | (refine ⟨⟨k + 1, false, mk, by go_num, by omega, sa.out, GA.out.1, Lib.hid GA.out.2.1, GA.out.2.2, EA.out e25⟩, ?_⟩
           simp only [intOf]
           omega)
     ·by_cases e2 : x = 2004
      ·have f25 : ((x : Int) == 25) = false := by simp; omega
       have f2 : ((x : Int) == 2004) = true := by simp; omega
       go_wp2
       refine ⟨⟨k + 1, sn, false, by go_num, by omega, sb.out, GB.out.1, Lib.hid GB.out.2.1, GB.out.2.2, EB.out e2⟩, ?_⟩
       simp only [intOf]
       omega
      ·have f25 : ((x : Int) == 25) = false := by simp; omega
       have f2 : ((x : Int) == 2004) = false := by simp; omega
       go_wp2
       refine ⟨⟨k + 1, sn, mk, by go_num, by omega, q1, q2, HJ, hb, EC.out e25 e2⟩, ?_⟩
       simp only [intOf]
       omega
    ·have hz : L.drop k = [] := List.drop_eq_nil_of_le (by omega)
     have HE2 : Hid (RS = { t with seen := sn, marked := mk }) := Lib.hid (by rw [HE.out, hz]; rfl)
     go_wp2_with (first
      | (refine wpList_tload rfl _ rfl W.heap.size rfl (tCells a cap { t with seen := sn, marked := mk } bv) ?_ rfl ?_; exact q1)
      | (refine wpList_tstore rfl _ _ rfl (W.heap.size + 1) rfl _ rfl zCells ?_ rfl rfl (tCells_one _ _ _ h1) ?_; exact q2; intro w7 p7 o7))
     have b7 : Below W.heap.size W w7 := hb.trans (o7.below (by simp) hb.size)
     refine tret rfl rfl p7 rfl ?_
     rw [HE2.out]
     exact ⟨a, cap, rfl, HG.out.below b7, b7⟩
  ·have b2 := bto bX hb3 bX.size
   have v1 := p1.below hb3
   have v2 := p2.below hb3
   have HP := Lib.hid hp
   clear hp
   go_wp2_with (first
    | (refine wpList_tload rfl _ rfl W.heap.size rfl (tCells a cap t bv) ?_ rfl ?_; exact v1)
    | (refine wpList_tstore rfl _ _ rfl (W.heap.size + 1) rfl _ rfl zCells ?_ rfl rfl (tCells_one _ _ _ h1) ?_; exact v2; intro w7 p7 o7))
   have b7 : Below W.heap.size W w7 := b2.trans (o7.below (by simp) b2.size)
   refine tret rfl rfl p7 rfl ?_
   rw [HRS.out, HP.out, if_neg (by simp)]
   exact ⟨a, cap, rfl, HG.out.below b7, b7⟩
set_option maxRecDepth 100000 in
set_option maxHeartbeats 8000000 in
theorem robeyed_q0 {F : Nat → Prop} {W : World} {a : Option Addr} {cap : Nat} {t : TS} {bv : Value} (h1 : OneV bv) (g : RG F W a cap t.W t.H t.R) {gb off n cb : Nat} {l : List UInt8} {e : UInt8} (hB : Bys W gb off (63 :: (l ++ [e]))) (hn : l.length = n) (hn2 : n ≤ 100000) (hcb : n + 1 + 1 ≤ cb) (k104 : ((e.toNat : Int) == 104) = false) (k108 : ((e.toNat : Int) == 108) = false) :
    Calls Tryz.prog 83 #[.agg (tCells a cap t bv), .slice (some ⟨gb, off, none⟩) (n + 1 + 1) cb] W (TPost F t bv W) := by
 have hbt := hB.tail
 have hbl : Bys W gb (off + 1) l := ⟨hbt.lt, fun k hk => by
  have := hbt.at_ k (by rw [List.length_append]; omega)
  rw [this]
  unfold nth
  rw [List.getD_eq_getElem?_getD, List.getD_eq_getElem?_getD, List.getElem?_append_left hk]⟩
 have HBE := Lib.hid (fun (X : World) (hX : Below W.heap.size W X) => show X.cell? ⟨gb, off + (n + 1), none⟩ = some (.int .u8 (e.toNat : Int)) by
  have := (hbt.below hX).at_ n (by rw [List.length_append]; simp; omega)
  rw [show off + (n + 1) = off + 1 + n by omega, this]
  unfold nth
  rw [List.getD_eq_getElem?_getD, ← hn, List.getElem?_append_right (Nat.le_refl _), Nat.sub_self]
  rfl)
 have HB0 := Lib.hid (fun (X : World) (hX : Below W.heap.size W X) => show X.cell? ⟨gb, off, none⟩ = some (.int .u8 63) by
  have := (hB.below hX).at_ 0 (by simp)
  rw [Nat.add_zero] at this
  rw [this]; rfl)
 have CN := Lib.hid (fun (X : World) (hX : Below W.heap.size W X) => rnumbers_any (cap := cb - 1) (hbl.below hX) hn (by omega))
 have hLlen := nums_len l 0
 obtain ⟨y, ys, hLne⟩ := num_ge l 0
 obtain ⟨L, hL⟩ : ∃ L, L = numsT 0 l := ⟨_, rfl⟩
 rw [← hL] at hLlen hLne
 have hL1 : 1 ≤ L.length := by rw [hLne]; simp
 have HL := Lib.hid hL
 have HG := Lib.hid g
 have hlen2 : L.length ≤ 100001 := by omega
 clear hL hLne hLlen hbl hB hbt hn g
 go_enter Tryz.func83, Tryz.ntmps83
 go_upto_region 0 with (fail)
 go_cut [2, 4] (fun u v wx => u = .pointer (some ⟨W.heap.size, 0, none⟩) ∧ v = .pointer (some ⟨W.heap.size + 1, 0, none⟩) ∧ TIn W (tCells a cap t bv) wx)
 case first =>
  go_wp2
  go_meet
  exact ⟨rfl, rfl, tin W _⟩
 case rest =>
  obtain ⟨rfl, rfl, p1, p2, bX, sX⟩ := hcut
  have ce := HBE.out wc bX
  have C1 := Lib.hid (CN.out wc bX)
  have hn1 : n + 1 ≤ n + 1 + 1 := by omega
  have hn3 : n + 1 ≤ cb := by omega
  have hcb1 : ¬ cb = 1 := by omega
  have c00 := HB0.out wc bX
  go_wp2_with fail
  refine (C1.out).mono ?_
  rintro e' w2 (⟨hp, hN⟩ | ⟨hp, rfl, hb3⟩)
  ·rw [← HL.out] at hN
   obtain ⟨ga, c2, rfl, ho, hb3⟩ := hN
   obtain ⟨g', c', hv⟩ := own_ne ho (by omega)
   cases hv
   have hI := own_ints ho
   have hgg := (own_cells ho g' rfl).1
   have hgne : g' ≠ W.heap.size := by omega
   have b2 := bto bX hb3 bX.size
   have v1 := p1.below hb3
   have v2 := p2.below hb3
   have HI2 := Lib.hid hI
   clear ho hI hp p1 p2 c00 ce
   go_wp2
   go_loopw [9] (fun i wr => i = .int .i64 0 ∧ TBx wr W.heap.size (tCells a cap t bv) ∧ TBx wr (W.heap.size + 1) zCells ∧ Below W.heap.size W wr)
    (fun _ _ => 0)
   case atStart => exact ⟨rfl, v1, v2, b2⟩
   case round =>
    obtain ⟨rfl, q1, q2, hb⟩ := hrel
    clear v1 v2
    have hL0 : (0 : Int) < (L.length : Int) := by omega
    go_wp2_with (first
        | (refine wpList_tload rfl _ rfl W.heap.size rfl (tCells a cap t bv) ?_ rfl ?_; exact q1)
        | (refine wpList_tstore rfl _ _ rfl (W.heap.size + 1) rfl _ rfl zCells ?_ rfl rfl (tCells_one _ _ _ h1) ?_; exact q2; intro w7 p7 o7))
    have b7 : Below W.heap.size W w7 := hb.trans (o7.below (by simp) hb.size)
    refine tret rfl rfl p7 rfl ?_
    exact ⟨a, cap, rfl, HG.out.below b7, b7⟩
  ·have b2 := bto bX hb3 bX.size
   have v1 := p1.below hb3
   have v2 := p2.below hb3
   have HP := Lib.hid hp
   clear hp
   go_wp2_with (first
    | (refine wpList_tload rfl _ rfl W.heap.size rfl (tCells a cap t bv) ?_ rfl ?_; exact v1)
    | (refine wpList_tstore rfl _ _ rfl (W.heap.size + 1) rfl _ rfl zCells ?_ rfl rfl (tCells_one _ _ _ h1) ?_; exact v2; intro w7 p7 o7))
   have b7 : Below W.heap.size W w7 := b2.trans (o7.below (by simp) b2.size)
   refine tret rfl rfl p7 rfl ?_
   exact ⟨a, cap, rfl, HG.out.below b7, b7⟩
theorem robeyed_any {F : Nat → Prop} {W : World} (hF : ∀ b, W.heap.size ≤ b → F b) {a : Option Addr} {cap : Nat} {t : TS} {bv : Value} (h1 : OneV bv) (ok : TO0 t) (g : RG F W a cap t.W t.H t.R) {gb off n cb : Nat} {l : List UInt8} {e : UInt8} (hB : Bys W gb off (l ++ [e])) (hn : l.length = n) (hn2 : n ≤ 100000) (hcb : n + 1 ≤ cb) :
    Calls Tryz.prog 83 #[.agg (tCells a cap t bv), .slice (some ⟨gb, off, none⟩) (n + 1) cb] W (TPost F (t.obey l e.toNat) bv W) := by
 match l, hn with
 | [], hn => exact robeyed_np hF h1 ok g hB hn hn2 hcb (.inl hn.symm)
 | c :: r, hn =>
  subst hn
  by_cases hc : c = 63
  ·subst hc
   have eO : t.obey (63 :: r) e.toNat = if plainB r then t.modes (numsT 0 r) e.toNat else t := by simp [TS.obey]
   rw [eO]
   by_cases k1 : e.toNat = 104
   ·have := robeyed_q104 (F := F) h1 g (n := r.length) hB rfl (by simp at hn2; omega) hcb k1
    rw [k1]; exact this
   by_cases k2 : e.toNat = 108
   ·have := robeyed_q108 (F := F) h1 g (n := r.length) hB rfl (by simp at hn2; omega) hcb k2
    rw [k2]; exact this
   have em : t.modes (numsT 0 r) e.toNat = t := by unfold TS.modes; rw [if_neg (by omega)]
   rw [em, ite_self]
   exact robeyed_q0 (F := F) h1 g (n := r.length) hB rfl (by simp at hn2; omega) hcb (by simp; omega) (by simp; omega)
  ·refine robeyed_np hF h1 ok g hB rfl hn2 hcb (.inr ⟨by simp, fun h => hc ?_⟩)
   exact UInt8.toNat_inj.1 h
end Go.Proofs.YtjkajojjehgmdaaGreat
