/- The reference's diff: other, changes. No condition. The reference's diff: spans of a row. No condition. -/
import Derived.Laws.AppendOwnNone
import Derived.Test.YtekodpcedjpnjaaGreatBt37
set_option linter.unusedVariables false
set_option linter.unusedSimpArgs false
namespace Go.Proofs.YtekodpcedjpnjaaGreat
open Go.RowKit Go.Shelf Go.Maps
set_option maxRecDepth 100000 in
theorem rother_any {W : World} {a : Option Addr} {n cap : Nat} {M : List GC} (hM : CellsAt W a n M) (hw : wholeB M = true) (hn : n ≤ 1000) (i : Nat) (hi : i < n) :
    Calls Tryz.prog 181 #[.slice a n cap, .int .i64 i] W fun e w' => e = .returned (.int .i64 (othC M i)) ∧ W = w' := by
  have l1 := hM.len
  have hCi : M[i]? = some (nth GC.zero M i) := by rw [nth_eq _ _ _ (by omega), List.getElem?_eq_getElem (by omega)]
  obtain ⟨b1, o1, rfl, hb1, r1⟩ := hM.at_ i _ hCi
  obtain ⟨x0, x1, x2, x3, x4, x5, x6⟩ := vals_at r1
  have hwa := whole_at hw i (by omega)
  obtain ⟨j, hjj⟩ : ∃ j, j = othC M i := ⟨_, rfl⟩
  have hje : j = (if (nth GC.zero M i).w = 2 then i + 1 else if (nth GC.zero M i).w = 0 then i - 1 else i) := hjj
  rw [← hjj]
  clear hCi r1 hw hM hjj x0 x2 x3 x4 x5 x6
  obtain ⟨cw, hcw⟩ : ∃ cw, cw = (nth GC.zero M i).w := ⟨_, rfl⟩
  rw [← hcw] at x1 hje hwa
  clear hcw
  have key : (cw = 1 ∧ j = i) ∨ (cw = 2 ∧ j = i + 1) ∨ (cw = 0 ∧ j + 1 = i) := by
    rcases hwa with h | ⟨h, _⟩ | ⟨h, h2, _⟩
    · left; subst h; exact ⟨rfl, by rw [hje]; rfl⟩
    · right; left; subst h; exact ⟨rfl, by rw [hje]; rfl⟩
    · right; right; subst h; exact ⟨rfl, by rw [hje, if_neg (by decide), if_pos rfl]; omega⟩
  clear hwa hje l1
  rcases key with ⟨rfl, rfl⟩ | ⟨rfl, rfl⟩ | ⟨rfl, rfl⟩
  all_goals
    go_enter Tryz.func181, Tryz.ntmps181
    go_wp2
    go_ret
    exact ⟨rfl, rfl⟩
theorem infoBool : (Tryz.prog.info? 4).map (fun i => (i.zero, i.size, i.bytes)) = some (some (.bool false), 1, 1) := by kernel_rfl
theorem cells1 (W : World) (x : Value) (t : TypeId) : ∀ (j : Nat) (u : Value), [x][j]? = some u → (W.alloc (.cells #[x] t)).cell? ((⟨W.heap.size, 0, none⟩ : Addr).add j) = some u := fun j u h => by
  rw [Go.WideShapes.add_plain, Nat.zero_add, cell_of_row (W.alloc (.cells #[x] t)) W.heap.size j #[x] t (0, 0) (World.alloc_heap_new W _)]
  simpa using h
theorem bv_get {L : List Bool} {i : Nat} (hi : i < L.length) : (L.map Value.bool)[i]? = some (.bool (nth false L i)) := by
  rw [List.getElem?_map, List.getElem?_eq_getElem hi, nth_eq _ _ _ hi]; rfl
theorem bv_set (L : List Bool) (i : Nat) (x : Bool) : (L.map Value.bool).set i (.bool x) = (L.set i x).map Value.bool := by rw [List.map_set]
theorem dfT_next {A B : List GC} (h : A.length = B.length) {k : Nat} (hk : k < A.length) : ((diffB A B).take (k + 1)).map Value.bool = ((diffB A B).take k).map Value.bool ++ [.bool (!eqC (nth GC.zero A k) (nth GC.zero B k))] := by
  have hl := diffB_length A B h
  rw [List.take_succ_eq_append_getElem (by omega), List.map_append, ← diffB_nth A B k h hk, nth_eq _ _ _ (by omega)]
  rfl
set_option maxRecDepth 100000 in
set_option maxHeartbeats 8000000 in
theorem rchanges_any {W : World} {a1 a2 : Option Addr} {n c1 c2 : Nat} {A B : List GC} (hA : CellsAt W a1 n A) (hB : CellsAt W a2 n B) (hn : n ≤ 1000) (wa : wholeB A = true) (wb : wholeB B = true) :
    Calls Tryz.prog 108 #[.slice a1 n c1, .slice a2 n c2] W fun e w' => ∃ v, e = .returned v ∧ w'.ownsRow W.heap.size 4 1 v n ((chgL A B).map Value.bool) ∧ Below W.heap.size W w' := by
  obtain ⟨i0, hi, hz0, hz1, hz2⟩ := info_parts infoBool
  have la := hA.len
  have lb := hB.len
  have lab : A.length = B.length := by rw [la, lb]
  have HA := Lib.hid hA
  have HB := Lib.hid hB
  have WA := Lib.hid wa
  have WB := Lib.hid wb
  have LA := Lib.hid la
  have LB := Lib.hid lb
  have LAB := Lib.hid lab
  clear hA hB wa wb la lb lab
  go_enter Tryz.func108, Tryz.ntmps108
  go_wp2
  go_loopw [5, 6] (fun v i wr => ∃ k : Nat, k ≤ n ∧ i = .int .i64 k ∧ wr.ownsRow W.heap.size 4 1 v k (((diffB A B).take k).map Value.bool) ∧ Below W.heap.size W wr) (fun _ i _ => n - (intOf i).toNat)
  case atStart => exact ⟨0, Nat.zero_le _, rfl, World.ownsRow_nil _ _ _ _, Below.refl _ _⟩
  case round =>
    obtain ⟨k, hk, rfl, hown, hb⟩ := hrel
    have hs := hb.size
    obtain ⟨av, cv, rfl⟩ := own_sliceF hown
    by_cases hlt : k < n
    · obtain ⟨C, hC⟩ : ∃ C, C = nth GC.zero A k := ⟨_, rfl⟩
      obtain ⟨D, hD⟩ : ∃ D, D = nth GC.zero B k := ⟨_, rfl⟩
      have hCi : A[k]? = some C := by rw [hC, nth_eq _ _ _ (by rw [LA.out]; exact hlt), List.getElem?_eq_getElem (by rw [LA.out]; exact hlt)]
      have hDi : B[k]? = some D := by rw [hD, nth_eq _ _ _ (by rw [LB.out]; exact hlt), List.getElem?_eq_getElem (by rw [LB.out]; exact hlt)]
      have hnext := dfT_next LAB.out (k := k) (by rw [LA.out]; exact hlt)
      rw [← hC, ← hD] at hnext
      have HNX := Lib.hid hnext
      obtain ⟨b1, o1, rfl, hb1, r1⟩ := HA.out.at_ k C hCi
      obtain ⟨b2, o2, rfl, hb2, r2⟩ := HB.out.at_ k D hDi
      have V1 := fun (X : World) (hX : Below W.heap.size W X) => vals_at (W := X) (b := b1) (o := o1 + k * 7) (c := C) (fun j v hv => (hX.cell (p := ⟨b1, _, none⟩) hb1).trans (r1 j v hv))
      have V2 := fun (X : World) (hX : Below W.heap.size W X) => vals_at (W := X) (b := b2) (o := o2 + k * 7) (c := D) (fun j v hv => (hX.cell (p := ⟨b2, _, none⟩) hb2).trans (r2 j v hv))
      have hq' := neq_gc C D
      have dB : Below wr.heap.size wr wr.drew := (Below.refl _ _).drew
      have hbd : Below W.heap.size W wr.drew := bto hb dB hs
      have hnews := cells1 wr.drew (.bool (!eqC C D)) 4
      have hone : ∀ u ∈ [Value.bool (!eqC C D)], u.oneCell' = true := fun u hu => by
        rw [List.mem_singleton.1 hu]; rfl
      have hownd : wr.drew.ownsRow W.heap.size 4 1 (.slice av k cv) k (((diffB A B).take k).map Value.bool) := hown
      have V1 := Lib.hid V1
      have V2 := Lib.hid V2
      clear hnext hC hD hCi hDi r1 r2 hb1 hb2 hown
      go_wp2_with fail
      refine wp_region_mix2 [(true, 0), (true, 1), (true, 2), (true, 3), (true, 4), (true, 5), (true, 6), (true, 7), (true, 8), (true, 9), (false, 10), (false, 11), (true, 12)] (fun X => Below W.heap.size W X) (by kernel_rfl) (by kernel_rfl) (by rfl) (by kernel_rfl) (by kernel_rfl) (fun _ _ d _ _ h => by cases d <;> exact h) hbd ?_
      simp only [mixL, List.getElem?_cons_succ, List.getElem?_cons_zero]
      repeat (refine' wpMix2_read (v := _) rfl ?_ ?_; rotate_left 1; (intro w' hw'; obtain ⟨x0, x1, x2, x3, x4, x5, x6⟩ := V1.out w' hw'; obtain ⟨t0, t1, t2, t3, t4, t5, t6⟩ := V2.out w' hw'; go_simp; try with_reducible rfl); try simp only [Act.put, List.setIfInBounds_toArray, List.set_cons_zero, List.set_cons_succ])
      clear V1 V2
      refine wpMix2_act (fun K hK => ?_)
      go_wp2
      refine hK _ _ (hbd.alloc hbd.size _) ?_
      clear hK K
      refine wpMix2_act (fun K hK => ?_)
      go_wp2_with (at_builtin; refine wpList_append_own_at _ rfl _ _ 175 rfl W.heap.size 4 i0 (.bool false) 1 1 Tryz.underlying175 hi hz0 hz1 hz2 rfl (by decide) _ _ _ rfl (hownd.alloc _) ⟨wr.drew.heap.size, 0, none⟩ 1 1 [.bool (!eqC C D)] rfl rfl hnews hone (by unfold maxLen; omega) (by omega) (by have := hbd.size; simp; omega) ?_; intro v' w1 hown' hgrow _ _)
      have hB1 : Below W.heap.size W w1 := hbd.trans (((Below.refl W.heap.size wr.drew).alloc hbd.size _).grown hgrow (by have := hbd.size; simp; omega) (fun k e => (own_cells hownd k e).1))
      refine hK _ _ hB1 ?_
      clear hK K
      repeat (refine' wpMix2_read (v := _) rfl ?_ ?_; rotate_left 1; (intro w' hw'; go_simp; try with_reducible rfl); try simp only [Act.put, List.setIfInBounds_toArray, List.set_cons_zero, List.set_cons_succ])
      refine wpMix2_nil ?_
      rw [← HNX.out] at hown'
      clear hownd hnews hone hgrow
      go_wp2
      go_roundw
      case rel => exact ⟨k + 1, hlt, by go_num, hown', hB1⟩
      case measure => simp [intOf]; omega
    · obtain rfl : k = n := by omega
      obtain ⟨L0, hL0⟩ : ∃ L, L = diffB A B := ⟨_, rfl⟩
      have hdl : L0.length = k := by rw [hL0, diffB_length A B LAB.out, LA.out]
      have HL0 := Lib.hid hdl
      have HCH : Hid (chgL A B = closeN (othC A) (othC B) L0 k) := Lib.hid (by rw [hL0]; unfold chgL; rw [LA.out])
      rw [← hL0, List.take_of_length_le (by omega)] at hown
      clear hL0 hdl
      go_wp2
      go_loopw [7] (fun mv wr => ∃ m : Nat, m ≤ k ∧ mv = .int .i64 m ∧ wr.ownsRow W.heap.size 4 1 (.slice av k cv) k ((closeN (othC A) (othC B) L0 m).map Value.bool) ∧ Below W.heap.size W wr) (fun mv _ => k - (intOf mv).toNat)
      case atStart => exact ⟨0, Nat.zero_le _, rfl, hown, hb⟩
      case round =>
        clear hown hb hs
        obtain ⟨m, hm, rfl, hown, hb⟩ := hrel
        by_cases hltm : m < k
        · obtain ⟨P, hP⟩ : ∃ P, P = closeN (othC A) (othC B) L0 m := ⟨_, rfl⟩
          have HPL : Hid (P.length = k) := Lib.hid (by rw [hP, closeN_length, HL0.out])
          have HP := Lib.hid hP
          rw [← hP] at hown
          clear hP
          go_wp2
          go_loopw [8] (fun i wx => ∃ j : Nat, j ≤ k ∧ i = .int .i64 j ∧ wx.ownsRow W.heap.size 4 1 (.slice av k cv) k ((passN (othC A) (othC B) P j).map Value.bool) ∧ Below W.heap.size W wx) (fun i _ => k - (intOf i).toNat)
          case atStart => exact ⟨0, Nat.zero_le _, rfl, hown, hb⟩
          case round =>
            clear hown hb
            obtain ⟨j, hj, rfl, hown, hb⟩ := hrel
            have hs := hb.size
            obtain ⟨Q, hQ⟩ : ∃ Q, Q = passN (othC A) (othC B) P j := ⟨_, rfl⟩
            rw [← hQ] at hown
            have hQL : Q.length = k := by rw [hQ, passN_length, HPL.out]
            have HQ := Lib.hid hQ
            clear hQ
            by_cases hlt2 : j < k
            · obtain ⟨gb, c, hv0, hgb, hc1, hc2⟩ := own_neS hown (by omega)
              simp only [Value.slice.injEq, true_and] at hv0
              obtain ⟨rfl, rfl⟩ := hv0
              have oA := othC_lt WA.out j (by rw [LA.out]; exact hlt2)
              have oB := othC_lt WB.out j (by rw [LB.out]; exact hlt2)
              rw [LA.out] at oA
              rw [LB.out] at oB
              obtain ⟨v0, _⟩ := own_get hown (bv_get (i := j) (by omega))
              cases hv : nth false Q j with
              | false =>
                have HN : Hid (passN (othC A) (othC B) P (j + 1) = Q) := Lib.hid (by rw [passN, ← HQ.out, markAt, if_neg (by rw [hv]; decide)])
                rw [hv] at v0
                clear hv oA oB
                go_wp2
                go_roundw
                case rel => exact ⟨j + 1, hlt2, by go_num, by rw [HN.out]; exact hown, hb⟩
                case measure => simp [intOf]; omega
              | true =>
                have HN : Hid (passN (othC A) (othC B) P (j + 1) = (Q.set (othC A j) true).set (othC B j) true) := Lib.hid (by rw [passN, ← HQ.out, markAt, if_pos hv])
                rw [hv] at v0
                have CO1 := Lib.hid (rother_any (cap := c1) (HA.out.below hb) WA.out hn j hlt2)
                obtain ⟨x, hx⟩ : ∃ x, x = othC A j := ⟨_, rfl⟩
                obtain ⟨y, hy⟩ : ∃ y, y = othC B j := ⟨_, rfl⟩
                rw [← hx] at CO1 HN oA
                rw [← hy] at HN oB
                obtain ⟨t0, t1⟩ := own_get hown (bv_get (i := x) (by omega))
                have own2 := own_put hown x (.bool true)
                rw [bv_set] at own2
                have hb2 : Below W.heap.size W (wr.setCell ⟨gb, x, none⟩ (.bool true)) := hb.setCell (p := ⟨gb, x, none⟩) hgb _
                have CO2 := rother_any (cap := c2) (HB.out.below hb2) WB.out hn j hlt2
                rw [← hy] at CO2
                have CO2 := Lib.hid CO2
                obtain ⟨s0, s1⟩ := own_get own2 (bv_get (i := y) (by rw [List.length_set]; omega))
                have own3 := own_put own2 y (.bool true)
                rw [bv_set, ← HN.out] at own3
                have hb3 := hb2.setCell (p := ⟨gb, y, none⟩) hgb (.bool true)
                have OWN := Lib.hid own3
                clear hv hx hy own3 own2 hown
                go_wp2_with fail
                refine (CO1.out).mono ?_
                rintro e w1 ⟨rfl, rfl⟩
                go_wp2_with fail
                refine (CO2.out).mono ?_
                rintro e w2 ⟨rfl, rfl⟩
                go_wp2
                go_roundw
                case rel => exact ⟨j + 1, hlt2, by go_num, OWN.out, hb3⟩
                case measure => simp [intOf]; omega
            · obtain rfl : j = k := by omega
              have HCK : Hid (closeN (othC A) (othC B) L0 (m + 1) = Q) := Lib.hid (by rw [closeN, HL0.out, ← HP.out, HQ.out])
              go_wp2
              go_roundw
              case rel => exact ⟨m + 1, hltm, by go_num, by rw [HCK.out]; exact hown, hb⟩
              case measure => simp [intOf]; omega
        · obtain rfl : m = k := by omega
          have ho2 := hown
          rw [← HCH.out] at ho2
          clear hown
          go_wp2
          go_ret
          exact ⟨_, rfl, ho2, hb⟩
end Go.Proofs.YtekodpcedjpnjaaGreat
namespace Go.Proofs.YtekodpcedjpnjaaGreat
open Go.RowKit Go.Shelf Go.Maps
structure BoolsAt (W : World) (a : Option Addr) (n : Nat) (L : List Bool) : Prop where
  len : L.length = n
  at_ : ∀ i, i < n → ∃ b off, a = some ⟨b, off, none⟩ ∧ b < W.heap.size ∧ W.cell? ⟨b, off + i, none⟩ = some (.bool (nth false L i))
theorem BoolsAt.below {W X : World} {a : Option Addr} {n : Nat} {L : List Bool} (h : BoolsAt W a n L) (hb : Below W.heap.size W X) : BoolsAt X a n L :=
  ⟨h.len, fun i hi => by
    obtain ⟨b, off, h1, h2, h3⟩ := h.at_ i hi
    exact ⟨b, off, h1, Nat.lt_of_lt_of_le h2 hb.size, (hb.cell (p := ⟨b, _, none⟩) h2).trans h3⟩⟩
theorem BoolsAt.of_own {W : World} {n₀ n c : Nat} {a : Option Addr} {L : List Bool} (hl : L.length = n) (h : W.ownsRow n₀ 4 1 (.slice a n c) n (L.map Value.bool)) : BoolsAt W a n L :=
  ⟨hl, fun i hi => by
    obtain ⟨gb, c, hv0, hgb, hc1, hc2⟩ := own_neS h (by omega)
    simp only [Value.slice.injEq, true_and] at hv0
    obtain ⟨rfl, rfl⟩ := hv0
    exact ⟨gb, 0, rfl, (own_block h).2, by rw [Nat.zero_add]; exact (own_get h (bv_get (i := i) (by omega))).1⟩⟩
theorem infoSpanR : (Tryz.prog.info? 172).map (fun i => (i.zero, i.size, i.bytes)) = some (some (.agg #[.int .i64 0, .int .i64 0, .int .i64 0]), 3, 24) := by kernel_rfl
set_option maxRecDepth 100000 in
set_option maxHeartbeats 8000000 in
theorem rspans_any {W : World} {a1 : Option Addr} {n c1 : Nat} {on : List Bool} (hL : BoolsAt W a1 n on) (hn : n ≤ 1000) (r : Nat) :
    Calls Tryz.prog 107 #[.int .i64 r, .slice a1 n c1] W fun e w' => ∃ v, e = .returned v ∧ w'.ownsRow W.heap.size 172 3 v (rowSp r on).length (spV (rowSp r on)) ∧ Below W.heap.size W w' := by
  obtain ⟨i0, hi0, hz0, hz1, hz2⟩ := info_parts infoSpanR
  have HOL := Lib.hid hL.len
  have HL := Lib.hid hL
  clear hL
  have hcnt := spansF_count on 0 none
  have hcnt : (spansF 0 none on).length ≤ n := by rw [HOL.out] at hcnt; simpa using hcnt
  go_enter Tryz.func107, Tryz.ntmps107
  go_wp2
  go_loopw [5, 6] (fun v i wr => ∃ (k : Nat) (L : List (Nat × Nat)), k ≤ n + 1 ∧ i = .int .i64 k ∧ wr.ownsRow W.heap.size 172 3 v L.length (spV (atSp r L)) ∧ Hid (L ++ spansF k none (on.drop k) = spansF 0 none on) ∧ Below W.heap.size W wr) (fun _ i _ => n + 1 - (intOf i).toNat)
  case atStart => exact ⟨0, [], Nat.zero_le _, rfl, World.ownsRow_nil _ _ _ _, Lib.hid rfl, Below.refl _ _⟩
  case round =>
    obtain ⟨k, L, hk, rfl, hown, HI, hb⟩ := hrel
    have hs := hb.size
    obtain ⟨av, cv, rfl⟩ := own_sliceF hown
    have hLn : L.length ≤ n := by
      have := congrArg List.length HI.out
      rw [List.length_append] at this
      omega
    by_cases hlt : k < n
    · obtain ⟨b, off, rfl, hbl, hc0⟩ := HL.out.at_ k hlt
      have hlti : (k : Int) < (n : Int) := by omega
      cases hv : nth false on k with
      | false =>
        have v0 := (hb.cell (p := ⟨b, _, none⟩) hbl).trans hc0
        rw [hv] at v0
        have HN : Hid (L ++ spansF (k + 1) none (on.drop (k + 1)) = spansF 0 none on) := Lib.hid (by rw [← HI.out, spansF_off on k (by rw [HOL.out]; exact hlt) hv])
        clear hv HI hc0
        go_wp2
        go_roundw
        case rel => exact ⟨k + 1, L, by omega, by go_num, hown, HN, hb⟩
        case measure => simp [intOf]; omega
      | true =>
        have v0 := (hb.cell (p := ⟨b, _, none⟩) hbl).trans hc0
        rw [hv] at v0
        have HV := Lib.hid hv
        clear hv
        go_wp2
        go_loopw [7] (fun j wx => ∃ m : Nat, k ≤ m ∧ m ≤ n ∧ j = .int .i64 m ∧ Hid (∀ x, k ≤ x → x < m → nth false on x = true) ∧ wr = wx) (fun j _ => n - (intOf j).toNat)
        case atStart => exact ⟨k, Nat.le_refl _, by omega, rfl, Lib.hid (fun x h1 h2 => absurd h2 (by omega)), rfl⟩
        case round =>
          clear v0
          obtain ⟨m, hkm, hmn, rfl, HT, rfl⟩ := hrel
          by_cases hgo : m < n ∧ nth false on m = true
          · obtain ⟨hm, hvm⟩ := hgo
            obtain ⟨b', off', e', _, hc1⟩ := HL.out.at_ m hm
            simp only [Option.some.injEq, Addr.mk.injEq, and_true] at e'
            obtain ⟨rfl, rfl⟩ := e'
            have v0 := (hb.cell (p := ⟨b, _, none⟩) hbl).trans hc1
            rw [hvm] at v0
            have HT2 : Hid (∀ x, k ≤ x → x < m + 1 → nth false on x = true) := Lib.hid (fun x h1 h2 => by
              by_cases h : x < m
              · exact HT.out x h1 h
              · obtain rfl : x = m := by omega
                exact hvm)
            have hmi : (m : Int) < (n : Int) := by omega
            clear hc1 hvm
            go_wp2
            go_roundw
            case rel => exact ⟨m + 1, by omega, hm, by go_num, HT2, trivial⟩
            case measure => simp [intOf]; omega
          · have hkm2 : k < m := by
              refine Classical.byContradiction fun h => ?_
              obtain rfl : m = k := by omega
              exact hgo ⟨hlt, HV.out⟩
            have hend : m = on.length ∨ nth false on m = false := by
              rw [HOL.out]
              by_cases hm : m < n
              · right
                cases hh : nth false on m with
                | false => rfl
                | true => exact absurd ⟨hm, hh⟩ hgo
              · left; omega
            have hrun := spansF_run on k m hkm2 (by rw [HOL.out]; exact hmn) HT.out hend
            have HN : Hid ((L ++ [(k, m)]) ++ spansF (m + 1) none (on.drop (m + 1)) = spansF 0 none on) := Lib.hid (by rw [← HI.out, hrun, List.append_assoc]; rfl)
            have hne : Hid (spV (atSp r (L ++ [(k, m)])) = spV (atSp r L) ++ [.int .i64 (r : Nat), .int .i64 (k : Nat), .int .i64 (m : Nat)]) := Lib.hid (by rw [atSp_app, spV_app]; rfl)
            have hll : Hid ((L ++ [(k, m)]).length = L.length + 1) := Lib.hid (by simp)
            have hnews := cells3 wr (.int .i64 (r : Nat)) (.int .i64 (k : Nat)) (.int .i64 (m : Nat)) 172
            have hone : ∀ u ∈ [Value.int .i64 (r : Nat), .int .i64 (k : Nat), .int .i64 (m : Nat)], u.oneCell' = true := fun u hu => by
              simp only [List.mem_cons, List.not_mem_nil, or_false] at hu
              rcases hu with rfl | rfl | rfl <;> rfl
            clear hrun hend HI HT hc0
            by_cases hm : m < n
            · obtain ⟨b', off', e', _, hc1⟩ := HL.out.at_ m hm
              simp only [Option.some.injEq, Addr.mk.injEq, and_true] at e'
              obtain ⟨rfl, rfl⟩ := e'
              have v0 := (hb.cell (p := ⟨b, _, none⟩) hbl).trans hc1
              have hvm : nth false on m = false := by
                cases hh : nth false on m with
                | false => rfl
                | true => exact absurd ⟨hm, hh⟩ hgo
              rw [hvm] at v0
              have hmi : (m : Int) < (n : Int) := by omega
              clear hc1 hvm hgo
              go_wp2_with (at_builtin; refine wpList_append_own_at _ rfl _ _ 75 rfl W.heap.size 172 i0 (.agg #[.int .i64 0, .int .i64 0, .int .i64 0]) 3 24 Tryz.underlying75 hi0 hz0 hz1 hz2 rfl (by decide) _ _ _ rfl (hown.alloc _) ⟨wr.heap.size, 0, none⟩ 1 1 [.int .i64 (r : Nat), .int .i64 (k : Nat), .int .i64 (m : Nat)] rfl rfl hnews hone (by unfold maxLen; omega) (by omega) (by simp; omega) ?_; intro v' w2 hown' hgrow _ _)
              have hB1 : Below W.heap.size wr w2 := ((Below.refl W.heap.size wr).alloc (by omega) _).grown hgrow (by simp; omega) (fun k e => (own_cells hown k e).1)
              go_roundw
              case rel => exact ⟨m + 1, L ++ [(k, m)], by omega, by go_num, by rw [hll.out, hne.out]; exact hown', HN, hb.trans hB1⟩
              case measure => simp [intOf]; omega
            · obtain rfl : m = n := by omega
              clear hgo
              go_wp2_with (at_builtin; refine wpList_append_own_at _ rfl _ _ 75 rfl W.heap.size 172 i0 (.agg #[.int .i64 0, .int .i64 0, .int .i64 0]) 3 24 Tryz.underlying75 hi0 hz0 hz1 hz2 rfl (by decide) _ _ _ rfl (hown.alloc _) ⟨wr.heap.size, 0, none⟩ 1 1 [.int .i64 (r : Nat), .int .i64 (k : Nat), .int .i64 (m : Nat)] rfl rfl hnews hone (by unfold maxLen; omega) (by omega) (by simp; omega) ?_; intro v' w2 hown' hgrow _ _)
              have hB1 : Below W.heap.size wr w2 := ((Below.refl W.heap.size wr).alloc (by omega) _).grown hgrow (by simp; omega) (fun k e => (own_cells hown k e).1)
              go_roundw
              case rel => exact ⟨m + 1, L ++ [(k, m)], by omega, by go_num, by rw [hll.out, hne.out]; exact hown', HN, hb.trans hB1⟩
              case measure => simp [intOf]; omega
    · have hfin : Hid (atSp r L = rowSp r on) := Lib.hid (by
        have := HI.out
        rw [spansF_past on k (by rw [HOL.out]; omega), List.append_nil] at this
        rw [this]; rfl)
      have hlen : Hid (L.length = (rowSp r on).length) := Lib.hid (by rw [← hfin.out]; unfold atSp; rw [List.length_map])
      have ho2 := hown
      rw [hfin.out, hlen.out] at ho2
      have HO2 := Lib.hid ho2
      have HLE : Hid (Value.slice av L.length cv = .slice av (rowSp r on).length cv) := Lib.hid (by rw [hlen.out])
      have hki : ¬ (k : Int) < (n : Int) := by omega
      clear ho2 hown HI
      go_wp2
      go_ret
      exact ⟨_, congrArg Ending.returned HLE.out, HO2.out, hb⟩
end Go.Proofs.YtekodpcedjpnjaaGreat
