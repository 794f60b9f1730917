/- The reference's clusters: the contracts of control, Mark and Cut. The reference's clusters: the contracts of Clean, Flat, Width, Columns, Is, Join, SameAll. The reference's clusters: the contracts of Is, Join, Fit, SameAll; the law's cut. -/
import Derived.Laws.OwnMore
import Derived.Test.YtekodpcedjpnjaaGreatRC13
import Derived.Test.YtekodpcedjpnjaaGreatRC16
set_option linter.unusedVariables false
set_option linter.unusedSimpArgs false
namespace Go.Proofs.YtekodpcedjpnjaaGreat
open Go.RowKit Go.Shelf Go.Maps
set_option maxRecDepth 100000 in
theorem refCtrl3_any (r : Int) (w : World) : Calls Tryz.prog 211 #[.int .i32 r] w fun e w' => e = .returned (.bool (ctrlB r)) ∧ w = w' := by
  obtain ⟨z, hz⟩ : ∃ z, z = ctrlB r := ⟨_, rfl⟩
  rw [← hz]
  have HZ := Lib.hid hz
  clear hz
  go_enter Tryz.func211, Tryz.ntmps211
  go_wp2
  all_goals go_ret
  all_goals refine ⟨ret_bool ?_, rfl⟩
  all_goals rw [HZ.out]
  all_goals unfold ctrlB
  all_goals first | exact (decide_eq_true (by omega)).symm | exact (decide_eq_false (by omega)).symm | (rw [Bool.eq_iff_iff]; simp only [decide_eq_true_eq, Bool.or_eq_true, Bool.and_eq_true]; omega)
set_option maxRecDepth 100000 in
theorem refMark3_any (r : Int) (w : World) : Calls Tryz.prog 161 #[.int .i32 r] w fun e w' => e = .returned (.bool (joinB r)) ∧ Below w.heap.size w w' := by
  have C := Lib.hid (fun W => refOf_any r W)
  have CI := Lib.hid (fun W => refIs1_any r W)
  have CC := Lib.hid (fun W => refCtrl3_any r W)
  obtain ⟨z, hz⟩ : ∃ z, z = joinB r := ⟨_, rfl⟩
  rw [← hz]
  unfold joinB at hz
  obtain ⟨q, hq⟩ : ∃ q, q = colsB r := ⟨_, rfl⟩
  obtain ⟨y, hy⟩ : ∃ y, y = isR r := ⟨_, rfl⟩
  obtain ⟨x, hx⟩ : ∃ x, x = ctrlB r := ⟨_, rfl⟩
  rw [← hq] at C hz
  rw [← hy] at CI hz
  rw [← hx] at CC hz
  have HZ := Lib.hid hz
  clear hz hq hy hx
  by_cases h0 : q = 0
  · subst h0
    cases y <;> cases x
    all_goals
      go_enter Tryz.func161, Tryz.ntmps161
      go_wp2_with (first
        | (go_at_call 160; refine (C.out _).mono ?_; rintro e w1 ⟨rfl, hb1⟩)
        | (go_at_call 205; refine (CI.out _).mono ?_; rintro e w2 ⟨rfl, rfl⟩)
        | (go_at_call 211; refine (CC.out _).mono ?_; rintro e w3 ⟨rfl, rfl⟩))
      go_ret
      exact ⟨by rw [HZ.out]; rfl, hb1⟩
  · have hne : (q == 0) = false := by simpa using h0
    have HD := Lib.hid (decide_eq_false h0)
    clear h0
    go_enter Tryz.func161, Tryz.ntmps161
    go_wp2_with (go_at_call 160; refine (C.out _).mono ?_; rintro e w1 ⟨rfl, hb1⟩)
    go_ret
    exact ⟨by rw [HZ.out, HD.out]; rfl, hb1⟩
theorem cutG_take (rs : List Nat) (k : Nat) (h : k < rs.length) : cutG (rs.take (k + 1)) = stepG (cutG (rs.take k)) (nth 0 rs k) := by
  rw [List.take_succ_eq_append_getElem h, cutG_snoc, nth_eq _ _ _ h]
theorem runV_nth (rs : List Nat) (j : Nat) (h : j < rs.length) : nth undef (runV rs) j = .int .i32 ((nth 0 rs j : Nat) : Int) := nth_map (fun (r : Nat) => Value.int .i32 (r : Int)) 0 _ _ h
set_option maxRecDepth 100000 in
set_option maxHeartbeats 8000000 in
theorem refCut_any (l : List UInt8) (hl : l.length ≤ 1100000) (w : World) : Calls Tryz.prog 93 #[.string (S l)] w (StrsPost (cutL l) w) := by
  obtain ⟨i0, hi, hz0, hz1, hz2⟩ := info_parts infoStrc
  obtain ⟨cap, W1, hrun, hb1, hs1, hB, hcap, _⟩ := bytes_conv w l
  have CR := Lib.hid (fun (W : World) (h : W = W1) => h ▸ refRunes_any l w.heap.size cap W1 hl hcap hB)
  have HCUT := Lib.hid (show cutL l = (cutG (runesL l)).map encL from rfl)
  have hrl : (runesL l).length ≤ 1100000 := Nat.le_trans (runesL_len l) hl
  have hall := runesL_isR l
  obtain ⟨rs, hrs⟩ : ∃ rs, rs = runesL l := ⟨_, rfl⟩
  rw [← hrs] at CR HCUT hrl hall
  have HALL := Lib.hid hall
  clear hrs hall hB
  go_enter Tryz.func93, Tryz.ntmps93
  go_wp2_with (go_at_call 158; refine (CR.out _ rfl).mono ?_; rintro e w2 ⟨a, n, c, a2, n2, c2, hn, hnc, rfl, hrow, hb2⟩; have HN := Lib.hid hn; clear hn)
  have hB2 : Below w.heap.size w w2 := bto hb1 hb2 hb1.size
  rw [← HN.out] at hrl
  clear hrun hb1 hb2
  have hz2s := hB2.size
  go_loopw [6, 3] (fun i v wr => ∃ k : Nat, k ≤ n ∧ i = .int .i64 (k : Int) ∧ wr.ownsRow w2.heap.size 9 1 v (cutG (rs.take k)).length (strV ((cutG (rs.take k)).map encL)) ∧ Below w2.heap.size w2 wr)
    (fun i _ _ => n - (intOf i).toNat)
  case atStart => exact ⟨0, Nat.zero_le _, rfl, World.ownsRow_nil _ _ _ _, Below.refl _ _⟩
  case round =>
    obtain ⟨k, hk, rfl, ho, hbr⟩ := hrel
    have hbs := hbr.size
    by_cases hlt : k < n
    · have hkr : k < rs.length := by rw [← HN.out]; exact hlt
      obtain ⟨b0, off0, rfl, hb0, hck⟩ := hrow k (by rw [runV_len]; exact hkr)
      rw [runV_nth rs k hkr] at hck
      obtain ⟨r, hr⟩ : ∃ r, r = nth 0 rs k := ⟨_, rfl⟩
      rw [← hr] at hck
      have hiR : isR r = true := by rw [hr, nth_eq _ _ _ hkr]; exact HALL.out _ (List.getElem_mem hkr)
      obtain ⟨G, hG⟩ : ∃ G, G = cutG (rs.take k) := ⟨_, rfl⟩
      have HST := Lib.hid (show cutG (rs.take (k + 1)) = stepG G r by rw [hG, hr]; exact cutG_take rs k hkr)
      have hCl : ∀ c ∈ G, Cl c := by rw [hG]; exact cutG_clus _ (fun x hx => HALL.out x (List.mem_of_mem_take hx))
      have hGl : G.length ≤ 1100000 := by
        rw [hG]; refine Nat.le_trans (cutG_len _) ?_
        rw [List.length_take]; omega
      rw [← hG] at ho
      have HC := Lib.hid (fun X (h : Below w2.heap.size w2 X) => (h.cell (p := ⟨b0, off0 + k, none⟩) hb0).trans hck)
      have hbR : bytesR r = bytesN r := by unfold bytesR runeN; rw [if_pos hiR]; simp
      have hbl := bytesN_len r
      obtain ⟨Bs, hBs⟩ : ∃ Bs, Bs = bytesN r := ⟨_, rfl⟩
      have CB := Lib.hid (fun W => refBytes_any (r : Int) W)
      rw [hbR, ← hBs] at CB
      have CV := Lib.hid (fun W => conv_newB W Bs)
      have CO := Lib.hid (fun W => refOf_any (r : Int) W)
      have CM := Lib.hid (fun W => refMark3_any (r : Int) W)
      obtain ⟨q, hq⟩ : ∃ q, q = colsB (r : Int) := ⟨_, rfl⟩
      rw [← hq] at CO
      rw [← hBs] at hbl
      have hckr := HC.out wr hbr
      have HR1 := Lib.hid hr
      have HO := Lib.hid ho
      clear hck hr hkr hbR hG
      by_cases hc : 0 < q
      · have hst := stepG_base G r (by rw [← hq]; exact hc)
        have HF := Lib.hid (show (stepG G r).map encL = G.map encL ++ [Bs] by rw [hst, hBs]; simp [encL_one])
        have HFL := Lib.hid (show (stepG G r).length = G.length + 1 by rw [hst]; simp)
        obtain ⟨a1, c1, rfl⟩ := own_slice ho
        clear hst hq hCl hBs ho hiR
        go_wp2_with (first
          | (go_at_call 159; refine (CB.out _).mono ?_; rintro e w3 ⟨nb, hnb, rfl, hw3⟩; have hcv := CV.out wr; have bw3 : Below wr.heap.size wr w3 := hw3 ▸ (Below.refl _ wr).alloc (Nat.le_refl _) _; rw [hw3] at hcv; have hbr3 := bto hbr bw3 hbs; have hck3 := HC.out w3 hbr3)
          | (go_at_call 160; refine (CO.out _).mono ?_; rintro e w4 ⟨rfl, hb4⟩; have hbr4 := bto hbr3 hb4 hbr3.size; have ho4 := own_below (own_below HO.out bw3) hb4; have hb4s := hbr4.size)
          | (at_builtin; refine wpList_append_own _ rfl (.tmp 37) (.tmp 39) 112 rfl w2.heap.size 9 i0 (.string ⟨#[]⟩) 1 16 Tryz.underlying112 hi hz0 hz1 hz2 rfl (by decide) (.slice a1 G.length c1) G.length (strV (G.map encL)) rfl (ho4.alloc _) ⟨w4.heap.size, 0, none⟩ 1 1 [.string (S Bs)] rfl rfl (int_one w4 _ _) (by intro u hu; rw [List.mem_singleton.1 hu]; rfl) (by unfold maxLen; omega) (by omega) (by simp; omega) ?_; intro v5 w5 ho5 hg5 _; obtain ⟨g5, c5, rfl⟩ := own_ne ho5 (by omega); have hb5 : Below w2.heap.size w4 w5 := ((Below.refl _ _).alloc (by omega) _).grown hg5 (by simp; omega) (fun k e => (own_row ho4 k e).1)))
        go_roundw
        case rel => exact ⟨k + 1, by omega, by go_num, by rw [HST.out, HF.out, HFL.out, strV_snoc]; exact ho5, hbr4.trans hb5⟩
        case measure => simp [intOf]; omega
      · have hcq : q ≤ 0 := by omega
        cases hj : joinB (r : Int) with
        | false =>
          have hst := stepG_no G r (by rw [← hq]; exact hc) hj
          rw [hst] at HST
          rw [hj] at CM
          obtain ⟨a1, c1, rfl⟩ := own_slice ho
          clear hst hq hCl hBs ho hiR hj
          go_wp2_with (first
            | (go_at_call 159; refine (CB.out _).mono ?_; rintro e w3 ⟨nb, hnb, rfl, hw3⟩; have hcv := CV.out wr; have bw3 : Below wr.heap.size wr w3 := hw3 ▸ (Below.refl _ wr).alloc (Nat.le_refl _) _; rw [hw3] at hcv; have hbr3 := bto hbr bw3 hbs; have hck3 := HC.out w3 hbr3)
            | (go_at_call 160; refine (CO.out _).mono ?_; rintro e w4 ⟨rfl, hb4⟩; have hbr4 := bto hbr3 hb4 hbr3.size; have ho4 := own_below (own_below HO.out bw3) hb4; have hck4 := HC.out w4 hbr4)
            | (go_at_call 161; refine (CM.out _).mono ?_; rintro e w5 ⟨rfl, hb5⟩; have hbr5 := bto hbr4 hb5 hbr4.size; have ho5 := own_below ho4 hb5))
          go_roundw
          case rel => exact ⟨k + 1, by omega, by go_num, by rw [HST.out]; exact ho5, hbr5⟩
          case measure => simp [intOf]; omega
        | true =>
          rw [hj] at CM
          rcases List.eq_nil_or_concat G with rfl | ⟨O, C, rfl⟩
          · have hst := stepG_nil r (by rw [← hq]; exact hc)
            rw [hst] at HST
            obtain ⟨a1, c1, rfl⟩ := own_slice ho
            clear hst hq hCl hBs ho hiR hj
            go_wp2_with (first
              | (go_at_call 159; refine (CB.out _).mono ?_; rintro e w3 ⟨nb, hnb, rfl, hw3⟩; have hcv := CV.out wr; have bw3 : Below wr.heap.size wr w3 := hw3 ▸ (Below.refl _ wr).alloc (Nat.le_refl _) _; rw [hw3] at hcv; have hbr3 := bto hbr bw3 hbs; have hck3 := HC.out w3 hbr3)
              | (go_at_call 160; refine (CO.out _).mono ?_; rintro e w4 ⟨rfl, hb4⟩; have hbr4 := bto hbr3 hb4 hbr3.size; have ho4 := own_below (own_below HO.out bw3) hb4; have hck4 := HC.out w4 hbr4)
              | (go_at_call 161; refine (CM.out _).mono ?_; rintro e w5 ⟨rfl, hb5⟩; have hbr5 := bto hbr4 hb5 hbr4.size; have ho5 := own_below ho4 hb5))
            go_roundw
            case rel => exact ⟨k + 1, by omega, by go_num, by rw [HST.out]; exact ho5, hbr5⟩
            case measure => simp [intOf]; omega
          · rw [List.concat_eq_append] at HST hCl hGl HO
            have hCC := (hCl C (by simp)).len
            obtain ⟨E, hE⟩ : ∃ E, E = encL C := ⟨_, rfl⟩
            obtain ⟨P, hP⟩ : ∃ P, P = O.map encL := ⟨_, rfl⟩
            obtain ⟨p, hp⟩ : ∃ p, p = O.length := ⟨_, rfl⟩
            rw [← hE] at hCC
            have hpl : P.length = p := by rw [hP, hp]; simp
            have ho2 : wr.ownsRow w2.heap.size 9 1 u3 (p + 1) (strV (P ++ [E])) := by
              have := HO.out
              rw [List.length_append, List.map_append, List.map_cons, List.map_nil, ← hE, ← hP, ← hp] at this
              exact this
            obtain ⟨g1, c1, rfl⟩ := own_ne ho2 (by omega)
            have hple : p ≤ 1100000 := by simp at hGl; omega
            have HO2 := Lib.hid ho2
            have hpc : ∀ X : World, X.ownsRow w2.heap.size 9 1 (.slice (some ⟨g1, 0, none⟩) (p + 1) c1) (p + 1) (strV (P ++ [E])) → X.cell? ⟨g1, p, none⟩ = some (.string (S E)) := fun X h => by
              obtain ⟨hrw, _⟩ := own_row_at' h
              obtain ⟨b', o', e, _, hx⟩ := hrw p (by rw [strV_len]; simp; omega)
              simp only [Option.some.injEq, Addr.mk.injEq] at e
              obtain ⟨rfl, rfl, _⟩ := e
              rw [Nat.zero_add] at hx
              rw [hx, strV_nth _ _ (by simp; omega), nth_eq _ _ _ (by simp; omega)]
              simp [← hpl]
            have HPC := Lib.hid hpc
            have hfz : ∀ X : World, X.ownsRow w2.heap.size 9 1 (.slice (some ⟨g1, 0, none⟩) (p + 1) c1) (p + 1) (strV (P ++ [E])) → X.frozen? ⟨g1, p, none⟩ = false := fun X h => by
              obtain ⟨_, cur, hx⟩ := own_cells h g1 rfl
              unfold World.frozen?
              dsimp only
              rw [hx]; simp
            have HFZ := Lib.hid hfz
            have hsE := S_size E
            have hsB := S_size Bs
            have hem : (p : Int) + 1 - 1 = (p : Int) := by omega
            have HJ := Lib.hid hj
            clear ho hiR hj hpc hfz ho2
            by_cases hfit : E.length + Bs.length ≤ 64
            · have hst := stepG_join O C r (by rw [← hq]; exact hc) HJ.out (by rw [← hE, ← hBs]; exact hfit)
              have HF := Lib.hid (show (stepG (O ++ [C]) r).map encL = P ++ [E ++ Bs] by rw [hst, hP, hE, hBs]; simp [encL_append, encL_one])
              have HFL := Lib.hid (show (stepG (O ++ [C]) r).length = p + 1 by rw [hst, hp]; simp)
              have hEB : S E ++ S Bs = S (E ++ Bs) := S_append _ _
              have hfi : (E.length : Int) + (Bs.length : Int) ≤ 64 := by omega
              clear hst hq hCl hBs hE hP hp hGl
              go_wp2_with (first
                | (go_at_call 159; refine (CB.out _).mono ?_; rintro e w3 ⟨nb, hnb, rfl, hw3⟩; have hcv := CV.out wr; have bw3 : Below wr.heap.size wr w3 := hw3 ▸ (Below.refl _ wr).alloc (Nat.le_refl _) _; rw [hw3] at hcv; have hbr3 := bto hbr bw3 hbs; have hck3 := HC.out w3 hbr3)
                | (go_at_call 160; refine (CO.out _).mono ?_; rintro e w4 ⟨rfl, hb4⟩; have hbr4 := bto hbr3 hb4 hbr3.size; have ho4 := own_below (own_below HO2.out bw3) hb4; have hck4 := HC.out w4 hbr4)
                | (go_at_call 161; refine (CM.out _).mono ?_; rintro e w5 ⟨rfl, hb5⟩; have hbr5 := bto hbr4 hb5 hbr4.size; have ho5 := own_below ho4 hb5; have hp5 := HPC.out w5 ho5; have hf5 := HFZ.out w5 ho5))
              have hst5 := (ho5.stored p (.string (S (E ++ Bs)))).1
              have hset : (strV (P ++ [E])).set p (.string (S (E ++ Bs))) = strV (P ++ [E ++ Bs]) := by
                rw [strV_snoc, strV_snoc, List.set_append_right _ _ (by rw [strV_len, hpl]; exact Nat.le_refl _), strV_len, hpl]
                simp
              rw [hset] at hst5
              go_roundw
              case rel => exact ⟨k + 1, by omega, by go_num, by rw [HST.out, HF.out, HFL.out]; exact hst5, hbr5.setCell (p := ⟨g1, p, none⟩) (own_lt ho5) _⟩
              case measure => simp [intOf]; omega
            · have hst := stepG_full O C r (by rw [← hq]; exact hc) (by rw [← hE, ← hBs]; omega)
              have HF := Lib.hid (show (stepG (O ++ [C]) r).map encL = P ++ [E] by rw [hst, hP, hE]; simp)
              have HFL := Lib.hid (show (stepG (O ++ [C]) r).length = p + 1 by rw [hst, hp]; simp)
              have hfi : 64 < (E.length : Int) + (Bs.length : Int) := by omega
              clear hst hq hCl hBs hE hP hp hGl hfit
              go_wp2_with (first
                | (go_at_call 159; refine (CB.out _).mono ?_; rintro e w3 ⟨nb, hnb, rfl, hw3⟩; have hcv := CV.out wr; have bw3 : Below wr.heap.size wr w3 := hw3 ▸ (Below.refl _ wr).alloc (Nat.le_refl _) _; rw [hw3] at hcv; have hbr3 := bto hbr bw3 hbs; have hck3 := HC.out w3 hbr3)
                | (go_at_call 160; refine (CO.out _).mono ?_; rintro e w4 ⟨rfl, hb4⟩; have hbr4 := bto hbr3 hb4 hbr3.size; have ho4 := own_below (own_below HO2.out bw3) hb4; have hck4 := HC.out w4 hbr4)
                | (go_at_call 161; refine (CM.out _).mono ?_; rintro e w5 ⟨rfl, hb5⟩; have hbr5 := bto hbr4 hb5 hbr4.size; have ho5 := own_below ho4 hb5; have hp5 := HPC.out w5 ho5; have hf5 := HFZ.out w5 ho5))
              go_roundw
              case rel => exact ⟨k + 1, by omega, by go_num, by rw [HST.out, HF.out, HFL.out]; exact ho5, hbr5⟩
              case measure => simp [intOf]; omega
    · obtain rfl : k = n := by omega
      have hfin : (cutG (rs.take k)).map encL = cutL l := by rw [HCUT.out, HN.out, List.take_length]
      have hlen : (cutG (rs.take k)).length = (cutL l).length := by rw [← hfin]; simp
      rw [hfin, hlen] at ho
      obtain ⟨a1, c1, rfl⟩ := own_slice ho
      obtain ⟨hr1, hnc1, hcm1⟩ := own_row_at ho
      have hsh := own_shape ho
      have HOO := Lib.hid ho
      clear hfin hlen ho
      go_wp2
      go_ret
      refine ⟨a1, (cutL l).length, c1, rfl, hnc1, hcm1, rfl, hr1, hB2.trans (hbr.mono hz2s), ?_⟩
      rcases hsh with ⟨_, h0⟩ | ⟨g, c', e, _, hg, _⟩
      · exact ⟨w.heap.size, Nat.le_refl _, fun h => by omega⟩
      · have hcur := (own_cells HOO.out g (by rw [e]; rfl)).2
        simp only [Value.slice.injEq] at e
        exact ⟨g, by omega, fun _ => ⟨e.1, hcur⟩⟩
end Go.Proofs.YtekodpcedjpnjaaGreat
namespace Go.Proofs.YtekodpcedjpnjaaGreat
open Go.RowKit Go.Shelf Go.Maps
theorem clu_runes {c : List UInt8} (h : Clu c) : ∃ r t, runesL c = r :: t := by
  obtain ⟨g, hg, rfl⟩ := h
  obtain ⟨r, t, e, _⟩ := hg.base
  exact ⟨r, t, by rw [runes_enc0 _ hg.rune, e]⟩
theorem take_len64 (l : List UInt8) (k : Nat) : ((cutL l).take k).flatten.length ≤ 64 * l.length := by
  refine Nat.le_trans (flat_len _ 64 (fun c hc => (clu_mem (List.mem_of_mem_take hc)).len.2)) ?_
  have h1 := cutL_len l
  have : ((cutL l).take k).length ≤ l.length := by rw [List.length_take]; omega
  exact Nat.mul_le_mul (Nat.le_refl _) this
theorem take_flat' (L : List (List UInt8)) (k : Nat) (h : k < L.length) : (L.take (k + 1)).flatten = (L.take k).flatten ++ nth [] L k := by
  rw [List.take_succ_eq_append_getElem h, List.flatten_append, nth_eq _ _ _ h]; simp
theorem strs_at {B : Nat} {w : World} {a : Option Addr} {L : List (List UInt8)} (h : RowAt B w a (strV L)) (k : Nat) (hk : k < L.length) : ∃ b off, a = some ⟨b, off, none⟩ ∧ b < B ∧ w.cell? ⟨b, off + k, none⟩ = some (.string (S (nth [] L k))) := by
  obtain ⟨b, off, e, hb, hc⟩ := h k (by rw [strV_len]; exact hk)
  exact ⟨b, off, e, hb, by rw [hc, strV_nth _ _ hk]⟩
set_option maxRecDepth 100000 in
set_option maxHeartbeats 2000000 in
theorem refClean_any (l : List UInt8) (hl : l.length ≤ 1100000) (w : World) : Calls Tryz.prog 162 #[.string (S l)] w fun e w' => e = .returned (.string (S (cleanL l))) ∧ Below w.heap.size w w' := by
  have CC := Lib.hid (fun W => refCut_any l hl W)
  have HT := Lib.hid (take_len64 l)
  have HF := Lib.hid (take_flat' (cutL l))
  have HC := Lib.hid (fun k h => (@nth_clu l k h).len)
  obtain ⟨L, hL⟩ : ∃ L, L = cutL l := ⟨_, rfl⟩
  have HE := Lib.hid (show cleanL l = (L.take L.length).flatten by rw [List.take_length, hL]; rfl)
  have hLl : L.length ≤ 1100000 := by rw [hL]; exact Nat.le_trans (cutL_len l) hl
  rw [← hL] at CC HT HF HC
  clear hL
  go_enter Tryz.func162, Tryz.ntmps162
  go_wp2_with (go_at_call 93; refine (CC.out _).mono ?_; rintro e w1 ⟨a, n, c, hn, hnc, hcm, rfl, hrow, hb1, _⟩; have HN := Lib.hid hn; clear hn)
  have hnl : n ≤ 1100000 := by rw [HN.out]; exact hLl
  go_loop [5, 3] (fun i s => ∃ k : Nat, k ≤ n ∧ i = .int .i64 (k : Int) ∧ s = .string (S (L.take k).flatten)) (fun i _ => n - (intOf i).toNat)
  case atStart => exact ⟨0, Nat.zero_le _, rfl, rfl⟩
  case round =>
    obtain ⟨k, hk, rfl, rfl⟩ := hrel
    by_cases hlt : k < n
    · have hkL : k < L.length := by rw [← HN.out]; exact hlt
      obtain ⟨b0, o0, rfl, hb0, hck⟩ := strs_at hrow k hkL
      have hf := HF.out k hkL
      have hl1 := HT.out k
      have hl2 := HC.out k hkL
      obtain ⟨A, hA⟩ : ∃ A, A = (L.take k).flatten := ⟨_, rfl⟩
      obtain ⟨C, hC⟩ : ∃ C, C = nth [] L k := ⟨_, rfl⟩
      rw [← hC] at hck hf hl2
      rw [← hA] at hf hl1 ⊢
      have hab : S A ++ S C = S (A ++ C) := S_append _ _
      have hs1 := S_size A
      have hs2 := S_size C
      have HFF := Lib.hid hf
      clear hf hA hC hkL
      go_wp2
      go_round
      case rel => exact ⟨k + 1, by omega, by go_num, by rw [HFF.out]⟩
      case measure => simp [intOf]; omega
    · obtain rfl : k = n := by omega
      have hE := HE.out
      rw [← HN.out] at hE
      have HE2 := Lib.hid hE
      clear hE
      go_wp2
      go_ret
      exact ⟨by rw [HE2.out]; rfl, hb1⟩
set_option maxRecDepth 100000 in
set_option maxHeartbeats 2000000 in
theorem refFlat_any (l : List UInt8) (hl : l.length ≤ 1100000) (w : World) : Calls Tryz.prog 94 #[.string (S l)] w fun e w' => e = .returned (.string (S (flatL l))) ∧ Below w.heap.size w w' := by
  obtain ⟨cap, W1, hrun, hb1, hs1, hB, hcap, hfz⟩ := bytes_conv w l
  have CL := Lib.hid (fun W => refClean_any (blanksL l) (by unfold blanksL; simpa using hl) W)
  have hB0 : BysW W1 w.heap.size (flatTo l 0) := ⟨by omega, fun j hj => by
    have hj' : j < l.length := by rwa [flatTo_len] at hj
    have := hB.at_ j hj'
    rw [Nat.zero_add] at this
    exact ⟨by rw [this]; simp [flatTo], hfz j hj'⟩⟩
  have HL := Lib.hid (fun k => flatTo_len l k)
  have HA := Lib.hid (fun k h => flatTo_at l k h)
  have HX := Lib.hid (fun k j h hj => flatTo_next l k j h hj)
  have HE := Lib.hid (flatTo_end l)
  clear hB hfz
  go_enter Tryz.func94, Tryz.ntmps94
  go_wp2
  go_loopw [4] (fun i wr => ∃ k : Nat, k ≤ l.length ∧ i = .int .i64 (k : Int) ∧ BysW wr w.heap.size (flatTo l k) ∧ Below w.heap.size w wr) (fun i _ => l.length - (intOf i).toNat)
  case atStart => exact ⟨0, Nat.zero_le _, rfl, hB0, hb1⟩
  case round =>
    obtain ⟨k, hk, rfl, hBk, hbr⟩ := hrel
    by_cases hlt : k < l.length
    · obtain ⟨ck, fk⟩ := hBk.at_ k (by rw [HL.out]; exact hlt)
      rw [HA.out k hlt] at ck
      obtain ⟨x, hx⟩ : ∃ x, x = nth 0 l k := ⟨_, rfl⟩
      rw [← hx] at ck
      have HXX := Lib.hid hx
      clear hx
      by_cases hbl : x.toNat = 9 ∨ x.toNat = 10 ∨ x.toNat = 13
      · have hput := hBk.put (l' := flatTo l (k + 1)) k 32 (by rw [HL.out]; exact hlt) (by rw [HL.out, HL.out]) (fun j hj => by rw [HX.out k j hlt (by rw [HL.out] at hj; exact hj), ← HXX.out, blankB_yes x hbl])
        have hput : Hid (BysW (wr.setCell ⟨w.heap.size, k, none⟩ (.int .u8 32)) w.heap.size (flatTo l (k + 1))) := Lib.hid hput
        rcases hbl with h | h | h
        all_goals
          rw [h] at ck
          clear h
          go_wp2
          go_roundw
          case rel => exact ⟨k + 1, by omega, by go_num, hput.out, hbr.setCell (p := ⟨w.heap.size, k, none⟩) (Nat.le_refl _) _⟩
          case measure => simp [intOf]; omega
      · have hn1 : ((x.toNat : Int) == 9) = false := by simp; omega
        have hn2 : ((x.toNat : Int) == 10) = false := by simp; omega
        have hn3 : ((x.toNat : Int) == 13) = false := by simp; omega
        have hput : Hid (BysW wr w.heap.size (flatTo l (k + 1))) := Lib.hid ⟨hBk.lt, fun j hj => by
          rw [HL.out] at hj
          have := hBk.at_ j (by rw [HL.out]; exact hj)
          rw [HX.out k j hlt hj]
          by_cases e : j = k
          · subst e
            rw [if_pos rfl, ← HXX.out, blankB_no x hbl]
            exact ⟨ck, this.2⟩
          · rw [if_neg e]; exact this⟩
        clear hbl
        go_wp2
        go_roundw
        case rel => exact ⟨k + 1, by omega, by go_num, hput.out, hbr⟩
        case measure => simp [intOf]; omega
    · obtain rfl : k = l.length := by omega
      rw [HE.out] at hBk
      have hcv := hBk.conv (cap := cap)
      have hbl : (blanksL l).length = l.length := by unfold blanksL; simp
      rw [hbl] at hcv
      clear hbl
      go_wp2_with (go_at_call 162; refine (CL.out _).mono ?_; rintro e w2 ⟨rfl, hb2⟩)
      go_ret
      exact ⟨rfl, bto hbr hb2 hbr.size⟩
set_option maxRecDepth 100000 in
set_option maxHeartbeats 2000000 in
theorem refWidth_any (l : List UInt8) (hl : l.length ≤ 1100000) (w : World) : Calls Tryz.prog 95 #[.string (S l)] w fun e w' => e = .returned (.int .i64 (widthL l)) ∧ Below w.heap.size w w' := by
  have CC := Lib.hid (fun W => refCut_any l hl W)
  by_cases h0 : cutL l = []
  · have hw := widthL_0 h0
    rw [hw]
    rw [h0] at CC
    clear h0 hw
    go_enter Tryz.func95, Tryz.ntmps95
    go_wp2_with (go_at_call 93; refine (CC.out _).mono ?_; rintro e w1 ⟨a, n, c, hn, hnc, hcm, rfl, hrow, hb1, _⟩; obtain rfl : n = 0 := hn)
    go_ret
    exact ⟨rfl, hb1⟩
  · have hpos : 0 < (cutL l).length := List.length_pos_iff.2 h0
    have hw := widthL_1 hpos
    have hclu := nth_clu hpos
    have hcl := hclu.len
    obtain ⟨r, t, hrt⟩ := clu_runes hclu
    have hv : widthL l = colsB (r : Int) := by rw [hw]; unfold colsL; rw [hrt]
    rw [hv]
    obtain ⟨C, hC⟩ : ∃ C, C = nth [] (cutL l) 0 := ⟨_, rfl⟩
    have HS := Lib.hid (fun (w1 : World) (a : Option Addr) (h : RowAt w1.heap.size w1 a (strV (cutL l))) => (by rw [hC]; exact strs_at h 0 hpos : ∃ b off, a = some ⟨b, off, none⟩ ∧ b < w1.heap.size ∧ w1.cell? ⟨b, off + 0, none⟩ = some (.string (S C))))
    rw [← hC] at hcl hrt
    have CRU := Lib.hid (fun (W : World) (b cap : Nat) (hcap : C.length ≤ cap) (hB : Bys W b 0 C) => refRunes_any C b cap W (by omega) hcap hB)
    rw [hrt] at CRU
    have CO := Lib.hid (fun W => refOf_any (r : Int) W)
    have HPOS := Lib.hid hpos
    clear h0 hpos hw hclu hrt hv hC hcl
    go_enter Tryz.func95, Tryz.ntmps95
    go_wp2_with (first
      | (go_at_call 93; refine (CC.out _).mono ?_; rintro e w1 ⟨a, n, c, hn, hnc, hcm, rfl, hrow, hb1, _⟩; obtain ⟨b0, o0, rfl, hb0, hc0⟩ := HS.out w1 a hrow; rw [Nat.add_zero] at hc0; have hn0 : 0 < n := by rw [hn]; exact HPOS.out
         have hne : ((n : Int) == 0) = false := by simp; omega
         have HN := Lib.hid hn
         clear hn
         obtain ⟨cap2, W2, hrun2, hb2, hs2, hB2, hcap2, _⟩ := bytes_conv w1 C)
      | (go_at_call 158; refine (CRU.out _ _ _ hcap2 hB2).mono ?_; rintro e w3 ⟨a3, n3, c3, a4, n4, c4, hn3, hnc3, rfl, hrow3, hb3⟩; obtain ⟨b5, o5, rfl, hb5, hc5⟩ := hrow3 0 (by simp [runV]); rw [Nat.add_zero] at hc5; replace hc5 : w3.cell? ⟨b5, o5, none⟩ = some (.int .i32 (r : Int)) := hc5; have hn30 : 0 < n3 := by rw [hn3]; simp
         have HN3 := Lib.hid hn3
         clear hn3)
      | (go_at_call 160; refine (CO.out _).mono ?_; rintro e w6 ⟨rfl, hb6⟩))
    go_ret
    exact ⟨rfl, bnext (bnext (bnext hb1 hb2) hb3) hb6⟩
theorem widthL_clu {c : List UInt8} (h : Clu c) : widthL c = colsL c := by unfold widthL; rw [h.cut]
end Go.Proofs.YtekodpcedjpnjaaGreat
namespace Go.Proofs.YtekodpcedjpnjaaGreat
open Go.RowKit Go.Shelf Go.Maps
set_option maxRecDepth 100000 in
set_option maxHeartbeats 4000000 in
theorem refFit_any (l : List UInt8) (most : Int) (hl : l.length ≤ 1100000) (hm : -9223372036854775808 ≤ most ∧ most ≤ 9223372036854775807) (w : World) : Calls Tryz.prog 139 #[.string (S l), .int .i64 most] w fun e w' => e = .returned (.tuple #[.string (S (fitT l most)), .int .i64 (fitN l most)]) ∧ Below w.heap.size w w' := by
  have CC := Lib.hid (fun W => refCut_any l hl W)
  have HT := Lib.hid (take_len64 l)
  have HF := Lib.hid (take_flat' (cutL l))
  have HFS := Lib.hid (sumC_take (cutL l))
  have HBD := Lib.hid (sumC_take_bd (cutL l))
  have HC := Lib.hid (fun k h => @nth_clu l k h)
  have HE := Lib.hid (fun (h : ∀ i, i < (cutL l).length → colsL (nth [] (cutL l) i) ≤ most - sumC ((cutL l).take i)) => fitK_end (cutL l) most (fun i hi => by have := h i hi; omega))
  have HSt := Lib.hid (fun k hk (h : ∀ i, i < k → colsL (nth [] (cutL l) i) ≤ most - sumC ((cutL l).take i)) hs => fitK_stop (cutL l) most k hk (fun i hi => by have := h i hi; omega) hs)
  obtain ⟨T, hT⟩ : ∃ T, T = fitT l most := ⟨_, rfl⟩
  obtain ⟨N, hN⟩ : ∃ N, N = fitN l most := ⟨_, rfl⟩
  rw [← hT, ← hN]
  unfold fitT at hT
  unfold fitN at hN
  obtain ⟨L, hL⟩ : ∃ L, L = cutL l := ⟨_, rfl⟩
  have hLl : L.length ≤ 1100000 := by rw [hL]; exact Nat.le_trans (cutL_len l) hl
  rw [← hL] at CC HT HF HFS HBD HC HE HSt hT hN
  have HTT := Lib.hid hT
  have HNN := Lib.hid hN
  clear hL hT hN
  go_enter Tryz.func139, Tryz.ntmps139
  go_wp2_with (go_at_call 93; refine (CC.out _).mono ?_; rintro e w1 ⟨a, n, c, hn, hnc, hcm, rfl, hrow, hb1, _⟩; have HN := Lib.hid hn; clear hn)
  have hnl : n ≤ 1100000 := by rw [HN.out]; exact hLl
  go_loopw [9, 7, 8] (fun i s q wr => ∃ k : Nat, k ≤ n ∧ i = .int .i64 (k : Int) ∧ s = .string (S (L.take k).flatten) ∧ q = .int .i64 (sumC (L.take k)) ∧ Hid ((k = 0 ∨ sumC (L.take k) ≤ most) ∧ ∀ i, i < k → colsL (nth [] L i) ≤ most - sumC (L.take i)) ∧ Below w1.heap.size w1 wr) (fun i _ _ _ => n - (intOf i).toNat)
  case atStart => exact ⟨0, Nat.zero_le _, rfl, rfl, rfl, Lib.hid ⟨.inl rfl, fun i hi => by omega⟩, Below.refl _ _⟩
  case round =>
    obtain ⟨k, hk, rfl, rfl, rfl, hinv, hbr⟩ := hrel
    by_cases hlt : k < n
    · have hkL : k < L.length := by rw [← HN.out]; exact hlt
      obtain ⟨b0, o0, rfl, hb0, hck⟩ := strs_at hrow k hkL
      have hckr := (hbr.cell (p := ⟨b0, o0 + k, none⟩) hb0).trans hck
      have hf := HF.out k hkL
      have hl1 := HT.out k
      have hfs := HFS.out k hkL
      have hbd := HBD.out k
      have hcl := HC.out k hkL
      have hwd := widthL_clu hcl
      have hlen := hcl.len
      have hcb := hcl.cols
      obtain ⟨A, hA⟩ : ∃ A, A = (L.take k).flatten := ⟨_, rfl⟩
      obtain ⟨s, hs⟩ : ∃ s, s = sumC (L.take k) := ⟨_, rfl⟩
      obtain ⟨C, hC⟩ : ∃ C, C = nth [] L k := ⟨_, rfl⟩
      rw [← hC] at hckr hf hwd hlen hcb hfs
      rw [← hA] at hf hl1 ⊢
      have CW := Lib.hid (fun W => refWidth_any C (by omega) W)
      obtain ⟨q, hq⟩ : ∃ q, q = colsL C := ⟨_, rfl⟩
      rw [hwd] at CW
      rw [← hq] at CW hcb hfs
      rw [← hs] at hbd hfs ⊢
      have hsb : 0 ≤ s ∧ s ≤ 2200000 := by omega
      have hle2 : s = 0 ∨ s ≤ most := by
        rcases hinv.out.1 with h | h
        · left; rw [hs, h]; rfl
        · right; rw [hs]; exact h
      have hwr : IntKind.i64.wrap (most - s) = most - s := IntWalk.i64_in _ (by omega)
      have hab : S A ++ S C = S (A ++ C) := S_append _ _
      have hs1 := S_size A
      have hs2 := S_size C
      have HA := Lib.hid hA
      have hCl : C.length ≤ 64 := hlen.2
      have HSS := Lib.hid hs
      have HQ := Lib.hid (show colsL (nth [] L k) = q by rw [hq, hC])
      have HFF := Lib.hid hf
      have HFS2 := Lib.hid hfs
      have HKL := Lib.hid hkL
      clear hf hA hC hkL hcl hwd hlen hq hck hbd hs hfs
      by_cases hc : most - s < q
      · have hfin : fitK L most = k := HSt.out k HKL.out (fun i hi => hinv.out.2 i hi) (by rw [HQ.out, ← HSS.out]; exact hc)
        have hT2 : T = A := by rw [HTT.out, hfin, HA.out]
        have hN2 : N = s := by rw [HNN.out, hfin, HSS.out]
        subst hT2
        subst hN2
        clear hfin
        go_wp2_with (go_at_call 95; refine (CW.out _).mono ?_; rintro e w3 ⟨rfl, hb3⟩)
        go_ret2
        exact ⟨rfl, bto hb1 (bto hbr hb3 hbr.size) hb1.size⟩
      · have hc' : q ≤ most - s := by omega
        go_wp2_with (go_at_call 95; refine (CW.out _).mono ?_; rintro e w3 ⟨rfl, hb3⟩; have hbr3 := bto hbr hb3 hbr.size; have hck3 := (hb3.cell (p := ⟨b0, o0 + k, none⟩) (World.block_lt_of_cell? _ _ hckr)).trans hckr)
        have hlt3 := World.block_lt_of_cell? _ _ hck3
        have hnb : ¬ 9223372036854775807 < A.length + C.length := by omega
        have hws : IntKind.i64.wrap (s + q) = s + q := IntWalk.i64_in _ (by omega)
        go_region_held3 (fun w' => w'.cell? ⟨b0, o0 + k, none⟩ = some (.string (S C))) (first | assumption | go_keep) ((go_at_call 95; refine (CW.out _).mono ?_; rintro e w5 ⟨rfl, hb5⟩; have hck5 := (hb5.cell (p := ⟨b0, o0 + k, none⟩) hlt3).trans hck3))
        clear hws hwr
        go_wp2
        go_roundw
        case rel => exact ⟨k + 1, by omega, by go_num, by rw [HFF.out], by rw [HFS2.out], Lib.hid ⟨.inr (by rw [HFS2.out]; omega), fun i hi => by
          by_cases e : i = k
          · rw [e, HQ.out, ← HSS.out]; exact hc'
          · exact hinv.out.2 i (by omega)⟩, bto hbr3 (show Below w3.heap.size w3 w5 from ⟨hb5.os, hb5.tape, hb5.output, hb5.size, hb5.block⟩) hbr3.size⟩
        case measure => simp [intOf]; omega
    · obtain rfl : k = n := by omega
      have hfin : fitK L most = L.length := HE.out (fun i hi => hinv.out.2 i (by rw [HN.out]; exact hi))
      have hT2 : T = (L.take k).flatten := by rw [HTT.out, hfin, HN.out]
      have hN2 : N = sumC (L.take k) := by rw [HNN.out, hfin, HN.out]
      subst hT2
      subst hN2
      clear hfin
      go_wp2
      go_ret2
      exact ⟨rfl, bto hb1 hbr hb1.size⟩
end Go.Proofs.YtekodpcedjpnjaaGreat
