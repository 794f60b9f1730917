/- The law TermPieces: the state does not depend on how the bytes are divided into pieces. No condition. -/
import Derived.Test.YtekodpcedjpnjaaGreatTPc1
namespace Go.Proofs.YtekodpcedjpnjaaGreat
set_option linter.unusedVariables false
set_option linter.unusedSimpArgs false
open Go.RowKit Go.Shelf Go.Maps
set_option maxRecDepth 100000 in
set_option maxHeartbeats 16000000 in
theorem termPieces_law (w0 h0 : Int) (a2 : Option Addr) (n2 c2 : Nat) (z2 : List Int) (a3 : Option Addr) (n3 c3 : Nat) (z3 : List Int) (W : World) (hw0 : (Lit.int .u8 w0).wf = true) (hh0 : (Lit.int .u8 h0).wf = true) (r2 : IsRow .u8 W a2 n2 c2 z2) (r3 : IsRow .u8 W a3 n3 c3 z3) :
    Calls Tryz.prog 8 #[.int .u8 w0, .int .u8 h0, .slice a2 n2 c2, .slice a3 n3 c3] W fun e w' => e = .returned (.bool true) ∧ Below W.heap.size W w' := by
  have hw : 0 ≤ w0 ∧ w0 ≤ 255 := by simpa [Lit.wf, IntKind.min, IntKind.max, IntKind.signed, IntKind.bits] using hw0
  have hh : 0 ≤ h0 ∧ h0 ≤ 255 := by simpa [Lit.wf, IntKind.min, IntKind.max, IntKind.signed, IntKind.bits] using hh0
  obtain ⟨wn, rfl⟩ := Int.eq_ofNat_of_zero_le hw.1
  obtain ⟨hn, rfl⟩ := Int.eq_ofNat_of_zero_le hh.1
  obtain ⟨l, hl, ha2⟩ := isRow_bytes r2
  obtain ⟨k, hk, ha3⟩ := isRow_bytes r3
  have hn2 : n2 ≤ maxLen ∧ n3 ≤ maxLen := by
    constructor
    · rcases r2 with ⟨_, h, _⟩ | ⟨_, _, h1, h2, _⟩
      · rw [h]; exact Nat.zero_le _
      · exact Nat.le_trans h1 h2
    · rcases r3 with ⟨_, h, _⟩ | ⟨_, _, h1, h2, _⟩
      · rw [h]; exact Nat.zero_le _
      · exact Nat.le_trans h1 h2
  unfold maxLen at hn2
  have CC := cut05_any ha2 (by unfold maxLen; omega)
  obtain ⟨b, hb⟩ : ∃ b, b = l.take 300 := ⟨_, rfl⟩
  have hbl : b.length ≤ 300 := by rw [hb, List.length_take]; omega
  rw [← hb] at CC
  obtain ⟨x, hx⟩ : ∃ x, x = 1 + wn % 30 := ⟨_, rfl⟩
  obtain ⟨y, hy⟩ : ∃ y, y = 1 + hn % 10 := ⟨_, rfl⟩
  have hd : 1 ≤ x ∧ x ≤ 500 ∧ 1 ≤ y ∧ y ≤ 500 := by omega
  have HEX : Hid (1 + (wn : Int) % 30 = (x : Int)) := Lib.hid (by omega)
  have HEY : Hid (1 + (hn : Int) % 10 = (y : Int)) := Lib.hid (by omega)
  have hwn : (wn : Int) ≤ 255 := hw.2
  have hhn : (hn : Int) ≤ 255 := hh.2
  have OK0 := Lib.hid (TOk.new hd.1 hd.2.1 hd.2.2.1 hd.2.2.2)
  have CC := Lib.hid CC
  have HA3 := Lib.hid ha3
  have HK := Lib.hid hk
  have CN := Lib.hid (fun X => tnew_ok x y hd X)
  have CR := Lib.hid (fun (X : World) => rtnew_ok (F := fun b => X.heap.size ≤ b) (W := X) (fun b h => h) x y hd)
  have hn3 : n3 ≤ 9223372036854775807 := by omega
  clear hw hh hw0 hh0 r2 r3 hl ha2 ha3 hk hn2 hb hx hy hd
  go_enter Tryz.func8, Tryz.ntmps8
  go_wp2_with fail
  simp only [HEX.out, HEY.out]
  refine (CC.out).mono ?_
  rintro e w1 ⟨v2, rfl, hv2, rfl⟩
  obtain ⟨ba, bc, rfl⟩ := hv2.slice
  obtain ⟨n, hn⟩ : ∃ n, n = b.length := ⟨_, rfl⟩
  rw [← hn] at hv2 ⊢
  have hn5 : n ≤ 300 := by omega
  have HN := Lib.hid hn
  have HV := Lib.hid hv2
  clear hn hv2 hbl CC
  go_wp2_with fail
  refine (CN.out _).mono ?_
  rintro e w2 ⟨b1, p1, q1, rfl, t1, z1, hb2⟩
  go_wp2_with fail
  refine (CN.out _).mono ?_
  rintro e w3 ⟨b2, p2, q2, rfl, t2, z2', hb3⟩
  go_wp2_with fail
  refine (CN.out _).mono ?_
  rintro e w4 ⟨b3, p3, q3, rfl, t3, z3', hb4⟩
  go_wp2_with fail
  refine (CR.out _).mono ?_
  rintro e w5 ⟨ra, rc, rfl, g5, hb5⟩
  dsimp only at g5
  have pn : TBx (w5.alloc (.cells zCells 63)) w5.heap.size zCells := TBx.new _ _
  have bz : Below w5.heap.size w5 (w5.alloc (.cells zCells 63)) := (Below.refl _ _).alloc (Nat.le_refl _) _
  have hn1 : OneV (.slice none 0 0) := rfl
  go_upto_region 7 with (refine wpList_tstore rfl _ _ rfl w5.heap.size rfl _ rfl zCells ?_ rfl rfl (tCells_one _ _ _ hn1) ?_; exact pn; intro V p6 o6)
  have s1 := hb2.size
  have s2 := hb3.size
  have s3 := hb4.size
  have s4 := hb5.size
  have l1 := t1.lt
  have l2 := t2.lt
  have l3 := t3.lt
  have bV : Below w5.heap.size w5 V := bz.trans (o6.below (by simp) bz.size)
  have hVs : w5.heap.size < V.heap.size := p6.lt
  have B1 : Below w2.heap.size w2 V := bto (bto hb3 hb4 s2) (bto hb5 bV s4) (by omega)
  have B2 : Below w3.heap.size w3 V := bto hb4 (bto hb5 bV s4) s3
  have B3 : Below w4.heap.size w4 V := bto hb5 bV s4
  have BW0 : Below W.heap.size W V := bto hb2 B1 s1
  obtain ⟨A, hA⟩ : ∃ A : Nat → Ad, A = tri ⟨b1, p1, q1⟩ ⟨b2, p2, q2⟩ ⟨b3, p3, q3⟩ := ⟨_, rfl⟩
  have a0 : A 0 = ⟨b1, p1, q1⟩ := by rw [hA]; rfl
  have a1 : A 1 = ⟨b2, p2, q2⟩ := by rw [hA]; rfl
  have a2' : A 2 = ⟨b3, p3, q3⟩ := by rw [hA]; rfl
  have hap : Apt A 3 V.heap.size := by
    refine ⟨fun i hi => ?_, fun i j hi hj hij => ?_⟩
    · match i, hi with
      | 0, _ => rw [a0]; dsimp only; omega
      | 1, _ => rw [a1]; dsimp only; omega
      | 2, _ => rw [a2']; dsimp only; omega
    · match i, hi, j, hj with
      | 0, _, 0, _ => exact absurd rfl hij
      | 1, _, 1, _ => exact absurd rfl hij
      | 2, _, 2, _ => exact absurd rfl hij
      | 0, _, 1, _ => rw [a0, a1]; dsimp only; omega
      | 0, _, 2, _ => rw [a0, a2']; dsimp only; omega
      | 1, _, 0, _ => rw [a0, a1]; dsimp only; omega
      | 1, _, 2, _ => rw [a1, a2']; dsimp only; omega
      | 2, _, 0, _ => rw [a0, a2']; dsimp only; omega
      | 2, _, 1, _ => rw [a1, a2']; dsimp only; omega
  obtain ⟨T0, hT0⟩ : ∃ T0, T0 = TS.new x y := ⟨_, rfl⟩
  rw [← hT0] at t1 t2 t3 p6 g5 OK0
  have hc0 : T0.gone = 0 ∧ T0.bells = 0 := by rw [hT0]; exact ⟨rfl, rfl⟩
  have hnil : ∀ X : World, Held X W.heap.size (.slice none 0 0) [] := fun X => World.ownsRow_nil _ _ _ _
  have st0 : Tms V W.heap.size A 3 (tri (T0, []) (T0, []) (T0, [])) (fun _ => .slice none 0 0) V :=
    { at_ := fun i hi => by
        match i, hi with
        | 0, _ => rw [a0]; exact ⟨t1.below B1, hnil V⟩
        | 1, _ => rw [a1]; exact ⟨t2.below B2, hnil V⟩
        | 2, _ => rw [a2']; exact ⟨t3.below B3, hnil V⟩
      new := fun i hi k e => by simp [Value.ownBlock] at e
      ne := fun i j hi hj hij k e => by simp [Value.ownBlock] at e
      only := Only.refl _ _ }
  have gV : RG (fun b => w4.heap.size ≤ b ∧ b < w5.heap.size) V ra rc T0.W T0.H T0.R := (g5.mono (F' := fun b => w4.heap.size ≤ b ∧ b < w5.heap.size) (fun b h1 h2 => ⟨h1, h2⟩)).below bV
  have hbk : ∀ k ∈ blks A 3, W.heap.size ≤ k ∧ k < w4.heap.size := fun k hk => by
    obtain ⟨i, hi, hm⟩ := List.mem_flatMap.1 hk
    have hi := List.mem_range.1 hi
    match i, hi with
    | 0, _ => rw [a0] at hm; simp at hm; omega
    | 1, _ => rw [a1] at hm; simp at hm; omega
    | 2, _ => rw [a2'] at hm; simp at hm; omega
  have hpk : ∀ i, i < 3 → (A i).p < w4.heap.size := fun i hi => by
    match i, hi with
    | 0, _ => rw [a0]; dsimp only; omega
    | 1, _ => rw [a1]; dsimp only; omega
    | 2, _ => rw [a2']; dsimp only; omega
  have HPK := Lib.hid hpk
  have HF : Hid (Apt A 3 V.heap.size ∧ A 0 = ⟨b1, p1, q1⟩ ∧ A 1 = ⟨b2, p2, q2⟩ ∧ A 2 = ⟨b3, p3, q3⟩ ∧ (∀ k ∈ blks A 3, W.heap.size ≤ k ∧ k < w4.heap.size) ∧ (w4.heap.size ≤ w5.heap.size ∧ w5.heap.size < V.heap.size ∧ W.heap.size ≤ w4.heap.size)) := Lib.hid ⟨hap, a0, a1, a2', hbk, s4, hVs, by omega⟩
  have ST0 := Lib.hid st0
  have GV := Lib.hid gV
  have PV := Lib.hid p6
  have HC0 := Lib.hid hc0
  have HVV : Hid (HAF (fun k => k < W.heap.size) V (.slice ba n bc) b) := Lib.hid (HV.out.below BW0)
  clear hA hap hnil hbk hpk gV st0 a0 a1 a2' t1 t2 t3 z1 z2' z3' hb2 hb3 hb4 hb5 g5 pn bz p6 o6 s1 s2 s3 s4 l1 l2 l3 bV hVs B1 B2 B3 hT0 hc0 CN CR HEX HEY hwn hhn
  obtain ⟨Zr, hZr⟩ : ∃ Zr, Zr = runT T0 b := ⟨_, rfl⟩
  have HZ := Lib.hid hZr
  clear hZr
  have CW1 : Calls Tryz.prog 49 #[.pointer (some ⟨b1, 0, none⟩), .slice (some ⟨V.heap.size, 0, none⟩) 1 1] (V.alloc (.cells #[.slice ba n bc] 61)) fun e Y => e = .returned (.tuple #[]) ∧ ∃ hv', Tms V W.heap.size A 3 (tri Zr (T0, []) (T0, [])) hv' Y := by
    obtain ⟨hap, a0, a1, a2', hbk, s4, hVs, hW4⟩ := HF.out
    have hl := hap.lt 0 (by omega)
    rw [a0] at hl
    have hb0 := hbk _ (blks_mem (A := A) (m := 3) (i := 0) (by omega)).1
    have hq0 := hbk _ (blks_mem (A := A) (m := 3) (i := 0) (by omega)).2
    rw [a0] at hb0 hq0
    have hP := parts_1 (hv := .slice none 0 0) (part_of HVV.out (b := b1) (q := q1) hb0.1 hq0.1 (fun k e => by simp [Value.ownBlock] at e)) hl.1 hl.2.2 (fun k e => by simp [Value.ownBlock] at e)
    have := tms_write (ST0.out.below ((Below.refl _ _).alloc (Nat.le_refl _) (.cells #[.slice ba n bc] 61))) hap BW0.size (j := 0) (by omega) (pc := 1) (P := [b]) (by rw [a0]; exact hP) OK0.out (by show 0 + _ ≤ _; have := HN.out; simp; omega) (by show T0.gone + 100000 < _; have := HC0.out; omega) (by show T0.bells + 100000 < _; have := HC0.out; omega) (by omega)
    rw [a0, tri_0] at this
    have e : [b].foldl runP (tri (T0, []) (T0, []) (T0, []) 0) = Zr := by rw [HZ.out]; rfl
    rw [e] at this
    exact this
  have CW1 := Lib.hid CW1
  go_wp2_with fail
  refine (CW1.out).mono ?_
  rintro e w6 ⟨rfl, hv6, st6⟩
  have ST6 := Lib.hid st6
  have hl6 : HAF (fun k => k < W.heap.size) w6 (.slice ba n bc) b := HVV.out.keep st6.only.size (fun k hk hk2 => st6.only.block k hk2 (fun hm => by have := (HF.out.2.2.2.2.1 k hm).1; omega))
  have HL6 := Lib.hid hl6
  clear st6 hl6 CW1
  go_wp2
  go_loopw [19, 20] (fun lf i wr => ∃ (j ki : Nat) (la : Option Addr) (lc : Nat) (hv : Nat → Value), j ≤ n ∧ ki ≤ n3 ∧ i = .int .i64 ki ∧ lf = .slice la ((n - j : Nat) : Nat) lc ∧ Hid (HAF (fun k => k < W.heap.size) V (.slice la (n - j) lc) (b.drop j)) ∧ Hid (Tms V W.heap.size A 3 (tri Zr (runT T0 (b.take j)) (T0, [])) hv wr)) (fun _ i _ => n3 - (intOf i).toNat)
  case atStart => exact ⟨0, 0, ba, bc, hv6, Nat.zero_le _, Nat.zero_le _, rfl, rfl, Lib.hid HVV.out, ST6⟩
  case round =>
    obtain ⟨j, ki, la, lc, hv, hj, hki, rfl, rfl, hlf, hst⟩ := hrel
    by_cases hlt : ki < n3 ∧ ki < 100
    · obtain ⟨hlt1, hlt2⟩ := hlt
      obtain ⟨g3, off3, rfl, hg3, hc3, hcell⟩ : ∃ g3 off3, a3 = some ⟨g3, off3, none⟩ ∧ g3 < W.heap.size ∧ n3 ≤ c3 ∧ wr.cell? ⟨g3, off3 + ki, none⟩ = some (.int .u8 ((nth 0 k ki).toNat : Int)) := by
        have hkl := HK.out
        rcases HA3.out with (⟨h, h'⟩ | ⟨g, off, nn, cc, h1, h2, h3, h4, h5⟩) | ⟨ad, cc, h1, h2⟩
        · simp only [Value.slice.injEq] at h; omega
        · simp only [Value.slice.injEq] at h1
          obtain ⟨rfl, rfl, rfl⟩ := h1
          refine ⟨g, off, rfl, h5, h3.1, ?_⟩
          have hcw := h4.at_ ki (by omega)
          have hcV := (BW0.cell (p := ⟨g, off + ki, none⟩) h5).trans hcw
          rw [cell_block (hst.out.only.block g (by have := BW0.size; omega) (fun hm => by have := (HF.out.2.2.2.2.1 g hm).1; omega))]
          exact hcV
        · simp only [Value.slice.injEq] at h1; omega
      obtain ⟨ch, hch⟩ : ∃ ch, ch = (nth 0 k ki).toNat := ⟨_, rfl⟩
      rw [← hch] at hcell
      have hc256 : ch < 256 := by rw [hch]; exact UInt8.toNat_lt _
      clear hch
      obtain ⟨m, hm⟩ : ∃ m, m = min (n - j) (ch % 9) := ⟨_, rfl⟩
      obtain ⟨N, hN⟩ : ∃ N, N = n - j := ⟨_, rfl⟩
      rw [← hN] at hm hlf ⊢
      have hmin : min (N : Int) ((ch : Int) % 9) = (m : Int) := by omega
      have hmN : m ≤ N := by omega
      have hNn : N ≤ 300 := by omega
      have hlti : (ki : Int) < (n3 : Int) := by omega
      have hlti2 : (ki : Int) < 100 := by omega
      have HNN := Lib.hid hN
      clear hm hN
      have htk : Hid ((b.drop j).take m = (b.drop j).take m ∧ b.take j ++ (b.drop j).take m = b.take (j + m) ∧ (b.drop j).drop m = b.drop (j + m) ∧ ((b.drop j).take m).length = m ∧ j + m ≤ n ∧ n - (j + m) = N - m) := Lib.hid (by
        have h1 := HNN.out
        have h2 := HN.out
        refine ⟨rfl, ?_, List.drop_drop .., ?_, by omega, by omega⟩
        · rw [List.take_add]
        · rw [List.length_take, List.length_drop]; omega)
      have CW2 : ∀ (pv : Value), HAF (fun k => k < W.heap.size) V pv ((b.drop j).take m) → Calls Tryz.prog 49 #[.pointer (some ⟨b2, 0, none⟩), .slice (some ⟨wr.heap.size, 0, none⟩) 2 2] (wr.alloc (.cells #[pv, .slice none 0 0] 61)) fun e Y => e = .returned (.tuple #[]) ∧ ∃ hv', Tms V W.heap.size A 3 (tri Zr (runT T0 (b.take (j + m))) (T0, [])) hv' Y := fun pv hpv => by
        obtain ⟨hap, a0, a1, a2', hbk, s4, hVs, hW4⟩ := HF.out
        have hl := hap.lt 1 (by omega)
        rw [a1] at hl
        have hb0 := hbk _ (blks_mem (A := A) (m := 3) (i := 1) (by omega)).1
        have hq0 := hbk _ (blks_mem (A := A) (m := 3) (i := 1) (by omega)).2
        rw [a1] at hb0 hq0
        have hst' := hst.out
        have hVr := hst'.only.size
        have hpr := hpv.keep hVr (fun k hk hk2 => hst'.only.block k hk2 (fun hm => by have := (hbk k hm).1; omega))
        have hP := parts_2 (hv := hv 1) (part_of hpr (b := b2) (q := q2) hb0.1 hq0.1 (fun k e => by have := hst'.new 1 (by omega) k e; have := BW0.size; omega)) (.inl ⟨rfl, rfl⟩) (Nat.lt_of_lt_of_le hl.1 hVr) (Nat.lt_of_lt_of_le hl.2.2 hVr) (hst'.hv_lt (by omega))
        have hrc := run_cnt _ T0 (b.take j) (Nat.le_refl _)
        rw [List.length_take] at hrc
        have h5 := HN.out
        have h6 := HC0.out
        have h7 := htk.out.2.2.2.1
        have := tms_write (hst'.below ((Below.refl _ _).alloc (Nat.le_refl _) (.cells #[pv, .slice none 0 0] 61))) hap BW0.size (j := 1) (by omega) (pc := 2) (P := [(b.drop j).take m, []]) (by rw [a1]; exact hP) (OK0.out.run _) (by show (runT T0 (b.take j)).2.length + _ ≤ _; simp only [List.flatten_cons, List.flatten_nil, List.append_nil]; rw [h7]; omega) (by show (runT T0 (b.take j)).1.gone + 100000 < _; omega) (by show (runT T0 (b.take j)).1.bells + 100000 < _; omega) (by omega)
        rw [a1, tri_1] at this
        have e : [(b.drop j).take m, []].foldl runP (tri Zr (runT T0 (b.take j)) (T0, []) 1) = runT T0 (b.take (j + m)) := by
          show runP (runP (runT T0 (b.take j)) ((b.drop j).take m)) [] = _
          rw [runP_run, runP_run, List.append_nil, htk.out.2.1]
        rw [e] at this
        exact this
      have CW2 := Lib.hid CW2
      have hlf' := hlf.out
      rcases hlf' with (⟨h, h'⟩ | ⟨g, off, nn, cc, h1, h2, ⟨h3, h3'⟩, h4, h5⟩) | ⟨ad, cc, h1, h2⟩
      · simp only [Value.slice.injEq] at h
        obtain ⟨rfl, rfl, rfl⟩ := h
        have hm0 : m = 0 := by omega
        subst hm0
        have hmin0 : min (0 : Int) ((ch : Int) % 9) = 0 := by omega
        have FIN : Hid (HAF (fun k => k < W.heap.size) V (.slice none 0 0) ((b.drop j).take 0) ∧ HAF (fun k => k < W.heap.size) V (.slice none 0 0) (b.drop (j + 0))) := Lib.hid ⟨.inl (.inl ⟨rfl, rfl⟩), .inl (.inl ⟨rfl, by rw [Nat.add_zero]; exact h'⟩)⟩
        clear h' hmin hlf
        go_wp2_with fail
        refine (CW2.out _ FIN.out.1).mono ?_
        rintro e w7 ⟨rfl, hv7, st7⟩
        have ST7 := Lib.hid st7
        clear st7
        go_wp2
        go_roundw
        case rel => exact ⟨j + 0, ki + 1, none, 0, hv7, hj, hlt1, by go_num, by rw [htk.out.2.2.2.2.2], by rw [htk.out.2.2.2.2.2]; exact Lib.hid FIN.out.2, ST7⟩
        case measure => simp [intOf]; omega
      · simp only [Value.slice.injEq] at h1
        obtain ⟨rfl, rfl, rfl⟩ := h1
        have hml : (m : Int) ≤ (N : Int) := by omega
        have hmc : (m : Int) ≤ (lc : Int) := by omega
        have hmc' : m ≤ lc := by omega
        have hlc : lc ≤ maxLen := h3'
        unfold maxLen at hlc
        have h4V := h4
        have FIN1 : Hid (HAF (fun k => k < W.heap.size) V (.slice (some ⟨g, off, none⟩) m lc) ((b.drop j).take m)) := Lib.hid (.inl (.inr ⟨g, off, m, lc, rfl, htk.out.2.2.2.1, ⟨by omega, h3'⟩, h4.take m, h5⟩))
        have H4 := Lib.hid h4
        have H2 := Lib.hid h2
        clear h2 h4 h4V hlf
        by_cases hmlc : m = lc
        · have hNm : N = m := by omega
          subst hmlc
          have FIN2 : Hid (∀ ad' lc', HAF (fun k => k < W.heap.size) V (.slice (some ad') 0 lc') (b.drop (j + m))) := Lib.hid (fun _ _ => .inr ⟨_, _, rfl, by
            have := htk.out.2.2.2.2.2
            have h5 := HN.out
            exact List.drop_eq_nil_of_le (by omega)⟩)
          have hkk := htk.out.2.2.2.2
          rw [hNm, Nat.sub_self] at hkk
          have HKK := Lib.hid hkk
          subst hNm
          clear hkk
          go_wp2_with fail
          refine (CW2.out _ FIN1.out).mono ?_
          rintro e w7 ⟨rfl, hv7, st7⟩
          have ST7 := Lib.hid st7
          clear st7
          go_wp2
          go_roundw
          case rel =>
            refine ⟨j + N, ki + 1, _, _, hv7, HKK.out.1, hlt1, by go_num, by rw [HKK.out.2], ?_, ST7⟩
            rw [HKK.out.2]
            exact Lib.hid (FIN2.out _ _)
          case measure => simp [intOf]; omega
        · go_wp2_with fail
          refine (CW2.out _ FIN1.out).mono ?_
          rintro e w7 ⟨rfl, hv7, st7⟩
          have ST7 := Lib.hid st7
          clear st7
          go_wp2
          go_roundw
          case rel =>
            obtain ⟨_, k2, k3, k4, k5, k6⟩ := htk.out
            refine ⟨j + m, ki + 1, _, _, hv7, k5, hlt1, by go_num, by rw [k6], ?_, ST7⟩
            rw [k6]
            have h2 := H2.out
            rw [List.length_drop] at h2
            exact Lib.hid (.inl (.inr ⟨g, off + m, N - m, lc - m, rfl, by rw [List.length_drop]; omega, ⟨by omega, by unfold maxLen; omega⟩, by rw [← k3]; exact H4.out.dropAt m, h5⟩))
          case measure => simp [intOf]; omega
      · simp only [Value.slice.injEq] at h1
        obtain ⟨rfl, rfl, rfl⟩ := h1
        have hm0 : m = 0 := by omega
        subst hm0
        have hmin0 : min (0 : Int) ((ch : Int) % 9) = 0 := by omega
        have FIN : Hid (HAF (fun k => k < W.heap.size) V (.slice (some ad) 0 lc) ((b.drop j).take 0) ∧ ∀ ad' lc', HAF (fun k => k < W.heap.size) V (.slice (some ad') 0 lc') (b.drop (j + 0))) := Lib.hid ⟨.inr ⟨_, _, rfl, rfl⟩, fun _ _ => .inr ⟨_, _, rfl, by rw [Nat.add_zero]; exact h2⟩⟩
        clear h2 hmin hlf
        go_wp2_with fail
        refine (CW2.out _ FIN.out.1).mono ?_
        rintro e w7 ⟨rfl, hv7, st7⟩
        have ST7 := Lib.hid st7
        clear st7
        go_wp2
        go_roundw
        case rel => exact ⟨j + 0, ki + 1, _, _, hv7, hj, hlt1, by go_num, by rw [htk.out.2.2.2.2.2], by rw [htk.out.2.2.2.2.2]; exact Lib.hid (FIN.out.2 _ _), ST7⟩
        case measure => simp [intOf]; omega
    · obtain ⟨N, hN⟩ : ∃ N, N = n - j := ⟨_, rfl⟩
      rw [← hN] at hlf ⊢
      have CW3 : Calls Tryz.prog 49 #[.pointer (some ⟨b2, 0, none⟩), .slice (some ⟨wr.heap.size, 0, none⟩) 1 1] (wr.alloc (.cells #[.slice la N lc] 61)) fun e Y => e = .returned (.tuple #[]) ∧ ∃ hv', Tms V W.heap.size A 3 (tri Zr Zr (T0, [])) hv' Y := by
        obtain ⟨hap, a0, a1, a2', hbk, s4, hVs, hW4⟩ := HF.out
        have hl := hap.lt 1 (by omega)
        rw [a1] at hl
        have hb0 := hbk _ (blks_mem (A := A) (m := 3) (i := 1) (by omega)).1
        have hq0 := hbk _ (blks_mem (A := A) (m := 3) (i := 1) (by omega)).2
        rw [a1] at hb0 hq0
        have hst' := hst.out
        have hVr := hst'.only.size
        have hpr := hlf.out.keep hVr (fun k hk hk2 => hst'.only.block k hk2 (fun hm => by have := (hbk k hm).1; omega))
        have hP := parts_1 (hv := hv 1) (part_of hpr (b := b2) (q := q2) hb0.1 hq0.1 (fun k e => by have := hst'.new 1 (by omega) k e; have := BW0.size; omega)) (Nat.lt_of_lt_of_le hl.1 hVr) (Nat.lt_of_lt_of_le hl.2.2 hVr) (hst'.hv_lt (by omega))
        have hrc := run_cnt _ T0 (b.take j) (Nat.le_refl _)
        rw [List.length_take] at hrc
        have h5 := HN.out
        have h6 := HC0.out
        have := tms_write (hst'.below ((Below.refl _ _).alloc (Nat.le_refl _) (.cells #[.slice la N lc] 61))) hap BW0.size (j := 1) (by omega) (pc := 1) (P := [b.drop j]) (by rw [a1]; exact hP) (OK0.out.run _) (by show (runT T0 (b.take j)).2.length + _ ≤ _; simp only [List.flatten_cons, List.flatten_nil, List.append_nil, List.length_drop]; omega) (by show (runT T0 (b.take j)).1.gone + 100000 < _; omega) (by show (runT T0 (b.take j)).1.bells + 100000 < _; omega) (by omega)
        rw [a1, tri_1] at this
        have e : [b.drop j].foldl runP (tri Zr (runT T0 (b.take j)) (T0, []) 1) = Zr := by
          show runP (runT T0 (b.take j)) (b.drop j) = _
          rw [runP_run, List.take_append_drop, HZ.out]
        rw [e] at this
        exact this
      have CW3 := Lib.hid CW3
      have hki3 : (ki : Int) < (n3 : Int) → ¬ (ki : Int) < 100 := fun h1 h2 => hlt ⟨by omega, by omega⟩
      clear hN hlf hst hlt
      by_cases hlt1 : (ki : Int) < (n3 : Int)
      all_goals
        first
          | (have hlt2 : ¬ (ki : Int) < 100 := hki3 hlt1)
          | skip
        clear hki3
        go_wp2_with fail
        refine (CW3.out).mono ?_
        rintro e w7 ⟨rfl, hv7, st7⟩
        have ST7 := Lib.hid st7
        clear st7
        go_wp2
        go_loopw [22] (fun i wr => ∃ (j : Nat) (hv : Nat → Value), j ≤ n ∧ i = .int .i64 j ∧ Hid (Tms V W.heap.size A 3 (tri Zr Zr (runT T0 (b.take j))) hv wr)) (fun i _ => n - (intOf i).toNat)
        case atStart => exact ⟨0, hv7, Nat.zero_le _, rfl, ST7⟩
        case round =>
          obtain ⟨j', hv8, hj', rfl, hst8⟩ := hrel
          by_cases hlt8 : j' < n
          · obtain ⟨g, off, rfl, hg, hbc, hbc2, hB⟩ : ∃ g off, ba = some ⟨g, off, none⟩ ∧ g < W.heap.size ∧ n ≤ bc ∧ bc ≤ maxLen ∧ Bys V g off b := by
              rcases HVV.out with (⟨h, h'⟩ | ⟨g, off, nn, cc, h1, h2, h3, h4, h5⟩) | ⟨ad, cc, h1, h2⟩
              · simp only [Value.slice.injEq] at h; omega
              · simp only [Value.slice.injEq] at h1
                obtain ⟨rfl, rfl, rfl⟩ := h1
                exact ⟨g, off, rfl, h5, h3.1, h3.2, h4⟩
              · simp only [Value.slice.injEq] at h1; omega
            have hbl := HN.out
            have hpc : HAF (fun k => k < W.heap.size) V (.slice (some ⟨g, off + j', none⟩) 1 (bc - j')) [nth 0 b j'] := by
              refine .inl (.inr ⟨g, off + j', 1, bc - j', rfl, rfl, ⟨by omega, by omega⟩, ?_, hg⟩)
              have h1 := (hB.dropAt j').take 1
              have e1 : (b.drop j').take 1 = [nth 0 b j'] := by rw [List.drop_eq_getElem_cons (by omega), nth_eq _ _ _ (by omega)]; rfl
              rw [e1] at h1
              exact h1
            have CW4 : Calls Tryz.prog 49 #[.pointer (some ⟨b3, 0, none⟩), .slice (some ⟨wr.heap.size, 0, none⟩) 1 1] (wr.alloc (.cells #[.slice (some ⟨g, off + j', none⟩) 1 (bc - j')] 61)) fun e Y => e = .returned (.tuple #[]) ∧ ∃ hv', Tms V W.heap.size A 3 (tri Zr Zr (runT T0 (b.take (j' + 1)))) hv' Y := by
              obtain ⟨hap, a0, a1, a2', hbk, s4, hVs, hW4⟩ := HF.out
              have hl := hap.lt 2 (by omega)
              rw [a2'] at hl
              have hb0 := hbk _ (blks_mem (A := A) (m := 3) (i := 2) (by omega)).1
              have hq0 := hbk _ (blks_mem (A := A) (m := 3) (i := 2) (by omega)).2
              rw [a2'] at hb0 hq0
              have hst' := hst8.out
              have hVr := hst'.only.size
              have hpr := hpc.keep hVr (fun k hk hk2 => hst'.only.block k hk2 (fun hm => by have := (hbk k hm).1; omega))
              have hP := parts_1 (hv := hv8 2) (part_of hpr (b := b3) (q := q3) hb0.1 hq0.1 (fun k e => by have := hst'.new 2 (by omega) k e; have := BW0.size; omega)) (Nat.lt_of_lt_of_le hl.1 hVr) (Nat.lt_of_lt_of_le hl.2.2 hVr) (hst'.hv_lt (by omega))
              have hrc := run_cnt _ T0 (b.take j') (Nat.le_refl _)
              rw [List.length_take] at hrc
              have h6 := HC0.out
              have := tms_write (hst'.below ((Below.refl _ _).alloc (Nat.le_refl _) (.cells #[.slice (some ⟨g, off + j', none⟩) 1 (bc - j')] 61))) hap BW0.size (j := 2) (by omega) (pc := 1) (P := [[nth 0 b j']]) (by rw [a2']; exact hP) (OK0.out.run _) (by show (runT T0 (b.take j')).2.length + _ ≤ _; simp only [List.flatten_cons, List.flatten_nil, List.append_nil, List.length_cons, List.length_nil]; omega) (by show (runT T0 (b.take j')).1.gone + 100000 < _; omega) (by show (runT T0 (b.take j')).1.bells + 100000 < _; omega) (by omega)
              rw [a2'] at this
              refine this.mono ?_
              rintro e Y ⟨he, hv', h⟩
              refine ⟨he, hv', h.congr (fun i hi => ?_)⟩
              rw [tri_2 _ _ _ _ hi]
              have e : [[nth 0 b j']].foldl runP (tri Zr Zr (runT T0 (b.take j')) 2) = runT T0 (b.take (j' + 1)) := by
                show runP (runT T0 (b.take j')) [nth 0 b j'] = _
                rw [runP_run, List.take_succ_eq_append_getElem (by omega), nth_eq _ _ _ (by omega)]
              rw [e]
            have CW4 := Lib.hid CW4
            unfold maxLen at hbc2
            have q1 : (j' : Int) < (n : Int) := by omega
            have q2 : (j' : Int) + 1 ≤ (bc : Int) := by omega
            have q3 : (j' : Int) ≤ (bc : Int) := by omega
            have q4 : ¬ j' = bc := by omega
            have q5 : j' + 1 ≤ bc := by omega
            clear hpc hB hbl hbc hst8
            go_wp2_with fail
            refine (CW4.out).mono ?_
            rintro e w8 ⟨rfl, hv9, st9⟩
            have ST9 := Lib.hid st9
            clear st9
            go_wp2
            go_roundw
            case rel => exact ⟨j' + 1, hv9, hlt8, by go_num, ST9⟩
            case measure => simp [intOf]; omega
          · obtain rfl : j' = n := by omega
            have hst9 := hst8.out
            rw [List.take_of_length_le (by rw [HN.out]; exact Nat.le_refl _), ← HZ.out] at hst9
            obtain ⟨hap, a0, a1, a2', hbk, s4, hVs, hW4⟩ := HF.out
            have p8 := PV.out.only hst9.only (fun hm => by have := (hbk _ hm).2; omega)
            have g8 : RG (fun k => k ≠ w5.heap.size) wr ra rc T0.W T0.H T0.R := (GV.out.keep hst9.only.size (fun k hk hk2 => hst9.only.block k hk2 (fun hm => by have := (hbk k hm).2; omega))).mono (fun k hk _ => by omega)
            have hwr : w5.heap.size < wr.heap.size := p8.lt
            have h6 := HC0.out
            have h7 := HN.out
            have hb8 : HA wr (.slice ba j' bc) b := (HVV.out.keep hst9.only.size (fun k hk hk2 => hst9.only.block k hk2 (fun hm => by have := (hbk k hm).1; omega))).mono (fun _ _ _ => trivial)
            have CR := rwrite_any (F := fun k => k ≠ w5.heap.size) (W := wr) (fun k hk => by omega) (bv := .slice none 0 0) (l := []) (.inl ⟨rfl, rfl⟩) hb8 OK0.out (by simp; omega) (by omega) (by omega) g8
            rw [List.nil_append, ← HZ.out] at CR
            have CRH := Lib.hid CR
            have BWr : Below W.heap.size W wr := BW0.trans (hst9.only.below (fun k hk => (hbk k hk).1) BW0.size)
            have HST9 := Lib.hid hst9
            clear hst9 hst8 CR g8 hap a0 a1 a2' hbk s4 hVs hW4 h6 h7 hb8
            go_wp2_with (refine wpList_tload rfl _ rfl w5.heap.size rfl (tCells ra rc T0 (.slice none 0 0)) ?_ rfl ?_; exact p8)
            refine (CRH.out).mono ?_
            rintro e w8 ⟨a8, c8, bv8, rfl, g9, hbv9, hb9⟩
            have p9 := p8.below hb9
            have hone := hbv9.one
            go_upto_region 23 with (refine wpList_tstore rfl _ _ rfl w5.heap.size rfl _ rfl (tCells ra rc T0 (.slice none 0 0)) ?_ rfl rfl (tCells_one _ _ _ hone) ?_; exact p9; intro w9 p10 o10)
            have CS : ∀ i, i < 3 → ∀ X, Below w9.heap.size w9 X → Calls Tryz.prog 50 #[.pointer (some ⟨(A i).b, 0, none⟩), .agg (tCells a8 c8 Zr.1 bv8)] X fun e w' => e = .returned (.bool true) ∧ Below X.heap.size X w' := fun i hi X hX => by
              obtain ⟨hap, a0, a1, a2', hbk, s4, hVs, hW4⟩ := HF.out
              have s9 := HST9.out.below hb9
              obtain ⟨t9, h9⟩ := s9.at_ i hi
              have hnew := s9.new i hi
              have hbm := blks_mem (A := A) hi
              have e3 : tri Zr Zr Zr i = Zr := by unfold tri; split; rfl; split <;> rfl
              rw [e3] at t9 h9
              have hbi := hbk _ hbm.1
              have hqi := hbk _ hbm.2
              have hpi : (A i).p ≠ w5.heap.size := by have := HPK.out i hi; omega
              have t10 := (t9.only o10 (by simp; omega) (by simp; exact hpi) (by simp; omega)).below hX
              have h10 := (h9.keep o10 (fun k e => by have := hnew k e; simp; omega)).keep (Only.of_below hX : Only [] w9 X) (fun k _ => by simp)
              have okz : TOk Zr.1 := by rw [HZ.out]; exact OK0.out.run _
              exact shows_any t10 h10 okz.toTO0 ((g9.keep o10.size (fun k hk hk2 => o10.block k hk2 (by simpa using hk))).below hX) ((hbv9.keep o10.size (fun k hk hk2 => o10.block k hk2 (by simpa using hk))).below hX)
            have A0 : A 0 = ⟨b1, p1, q1⟩ := HF.out.2.1
            have A1 : A 1 = ⟨b2, p2, q2⟩ := HF.out.2.2.1
            have A2 : A 2 = ⟨b3, p3, q3⟩ := HF.out.2.2.2.1
            have CS0 := CS 0 (by omega)
            have CS1 := CS 1 (by omega)
            have CS2 := CS 2 (by omega)
            rw [A0] at CS0
            rw [A1] at CS1
            rw [A2] at CS2
            replace CS0 := Lib.hid CS0
            replace CS1 := Lib.hid CS1
            replace CS2 := Lib.hid CS2
            have bY : Below W.heap.size W w9 := (bto BWr hb9 BWr.size).trans (o10.below (by simp; have := HF.out.2.2.2.2.2; omega) (bto BWr hb9 BWr.size).size)
            clear CS A0 A1 A2
            go_wp2_with (refine wpList_tload rfl _ rfl w5.heap.size rfl (tCells a8 c8 Zr.1 bv8) ?_ rfl ?_; exact p10)
            refine (CS0.out w9 (Below.refl _ _)).mono ?_
            rintro e w11 ⟨rfl, hb11⟩
            have p11 := p10.below hb11
            go_wp2_with (refine wpList_tloadG rfl _ rfl w5.heap.size rfl (tCells a8 c8 Zr.1 bv8) ?_ rfl ?_; exact p11)
            refine (CS1.out w11 hb11).mono ?_
            rintro e w12 ⟨rfl, hb12⟩
            have p12 := p11.below hb12
            have b12 := bnext hb11 hb12
            go_wp2_with (refine wpList_tloadG rfl _ rfl w5.heap.size rfl (tCells a8 c8 Zr.1 bv8) ?_ rfl ?_; exact p12)
            refine (CS2.out w12 b12).mono ?_
            rintro e w13 ⟨rfl, hb13⟩
            have b13 := bnext b12 hb13
            go_wp2_with (go_at_call 51; refine (awake05_any _).mono ?_; rintro e w14 ⟨rfl, hb14⟩)
            go_ret
            exact ⟨rfl, bto bY (bnext b13 hb14) bY.size⟩
end Go.Proofs.YtekodpcedjpnjaaGreat
