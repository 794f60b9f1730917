/- The reference's runes: the contract of Runes. -/
import Derived.Test.YtnakgjcmepimiaaRRune3
namespace Go.Proofs.Ytnakgjcmepimiaa
set_option linter.unusedVariables false
set_option linter.unusedSimpArgs false
open Go.RowKit Go.Shelf Go.Maps
theorem infoI32 : (Try.prog.info? 21).map (fun i => (i.zero, i.size, i.bytes)) = some (some (.int .i32 0), 1, 4) := by kernel_rfl
theorem infoInt : (Try.prog.info? 3).map (fun i => (i.zero, i.size, i.bytes)) = some (some (.int .i64 0), 1, 8) := by kernel_rfl
def runV (rs : List Nat) : List Value := rs.map (fun (r : Nat) => Value.int .i32 (r : Int))
theorem runV_snoc (rs : List Nat) (r : Nat) : runV (rs ++ [r]) = runV rs ++ [Value.int .i32 (r : Int)] := by simp [runV]
theorem runV_len (rs : List Nat) : (runV rs).length = rs.length := by simp [runV]
def RunPost (rs : List Nat) (w : World) (e : Ending) (w' : World) : Prop :=
  ∃ a n c a2 n2 c2, n = rs.length ∧ n ≤ c ∧ e = .returned (.tuple #[.slice a n c, .slice a2 n2 c2]) ∧ RowAt w'.heap.size w' a (runV rs) ∧ Below w.heap.size w w'
theorem own_row_at' {W : World} {n₀ : Nat} {e : TypeId} {a : Option Addr} {n c : Nat} {vs : List Value} (h : W.ownsRow n₀ e 1 (.slice a n c) n vs) : RowAt W.heap.size W a vs ∧ n ≤ c := by
  rcases h with ⟨hl, ⟨h1, h0⟩ | ⟨g, cap, cur, h1, hg, hc, h2, h3, h4, h5⟩⟩
  · simp only [Value.slice.injEq] at h1
    obtain ⟨rfl, rfl, rfl⟩ := h1
    have : vs = [] := List.length_eq_zero_iff.1 (by omega)
    subst this
    exact ⟨RowAt.nil _ _ _, Nat.le_refl _⟩
  · simp only [Value.slice.injEq] at h1
    obtain ⟨rfl, _, rfl⟩ := h1
    refine ⟨fun j hj => ⟨g, 0, rfl, (Array.getElem?_eq_some_iff.1 hc).1, ?_⟩, h2⟩
    unfold World.cell?
    dsimp only
    rw [hc, Nat.zero_add]
    have h6 : (cur.toList.take (n * 1))[j]? = vs[j]? := by rw [h5]
    rw [List.getElem?_take_of_lt (by omega), Array.getElem?_toList] at h6
    simp only [Option.isSome_none, Bool.false_eq_true, if_false]
    rw [h6]
    simp [nth, hj]
theorem own_below {W W' : World} {n₀ : Nat} {e : TypeId} {size : Nat} {v : Value} {n : Nat} {xs : List Value} (h : W.ownsRow n₀ e size v n xs) (hb : Below W.heap.size W W') : W'.ownsRow n₀ e size v n xs := by
  refine h.kept (grown_of_below hb) ?_
  cases hv : v.ownBlock with
  | none => exact .inl rfl
  | some k => exact .inr (fun e => by cases e)
theorem int_one (W : World) (v : Value) (t : TypeId) : ∀ (j : Nat) (u : Value), [v][j]? = some u → (W.alloc (.cells #[v] t)).cell? ((⟨W.heap.size, 0, none⟩ : Addr).add j) = some u := fun j u h => by
  match j with
  | 0 => simp only [List.getElem?_cons_zero, Option.some.injEq] at h; subst h; exact (cell_new_l W v t).1
  | j + 1 => simp at h
set_option maxRecDepth 100000 in
set_option maxHeartbeats 4000000 in
theorem refRunes_any (l : List UInt8) (b cap : Nat) (w : World) (hlen : l.length ≤ 1100000) (hcap : l.length ≤ cap) (hB : Bys w b 0 l) :
    Calls Try.prog 63 #[.slice (some ⟨b, 0, none⟩) l.length cap] w (RunPost (runesL l) w) := by
  obtain ⟨i0, hi, hz0, hz1, hz2⟩ := info_parts infoI32
  obtain ⟨j0, hj, hy0, hy1, hy2⟩ := info_parts infoInt
  have hne1 : (3 : TypeId) ≠ 21 := by decide
  have hne2 : (21 : TypeId) ≠ 3 := by decide
  have HRL := Lib.hid (runesL_len l)
  obtain ⟨z, hz⟩ : ∃ z, z = l.length := ⟨_, rfl⟩
  rw [← hz] at hlen hcap ⊢
  have HZ := Lib.hid hz
  clear hz
  go_enter Try.func63, Try.ntmps63
  go_wp2
  go_loopw [6, 4, 5] (fun i v1 v2 wr => ∃ (k : Nat) (rs : List Nat) (xs : List Value), k ≤ z ∧ i = .int .i64 (k : Int) ∧ wr.ownsRow w.heap.size 21 1 v1 rs.length (runV rs) ∧ wr.ownsRow w.heap.size 3 1 v2 rs.length xs ∧ Hid (runesL l = rs ++ runesL (l.drop k)) ∧ Below w.heap.size w wr)
    (fun i _ _ _ => z - (intOf i).toNat)
  case atStart => exact ⟨0, [], [], Nat.zero_le _, rfl, World.ownsRow_nil _ _ _ _, World.ownsRow_nil _ _ _ _, Lib.hid rfl, Below.refl _ _⟩
  case round =>
    obtain ⟨k, rs, xs, hk, rfl, ho1, ho2, hrs, hbr⟩ := hrel
    have hbs := hbr.size
    obtain ⟨a1, c1, rfl⟩ := own_slice ho1
    obtain ⟨a2, c2, rfl⟩ := own_slice ho2
    have hrl : rs.length ≤ z := by
      have h1 := congrArg List.length hrs.out
      rw [List.length_append] at h1
      have h2 := HRL.out
      rw [← HZ.out] at h2
      omega
    by_cases hlt : k < z
    · have hlt' : k < l.length := by rw [← HZ.out]; exact hlt
      have hne : l.drop k ≠ [] := by
        intro e; have := congrArg List.length e; simp at this; omega
      obtain ⟨c, t, hct⟩ := List.exists_cons_of_ne_nil hne
      have hctl : (c :: t).length = z - k := by rw [← hct, List.length_drop, HZ.out]
      have hBk : Bys w b k (c :: t) := by rw [← hct]; exact hB.drop k
      have CN := Lib.hid (fun W h => refNext_any c t b k (z - k) (cap - k) W (by simpa using hctl.symm) (by omega) (by omega) h)
      have HST : Hid (runesL (c :: t) = (stepL (c :: t)).1 :: runesL (l.drop (k + (stepL (c :: t)).2))) := Lib.hid (by
        rw [runesL_step _ (by simp), ← List.drop_drop, hct])
      have hs1 := stepL_pos (c :: t)
      have hs2 := stepL_le (c :: t) (by simp)
      rw [hctl] at hs2
      rw [hct] at hrs
      obtain ⟨q, m, hqm⟩ : ∃ q m, stepL (c :: t) = (q, m) := ⟨_, _, rfl⟩
      rw [hqm] at HST hs1 hs2
      have HQM := Lib.hid hqm
      have hkc : k < cap := by omega
      dsimp only at hs1 hs2
      clear hct hctl hne hlt' hqm hB
      go_wp2_with fail
      refine (CN.out _ (hBk.of_block (hbr.block b hBk.lt) hbs)).mono ?_
      rintro e w3 ⟨⟨r, n, mm, rfl, hm⟩, hb3⟩
      rw [HQM.out] at hm
      have hb3s := hb3.size
      have hb3' : Below w.heap.size wr w3 := hb3.mono hbs
      have ho1' := own_below ho1 hb3
      have ho2' := own_below ho2 hb3
      rcases hm with ⟨rfl, hm⟩ | ⟨rfl, hr, hn⟩
      · obtain ⟨rfl, rfl⟩ := Prod.mk.inj hm
        go_wp2_with (first
          | (at_builtin; refine wpList_append_own _ rfl (.tmp 23) (.tmp 25) 104 rfl w.heap.size 21 i0 (.int .i32 0) 1 4 Try.underlying104 hi hz0 hz1 hz2 rfl (by decide) (.slice a1 rs.length c1) rs.length (runV rs) rfl (ho1'.alloc _) ⟨w3.heap.size, 0, none⟩ 1 1 [.int .i32 65533] rfl rfl (int_one w3 _ _) (by intro u hu; rw [List.mem_singleton.1 hu]; rfl) (by unfold maxLen; omega) (by omega) (by have := hb3.size; simp; omega) ?_; intro v4 w4 ho4 hg4 _; obtain ⟨g4, c4, rfl⟩ := own_ne ho4 (by omega); have ho24 := own_other (ho2'.alloc _) (ho1'.alloc _) hne2 hg4; have hb4 : Below w.heap.size w3 w4 := ((Below.refl _ _).alloc (by omega) _).grown hg4 (by simp; omega) (fun k e => (own_row ho1' k e).1); have hb4s := hb4.size)
          | (at_builtin; refine wpList_append_own _ rfl (.tmp 27) (.tmp 29) 105 rfl w.heap.size 3 j0 (.int .i64 0) 1 8 Try.underlying105 hj hy0 hy1 hy2 rfl (by decide) (.slice a2 rs.length c2) rs.length xs rfl (ho24.alloc _) ⟨w4.heap.size, 0, none⟩ 1 1 [.int .i64 k] rfl rfl (int_one w4 _ _) (by intro u hu; rw [List.mem_singleton.1 hu]; rfl) (by unfold maxLen; omega) (by omega) (by simp; omega) ?_; intro v5 w5 ho5 hg5 _; obtain ⟨g5, c5, rfl⟩ := own_ne ho5 (by omega); have ho45 := own_other (ho4.alloc _) (ho24.alloc _) hne1 hg5; have hb5 : Below w.heap.size w4 w5 := ((Below.refl _ _).alloc (by omega) _).grown hg5 (by simp; omega) (fun k e => (own_row ho24 k e).1)))
        go_roundw
        case rel => exact ⟨k + 1, rs ++ [65533], xs ++ [.int .i64 k], by omega, by go_num, by rw [runV_snoc, List.length_append]; exact ho45, by rw [List.length_append]; exact ho5, Lib.hid (by rw [hrs.out, HST.out]; simp), ((hbr.trans hb3').trans hb4).trans hb5⟩
        case measure => simp [intOf]; omega
      · dsimp only at hr hn
        subst hr
        subst hn
        go_wp2_with (first
          | (at_builtin; refine wpList_append_own _ rfl (.tmp 23) (.tmp 25) 104 rfl w.heap.size 21 i0 (.int .i32 0) 1 4 Try.underlying104 hi hz0 hz1 hz2 rfl (by decide) (.slice a1 rs.length c1) rs.length (runV rs) rfl (ho1'.alloc _) ⟨w3.heap.size, 0, none⟩ 1 1 [.int .i32 q] rfl rfl (int_one w3 _ _) (by intro u hu; rw [List.mem_singleton.1 hu]; rfl) (by unfold maxLen; omega) (by omega) (by have := hb3.size; simp; omega) ?_; intro v4 w4 ho4 hg4 _; obtain ⟨g4, c4, rfl⟩ := own_ne ho4 (by omega); have ho24 := own_other (ho2'.alloc _) (ho1'.alloc _) hne2 hg4; have hb4 : Below w.heap.size w3 w4 := ((Below.refl _ _).alloc (by omega) _).grown hg4 (by simp; omega) (fun k e => (own_row ho1' k e).1); have hb4s := hb4.size)
          | (at_builtin; refine wpList_append_own _ rfl (.tmp 27) (.tmp 29) 105 rfl w.heap.size 3 j0 (.int .i64 0) 1 8 Try.underlying105 hj hy0 hy1 hy2 rfl (by decide) (.slice a2 rs.length c2) rs.length xs rfl (ho24.alloc _) ⟨w4.heap.size, 0, none⟩ 1 1 [.int .i64 k] rfl rfl (int_one w4 _ _) (by intro u hu; rw [List.mem_singleton.1 hu]; rfl) (by unfold maxLen; omega) (by omega) (by simp; omega) ?_; intro v5 w5 ho5 hg5 _; obtain ⟨g5, c5, rfl⟩ := own_ne ho5 (by omega); have ho45 := own_other (ho4.alloc _) (ho24.alloc _) hne1 hg5; have hb5 : Below w.heap.size w4 w5 := ((Below.refl _ _).alloc (by omega) _).grown hg5 (by simp; omega) (fun k e => (own_row ho24 k e).1)))
        go_roundw
        case rel => exact ⟨k + n, rs ++ [q], xs ++ [.int .i64 k], by omega, by go_num, by rw [runV_snoc, List.length_append]; exact ho45, by rw [List.length_append]; exact ho5, Lib.hid (by rw [hrs.out, HST.out]; simp), ((hbr.trans hb3').trans hb4).trans hb5⟩
        case measure => simp [intOf]; omega
    · obtain rfl : k = z := by omega
      have hfin : runesL l = rs := by rw [hrs.out, HZ.out, List.drop_length, runesL_nil, List.append_nil]
      have HFIN := Lib.hid hfin
      clear hfin
      go_wp2
      refine bodyPost_ret (results_tmp2 rfl _ _ _) rfl ?_
      obtain ⟨hr1, hc1⟩ := own_row_at' ho1
      exact ⟨a1, rs.length, c1, a2, rs.length, c2, by rw [HFIN.out], hc1, rfl, by rw [HFIN.out]; exact hr1, hbr⟩
end Go.Proofs.Ytnakgjcmepimiaa
