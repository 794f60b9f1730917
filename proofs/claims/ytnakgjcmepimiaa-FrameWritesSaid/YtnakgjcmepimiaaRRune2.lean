/- The reference's runes: the contracts of begins and Next. -/
import Derived.Test.YtnakgjcmepimiaaRRune1
import Derived.Test.YtnakgjcmepimiaaClus2
namespace Go.Proofs.Ytnakgjcmepimiaa
set_option linter.unusedVariables false
set_option linter.unusedSimpArgs false
open Go.RowKit Go.Shelf Go.Maps
def fromI (n : Nat) : Int := if n = 2 then 128 else if n = 3 then 2048 else if n = 4 then 65536 else 0
def fillT (c : UInt8) (t : List UInt8) (f : UInt8) : List UInt8 := t ++ List.replicate (manyL c.toNat - 1 - t.length) f
def rangeB (n : Nat) (x y : Int) : Bool := decide (fromI n ≤ y) && (decide (x ≤ 1114111) && (decide (x < 55296) || decide (57343 < y)))
def begB (c : UInt8) (t : List UInt8) : Bool := t.all tailB && rangeB (manyL c.toNat) (numI c (fillT c t 128)) (numI c (fillT c t 191))
theorem own_empty (W : World) (n₀ : Nat) (h : n₀ ≤ W.heap.size) : (W.alloc (.cells #[] 5)).ownsRow n₀ 5 1 (.slice (some ⟨W.heap.size, 0, none⟩) 0 0) 0 [] :=
  ⟨rfl, .inr ⟨W.heap.size, 0, #[], rfl, h, World.alloc_heap_new W _, Nat.le_refl _, by unfold maxLen; omega, rfl, rfl⟩⟩
theorem Bys.row {W : World} {b off : Nat} {l : List UInt8} (h : Bys W b off l) : ∀ j u, (u8v l)[j]? = some u → W.cell? ((⟨b, off, none⟩ : Addr).add j) = some u := fun j u hu => by
  have hj : j < l.length := by
    rcases Nat.lt_or_ge j l.length with h' | h'
    · exact h'
    · rw [List.getElem?_eq_none (by rw [u8v_len]; exact h')] at hu; cases hu
  have e : (⟨b, off, none⟩ : Addr).add j = ⟨b, off + j, none⟩ := by
    unfold Addr.add
    by_cases h0 : j = 0
    · simp [h0]
    · simp [h0]
  rw [e, h.at_ j hj, nth_eq _ _ _ hj]
  unfold u8v at hu
  rw [List.getElem?_map, List.getElem?_eq_getElem hj] at hu
  simpa using hu
/-- A row of bytes that the call owns holds the bytes. -/
theorem own_bys {W : World} {n₀ g c n : Nat} {l : List UInt8} (h : W.ownsRow n₀ 5 1 (.slice (some ⟨g, 0, none⟩) n c) n (u8v l)) : Bys W g 0 l := by
  have hl := h.1
  rw [u8v_len, Nat.mul_one] at hl
  rcases h.2 with ⟨e, _⟩ | ⟨g', cap, cur, e, _, hc, _, _, _, ht⟩
  · cases e
  · simp only [Value.slice.injEq, Option.some.injEq, Addr.mk.injEq] at e
    obtain ⟨⟨rfl, _⟩, _, rfl⟩ := e
    refine ⟨(Array.getElem?_eq_some_iff.1 hc).1, fun j hj => ?_⟩
    unfold World.cell?
    dsimp only
    rw [hc, Nat.zero_add]
    have h6 : (cur.toList.take (n * 1))[j]? = (u8v l)[j]? := by rw [ht]
    rw [List.getElem?_take_of_lt (by omega), Array.getElem?_toList] at h6
    simp only [Option.isSome_none, Bool.false_eq_true, if_false]
    rw [h6]
    simp [u8v, nth, hj]
/-- Two rows of the call's own, apart. -/
structure Two (n₀ : Nat) (W : World) (g1 c1 g2 c2 n : Nat) (l1 l2 : List UInt8) : Prop where
  o1 : W.ownsRow n₀ 5 1 (.slice (some ⟨g1, 0, none⟩) n c1) n (u8v l1)
  o2 : W.ownsRow n₀ 5 1 (.slice (some ⟨g2, 0, none⟩) n c2) n (u8v l2)
  ne : g1 ≠ g2
  lt1 : g1 < W.heap.size
  lt2 : g2 < W.heap.size
theorem Two.first {n₀ g1 c1 g2 c2 n : Nat} {w w1 w2 : World} {l : List UInt8} (hw : w.heap.size = n₀) (hb1 : Below n₀ w w1) (ho1 : w1.ownsRow n₀ 5 1 (.slice (some ⟨g1, 0, none⟩) n c1) n (u8v l)) (hlt1 : g1 < w1.heap.size)
    (hg : (w1.alloc (.cells #[] 5)).grownBy w2 (some w1.heap.size)) (ho2 : w2.ownsRow n₀ 5 1 (.slice (some ⟨g2, 0, none⟩) n c2) n (u8v l)) (hr : some w1.heap.size = some g2 ∨ g2 = (w1.alloc (.cells #[] 5)).heap.size) (hlt2 : g2 < w2.heap.size) : Two n₀ w2 g1 c1 g2 c2 n l l ∧ Below n₀ w w2 := by
  have hs1 := hb1.size
  have hs2 := hg.size
  rw [World.size_alloc] at hs2 hr
  refine ⟨⟨(ho1.alloc _).kept hg (.inr (fun e => ?_)), ho2, ?_, by omega, hlt2⟩, ?_⟩
  · simp only [Value.ownBlock, Option.some.injEq] at e; omega
  · rcases hr with e | e
    · simp only [Option.some.injEq] at e; omega
    · omega
  · exact (hb1.trans ((Below.refl n₀ w1).alloc (by omega) _)).grown hg (by simp; omega) (fun k e => by cases e; omega)
/-- A byte more behind each of the two. -/
theorem Two.left {n₀ g1 c1 g2 c2 n m : Nat} {W w2 : World} {l1 l2 l1' : List UInt8} {tmp : Obj} {g c : Nat} (h : Two n₀ W g1 c1 g2 c2 n l1 l2) (hg : (W.alloc tmp).grownBy w2 (some g1)) (ho : w2.ownsRow n₀ 5 1 (.slice (some ⟨g, 0, none⟩) m c) m (u8v l1'))
    (hr : some g1 = some g ∨ g = (W.alloc tmp).heap.size) (hlt : g < w2.heap.size) :
    w2.ownsRow n₀ 5 1 (.slice (some ⟨g2, 0, none⟩) n c2) n (u8v l2) ∧ g ≠ g2 ∧ g2 < w2.heap.size := by
  have hs := hg.size
  rw [World.size_alloc] at hs hr
  have h2 := h.lt2
  have hne := h.ne
  refine ⟨(h.o2.alloc _).kept hg (.inr (fun e => ?_)), ?_, by omega⟩
  · simp only [Value.ownBlock, Option.some.injEq] at e; omega
  · rcases hr with e | e
    · simp only [Option.some.injEq] at e; omega
    · omega
theorem own_lt {W : World} {n₀ g c n : Nat} {e : TypeId} {xs : List Value} (h : W.ownsRow n₀ e 1 (.slice (some ⟨g, 0, none⟩) n c) n xs) : n₀ ≤ g := by
  obtain ⟨h1, _⟩ := own_cells h g rfl
  exact h1
set_option maxRecDepth 100000 in
set_option maxHeartbeats 4000000 in
theorem begins_any (c : UInt8) (t : List UInt8) (b off n cap : Nat) (w : World) (hn : n = t.length + 1) (hm : n ≤ manyL c.toNat) (hB : Bys w b off (c :: t)) :
    Calls Try.prog 118 #[.slice (some ⟨b, off, none⟩) n cap] w fun e w' => e = .returned (.bool (begB c t)) ∧ Below w.heap.size w w' := by
  obtain ⟨i0, hi, hz0, hz1, hz2⟩ := info_parts infoU8c
  have hm4 := manyL_le c.toNat
  have hcc := hB.at_ 0 (by simp)
  rw [Nat.add_zero] at hcc
  have e0 : nth 0 (c :: t) 0 = c := rfl
  rw [e0] at hcc
  have CL := Lib.hid (fun W => rlength_any c.toNat c.toNat_lt W)
  have CT := Lib.hid (fun W (h : Bys W b off (c :: t)) => tails_any c t b off n cap W hn (by omega) h)
  obtain ⟨M, hM⟩ : ∃ M, M = manyL c.toNat := ⟨_, rfl⟩
  obtain ⟨z, hz⟩ : ∃ z, z = begB c t := ⟨_, rfl⟩
  rw [← hM] at CL hm hm4
  rw [← hz]
  unfold begB at hz
  rw [← hM] at hz
  obtain ⟨ta, hta⟩ : ∃ ta, ta = t.all tailB := ⟨_, rfl⟩
  rw [← hta] at CT hz
  have HM := Lib.hid hM
  clear hM hta
  have hnM : ¬ (M : Int) < (n : Int) := by omega
  cases ta with
  | false =>
    rw [Bool.false_and] at hz
    subst hz
    have HN := Lib.hid hn
    have h0n : 0 < n := by rw [hn]; omega
    clear hn
    go_enter Try.func118, Try.ntmps118
    go_wp2_with (first
      | (go_at_call 117; refine (CL.out _).mono ?_; rintro e w1 ⟨rfl, rfl⟩)
      | (go_at_call 137; refine (CT.out _ hB).mono ?_; rintro e w1 ⟨rfl, rfl⟩))
    go_ret
    exact ⟨rfl, Below.refl _ _⟩
  | true =>
    rw [Bool.true_and] at hz
    have HN := Lib.hid hn
    have HZ := Lib.hid hz
    have hsrc : ∀ o, ∀ j u, (u8v (c :: t))[j]? = some u → (w.alloc o).cell? ((⟨b, off, none⟩ : Addr).add j) = some u := fun o => (hB.below ((Below.refl _ _).alloc (Nat.le_refl _) o)).row
    have hul : (u8v (c :: t)).length = n := by rw [u8v_len, HN.out]; rfl
    have HUL := Lib.hid hul
    have h0n : 0 < n := by rw [hn]; omega
    clear hn hz hul
    go_enter Try.func118, Try.ntmps118
    go_wp2_with (first
      | (go_at_call 117; refine (CL.out _).mono ?_; rintro e w1 ⟨rfl, rfl⟩)
      | (go_at_call 137; refine (CT.out _ hB).mono ?_; rintro e w1 ⟨rfl, rfl⟩)
      | (at_builtin; refine wpList_append_lies _ rfl (.tmp 22) (.tmp 23) 64 rfl w.heap.size 5 i0 (.int .u8 0) 1 1 Try.underlying64 hi hz0 hz1 hz2 rfl (by decide) (.slice (some ⟨w.heap.size, 0, none⟩) 0 0) 0 [] rfl (own_empty _ _ (Nat.le_refl _)) ⟨b, off, none⟩ n cap (u8v (c :: t)) rfl (by rw [HUL.out]; omega) (hsrc _) (u8v_one _) h0n (by unfold maxLen; omega) (by omega) (by simp) _ rfl ?_; intro g1 c1 w1 ho1 hg1 hr1 hlt1; have hb1 : Below w.heap.size w w1 := ((Below.refl _ w).alloc (Nat.le_refl _) _).grown hg1 (by simp) (fun k e => by cases e; exact Nat.le_refl _); rw [Nat.zero_add, List.nil_append] at ho1)
      | (at_builtin; refine wpList_append_lies _ rfl (.tmp 25) (.tmp 26) 64 rfl w.heap.size 5 i0 (.int .u8 0) 1 1 Try.underlying64 hi hz0 hz1 hz2 rfl (by decide) (.slice (some ⟨w1.heap.size, 0, none⟩) 0 0) 0 [] rfl (own_empty _ _ hb1.size) ⟨b, off, none⟩ n cap (u8v (c :: t)) rfl (by rw [HUL.out]; omega) ((hB.below (hb1.alloc hb1.size _)).row) (u8v_one _) h0n (by unfold maxLen; omega) (by omega) (by have := hb1.size; simp; omega) _ rfl ?_; intro g2 c2 w2 ho2 hg2 hr2 hlt2; rw [Nat.zero_add, List.nil_append] at ho2; have hT2 := Two.first rfl hb1 ho1 hlt1 hg2 ho2 hr2 hlt2))
    go_loopw [4, 5] (fun v1 v2 wr => ∃ k g1 c1 g2 c2, n + k ≤ M ∧ v1 = .slice (some ⟨g1, 0, none⟩) (n + k) c1 ∧ v2 = .slice (some ⟨g2, 0, none⟩) (n + k) c2 ∧ Two w.heap.size wr g1 c1 g2 c2 (n + k) (c :: (t ++ List.replicate k 128)) (c :: (t ++ List.replicate k 191)) ∧ Below w.heap.size w wr)
      (fun v1 _ _ => match v1 with | .slice _ m _ => M - m | _ => 0)
    case atStart => exact ⟨0, g1, c1, g2, c2, by omega, rfl, rfl, by simpa using hT2.1, hT2.2⟩
    case round =>
      obtain ⟨k, g1, c1, g2, c2, hk, rfl, rfl, hT, hbr⟩ := hrel
      have hbs := hbr.size
      by_cases hlt : n + k < M
      · have hlti : (n : Int) + (k : Int) < (M : Int) := by omega
        have ho1 := hT.o1
        have ho2 := hT.o2
        have HX1 : Hid (∀ f : UInt8, u8v (c :: (t ++ List.replicate k f)) ++ [.int .u8 (f.toNat : Int)] = u8v (c :: (t ++ List.replicate (k + 1) f))) := Lib.hid (fun f => by
          have e : c :: (t ++ List.replicate (k + 1) f) = (c :: (t ++ List.replicate k f)) ++ [f] := by rw [List.replicate_succ']; simp
          rw [e, u8v_append]; rfl)
        go_wp2_with (first
          | (at_builtin; refine wpList_append_lies _ rfl (.tmp 32) (.tmp 33) 64 rfl w.heap.size 5 i0 (.int .u8 0) 1 1 Try.underlying64 hi hz0 hz1 hz2 rfl (by decide) (.slice (some ⟨g1, 0, none⟩) (n + k) c1) (n + k) (u8v (c :: (t ++ List.replicate k 128))) rfl (ho1.alloc _) ⟨wr.heap.size, 0, none⟩ 1 1 [.int .u8 128] rfl rfl (row_at wr _ _) (by intro u hu; rw [List.mem_singleton.1 hu]; rfl) (by decide) (by unfold maxLen; omega) (by omega) (by simp; omega) _ rfl ?_; intro g3 c3 w3 ho3 hg3 hr3 hlt3; obtain ⟨ho23, hne3, hlt23⟩ := hT.left hg3 (by rw [← HX1.out 128]; exact ho3) hr3 hlt3; have hb3 : Below w.heap.size w w3 := (hbr.alloc hbs _).grown hg3 (by simp; omega) (fun k e => by cases e; exact own_lt ho1))
          | (at_builtin; refine wpList_append_lies _ rfl (.tmp 35) (.tmp 36) 64 rfl w.heap.size 5 i0 (.int .u8 0) 1 1 Try.underlying64 hi hz0 hz1 hz2 rfl (by decide) (.slice (some ⟨g2, 0, none⟩) (n + k) c2) (n + k) (u8v (c :: (t ++ List.replicate k 191))) rfl (ho23.alloc _) ⟨w3.heap.size, 0, none⟩ 1 1 [.int .u8 191] rfl rfl (row_at w3 _ _) (by intro u hu; rw [List.mem_singleton.1 hu]; rfl) (by decide) (by unfold maxLen; omega) (by omega) (by have := hb3.size; simp; omega) _ rfl ?_; intro g4 c4 w4 ho4 hg4 hr4 hlt4))
        have hs4 := hg4.size
        rw [World.size_alloc] at hs4 hr4
        have hne4 : g3 ≠ g4 := by
          rcases hr4 with e | e
          · simp only [Value.ownBlock, Option.some.injEq] at e; omega
          · omega
        have ho34 := (ho3.alloc (.cells #[.int .u8 191] 5)).kept hg4 (.inr (fun e => by simp only [Value.ownBlock, Option.some.injEq] at e; omega))
        have hb4 : Below w.heap.size w w4 := (hb3.alloc hb3.size _).grown hg4 (by have := hb3.size; simp; omega) (fun k e => by cases e; exact own_lt ho23)
        refine ⟨⟨k + 1, g3, c3, g4, c4, by omega, rfl, rfl, ⟨by rw [← HX1.out 128]; exact ho34, by rw [← HX1.out 191]; exact ho4, hne4, by omega, hlt4⟩, hb4⟩, ?_⟩
        show M - (n + k + 1) < M - (n + k)
        omega
      · have hnk : n + k = M := by omega
        have hT1 := own_bys hT.o1
        have hT2 := own_bys hT.o2
        have hkk : k = M - 1 - t.length := by have := HN.out; omega
        have hf : ∀ f, t ++ List.replicate k f = fillT c t f := fun f => by unfold fillT; rw [← HM.out, hkk]
        have hfl : ∀ f, (fillT c t f).length + 1 = n + k := fun f => by rw [← hf]; simp; have := HN.out; omega
        rw [hf] at hT1 hT2
        obtain ⟨T1, hT1e⟩ : ∃ T1, T1 = fillT c t 128 := ⟨_, rfl⟩
        obtain ⟨T2, hT2e⟩ : ∃ T2, T2 = fillT c t 191 := ⟨_, rfl⟩
        have hl1 := hfl 128
        have hl2 := hfl 191
        rw [← hT1e] at hT1 hl1
        rw [← hT2e] at hT2 hl2
        have HZ2 : Hid (z = rangeB M (numI c T1) (numI c T2)) := Lib.hid (by rw [HZ.out, hT1e, hT2e])
        have CN1 := Lib.hid (fun W (h : Bys W g1 0 (c :: T1)) => number_any c T1 g1 0 (n + k) c1 W (by omega) (by omega) h)
        have CN2 := Lib.hid (fun W (h : Bys W g2 0 (c :: T2)) => number_any c T2 g2 0 (n + k) c2 W (by omega) (by omega) h)
        obtain ⟨X, hX⟩ : ∃ X, X = numI c T1 := ⟨_, rfl⟩
        obtain ⟨Y, hY⟩ : ∃ Y, Y = numI c T2 := ⟨_, rfl⟩
        rw [← hX] at CN1
        rw [← hY] at CN2
        have HZ3 : Hid (z = rangeB M X Y) := Lib.hid (by rw [HZ2.out, hX, hY])
        have hM4 : M = 1 ∨ M = 2 ∨ M = 3 ∨ M = 4 := by omega
        have HNK := Lib.hid hnk
        have hnki : (M : Int) ≤ (n : Int) + (k : Int) := by omega
        clear hnk hkk hf hfl hT1e hT2e hl1 hl2 hX hY
        go_wp2_with fail
        refine (CN1.out _ hT1).mono ?_
        rintro e w5 ⟨rfl, hb5⟩
        go_wp2_with fail
        refine (CN2.out _ (hT2.below hb5)).mono ?_
        rintro e w6 ⟨rfl, hb6⟩
        obtain ⟨F, hF⟩ : ∃ F, F = fromI M := ⟨_, rfl⟩
        have hfrom : (w6.alloc (.cells #[.int .i32 0, .int .i32 0, .int .i32 128, .int .i32 2048, .int .i32 65536] 21)).cell? ⟨w6.heap.size, M, none⟩ = some (.int .i32 F) := by
          have hblk : (w6.alloc (.cells #[.int .i32 0, .int .i32 0, .int .i32 128, .int .i32 2048, .int .i32 65536] 21)).heap[w6.heap.size]? = some (.cells #[.int .i32 0, .int .i32 0, .int .i32 128, .int .i32 2048, .int .i32 65536] 21 (0, 0)) := World.alloc_heap_new w6 _
          rw [hF]
          rcases hM4 with e | e | e | e
          all_goals (rw [e]; exact blk_at1 hblk rfl)
        have HF := Lib.hid hF
        clear hF hM4
        go_wp2_with fail
        all_goals go_ret
        all_goals refine ⟨ret_bool ?_, (bto (bto hbr hb5 hbs) hb6 (by have := hb5.size; omega)).alloc (by have := hb5.size; have := hb6.size; omega) _⟩
        all_goals rw [HZ3.out]
        all_goals unfold rangeB
        all_goals rw [← HF.out]
        all_goals (rw [Bool.eq_iff_iff]; simp only [decide_eq_true_eq, Bool.or_eq_true, Bool.and_eq_true, Bool.false_eq_true, false_iff, true_iff]; omega)
/-! ### what they say of the first rune -/
theorem tail_iff (x : UInt8) : tailB x = true ↔ 128 ≤ x.toNat ∧ x.toNat ≤ 191 := by unfold tailB; rw [decide_eq_true_eq]
/-- All bytes of the rune are there: it begins one just if it is one. -/
theorem beg_full (c : UInt8) (t : List UInt8) (h1 : 1 ≤ manyL c.toNat) (hl : t.length + 1 = manyL c.toNat) (u : List UInt8) :
    (begB c t = true → stepL (c :: (t ++ u)) = ((numI c t).toNat, manyL c.toNat) ∧ 0 ≤ numI c t) ∧ (begB c t = false → stepL (c :: (t ++ u)) = (65533, 1)) := by
  have hc := c.toNat_lt
  have hf : ∀ f, fillT c t f = t := fun f => by unfold fillT; rw [← hl]; simp
  unfold begB
  rw [hf, hf]
  unfold manyL at h1 hl
  by_cases c1 : c.toNat < 128
  · rw [if_pos c1] at hl
    have ht : t = [] := List.length_eq_zero_iff.1 (by omega)
    subst ht
    have hm : manyL c.toNat = 1 := by unfold manyL; rw [if_pos c1]
    have hnum : numI c [] = (c.toNat : Int) := by unfold numI numTo headI; simp
    rw [hm, hnum]
    have hr : rangeB 1 (c.toNat : Int) (c.toNat : Int) = true := by
      unfold rangeB fromI
      simp; omega
    refine ⟨fun _ => ⟨?_, by omega⟩, fun h => ?_⟩
    · show stepL (c :: u) = _
      unfold stepL; dsimp only; rw [if_pos c1]; simp
    · rw [hr] at h; simp at h
  · rw [if_neg c1] at hl h1
    by_cases c2 : c.toNat < 194
    · rw [if_pos c2] at h1; omega
    · rw [if_neg c2] at hl h1
      by_cases c3 : c.toNat < 224
      · rw [if_pos c3] at hl
        match t, hl with
        | [b], _ =>
          have hb := b.toNat_lt
          have hm : manyL c.toNat = 2 := by unfold manyL; rw [if_neg c1, if_neg c2, if_pos c3]
          have hnum : numI c [b] = ((c.toNat : Int) - 192) * 64 + (b.toNat : Int) % 64 := by unfold numI; simp [numTo, headI, nth]
          have hst : stepL (c :: ([b] ++ u)) = if tail1 b 128 191 then (c.toNat % 32 * 64 + b.toNat % 64, 2) else (65533, 1) := by
            show stepL (c :: b :: u) = _
            unfold stepL; dsimp only
            rw [if_neg c1, if_neg c2, if_pos c3]
          have ht : tail1 b 128 191 = tailB b := rfl
          rw [hm, hnum, hst, ht]
          simp only [List.all_cons, List.all_nil, Bool.and_true]
          cases hq : tailB b with
          | false => simp
          | true =>
            have hq' := (tail_iff b).1 hq
            have hr : rangeB 2 (((c.toNat : Int) - 192) * 64 + (b.toNat : Int) % 64) (((c.toNat : Int) - 192) * 64 + (b.toNat : Int) % 64) = true := by
              unfold rangeB fromI
              simp; omega
            rw [hr]
            refine ⟨fun _ => ⟨?_, by omega⟩, fun h => by simp at h⟩
            rw [if_pos rfl, Prod.mk.injEq]
            exact ⟨by omega, rfl⟩
      · rw [if_neg c3] at hl h1
        by_cases c4 : c.toNat < 240
        · rw [if_pos c4] at hl
          match t, hl with
          | [b, d], _ =>
            have hb := b.toNat_lt
            have hd := d.toNat_lt
            have hm : manyL c.toNat = 3 := by unfold manyL; rw [if_neg c1, if_neg c2, if_neg c3, if_pos c4]
            have hnum : numI c [b, d] = (((c.toNat : Int) - 224) * 64 + (b.toNat : Int) % 64) * 64 + (d.toNat : Int) % 64 := by unfold numI; simp [numTo, headI, nth]
            have hst : stepL (c :: ([b, d] ++ u)) = if tail1 b (lo1 c.toNat) (hi1 c.toNat) && tail1 d 128 191 then ((c.toNat % 16 * 64 + b.toNat % 64) * 64 + d.toNat % 64, 3) else (65533, 1) := by
              show stepL (c :: b :: d :: u) = _
              unfold stepL; dsimp only
              rw [if_neg c1, if_neg c2, if_neg c3, if_pos c4]
            have ht : tail1 d 128 191 = tailB d := rfl
            rw [hm, hnum, hst, ht]
            simp only [List.all_cons, List.all_nil, Bool.and_true]
            cases hqd : tailB d with
            | false => simp
            | true =>
              have hqd' := (tail_iff d).1 hqd
              cases hqb : tailB b with
              | false =>
                have hqb' : ¬ (128 ≤ b.toNat ∧ b.toNat ≤ 191) := by rw [← tail_iff, hqb]; simp
                have : tail1 b (lo1 c.toNat) (hi1 c.toNat) = false := by
                  unfold tail1 lo1 hi1
                  refine decide_eq_false (fun h => hqb' ?_)
                  obtain ⟨h5, h6⟩ := h
                  (repeat' split at h5) <;> (repeat' split at h6) <;> omega
                rw [this]; simp
              | true =>
                have hqb' := (tail_iff b).1 hqb
                simp only [Bool.and_true, Bool.true_and]
                have key : rangeB 3 ((((c.toNat : Int) - 224) * 64 + (b.toNat : Int) % 64) * 64 + (d.toNat : Int) % 64) ((((c.toNat : Int) - 224) * 64 + (b.toNat : Int) % 64) * 64 + (d.toNat : Int) % 64) = tail1 b (lo1 c.toNat) (hi1 c.toNat) := by
                  have hlo : lo1 c.toNat = if c.toNat = 224 then 160 else 128 := by unfold lo1; rw [if_neg (by omega : ¬ c.toNat = 240)]
                  have hhi : hi1 c.toNat = if c.toNat = 237 then 159 else 191 := by unfold hi1; rw [if_neg (by omega : ¬ c.toNat = 244)]
                  have hf3 : fromI 3 = 2048 := rfl
                  rw [hlo, hhi]
                  unfold rangeB tail1
                  rw [hf3, Bool.eq_iff_iff]
                  simp only [decide_eq_true_eq, Bool.or_eq_true, Bool.and_eq_true]
                  by_cases e1 : c.toNat = 224
                  · rw [if_pos e1, if_neg (by omega : ¬ c.toNat = 237)]; omega
                  · rw [if_neg e1]
                    by_cases e2 : c.toNat = 237
                    · rw [if_pos e2]; omega
                    · rw [if_neg e2]; omega
                rw [key]
                refine ⟨fun h => ⟨?_, by omega⟩, fun h => ?_⟩
                · rw [h, if_pos rfl, Prod.mk.injEq]
                  exact ⟨by omega, rfl⟩
                · rw [h]; rfl
        · rw [if_neg c4] at hl h1
          by_cases c5 : c.toNat < 245
          · rw [if_pos c5] at hl
            match t, hl with
            | [b, d, e], _ =>
              have hb := b.toNat_lt
              have hd := d.toNat_lt
              have he := e.toNat_lt
              have hm : manyL c.toNat = 4 := by unfold manyL; rw [if_neg c1, if_neg c2, if_neg c3, if_neg c4, if_pos c5]
              have hnum : numI c [b, d, e] = ((((c.toNat : Int) - 240) * 64 + (b.toNat : Int) % 64) * 64 + (d.toNat : Int) % 64) * 64 + (e.toNat : Int) % 64 := by unfold numI; simp [numTo, headI, nth]
              have hst : stepL (c :: ([b, d, e] ++ u)) = if tail1 b (lo1 c.toNat) (hi1 c.toNat) && (tail1 d 128 191 && tail1 e 128 191) then (((c.toNat % 8 * 64 + b.toNat % 64) * 64 + d.toNat % 64) * 64 + e.toNat % 64, 4) else (65533, 1) := by
                show stepL (c :: b :: d :: e :: u) = _
                unfold stepL; dsimp only
                rw [if_neg c1, if_neg c2, if_neg c3, if_neg c4, if_pos c5]
              have ht : ∀ x, tail1 x 128 191 = tailB x := fun _ => rfl
              rw [hm, hnum, hst, ht, ht]
              simp only [List.all_cons, List.all_nil, Bool.and_true]
              cases hqd : tailB d with
              | false => simp
              | true =>
                have hqd' := (tail_iff d).1 hqd
                cases hqe : tailB e with
                | false => simp
                | true =>
                  have hqe' := (tail_iff e).1 hqe
                  cases hqb : tailB b with
                  | false =>
                    have hqb' : ¬ (128 ≤ b.toNat ∧ b.toNat ≤ 191) := by rw [← tail_iff, hqb]; simp
                    have : tail1 b (lo1 c.toNat) (hi1 c.toNat) = false := by
                      unfold tail1 lo1 hi1
                      refine decide_eq_false (fun h => hqb' ?_)
                      obtain ⟨h5, h6⟩ := h
                      (repeat' split at h5) <;> (repeat' split at h6) <;> omega
                    rw [this]; simp
                  | true =>
                    have hqb' := (tail_iff b).1 hqb
                    simp only [Bool.and_true, Bool.true_and]
                    have key : rangeB 4 (((((c.toNat : Int) - 240) * 64 + (b.toNat : Int) % 64) * 64 + (d.toNat : Int) % 64) * 64 + (e.toNat : Int) % 64) (((((c.toNat : Int) - 240) * 64 + (b.toNat : Int) % 64) * 64 + (d.toNat : Int) % 64) * 64 + (e.toNat : Int) % 64) = tail1 b (lo1 c.toNat) (hi1 c.toNat) := by
                      have hlo : lo1 c.toNat = if c.toNat = 240 then 144 else 128 := by unfold lo1; rw [if_neg (by omega : ¬ c.toNat = 224)]
                      have hhi : hi1 c.toNat = if c.toNat = 244 then 143 else 191 := by unfold hi1; rw [if_neg (by omega : ¬ c.toNat = 237)]
                      have hf3 : fromI 4 = 65536 := rfl
                      rw [hlo, hhi]
                      unfold rangeB tail1
                      rw [hf3, Bool.eq_iff_iff]
                      simp only [decide_eq_true_eq, Bool.or_eq_true, Bool.and_eq_true]
                      by_cases e1 : c.toNat = 240
                      · rw [if_pos e1, if_neg (by omega : ¬ c.toNat = 244)]; omega
                      · rw [if_neg e1]
                        by_cases e2 : c.toNat = 244
                        · rw [if_pos e2]; omega
                        · rw [if_neg e2]; omega
                    rw [key]
                    refine ⟨fun h => ⟨?_, by omega⟩, fun h => ?_⟩
                    · rw [h, if_pos rfl, Prod.mk.injEq]
                      exact ⟨by omega, rfl⟩
                    · rw [h]; rfl
          · rw [if_neg c5] at h1; omega
end Go.Proofs.Ytnakgjcmepimiaa
