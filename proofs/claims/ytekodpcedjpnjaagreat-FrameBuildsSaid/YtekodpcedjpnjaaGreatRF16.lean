/- Rows that are whole: told place by place. Plain. Whole rows stay whole when a place is set. Plain. Whole rows stay whole under put and erase. Plain. Fill and Text on rows and on the flat list: the same. Plain. All rows of a builder stay whole. Plain. Fill and Text leave whole rows. Plain. The rows of the flat list are the rows. Plain. -/
import Derived.Test.YtekodpcedjpnjaaGreatFrame9
import Derived.Test.YtekodpcedjpnjaaGreatTermP
import Derived.Test.YtekodpcedjpnjaaGreatRF3
import Derived.Test.YtekodpcedjpnjaaGreatRF9
namespace Go.Proofs.YtekodpcedjpnjaaGreat
set_option linter.unusedVariables false
set_option linter.unusedSimpArgs false
/-- A place of a row that is whole. -/
def OkAt (M : List GC) (i : Nat) : Prop :=
  (okB (nth GC.zero M i) = true ∧ ((nth GC.zero M i).w = 1 ∨ (i + 1 < M.length ∧ nth GC.zero M (i + 1) = GC.tail (nth GC.zero M i).y))) ∨
  (0 < i ∧ (nth GC.zero M (i - 1)).w = 2 ∧ nth GC.zero M i = GC.tail (nth GC.zero M (i - 1)).y)
def GRow (M : List GC) : Prop := ∀ i, i < M.length → OkAt M i
theorem okB_w {c : GC} (h : okB c = true) : c.w = 1 ∨ c.w = 2 := by
  unfold okB at h
  simp only [Bool.and_eq_true, decide_eq_true_eq] at h
  exact h.2.1
theorem GRow.from_ {M : List GC} (g : GRow M) : ∀ (n i : Nat), M.length - i = n → (M.length ≤ i ∨ (nth GC.zero M i).w ≠ 0) → wholeB (M.drop i) = true := by
  intro n
  induction n using Nat.strongRecOn with
  | _ n ih =>
    intro i hn hi
    by_cases hl : M.length ≤ i
    · rw [List.drop_eq_nil_of_le hl]; rfl
    · have hil : i < M.length := by omega
      have hw : (nth GC.zero M i).w ≠ 0 := by rcases hi with h | h; exact absurd h hl; exact h
      have hd : M.drop i = nth GC.zero M i :: M.drop (i + 1) := by rw [nth_eq _ _ _ hil]; exact (List.drop_eq_getElem_cons hil)
      rcases g i hil with ⟨h1, h2⟩ | ⟨_, _, h3⟩
      · rw [hd, wholeB_cons, h1, Bool.true_and]
        by_cases h4 : (nth GC.zero M i).w = 1
        · rw [if_pos h4]
          refine ih (M.length - (i + 1)) (by omega) (i + 1) rfl ?_
          by_cases hl2 : M.length ≤ i + 1
          · exact .inl hl2
          · refine .inr fun h0 => ?_
            rcases g (i + 1) (by omega) with ⟨h5, _⟩ | ⟨_, h6, _⟩
            · rcases okB_w h5 with h | h <;> omega
            · rw [Nat.add_sub_cancel] at h6; omega
        · rw [if_neg h4]
          obtain ⟨h5, h6⟩ := h2.resolve_left h4
          have hd2 : M.drop (i + 1) = nth GC.zero M (i + 1) :: M.drop (i + 1 + 1) := by rw [nth_eq _ _ _ h5]; exact (List.drop_eq_getElem_cons h5)
          rw [hd2, wholeTl, h6]
          have e1 : eqC (GC.tail (nth GC.zero M i).y) (GC.tail (nth GC.zero M i).y) = true := by
            have := eqL_self [GC.tail (nth GC.zero M i).y]
            simpa [eqL] using this
          rw [e1, Bool.true_and]
          refine ih (M.length - (i + 1 + 1)) (by omega) (i + 1 + 1) rfl ?_
          by_cases hl2 : M.length ≤ i + 1 + 1
          · exact .inl hl2
          · refine .inr fun h0 => ?_
            rcases g (i + 1 + 1) (by omega) with ⟨h7, _⟩ | ⟨_, h8, _⟩
            · rcases okB_w h7 with h | h <;> omega
            · rw [Nat.add_sub_cancel, h6] at h8
              exact absurd h8 (by simp [GC.tail])
      · rw [h3] at hw
        exact absurd rfl hw
theorem GRow.whole {M : List GC} (g : GRow M) : wholeB M = true := by
  have h := g.from_ (M.length - 0) 0 rfl
  rw [List.drop_zero] at h
  refine h ?_
  by_cases hl : M.length ≤ 0
  · exact .inl hl
  · refine .inr fun h0 => ?_
    rcases g 0 (by omega) with ⟨h1, _⟩ | ⟨h2, _⟩
    · rcases okB_w h1 with h | h <;> omega
    · exact absurd h2 (by omega)
end Go.Proofs.YtekodpcedjpnjaaGreat
namespace Go.Proofs.YtekodpcedjpnjaaGreat
set_option linter.unusedVariables false
set_option linter.unusedSimpArgs false
theorem nth_setF (M : List GC) (i j : Nat) (x : GC) (hi : i < M.length) : nth GC.zero (M.set i x) j = if i = j then x else nth GC.zero M j := by
  unfold nth
  simp only [List.getD_eq_getElem?_getD, List.getElem?_set]
  split
  · rename_i h; subst h; simp [hi]
  · rfl
theorem okB_blank : okB GC.blank = true := by decide
/-- A narrow place becomes another narrow one. -/
theorem GRow.one {M : List GC} (g : GRow M) {c : Nat} (hc : c < M.length) (h1 : (nth GC.zero M c).w = 1) {d : GC} (hd : okB d = true) (hd1 : d.w = 1) : GRow (M.set c d) := by
  intro i hi
  rw [List.length_set] at hi
  unfold OkAt
  rw [nth_setF _ _ _ _ hc, nth_setF _ _ _ _ hc, nth_setF _ _ _ _ hc, List.length_set]
  by_cases hic : c = i
  · rw [if_pos hic]; exact .inl ⟨hd, .inl hd1⟩
  · rw [if_neg hic]
    rcases g i hi with ⟨h2, h3⟩ | ⟨h2, h3, h4⟩
    · refine .inl ⟨h2, ?_⟩
      rcases h3 with h3 | ⟨h3, h4⟩
      · exact .inl h3
      · refine .inr ⟨h3, ?_⟩
        rw [if_neg (fun e => by rw [← e] at h4; rw [h4] at h1; exact absurd h1 (by simp [GC.tail]))]
        exact h4
    · refine .inr ⟨h2, ?_⟩
      rw [if_neg (fun e => by rw [← e] at h3; omega)]
      exact ⟨h3, h4⟩
/-- A wide place and its tail become two narrow ones. -/
theorem GRow.split {M : List GC} (g : GRow M) {c : Nat} (hc : c + 1 < M.length) (h1 : (nth GC.zero M c).w = 2) {d e : GC} (hd : okB d = true) (hd1 : d.w = 1) (he : okB e = true) (he1 : e.w = 1) : GRow ((M.set c d).set (c + 1) e) := by
  intro i hi
  have hc0 : c < M.length := by omega
  have hc1 : c + 1 < (M.set c d).length := by rw [List.length_set]; exact hc
  rw [List.length_set, List.length_set] at hi
  unfold OkAt
  rw [nth_setF _ _ _ _ hc1, nth_setF _ _ _ _ hc1, nth_setF _ _ _ _ hc1, nth_setF _ _ _ _ hc0, nth_setF _ _ _ _ hc0, nth_setF _ _ _ _ hc0, List.length_set, List.length_set]
  by_cases h2 : c + 1 = i
  · rw [if_pos h2]; exact .inl ⟨he, .inl he1⟩
  · rw [if_neg h2]
    by_cases h3 : c = i
    · rw [if_pos h3]; exact .inl ⟨hd, .inl hd1⟩
    · rw [if_neg h3]
      rcases g i hi with ⟨h4, h5⟩ | ⟨h4, h5, h6⟩
      · refine .inl ⟨h4, ?_⟩
        rcases h5 with h5 | ⟨h5, h6⟩
        · exact .inl h5
        · refine .inr ⟨h5, ?_⟩
          rw [if_neg (by omega), if_neg (fun e => by rw [← e] at h6; rw [h6] at h1; exact absurd h1 (by simp [GC.tail]))]
          exact h6
      · refine .inr ⟨h4, ?_⟩
        have n1 : ¬ c + 1 = i - 1 := fun e => by
          rw [← e] at h5
          rcases g c hc0 with ⟨_, h7⟩ | ⟨_, _, h7⟩
          · rcases h7 with h7 | ⟨_, h7⟩
            · omega
            · rw [h7] at h5; exact absurd h5 (by simp [GC.tail])
          · rw [h7] at h1; exact absurd h1 (by simp [GC.tail])
        rw [if_neg n1, if_neg (by omega)]
        exact ⟨h5, h6⟩
/-- Two narrow places become a wide one and its tail. -/
theorem GRow.two {M : List GC} (g : GRow M) {c : Nat} (hc : c + 1 < M.length) (h1 : (nth GC.zero M c).w = 1) (h2 : (nth GC.zero M (c + 1)).w = 1) {d : GC} (hd : okB d = true) (hd1 : d.w = 2) : GRow ((M.set (c + 1) (GC.tail d.y)).set c d) := by
  intro i hi
  have hc0 : c < (M.set (c + 1) (GC.tail d.y)).length := by rw [List.length_set]; omega
  rw [List.length_set, List.length_set] at hi
  unfold OkAt
  rw [nth_setF _ _ _ _ hc0, nth_setF _ _ _ _ hc0, nth_setF _ _ _ _ hc0, nth_setF _ _ _ _ hc, nth_setF _ _ _ _ hc, nth_setF _ _ _ _ hc, List.length_set, List.length_set]
  by_cases h3 : c = i
  · subst h3
    rw [if_pos rfl, if_neg (by omega), if_pos rfl]
    exact .inl ⟨hd, .inr ⟨hc, rfl⟩⟩
  · rw [if_neg h3]
    by_cases h4 : c + 1 = i
    · subst h4
      rw [Nat.add_sub_cancel]
      simp only [if_true]
      exact .inr ⟨by omega, hd1, trivial⟩
    · rw [if_neg h4]
      rcases g i hi with ⟨h5, h6⟩ | ⟨h5, h6, h7⟩
      · refine .inl ⟨h5, ?_⟩
        rcases h6 with h6 | ⟨h6, h7⟩
        · exact .inl h6
        · refine .inr ⟨h6, ?_⟩
          rw [if_neg (fun e => by rw [← e] at h7; rw [h7] at h1; exact absurd h1 (by simp [GC.tail])), if_neg (by omega)]
          exact h7
      · refine .inr ⟨h5, ?_⟩
        rw [if_neg (fun e => by rw [← e] at h6; omega), if_neg (fun e => by rw [← e] at h6; omega)]
        exact ⟨h6, h7⟩
end Go.Proofs.YtekodpcedjpnjaaGreat
namespace Go.Proofs.YtekodpcedjpnjaaGreat
set_option linter.unusedVariables false
set_option linter.unusedSimpArgs false
theorem GRow.wipe {M : List GC} (g : GRow M) {c : Nat} (hc : c < M.length) : GRow (wipeL M 0 M.length c) ∧ (nth GC.zero (wipeL M 0 M.length c) c).w = 1 := by
  unfold wipeL
  simp only [Nat.zero_add]
  have hb1 : GC.blank.w = 1 := rfl
  by_cases h2 : (nth GC.zero M c).w = 2
  · have h3 : c + 1 < M.length := by
      rcases g c hc with ⟨_, h4⟩ | ⟨_, _, h4⟩
      · rcases h4 with h4 | ⟨h4, _⟩
        · omega
        · exact h4
      · rw [h4] at h2; exact absurd h2 (by simp [GC.tail])
    rw [if_pos ⟨h2, h3⟩]
    refine ⟨g.split h3 h2 okB_blank hb1 okB_blank hb1, ?_⟩
    rw [nth_setF _ _ _ _ (by rw [List.length_set]; exact h3), if_neg (by omega), nth_setF _ _ _ _ hc, if_pos rfl]; rfl
  · rw [if_neg (fun e => h2 e.1)]
    by_cases h0 : (nth GC.zero M c).w = 0
    · rcases g c hc with ⟨h4, _⟩ | ⟨h4, h5, h6⟩
      · rcases okB_w h4 with h | h <;> omega
      · rw [if_pos ⟨h0, h4⟩]
        have e1 : c - 1 + 1 = c := by omega
        have h7 := g.split (c := c - 1) (by omega) h5 okB_blank hb1 okB_blank hb1
        rw [e1, List.set_comm _ _ (by omega)] at h7
        refine ⟨h7, ?_⟩
        rw [nth_setF _ _ _ _ (by rw [List.length_set]; omega), if_neg (by omega), nth_setF _ _ _ _ hc, if_pos rfl]; rfl
    · rw [if_neg (fun e => h0 e.1)]
      have h1 : (nth GC.zero M c).w = 1 := by
        rcases g c hc with ⟨h4, _⟩ | ⟨_, _, h4⟩
        · rcases okB_w h4 with h | h
          · exact h
          · exact absurd h h2
        · exact absurd (by rw [h4]; rfl) h0
      refine ⟨g.one hc h1 okB_blank hb1, ?_⟩
      rw [nth_setF _ _ _ _ hc, if_pos rfl]; rfl
theorem GRow.put {M : List GC} (g : GRow M) {c : Nat} {s : ByteArray} {wd : Int} {y : Sy} (hc : c < M.length) (h2 : wd = 2 → c + 1 < M.length) (hd : okB ⟨s, wd, y⟩ = true) : GRow (putL M M.length 0 c s wd y) := by
  unfold putL
  simp only [Nat.zero_add]
  obtain ⟨g1, w1⟩ := g.wipe hc
  have l1 : (wipeL M 0 M.length c).length = M.length := wipeL_length _ _ _ _
  by_cases hw : wd = 2
  · subst hw
    rw [if_pos rfl]
    have hc1 := h2 rfl
    have hp := g1.wipe (c := c + 1) (by rw [l1]; exact hc1)
    rw [l1] at hp
    obtain ⟨g2, w2⟩ := hp
    have l2 : (wipeL (wipeL M 0 M.length c) 0 M.length (c + 1)).length = M.length := by rw [wipeL_length, l1]
    refine g2.two (by rw [l2]; exact hc1) ?_ w2 hd rfl
    generalize wipeL M 0 M.length c = N at *
    have hw1 : (nth GC.zero N (c + 1)).w = 0 → False := fun h0 => by
      rcases g1 (c + 1) (by omega) with ⟨h4, _⟩ | ⟨_, h5, _⟩
      · rcases okB_w h4 with h | h <;> omega
      · rw [Nat.add_sub_cancel] at h5; omega
    unfold wipeL
    simp only [Nat.zero_add]
    split
    · rename_i h
      rw [nth_setF _ _ _ _ (by rw [List.length_set]; omega), if_neg (by omega), nth_setF _ _ _ _ (by omega), if_neg (by omega)]; exact w1
    · split
      · rename_i h; exact absurd h.1 (fun e => hw1 e)
      · rw [nth_setF _ _ _ _ (by omega), if_neg (by omega)]; exact w1
  · rw [if_neg hw]
    have hw1 : wd = 1 := by rcases okB_w hd with h | h; exact h; exact absurd h hw
    exact g1.one (by rw [l1]; exact hc) w1 hd hw1
end Go.Proofs.YtekodpcedjpnjaaGreat
namespace Go.Proofs.YtekodpcedjpnjaaGreat
set_option linter.unusedVariables false
set_option linter.unusedSimpArgs false
open Go.RowKit Go.Shelf Go.Maps
theorem fillK_flat {w h : Nat} {R : List (List GC)} (ok : RowsOk w h R) (r f : Int) (y : Sy) : ∀ k, RowsOk w h (fillK w h r f y R k) ∧ (fillK w h r f y R k).flatten = fillG w h r f y R.flatten k
  | 0 => ⟨ok, rfl⟩
  | k + 1 => by
    obtain ⟨h1, h2⟩ := fillK_flat ok r f y k
    exact ⟨h1.put _ _ _ _ _, by unfold fillK fillG; rw [h1.put_flat, h2]⟩
theorem putsR_flat {w h : Nat} {R : List (List GC)} (ok : RowsOk w h R) (r c : Int) (y : Sy) (C : List (List UInt8)) : ∀ k, RowsOk w h (putsR w h r c y C k R) ∧ (putsR w h r c y C k R).flatten = putsG w h r c y C k R.flatten
  | 0 => ⟨ok, rfl⟩
  | k + 1 => by
    obtain ⟨h1, h2⟩ := putsR_flat ok r c y C k
    exact ⟨h1.put _ _ _ _ _, by unfold putsR putsG; rw [h1.put_flat, h2]⟩
theorem fillK_ROk {w h : Nat} {R : List (List GC)} (ok : RowsOk w h R) (o : ROk R) (r f : Int) (y : Sy) : ∀ k, ROk (fillK w h r f y R k)
  | 0 => o
  | k + 1 => ROk.put (fillK_flat ok r f y k).1 (fillK_ROk ok o r f y k) _ _ _ _ _
theorem putsR_ROk {w h : Nat} {R : List (List GC)} (ok : RowsOk w h R) (o : ROk R) (r c : Int) (y : Sy) (C : List (List UInt8)) : ∀ k, ROk (putsR w h r c y C k R)
  | 0 => o
  | k + 1 => ROk.put (putsR_flat ok r c y C k).1 (putsR_ROk ok o r c y C k) _ _ _ _ _
end Go.Proofs.YtekodpcedjpnjaaGreat
namespace Go.Proofs.YtekodpcedjpnjaaGreat
set_option linter.unusedVariables false
set_option linter.unusedSimpArgs false
def GRows (R : List (List GC)) : Prop := ∀ M ∈ R, GRow M
theorem GRows.set {R : List (List GC)} (g : GRows R) (i : Nat) {M : List GC} (hM : GRow M) : GRows (R.set i M) := fun N hN => by
  rcases List.mem_or_eq_of_mem_set hN with h | h
  · exact g N h
  · rw [h]; exact hM
theorem GRow.blank (w : Nat) : GRow (List.replicate w GC.blank) := fun i hi => by
  rw [List.length_replicate] at hi
  have e : nth GC.zero (List.replicate w GC.blank) i = GC.blank := by
    rw [nth_eq _ _ _ (by simpa using hi)]; simp
  refine .inl ⟨?_, .inl ?_⟩
  · rw [e]; exact okB_blank
  · rw [e]; rfl
theorem GRows.blank (w h : Nat) : GRows (List.replicate h (List.replicate w GC.blank)) := fun M hM => by
  rw [List.eq_of_mem_replicate hM]; exact GRow.blank w
theorem GRows.put {w h : Nat} {R : List (List GC)} (ok : RowsOk w h R) (g : GRows R) (r c : Int) {s : ByteArray} {wd : Int} {y : Sy} (hd : okB ⟨s, wd, y⟩ = true) : GRows (putR w h R r c s wd y) := by
  unfold putR
  split
  · rename_i h0
    obtain ⟨_, _, _, h1, h2, h3, h4, h5⟩ := putErr_0 h0
    refine g.set _ ?_
    have hr : r.toNat < h := by omega
    have hl := ok.at hr
    have hm : GRow (nth [] R r.toNat) := g _ (by rw [nth_eq _ _ _ (by rw [ok.n]; exact hr)]; exact List.getElem_mem _)
    have hp := hm.put (c := c.toNat) (s := s) (wd := wd) (y := y) (by rw [hl]; omega) (fun e => by have := h5 e; rw [hl]; omega) hd
    rw [hl] at hp
    exact hp
  · exact g
theorem GRow.wipes {w : Nat} : ∀ (n i : Nat) {M : List GC}, M.length = w → GRow M → i + n ≤ w → GRow (wipes 0 w i n M)
  | 0, _, _, _, g, _ => g
  | n + 1, i, M, hl, g, hi => by
    have hw := (g.wipe (c := i) (by omega)).1
    rw [hl] at hw
    exact GRow.wipes n (i + 1) (by rw [wipeL_length, hl]) hw (by omega)
theorem GRows.erase {w h : Nat} {R : List (List GC)} (ok : RowsOk w h R) (g : GRows R) (r a b : Int) : GRows (eraseR w h R r a b) := by
  unfold eraseR
  split
  · rename_i h0
    refine g.set _ ?_
    have hr : r.toNat < h := by omega
    have hl := ok.at hr
    have hm : GRow (nth [] R r.toNat) := g _ (by rw [nth_eq _ _ _ (by rw [ok.n]; exact hr)]; exact List.getElem_mem _)
    unfold eraseL
    by_cases h1 : (max 0 a).toNat ≤ (min b w).toNat
    · exact GRow.wipes _ _ hl hm (by omega)
    · have e : (min b (w : Int)).toNat - (max 0 a).toNat = 0 := by omega
      rw [e]; exact hm
  · exact g
end Go.Proofs.YtekodpcedjpnjaaGreat
namespace Go.Proofs.YtekodpcedjpnjaaGreat
set_option linter.unusedVariables false
set_option linter.unusedSimpArgs false
open Go.RowKit Go.Shelf Go.Maps
theorem okB_space {y : Sy} (hy : mayF y = true) : okB ⟨⟨#[32]⟩, 1, y⟩ = true := by
  have h := okB_blank
  unfold okB at h ⊢
  simp only [Bool.and_eq_true] at h ⊢
  exact ⟨hy, h.2⟩
theorem okB_clu {x : List UInt8} {y : Sy} (h : Clu x) (hy : mayF y = true) : okB ⟨S x, colsL x, y⟩ = true := by
  have hl := h.len
  have hc := h.cols
  unfold okB
  simp only [Bool.and_eq_true, decide_eq_true_eq]
  have e : (S x).data.toList = x := by simp [S]
  rw [e]
  refine ⟨hy, by omega, isCl_of h, widthL_cluF h, ?_⟩
  rw [S_size]; omega
theorem GRows.fill {w h : Nat} {R : List (List GC)} (ok : RowsOk w h R) (g : GRows R) (r f : Int) {y : Sy} (hy : mayF y = true) : ∀ k, GRows (fillK w h r f y R k)
  | 0 => g
  | k + 1 => GRows.put (fillK_flat ok r f y k).1 (GRows.fill ok g r f hy k) _ _ (okB_space hy)
theorem GRows.puts {w h : Nat} {R : List (List GC)} (ok : RowsOk w h R) (g : GRows R) (r c : Int) {y : Sy} (hy : mayF y = true) (C : List (List UInt8)) (hC : ∀ x, x < C.length → Clu (nth [] C x)) : ∀ k, k ≤ C.length → GRows (putsR w h r c y C k R)
  | 0, _ => g
  | k + 1, hk => GRows.put (putsR_flat ok r c y C k).1 (GRows.puts ok g r c hy C hC k (by omega)) _ _ (okB_clu (hC k (by omega)) hy)
end Go.Proofs.YtekodpcedjpnjaaGreat
namespace Go.Proofs.YtekodpcedjpnjaaGreat
set_option linter.unusedVariables false
set_option linter.unusedSimpArgs false
theorem RowsOk.lineF {w h : Nat} {R : List (List GC)} (k : RowsOk w h R) {i : Nat} (hi : i < h) : lineL R.flatten w i = nth [] R i := by
  have hl := k.take (r := i) (by omega)
  have hn := k.n
  have hm := k.at hi
  have e : R = R.take i ++ (nth [] R i :: R.drop (i + 1)) := by
    rw [nth_eq _ _ _ (by omega), ← List.drop_eq_getElem_cons (by omega), List.take_append_drop]
  unfold lineL
  have e2 : R.flatten = (R.take i).flatten ++ (nth [] R i ++ (R.drop (i + 1)).flatten) := by
    conv => lhs; rw [e]
    rw [List.flatten_append, List.flatten_cons]
  rw [e2, ← hl, List.drop_left, ← hm, List.take_left]
theorem RowsOk.rowsG_flat {w h : Nat} {R : List (List GC)} (k : RowsOk w h R) : rowsG R.flatten w h = R := by
  have hn := k.n
  refine List.ext_getElem (by rw [rowsG_len, hn]) fun i h1 h2 => ?_
  have e : (rowsG R.flatten w h)[i]? = some (R[i]) := by
    have hi : i < h := by omega
    rw [show rowsG R.flatten w h = (List.range h).map (lineL R.flatten w) from rfl, List.getElem?_map, List.getElem?_range hi, Option.map_some, k.lineF hi, nth_eq _ _ _ h2]
  exact (List.getElem?_eq_some_iff.1 e).2
end Go.Proofs.YtekodpcedjpnjaaGreat
