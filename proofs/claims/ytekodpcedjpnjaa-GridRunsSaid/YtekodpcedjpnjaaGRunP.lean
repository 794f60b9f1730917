/- Rows of a grid in which wide cells and their tails stay paired: told place by place; put, join, erase, scroll and another size leave that so. Plain. -/
import Derived.Test.YtekodpcedjpnjaaRowN
import Derived.Test.YtekodpcedjpnjaaFrame9
namespace Go.Proofs.Ytekodpcedjpnjaa
set_option linter.unusedVariables false
set_option linter.unusedSimpArgs false
open Go.RowKit Go.Shelf Go.Maps
/-- A cell that stands for itself. -/
def hdC (c : GC) : Prop := (c.w = 1 ∨ c.w = 2) ∧ c.s ≠ ⟨#[]⟩
theorem hdC_w {c : GC} (h : hdC c) : c.w = 1 ∨ c.w = 2 := h.1
def OkA (M : List GC) (i : Nat) : Prop :=
  (hdC (nth GC.zero M i) ∧ ((nth GC.zero M i).w = 1 ∨ (i + 1 < M.length ∧ nth GC.zero M (i + 1) = GC.tail (nth GC.zero M i).y))) ∨
  (0 < i ∧ (nth GC.zero M (i - 1)).w = 2 ∧ nth GC.zero M i = GC.tail (nth GC.zero M (i - 1)).y)
def GRw (M : List GC) : Prop := ∀ i, i < M.length → OkA M i
theorem nth_setR (M : List GC) (i j : Nat) (x : GC) (hi : i < M.length) : nth GC.zero (M.set i x) j = if i = j then x else nth GC.zero M j := by
  unfold nth
  simp only [List.getD_eq_getElem?_getD, List.getElem?_set]
  split
  · rename_i h; subst h; simp [hi]
  · rfl
theorem hdC_blank : hdC GC.blank := ⟨.inl rfl, by decide⟩
/-- A narrow place becomes another narrow one. -/
theorem GRw.one {M : List GC} (g : GRw M) {c : Nat} (hc : c < M.length) (h1 : (nth GC.zero M c).w = 1) {d : GC} (hd : hdC d) (hd1 : d.w = 1) : GRw (M.set c d) := by
  intro i hi
  rw [List.length_set] at hi
  unfold OkA
  rw [nth_setR _ _ _ _ hc, nth_setR _ _ _ _ hc, nth_setR _ _ _ _ hc, List.length_set]
  by_cases hic : c = i
  · rw [if_pos hic]; exact .inl ⟨hd, .inl hd1⟩
  · rw [if_neg hic]
    rcases g i hi with ⟨h2, h3⟩ | ⟨h2, h3, h4⟩
    · refine .inl ⟨h2, ?_⟩
      rcases h3 with h3 | ⟨h3, h4⟩
      · exact .inl h3
      · refine .inr ⟨h3, ?_⟩
        rw [if_neg (fun e => by rw [← e] at h4; rw [h4] at h1; exact absurd h1 (by simp [GC.tail]))]
        exact h4
    · refine .inr ⟨h2, ?_⟩
      rw [if_neg (fun e => by rw [← e] at h3; omega)]
      exact ⟨h3, h4⟩
/-- A wide place and its tail become two narrow ones. -/
theorem GRw.split {M : List GC} (g : GRw M) {c : Nat} (hc : c + 1 < M.length) (h1 : (nth GC.zero M c).w = 2) {d e : GC} (hd : hdC d) (hd1 : d.w = 1) (he : hdC e) (he1 : e.w = 1) : GRw ((M.set c d).set (c + 1) e) := by
  intro i hi
  have hc0 : c < M.length := by omega
  have hc1 : c + 1 < (M.set c d).length := by rw [List.length_set]; exact hc
  rw [List.length_set, List.length_set] at hi
  unfold OkA
  rw [nth_setR _ _ _ _ hc1, nth_setR _ _ _ _ hc1, nth_setR _ _ _ _ hc1, nth_setR _ _ _ _ hc0, nth_setR _ _ _ _ hc0, nth_setR _ _ _ _ hc0, List.length_set, List.length_set]
  by_cases h2 : c + 1 = i
  · rw [if_pos h2]; exact .inl ⟨he, .inl he1⟩
  · rw [if_neg h2]
    by_cases h3 : c = i
    · rw [if_pos h3]; exact .inl ⟨hd, .inl hd1⟩
    · rw [if_neg h3]
      rcases g i hi with ⟨h4, h5⟩ | ⟨h4, h5, h6⟩
      · refine .inl ⟨h4, ?_⟩
        rcases h5 with h5 | ⟨h5, h6⟩
        · exact .inl h5
        · refine .inr ⟨h5, ?_⟩
          rw [if_neg (by omega), if_neg (fun e => by rw [← e] at h6; rw [h6] at h1; exact absurd h1 (by simp [GC.tail]))]
          exact h6
      · refine .inr ⟨h4, ?_⟩
        have n1 : ¬ c + 1 = i - 1 := fun e => by
          rw [← e] at h5
          rcases g c hc0 with ⟨_, h7⟩ | ⟨_, _, h7⟩
          · rcases h7 with h7 | ⟨_, h7⟩
            · omega
            · rw [h7] at h5; exact absurd h5 (by simp [GC.tail])
          · rw [h7] at h1; exact absurd h1 (by simp [GC.tail])
        rw [if_neg n1, if_neg (by omega)]
        exact ⟨h5, h6⟩
/-- Two narrow places become a wide one and its tail. -/
theorem GRw.two {M : List GC} (g : GRw M) {c : Nat} (hc : c + 1 < M.length) (h1 : (nth GC.zero M c).w = 1) (h2 : (nth GC.zero M (c + 1)).w = 1) {d : GC} (hd : hdC d) (hd1 : d.w = 2) : GRw ((M.set (c + 1) (GC.tail d.y)).set c d) := by
  intro i hi
  have hc0 : c < (M.set (c + 1) (GC.tail d.y)).length := by rw [List.length_set]; omega
  rw [List.length_set, List.length_set] at hi
  unfold OkA
  rw [nth_setR _ _ _ _ hc0, nth_setR _ _ _ _ hc0, nth_setR _ _ _ _ hc0, nth_setR _ _ _ _ hc, nth_setR _ _ _ _ hc, nth_setR _ _ _ _ hc, List.length_set, List.length_set]
  by_cases h3 : c = i
  · subst h3
    rw [if_pos rfl, if_neg (by omega), if_pos rfl]
    exact .inl ⟨hd, .inr ⟨hc, rfl⟩⟩
  · rw [if_neg h3]
    by_cases h4 : c + 1 = i
    · subst h4
      rw [Nat.add_sub_cancel]
      simp only [if_true]
      exact .inr ⟨by omega, hd1, trivial⟩
    · rw [if_neg h4]
      rcases g i hi with ⟨h5, h6⟩ | ⟨h5, h6, h7⟩
      · refine .inl ⟨h5, ?_⟩
        rcases h6 with h6 | ⟨h6, h7⟩
        · exact .inl h6
        · refine .inr ⟨h6, ?_⟩
          rw [if_neg (fun e => by rw [← e] at h7; rw [h7] at h1; exact absurd h1 (by simp [GC.tail])), if_neg (by omega)]
          exact h7
      · refine .inr ⟨h5, ?_⟩
        rw [if_neg (fun e => by rw [← e] at h6; omega), if_neg (fun e => by rw [← e] at h6; omega)]
        exact ⟨h6, h7⟩
theorem GRw.wipe {M : List GC} (g : GRw M) {c : Nat} (hc : c < M.length) : GRw (wipeL M 0 M.length c) ∧ (nth GC.zero (wipeL M 0 M.length c) c).w = 1 := by
  unfold wipeL
  simp only [Nat.zero_add]
  have hb1 : GC.blank.w = 1 := rfl
  by_cases h2 : (nth GC.zero M c).w = 2
  · have h3 : c + 1 < M.length := by
      rcases g c hc with ⟨_, h4⟩ | ⟨_, _, h4⟩
      · rcases h4 with h4 | ⟨h4, _⟩
        · omega
        · exact h4
      · rw [h4] at h2; exact absurd h2 (by simp [GC.tail])
    rw [if_pos ⟨h2, h3⟩]
    refine ⟨g.split h3 h2 hdC_blank hb1 hdC_blank hb1, ?_⟩
    rw [nth_setR _ _ _ _ (by rw [List.length_set]; exact h3), if_neg (by omega), nth_setR _ _ _ _ hc, if_pos rfl]; rfl
  · rw [if_neg (fun e => h2 e.1)]
    by_cases h0 : (nth GC.zero M c).w = 0
    · rcases g c hc with ⟨h4, _⟩ | ⟨h4, h5, h6⟩
      · rcases hdC_w h4 with h | h <;> omega
      · rw [if_pos ⟨h0, h4⟩]
        have e1 : c - 1 + 1 = c := by omega
        have h7 := g.split (c := c - 1) (by omega) h5 hdC_blank hb1 hdC_blank hb1
        rw [e1, List.set_comm _ _ (by omega)] at h7
        refine ⟨h7, ?_⟩
        rw [nth_setR _ _ _ _ (by rw [List.length_set]; omega), if_neg (by omega), nth_setR _ _ _ _ hc, if_pos rfl]; rfl
    · rw [if_neg (fun e => h0 e.1)]
      have h1 : (nth GC.zero M c).w = 1 := by
        rcases g c hc with ⟨h4, _⟩ | ⟨_, _, h4⟩
        · rcases hdC_w h4 with h | h
          · exact h
          · exact absurd h h2
        · exact absurd (by rw [h4]; rfl) h0
      refine ⟨g.one hc h1 hdC_blank hb1, ?_⟩
      rw [nth_setR _ _ _ _ hc, if_pos rfl]; rfl
theorem GRw.put {M : List GC} (g : GRw M) {c : Nat} {s : ByteArray} {wd : Int} {y : Sy} (hc : c < M.length) (h2 : wd = 2 → c + 1 < M.length) (hd : hdC ⟨s, wd, y⟩) : GRw (putL M M.length 0 c s wd y) := by
  unfold putL
  simp only [Nat.zero_add]
  obtain ⟨g1, w1⟩ := g.wipe hc
  have l1 : (wipeL M 0 M.length c).length = M.length := wipeL_length _ _ _ _
  by_cases hw : wd = 2
  · subst hw
    rw [if_pos rfl]
    have hc1 := h2 rfl
    have hp := g1.wipe (c := c + 1) (by rw [l1]; exact hc1)
    rw [l1] at hp
    obtain ⟨g2, w2⟩ := hp
    have l2 : (wipeL (wipeL M 0 M.length c) 0 M.length (c + 1)).length = M.length := by rw [wipeL_length, l1]
    refine g2.two (by rw [l2]; exact hc1) ?_ w2 hd rfl
    generalize wipeL M 0 M.length c = N at *
    have hw1 : (nth GC.zero N (c + 1)).w = 0 → False := fun h0 => by
      rcases g1 (c + 1) (by omega) with ⟨h4, _⟩ | ⟨_, h5, _⟩
      · rcases hdC_w h4 with h | h <;> omega
      · rw [Nat.add_sub_cancel] at h5; omega
    unfold wipeL
    simp only [Nat.zero_add]
    split
    · rename_i h
      rw [nth_setR _ _ _ _ (by rw [List.length_set]; omega), if_neg (by omega), nth_setR _ _ _ _ (by omega), if_neg (by omega)]; exact w1
    · split
      · rename_i h; exact absurd h.1 (fun e => hw1 e)
      · rw [nth_setR _ _ _ _ (by omega), if_neg (by omega)]; exact w1
  · rw [if_neg hw]
    have hw1 : wd = 1 := by rcases hdC_w hd with h | h; exact h; exact absurd h hw
    exact g1.one (by rw [l1]; exact hc) w1 hd hw1
def GRws (R : List (List GC)) : Prop := ∀ M ∈ R, GRw M
theorem GRws.set {R : List (List GC)} (g : GRws R) (i : Nat) {M : List GC} (hM : GRw M) : GRws (R.set i M) := fun N hN => by
  rcases List.mem_or_eq_of_mem_set hN with h | h
  · exact g N h
  · rw [h]; exact hM
theorem GRw.blank (w : Nat) : GRw (List.replicate w GC.blank) := fun i hi => by
  rw [List.length_replicate] at hi
  have e : nth GC.zero (List.replicate w GC.blank) i = GC.blank := by
    rw [nth_eq _ _ _ (by simpa using hi)]; simp
  refine .inl ⟨?_, .inl ?_⟩
  · rw [e]; exact hdC_blank
  · rw [e]; rfl
theorem GRws.blank (w h : Nat) : GRws (List.replicate h (List.replicate w GC.blank)) := fun M hM => by
  rw [List.eq_of_mem_replicate hM]; exact GRw.blank w
theorem GRws.put {w h : Nat} {R : List (List GC)} (ok : RowsOk w h R) (g : GRws R) (r c : Int) {s : ByteArray} {wd : Int} {y : Sy} (hd : hdC ⟨s, wd, y⟩) : GRws (putR w h R r c s wd y) := by
  unfold putR
  split
  · rename_i h0
    obtain ⟨_, _, _, h1, h2, h3, h4, h5⟩ := putErr_0 h0
    refine g.set _ ?_
    have hr : r.toNat < h := by omega
    have hl := ok.at hr
    have hm : GRw (nth [] R r.toNat) := g _ (by rw [nth_eq _ _ _ (by rw [ok.n]; exact hr)]; exact List.getElem_mem _)
    have hp := hm.put (c := c.toNat) (s := s) (wd := wd) (y := y) (by rw [hl]; omega) (fun e => by have := h5 e; rw [hl]; omega) hd
    rw [hl] at hp
    exact hp
  · exact g
theorem GRw.wipes {w : Nat} : ∀ (n i : Nat) {M : List GC}, M.length = w → GRw M → i + n ≤ w → GRw (wipes 0 w i n M)
  | 0, _, _, _, g, _ => g
  | n + 1, i, M, hl, g, hi => by
    have hw := (g.wipe (c := i) (by omega)).1
    rw [hl] at hw
    exact GRw.wipes n (i + 1) (by rw [wipeL_length, hl]) hw (by omega)
theorem GRws.erase {w h : Nat} {R : List (List GC)} (ok : RowsOk w h R) (g : GRws R) (r a b : Int) : GRws (eraseR w h R r a b) := by
  unfold eraseR
  split
  · rename_i h0
    refine g.set _ ?_
    have hr : r.toNat < h := by omega
    have hl := ok.at hr
    have hm : GRw (nth [] R r.toNat) := g _ (by rw [nth_eq _ _ _ (by rw [ok.n]; exact hr)]; exact List.getElem_mem _)
    unfold eraseL
    by_cases h1 : (max 0 a).toNat ≤ (min b w).toNat
    · exact GRw.wipes _ _ hl hm (by omega)
    · have e : (min b (w : Int)).toNat - (max 0 a).toNat = 0 := by omega
      rw [e]; exact hm
  · exact g
/-- A cell's text is longer. -/
theorem GRw.text {M : List GC} (g : GRw M) {c : Nat} (hc : c < M.length) (h1 : (nth GC.zero M c).w ≠ 0) (s : ByteArray) (hs : s ≠ ⟨#[]⟩) : GRw (M.set c { nth GC.zero M c with s := s }) := by
  intro i hi
  rw [List.length_set] at hi
  unfold OkA
  rw [nth_setR _ _ _ _ hc, nth_setR _ _ _ _ hc, nth_setR _ _ _ _ hc, List.length_set]
  have hcn : ∀ j, nth GC.zero M c = GC.tail (nth GC.zero M j).y → False := fun j e => h1 (by rw [e]; rfl)
  by_cases hic : c = i
  · subst hic
    rw [if_pos rfl]
    rcases g c hi with ⟨h2, h3⟩ | ⟨h2, h3, h4⟩
    · refine .inl ⟨⟨h2.1, hs⟩, ?_⟩
      rcases h3 with h3 | ⟨h3, h4⟩
      · exact .inl h3
      · exact .inr ⟨h3, by rw [if_neg (by omega)]; exact h4⟩
    · exact absurd h4 (fun e => hcn _ e)
  · rw [if_neg hic]
    rcases g i hi with ⟨h2, h3⟩ | ⟨h2, h3, h4⟩
    · refine .inl ⟨h2, ?_⟩
      rcases h3 with h3 | ⟨h3, h4⟩
      · exact .inl h3
      · refine .inr ⟨h3, ?_⟩
        rw [if_neg (fun e => by rw [← e] at h4; exact hcn _ h4)]
        exact h4
    · refine .inr ⟨h2, ?_⟩
      by_cases e : c = i - 1
      · rw [if_pos e]
        subst e
        exact ⟨h3, h4⟩
      · rw [if_neg e]
        exact ⟨h3, h4⟩
theorem GRw.head {M : List GC} (g : GRw M) {c : Nat} (hc : c < M.length) : joinAt M 0 c < M.length ∧ (nth GC.zero M (joinAt M 0 c)).w ≠ 0 ∧ (nth GC.zero M (joinAt M 0 c)).s ≠ ⟨#[]⟩ := by
  unfold joinAt
  simp only [Nat.zero_add]
  rcases g c hc with ⟨h2, _⟩ | ⟨h2, h3, h4⟩
  · rw [if_neg (fun e => by rcases h2.1 with h | h <;> omega)]
    exact ⟨hc, by rcases h2.1 with h | h <;> omega, h2.2⟩
  · rw [if_pos ⟨by rw [h4]; rfl, h2⟩]
    refine ⟨by omega, by omega, ?_⟩
    rcases g (c - 1) (by omega) with ⟨h5, _⟩ | ⟨_, _, h5⟩
    · exact h5.2
    · rw [h5] at h3; exact absurd h3 (by simp [GC.tail])
theorem size_ne {s : ByteArray} (h : s ≠ ⟨#[]⟩) : s.size ≠ 0 := fun e => h (by
  obtain ⟨d⟩ := s
  have : d.size = 0 := e
  rw [Array.eq_empty_of_size_eq_zero this])
theorem GRw.join {M : List GC} (g : GRw M) {c : Nat} (hc : c < M.length) (s : ByteArray) : GRw (joinL M 0 c s) := by
  obtain ⟨h1, h2, h3⟩ := g.head hc
  unfold joinL
  simp only [Nat.zero_add]
  refine g.text h1 h2 _ (fun e => ?_)
  have h4 := size_ne h3
  have h5 := congrArg ByteArray.size e
  rw [ByteArray.size_append] at h5
  have h6 : (ByteArray.mk #[]).size = 0 := rfl
  omega
theorem GRws.join {w h : Nat} {R : List (List GC)} (ok : RowsOk w h R) (g : GRws R) (r c : Int) (s : ByteArray) : GRws (joinR w h R r c s) := by
  unfold joinR
  split
  · rename_i h0
    unfold joinOkR at h0
    simp only [Bool.and_eq_true] at h0
    obtain ⟨h1, h2, h3, h4⟩ := inG_iff.1 h0.1
    refine g.set _ ?_
    have hr : r.toNat < h := by omega
    have hm : GRw (nth [] R r.toNat) := g _ (by rw [nth_eq _ _ _ (by rw [ok.n]; exact hr)]; exact List.getElem_mem _)
    exact hm.join (by rw [ok.at hr]; omega) s
  · exact g
theorem GRws.scroll {w : Nat} {R : List (List GC)} (g : GRws R) (m : Nat) : GRws (scrollR w R m) := fun M hM => by
  rcases List.mem_append.1 hM with h1 | h1
  · exact g M (List.mem_of_mem_drop h1)
  · rw [List.eq_of_mem_replicate h1]; exact GRw.blank w
theorem GRw.app {M : List GC} (g : GRw M) (n : Nat) : GRw (M ++ List.replicate n GC.blank) := fun i hi => by
  have hb := GRw.blank n
  have en : ∀ j, nth GC.zero (M ++ List.replicate n GC.blank) j = if j < M.length then nth GC.zero M j else nth GC.zero (List.replicate n GC.blank) (j - M.length) := fun j => by
    unfold nth
    simp only [List.getD_eq_getElem?_getD]
    split
    · rename_i h; rw [List.getElem?_append_left h]
    · rename_i h; rw [List.getElem?_append_right (by omega)]
  rw [List.length_append, List.length_replicate] at hi
  unfold OkA
  rw [en, en, en, List.length_append, List.length_replicate]
  by_cases h : i < M.length
  · rw [if_pos h]
    rcases g i h with ⟨h2, h3⟩ | ⟨h2, h3, h4⟩
    · refine .inl ⟨h2, ?_⟩
      rcases h3 with h3 | ⟨h3, h4⟩
      · exact .inl h3
      · exact .inr ⟨by omega, by rw [if_pos h3]; exact h4⟩
    · exact .inr ⟨h2, by rw [if_pos (by omega)]; exact h3, by rw [if_pos (by omega)]; exact h4⟩
  · rw [if_neg h]
    have e : nth GC.zero (List.replicate n GC.blank) (i - M.length) = GC.blank := by
      rw [nth_eq _ _ _ (by rw [List.length_replicate]; omega)]; simp
    rw [e]
    exact .inl ⟨hdC_blank, .inl rfl⟩
theorem GRw.cut {M : List GC} (g : GRw M) (w : Nat) : GRw (if (nth GC.zero (M.take w) ((M.take w).length - 1)).w = 2 then (M.take w).set ((M.take w).length - 1) GC.blank else M.take w) := by
  have hl : (M.take w).length = min w M.length := List.length_take
  have en : ∀ j, j < (M.take w).length → nth GC.zero (M.take w) j = nth GC.zero M j := fun j hj => by
    unfold nth
    rw [List.getD_eq_getElem?_getD, List.getD_eq_getElem?_getD, List.getElem?_take_of_lt (by omega)]
  by_cases h2 : (nth GC.zero (M.take w) ((M.take w).length - 1)).w = 2
  · rw [if_pos h2]
    have hpos : 0 < (M.take w).length := by
      rcases Nat.eq_zero_or_pos (M.take w).length with h | h
      · rw [List.eq_nil_of_length_eq_zero h] at h2
        simp [nth, GC.zero] at h2
      · exact h
    intro i hi
    rw [List.length_set] at hi
    unfold OkA
    have hc : (M.take w).length - 1 < (M.take w).length := by omega
    rw [nth_setR _ _ _ _ hc, nth_setR _ _ _ _ hc, nth_setR _ _ _ _ hc, List.length_set]
    by_cases hi1 : (M.take w).length - 1 = i
    · rw [if_pos hi1]; exact .inl ⟨hdC_blank, .inl rfl⟩
    · rw [if_neg hi1, en i hi]
      rcases g i (by omega) with ⟨h5, h6⟩ | ⟨h5, h6, h7⟩
      · refine .inl ⟨h5, ?_⟩
        rcases h6 with h6 | ⟨h6, h7⟩
        · exact .inl h6
        · refine .inr ⟨by omega, ?_⟩
          rw [if_neg (fun e => by
            rw [← e] at h7
            rw [en _ hc, h7] at h2
            exact absurd h2 (by simp [GC.tail])), en _ (by omega)]
          exact h7
      · refine .inr ⟨h5, ?_⟩
        rw [if_neg (by omega), en _ (by omega)]
        exact ⟨h6, h7⟩
  · rw [if_neg h2]
    intro i hi
    unfold OkA
    rw [en i hi]
    rcases g i (by omega) with ⟨h5, h6⟩ | ⟨h5, h6, h7⟩
    · refine .inl ⟨h5, ?_⟩
      rcases h6 with h6 | ⟨h6, h7⟩
      · exact .inl h6
      · by_cases h8 : i + 1 < (M.take w).length
        · exact .inr ⟨h8, by rw [en _ h8]; exact h7⟩
        · have e : (M.take w).length - 1 = i := by omega
          rw [e, en i hi] at h2
          rcases h5.1 with h9 | h9
          · exact .inl h9
          · exact absurd h9 h2
    · refine .inr ⟨h5, ?_⟩
      rw [en _ (by omega)]
      exact ⟨h6, h7⟩
theorem GRw.fit {M : List GC} (g : GRw M) (w : Nat) : GRw (fitL M w) := (g.cut w).app _
theorem GRws.resize {H : Nat} {R : List (List GC)} (g : GRws R) (w h r : Nat) : GRws (resizeR H R w h r) := fun M hM => by
  rcases List.mem_append.1 hM with h1 | h1
  · obtain ⟨N, hN, rfl⟩ := List.mem_map.1 h1
    exact (g N (List.mem_of_mem_drop (List.mem_of_mem_take hN))).fit w
  · rw [List.eq_of_mem_replicate h1]; exact GRw.blank w
/-- How many columns the first k cells take. -/
def wid (M : List GC) (k : Nat) : Nat := if 0 < k ∧ (nth GC.zero M (k - 1)).w = 2 then k + 1 else k
theorem GRw.wid_next {M : List GC} (g : GRw M) {k : Nat} (hk : k < M.length) : (wid M k : Int) + (nth GC.zero M k).w = wid M (k + 1) := by
  unfold wid
  rw [Nat.add_sub_cancel]
  rcases g k hk with ⟨h2, h3⟩ | ⟨h2, h3, h4⟩
  · have h5 : ¬ (0 < k ∧ (nth GC.zero M (k - 1)).w = 2) := fun ⟨e1, e2⟩ => by
      rcases g (k - 1) (by omega) with ⟨h6, h7⟩ | ⟨_, _, h6⟩
      · rcases h7 with h7 | ⟨_, h7⟩
        · omega
        · rw [show k - 1 + 1 = k by omega] at h7
          rcases h2.1 with h8 | h8 <;> (rw [h7] at h8; exact absurd h8 (by simp [GC.tail]))
      · rw [h6] at e2; exact absurd e2 (by simp [GC.tail])
    rw [if_neg h5]
    rcases h2.1 with h6 | h6
    · rw [if_neg (by omega)]; omega
    · rw [if_pos (by omega)]; omega
  · rw [if_pos ⟨h2, h3⟩]
    have h5 : (nth GC.zero M k).w = 0 := by rw [h4]; rfl
    rw [if_neg (by omega)]; omega
theorem GRw.wid_all {M : List GC} (g : GRw M) : wid M M.length = M.length := by
  unfold wid
  refine if_neg fun ⟨e1, e2⟩ => ?_
  rcases g (M.length - 1) (by omega) with ⟨_, h7⟩ | ⟨_, _, h6⟩
  · rcases h7 with h7 | ⟨h7, _⟩
    · omega
    · omega
  · rw [h6] at e2; exact absurd e2 (by simp [GC.tail])
/-- What a place says of its neighbours. -/
theorem GRw.wide {M : List GC} (g : GRw M) {k : Nat} (hk : k < M.length) (h : (nth GC.zero M k).w = 2) : k + 1 < M.length ∧ nth GC.zero M (k + 1) = GC.tail (nth GC.zero M k).y := by
  rcases g k hk with ⟨_, h3⟩ | ⟨_, _, h4⟩
  · rcases h3 with h3 | h3
    · omega
    · exact h3
  · rw [h4] at h; exact absurd h (by simp [GC.tail])
theorem GRw.none {M : List GC} (g : GRw M) {k : Nat} (hk : k < M.length) (h : (nth GC.zero M k).w = 0) : 0 < k ∧ (nth GC.zero M (k - 1)).w = 2 := by
  rcases g k hk with ⟨h2, _⟩ | ⟨h2, h3, _⟩
  · rcases h2.1 with h5 | h5 <;> omega
  · exact ⟨h2, h3⟩
theorem GRw.some {M : List GC} (g : GRw M) {k : Nat} (hk : k < M.length) (h : (nth GC.zero M k).w ≠ 0) : (nth GC.zero M k).s ≠ ⟨#[]⟩ := by
  rcases g k hk with ⟨h2, _⟩ | ⟨_, _, h4⟩
  · exact h2.2
  · exact absurd (by rw [h4]; rfl) h
end Go.Proofs.Ytekodpcedjpnjaa
