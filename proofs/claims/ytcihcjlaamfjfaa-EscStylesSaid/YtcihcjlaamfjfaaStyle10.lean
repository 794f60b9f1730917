/- Plain: what Style tells is obeyed and stripped. -/
import Derived.Test.YtcihcjlaamfjfaaStyle9
import Derived.Test.YtcihcjlaamfjfaaQuietBelow
namespace Go.Proofs.Ytcihcjlaamfjfaa
theorem mem_if {c : Prop} [Decidable c] {x y : Int} (h : y ∈ (if c then [x] else [])) : y = x := by
  split at h
  · exact List.mem_singleton.1 h
  · simp at h
theorem colourI_bd (c base : Int) (h : 0 ≤ c ∧ c ≤ 8) (hb : 1 ≤ base ∧ base ≤ 100) : 0 ≤ colourI c base ∧ colourI c base ≤ 9999 := by unfold colourI; split <;> omega
theorem nums_bd (b u i : Bool) (f g : Int) (b' u' i' : Bool) (f' g' : Int) (hf : 0 ≤ f' ∧ f' ≤ 8) (hg : 0 ≤ g' ∧ g' ≤ 8) : ∀ y ∈ numsL b u i f g b' u' i' f' g', 0 ≤ y ∧ y ≤ 9999 := by
  intro y hy
  unfold numsL at hy
  have c1 := colourI_bd f' 30 hf (by omega)
  have c2 := colourI_bd g' 40 hg (by omega)
  rcases List.mem_append.1 hy with hy | hy
  · rcases List.mem_append.1 hy with hy | hy
    · rcases List.mem_append.1 hy with hy | hy
      · rcases List.mem_append.1 hy with hy | hy
        · rcases List.mem_append.1 hy with hy | hy
          · have := mem_if hy; omega
          · have := mem_if hy; omega
        · have := mem_if hy; omega
      · have := mem_if hy; omega
    · rw [mem_if hy]; exact c1
  · rw [mem_if hy]; exact c2
theorem sepTo_dig (L : List Int) (k : Nat) : ∀ c ∈ sepTo L k, c.toNat < 64 := by
  induction k with
  | zero => intro c hc; simp [sepTo] at hc
  | succ k ih =>
    intro c hc
    unfold sepTo at hc
    rcases List.mem_append.1 hc with hc | hc
    · rcases List.mem_append.1 hc with hc | hc
      · exact ih c hc
      · split at hc
        · simp at hc
        · rw [List.mem_singleton.1 hc]; decide
    · exact decL_dig _ c hc
theorem strip_style (b u i : Bool) (f g : Int) (b' u' i' : Bool) (f' g' : Int) : stripL (styleL b u i f g b' u' i' f' g') = [] := by
  refine Gone.empty ?_
  unfold styleL
  split
  · exact Gone.nil
  · exact gone_seq _ 109 (sepTo_dig _ _) (by decide) (by decide)
theorem style_self (b u i : Bool) (f g : Int) : styleL b u i f g b u i f g = [] := by simp [styleL, eqS]
theorem style_bad (b u i : Bool) (f g : Int) (b' u' i' : Bool) (f' g' : Int) (h : mayB f g = false ∨ mayB f' g' = false) : styleL b u i f g b' u' i' f' g' = [] := by
  unfold styleL
  rcases h with h | h <;> rw [h] <;> simp
theorem nums_len (b u i : Bool) (f g : Int) (b' u' i' : Bool) (f' g' : Int) : (numsL b u i f g b' u' i' f' g').length ≤ 6 := by
  have h : ∀ (c : Prop) [Decidable c] (x : Int), (if c then [x] else []).length ≤ 1 := by intro c _ x; split <;> simp
  unfold numsL
  simp only [List.length_append]
  have h1 := h ((b && !b' || u && !u' || i && !i') = true) 0
  have h2 := h ((b' && !(!(b && !b' || u && !u' || i && !i') && b)) = true) 1
  have h3 := h ((u' && !(!(b && !b' || u && !u' || i && !i') && u)) = true) 4
  have h4 := h ((i' && !(!(b && !b' || u && !u' || i && !i') && i)) = true) 7
  have h5 := h (f' ≠ (if (b && !b' || u && !u' || i && !i') = true then 0 else f)) (colourI f' 30)
  have h6 := h (g' ≠ (if (b && !b' || u && !u' || i && !i') = true then 0 else g)) (colourI g' 40)
  omega
theorem style_len (b u i : Bool) (f g : Int) (b' u' i' : Bool) (f' g' : Int) : (styleL b u i f g b' u' i' f' g').length ≤ 100 := by
  unfold styleL
  split
  · simp
  · unfold seqL
    have h1 := nums_len b u i f g b' u' i' f' g'
    have h2 := sepTo_len (numsL b u i f g b' u' i' f' g') (numsL b u i f g b' u' i' f' g').length
    simp only [List.length_append, List.length_cons, List.length_nil]; omega
theorem turn_style (b u i : Bool) (f g : Int) (b' u' i' : Bool) (f' g' : Int) (h : mayB f g = true) (h' : mayB f' g' = true) :
    (turnL ((styleL b u i f g b' u' i' f' g').drop 2) (⟨b, u, i, f, g⟩, 0)).1 = ⟨b', u', i', f', g'⟩ := by
  have hm : 0 ≤ f' ∧ f' ≤ 8 ∧ 0 ≤ g' ∧ g' ≤ 8 := of_decide_eq_true h'
  have hn := nums_turn b u i f g b' u' i' f' g' (by omega) (by omega)
  have hbd := nums_bd b u i f g b' u' i' f' g' (by omega) (by omega)
  unfold styleL
  cases he : eqS b u i f g b' u' i' f' g' with
  | true =>
    obtain ⟨rfl, rfl, rfl, rfl, rfl⟩ : b = b' ∧ u = u' ∧ i = i' ∧ f = f' ∧ g = g' := of_decide_eq_true he
    simp [turnL]
  | false =>
    rw [h, h']
    simp only [Bool.not_true, Bool.or_false, Bool.false_eq_true, if_false]
    revert hn hbd
    generalize numsL b u i f g b' u' i' f' g' = L
    intro hn hbd
    have hne : L ≠ [] := by
      rintro rfl
      have : (⟨b, u, i, f, g⟩ : Sy) = ⟨b', u', i', f', g'⟩ := hn
      injection this with h1 h2 h3 h4 h5
      have : eqS b u i f g b' u' i' f' g' = true := decide_eq_true ⟨h1, h2, h3, h4, h5⟩
      rw [he] at this; cases this
    obtain ⟨k, hk⟩ : ∃ k, L.length = k + 1 := ⟨L.length - 1, by have := List.length_pos_iff.2 hne; omega⟩
    have hb0 : ∀ k, k < L.length → 0 ≤ nth 0 L k := fun k hk => by rw [nth_eq _ _ _ hk]; exact (hbd _ (List.getElem_mem hk)).1
    have hb1 : ∀ k, k < L.length → nth 0 L k ≤ 9999 := fun k hk => by rw [nth_eq _ _ _ hk]; exact (hbd _ (List.getElem_mem hk)).2
    have ht := turn_sepTo L hb0 hb1 ⟨b, u, i, f, g⟩ k (by omega) 109 (by decide)
    rw [← hk, List.take_length, hn] at ht
    rw [show (seqL L [109]).drop 2 = sepTo L L.length ++ [109] from by simp [seqL], ht]
end Go.Proofs.Ytcihcjlaamfjfaa
