/- Plain: a text of clusters is flat. No condition. -/
import Derived.Test.YtekodpcedjpnjaaGreatClus6
namespace Go.Proofs.YtekodpcedjpnjaaGreat
set_option linter.unusedVariables false
set_option linter.unusedSimpArgs false
open Go.RowKit Go.Shelf Go.Maps
theorem foldl_noctrl' : ∀ (rs : List Nat) (out : List (List Nat)), (∀ c ∈ out, ∀ r ∈ c, ctrlB r = false) → ∀ c ∈ rs.foldl stepG out, ∀ r ∈ c, ctrlB r = false
  | [], out, h => h
  | r :: t, out, h => by
    rw [List.foldl_cons]
    refine foldl_noctrl' t _ ?_
    rcases stepG_two out r with e | ⟨e, hc⟩ | ⟨o, c, eo, e, hj, _⟩
    · rw [e]; exact h
    · rw [e]; intro c hc' x hx
      rcases List.mem_append.1 hc' with h1 | h1
      · exact h c h1 x hx
      · rw [List.mem_singleton.1 h1, List.mem_singleton] at hx
        subst hx
        unfold colsB at hc
        split at hc
        · omega
        · rename_i hz
          simp only [Bool.or_eq_true, not_or, Bool.not_eq_true] at hz
          exact hz.1.2
    · rw [e]; intro c' hc' x hx
      rcases List.mem_append.1 hc' with h1 | h1
      · exact h c' (by rw [eo]; exact List.mem_append_left _ h1) x hx
      · rw [List.mem_singleton.1 h1] at hx
        rcases List.mem_append.1 hx with h2 | h2
        · exact h c (by rw [eo]; simp) x h2
        · rw [List.mem_singleton] at h2
          subst h2
          unfold joinB at hj
          simp at hj
          exact hj.2.2
theorem cl_noctrl' {g : List Nat} (h : Cl g) : ∀ r ∈ g, ctrlB r = false := by
  have := foldl_noctrl' g [] (by simp)
  have e := h.one
  unfold cutG at e
  rw [e] at this
  exact this g (by simp)
theorem byte_low' {n : Nat} (hn : isR n = true) {b : UInt8} (hb : b ∈ bytesN n) (h : b.toNat < 128) : n = b.toNat := by
  have hr := (isR_iff n).1 hn
  unfold bytesN at hb
  split at hb
  · rw [List.mem_singleton] at hb
    subst hb
    rw [byteB_nat' n (by omega)]
  · exfalso
    split at hb
    · simp only [List.mem_cons, List.not_mem_nil, or_false] at hb
      rcases hb with rfl | rfl <;> rw [byteB_nat' _ (by omega)] at h <;> omega
    · split at hb
      · simp only [List.mem_cons, List.not_mem_nil, or_false] at hb
        rcases hb with rfl | rfl | rfl <;> rw [byteB_nat' _ (by omega)] at h <;> omega
      · simp only [List.mem_cons, List.not_mem_nil, or_false] at hb
        rcases hb with rfl | rfl | rfl | rfl <;> rw [byteB_nat' _ (by omega)] at h <;> omega
theorem clu_blank' {c : List UInt8} (h : Clu c) : blanksL c = c := by
  obtain ⟨g, hg, rfl⟩ := h
  unfold blanksL
  conv => rhs; rw [← List.map_id (encL g)]
  apply List.map_congr_left
  intro b hb
  unfold encL at hb
  obtain ⟨r, hr, hbr⟩ := List.mem_flatMap.1 hb
  refine blankB_no b fun hc => ?_
  have e := byte_low' (hg.rune r hr) hbr (by omega)
  have := cl_noctrl' hg r hr
  unfold ctrlB at this
  rw [decide_eq_false_iff_not] at this
  omega
theorem flat_clus' {D : List (List UInt8)} (h : ∀ c ∈ D, Clu c) : flatL D.flatten = D.flatten := by
  have e : blanksL D.flatten = D.flatten := by
    induction D with
    | nil => rfl
    | cons c t ih =>
      have e1 := clu_blank' (h c (List.mem_cons_self ..))
      have e2 := ih (fun x hx => h x (List.mem_cons_of_mem _ hx))
      unfold blanksL at e1 e2 ⊢
      rw [List.flatten_cons, List.map_append, e1, e2]
  unfold flatL cleanL
  rw [e, cutL_flat h]
end Go.Proofs.YtekodpcedjpnjaaGreat
