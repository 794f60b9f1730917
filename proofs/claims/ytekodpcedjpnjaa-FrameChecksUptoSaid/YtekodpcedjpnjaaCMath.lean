/- The plain law of clusters: runes written and read again; a text's clusters; cleaning twice is cleaning once. No program in sight. No condition. -/
import Derived.Test.YtekodpcedjpnjaaRMath2
import Derived.Test.YtekodpcedjpnjaaWidth3
namespace Go.Proofs.Ytekodpcedjpnjaa
set_option linter.unusedVariables false
set_option linter.unusedSimpArgs false
set_option linter.unusedVariables false
/-! ### a rune's bytes, read again -/
theorem byteB_nat' (n : Nat) (h : n < 256) : (byteB n).toNat = n := by simp [byteB]; omega
theorem isR_iff (n : Nat) : isR n = true ↔ n ≤ 1114111 ∧ (n < 55296 ∨ 57343 < n) := by
  unfold isR; rw [decide_eq_true_eq]; omega
theorem step_bytes (n : Nat) (h : isR n = true) (t : List UInt8) : stepL (bytesN n ++ t) = (n, (bytesN n).length) := by
  rw [isR_iff] at h
  unfold bytesN
  by_cases h1 : n < 128
  · rw [if_pos h1]
    simp only [List.cons_append, List.nil_append, stepL, byteB_nat' n (by omega), if_pos h1, List.length_cons, List.length_nil]
  · rw [if_neg h1]
    by_cases h2 : n < 2048
    · rw [if_pos h2]
      have e1 := byteB_nat' (192 + n / 64) (by omega)
      have e2 := byteB_nat' (128 + n % 64) (by omega)
      simp only [List.cons_append, List.nil_append, stepL, e1, e2, tail1, List.length_cons, List.length_nil]
      rw [if_neg (by omega), if_neg (by omega), if_pos (by omega), if_pos (by rw [decide_eq_true_eq]; omega)]
      rw [Prod.mk.injEq]; exact ⟨by omega, rfl⟩
    · rw [if_neg h2]
      by_cases h3 : n < 65536
      · rw [if_pos h3]
        have e1 := byteB_nat' (224 + n / 4096) (by omega)
        have e2 := byteB_nat' (128 + n / 64 % 64) (by omega)
        have e3 := byteB_nat' (128 + n % 64) (by omega)
        simp only [List.cons_append, List.nil_append, stepL, e1, e2, e3, tail1, List.length_cons, List.length_nil]
        rw [if_neg (by omega), if_neg (by omega), if_neg (by omega), if_pos (by omega), if_pos (by
          rw [Bool.and_eq_true, decide_eq_true_eq, decide_eq_true_eq]
          unfold lo1 hi1
          (repeat' split) <;> omega)]
        rw [Prod.mk.injEq]; exact ⟨by omega, rfl⟩
      · rw [if_neg h3]
        have e1 := byteB_nat' (240 + n / 262144) (by omega)
        have e2 := byteB_nat' (128 + n / 4096 % 64) (by omega)
        have e3 := byteB_nat' (128 + n / 64 % 64) (by omega)
        have e4 := byteB_nat' (128 + n % 64) (by omega)
        simp only [List.cons_append, List.nil_append, stepL, e1, e2, e3, e4, tail1, List.length_cons, List.length_nil]
        rw [if_neg (by omega), if_neg (by omega), if_neg (by omega), if_neg (by omega), if_pos (by omega), if_pos (by
          rw [Bool.and_eq_true, Bool.and_eq_true, decide_eq_true_eq, decide_eq_true_eq, decide_eq_true_eq]
          unfold lo1 hi1
          (repeat' split) <;> omega)]
        rw [Prod.mk.injEq]; exact ⟨by omega, rfl⟩
/-- What stands first is a rune. -/
theorem stepL_isR (l : List UInt8) : isR (stepL l).1 = true := by
  rw [isR_iff]
  have hb : ∀ c : UInt8, c.toNat < 256 := fun c => c.toNat_lt
  match l with
  | [] => simp [stepL]
  | c :: t =>
    unfold stepL
    dsimp only
    by_cases h1 : c.toNat < 128
    · rw [if_pos h1]; dsimp only; omega
    · rw [if_neg h1]
      by_cases h2 : c.toNat < 194
      · rw [if_pos h2]; omega
      · rw [if_neg h2]
        by_cases h3 : c.toNat < 224
        · rw [if_pos h3]
          match t with
          | [] => simp
          | b :: _ =>
            dsimp only
            split
            · dsimp only; omega
            · simp
        · rw [if_neg h3]
          by_cases h4 : c.toNat < 240
          · rw [if_pos h4]
            match t with
            | [] => simp
            | [_] => simp
            | b :: d :: _ =>
              dsimp only
              split
              · rename_i h
                rw [Bool.and_eq_true] at h
                unfold tail1 at h
                simp only [decide_eq_true_eq] at h
                obtain ⟨⟨k1, k2⟩, k3, k4⟩ := h
                unfold lo1 at k1
                unfold hi1 at k2
                dsimp only
                have hb' := hb b
                by_cases q : c.toNat = 237
                · rw [if_pos q] at k2
                  rw [if_neg (by omega), if_neg (by omega)] at k1
                  omega
                · clear k1 k2
                  omega
              · simp
          · rw [if_neg h4]
            by_cases h5 : c.toNat < 245
            · rw [if_pos h5]
              match t with
              | [] => simp
              | [_] => simp
              | [_, _] => simp
              | b :: d :: e :: _ =>
                dsimp only
                split
                · rename_i h
                  rw [Bool.and_eq_true, Bool.and_eq_true] at h
                  unfold tail1 at h
                  simp only [decide_eq_true_eq] at h
                  obtain ⟨⟨k1, k2⟩, ⟨k3, k4⟩, k5, k6⟩ := h
                  unfold lo1 at k1
                  unfold hi1 at k2
                  dsimp only
                  rw [if_neg (by omega)] at k1
                  rw [if_neg (by omega)] at k2
                  have hb' := hb b
                  by_cases q : c.toNat = 240
                  · rw [if_pos q] at k1
                    rw [if_neg (by omega)] at k2
                    omega
                  · rw [if_neg q] at k1
                    by_cases q2 : c.toNat = 244
                    · rw [if_pos q2] at k2; omega
                    · rw [if_neg q2] at k2; omega
                · simp
            · rw [if_neg h5]; omega
theorem runesF_isR : ∀ (n : Nat) (l : List UInt8), ∀ r ∈ runesF n l, isR r = true
  | 0, _, r, h => by simp [runesF] at h
  | _ + 1, [], r, h => by simp [runesF] at h
  | n + 1, c :: t, r, h => by
    unfold runesF at h
    rcases List.mem_cons.1 h with rfl | h
    · exact stepL_isR _
    · exact runesF_isR n _ r h
theorem runesL_isR (l : List UInt8) : ∀ r ∈ runesL l, isR r = true := runesF_isR _ _
/-- Runes as bytes. -/
def encL (rs : List Nat) : List UInt8 := rs.flatMap bytesN
theorem encL_nil : encL [] = [] := rfl
theorem encL_cons (r : Nat) (rs : List Nat) : encL (r :: rs) = bytesN r ++ encL rs := rfl
theorem encL_append (a b : List Nat) : encL (a ++ b) = encL a ++ encL b := by simp [encL]
theorem encL_one (r : Nat) : encL [r] = bytesN r := by simp [encL]
theorem runes_enc (rs : List Nat) (h : ∀ r ∈ rs, isR r = true) (t : List UInt8) : runesL (encL rs ++ t) = rs ++ runesL t := by
  induction rs with
  | nil => rfl
  | cons r rs ih =>
    have hl := bytesN_len r
    have hne : encL (r :: rs) ++ t ≠ [] := by
      rw [encL_cons]; intro e
      have := congrArg List.length e
      simp only [encL_cons, List.length_append, List.length_nil] at this; omega
    rw [runesL_step _ hne, encL_cons, List.append_assoc, step_bytes r (h r (by simp))]
    simp only [List.drop_left, List.cons_append]
    rw [ih (fun x hx => h x (by simp [hx]))]
theorem runes_enc0 (rs : List Nat) (h : ∀ r ∈ rs, isR r = true) : runesL (encL rs) = rs := by
  have := runes_enc rs h []
  rw [List.append_nil, runesL_nil, List.append_nil] at this
  exact this
/-! ### clusters -/
/-- A rune that joins the base ahead of it. -/
def joinB (r : Int) : Bool := decide (colsB r = 0) && (isR r && !ctrlB r)
/-- The clusters, as lists of runes, and one rune more. -/
def stepG (out : List (List Nat)) (r : Nat) : List (List Nat) :=
  if 0 < colsB r then out ++ [[r]]
  else if joinB r && (!out.isEmpty && decide ((encL (out.getLastD [])).length + (bytesN r).length ≤ 64)) then out.dropLast ++ [out.getLastD [] ++ [r]]
  else out
def cutG (rs : List Nat) : List (List Nat) := rs.foldl stepG []
/-- A text's clusters. -/
def cutL (l : List UInt8) : List (List UInt8) := (cutG (runesL l)).map encL
theorem cutG_snoc (rs : List Nat) (r : Nat) : cutG (rs ++ [r]) = stepG (cutG rs) r := by simp [cutG]
theorem stepG_two (out : List (List Nat)) (r : Nat) : stepG out r = out ∨ (stepG out r = out ++ [[r]] ∧ 0 < colsB r) ∨ (∃ o c, out = o ++ [c] ∧ stepG out r = o ++ [c ++ [r]] ∧ joinB r = true ∧ (encL c).length + (bytesN r).length ≤ 64) := by
  unfold stepG
  split
  · rename_i h; exact .inr (.inl ⟨rfl, h⟩)
  · split
    · rename_i h
      rw [Bool.and_eq_true, Bool.and_eq_true] at h
      obtain ⟨h1, h2, h3⟩ := h
      have hne : out ≠ [] := by intro e; subst e; simp at h2
      obtain ⟨o, c, rfl⟩ : ∃ o c, out = o ++ [c] := ⟨out.dropLast, out.getLast hne, (List.dropLast_concat_getLast hne).symm⟩
      refine .inr (.inr ⟨o, c, rfl, by simp, h1, ?_⟩)
      have := of_decide_eq_true h3
      simpa using this
    · exact .inl rfl
/-- What a cluster is: a base, and marks behind it; not more than 64 bytes; it has itself as its one cluster. -/
structure Cl (c : List Nat) : Prop where
  base : ∃ r t, c = r :: t ∧ 0 < colsB r
  rune : ∀ r ∈ c, isR r = true
  len : (encL c).length ≤ 64
  one : cutG c = [c]
theorem stepG_behind (o X : List (List Nat)) (r : Nat) (hX : X ≠ []) : stepG (o ++ X) r = o ++ stepG X r := by
  obtain ⟨Y, c, rfl⟩ : ∃ Y c, X = Y ++ [c] := ⟨X.dropLast, X.getLast hX, (List.dropLast_concat_getLast hX).symm⟩
  unfold stepG
  rw [← List.append_assoc]
  simp only [List.getLastD_concat, List.dropLast_concat, List.isEmpty_iff, List.append_eq_nil_iff, List.cons_ne_self, and_false, Bool.not_eq_true', decide_eq_false_iff_not, not_false_eq_true]
  split
  · simp
  · split
    · rename_i h1 h2
      rw [if_pos (by simpa using h2)]; simp
    · rename_i h1 h2
      rw [if_neg (by simpa using h2)]; simp
theorem stepG_ne (X : List (List Nat)) (r : Nat) (hX : X ≠ []) : stepG X r ≠ [] := by
  rcases stepG_two X r with e | ⟨e, _⟩ | ⟨o, c, _, e, _⟩ <;> rw [e]
  · exact hX
  · simp
  · simp
theorem foldG_behind (o : List (List Nat)) : ∀ (rs : List Nat) (X : List (List Nat)), X ≠ [] → rs.foldl stepG (o ++ X) = o ++ rs.foldl stepG X
  | [], _, _ => rfl
  | r :: rs, X, hX => by
    rw [List.foldl_cons, List.foldl_cons, stepG_behind o X r hX, foldG_behind o rs _ (stepG_ne X r hX)]
theorem stepG_base (o : List (List Nat)) (r : Nat) (h : 0 < colsB r) : stepG o r = o ++ [[r]] := by unfold stepG; rw [if_pos h]
theorem Cl.fold {c : List Nat} (h : Cl c) (o : List (List Nat)) : c.foldl stepG o = o ++ [c] := by
  obtain ⟨r, t, e, hb⟩ := h.base
  have h1 := h.one
  unfold cutG at h1
  rw [e, List.foldl_cons, stepG_base _ _ hb, List.nil_append] at h1
  rw [e, List.foldl_cons, stepG_base _ _ hb, foldG_behind o t _ (by simp), h1]
theorem fold_flat : ∀ (out o : List (List Nat)), (∀ c ∈ out, Cl c) → out.flatten.foldl stepG o = o ++ out
  | [], o, _ => by simp
  | c :: out, o, h => by
    rw [List.flatten_cons, List.foldl_append, (h c (by simp)).fold, fold_flat out _ (fun x hx => h x (by simp [hx]))]
    simp
/-- Clusters, one behind the other, have themselves as clusters. -/
theorem cut_flat {out : List (List Nat)} (h : ∀ c ∈ out, Cl c) : cutG out.flatten = out := by
  have := fold_flat out [] h
  rwa [List.nil_append] at this
theorem Cl.step {out : List (List Nat)} (h : ∀ c ∈ out, Cl c) {r : Nat} (hr : isR r = true) : ∀ c ∈ stepG out r, Cl c := by
  rcases stepG_two out r with e | ⟨e, hc⟩ | ⟨o, c, eo, e, hj, hl⟩
  · rw [e]; exact h
  · rw [e]; intro c' hc'
    rcases List.mem_append.1 hc' with h1 | h1
    · exact h c' h1
    · rw [List.mem_singleton.1 h1]
      have := bytesN_len r
      refine ⟨⟨r, [], rfl, hc⟩, fun x hx => by rw [List.mem_singleton.1 hx]; exact hr, by rw [encL_one]; omega, ?_⟩
      show [r].foldl stepG [] = _
      rw [List.foldl_cons, List.foldl_nil, stepG_base _ _ hc]; rfl
  · subst eo
    rw [e]; intro c' hc'
    rcases List.mem_append.1 hc' with h1 | h1
    · exact h c' (by simp [h1])
    · rw [List.mem_singleton.1 h1]
      have hcl := h c (by simp)
      refine ⟨?_, ?_, by rw [encL_append, encL_one, List.length_append]; exact hl, ?_⟩
      · obtain ⟨b, t, rfl, hb⟩ := hcl.base
        exact ⟨b, t ++ [r], rfl, hb⟩
      · intro x hx
        rcases List.mem_append.1 hx with h2 | h2
        · exact hcl.rune x h2
        · rw [List.mem_singleton.1 h2]; exact hr
      · rw [cutG_snoc, hcl.one]
        have := stepG_behind o [c] r (by simp)
        rw [e] at this
        exact (List.append_cancel_left this).symm
theorem foldl_clus : ∀ (rs : List Nat) (out : List (List Nat)), (∀ r ∈ rs, isR r = true) → (∀ c ∈ out, Cl c) → ∀ c ∈ rs.foldl stepG out, Cl c
  | [], _, _, h => h
  | r :: rs, _, hr, h => foldl_clus rs _ (fun x hx => hr x (by simp [hx])) (Cl.step h (hr r (by simp)))
theorem cutG_clus (rs : List Nat) (h : ∀ r ∈ rs, isR r = true) : ∀ c ∈ cutG rs, Cl c := foldl_clus rs [] h (by simp)
theorem cut_clus (l : List UInt8) : ∀ c ∈ cutG (runesL l), Cl c := cutG_clus _ (runesL_isR l)
theorem map_flat (out : List (List Nat)) : (out.map encL).flatten = encL out.flatten := by
  induction out with
  | nil => rfl
  | cons c out ih => rw [List.map_cons, List.flatten_cons, List.flatten_cons, encL_append, ih]
/-- What one cluster is, as bytes. -/
def Clu (c : List UInt8) : Prop := ∃ g, Cl g ∧ c = encL g
theorem clu_mem {l c : List UInt8} (h : c ∈ cutL l) : Clu c := by
  obtain ⟨g, hg, rfl⟩ := List.mem_map.1 h
  exact ⟨g, cut_clus l g hg, rfl⟩
theorem clus_map : ∀ (out : List (List UInt8)), (∀ c ∈ out, Clu c) → ∃ gs : List (List Nat), (∀ g ∈ gs, Cl g) ∧ out = gs.map encL
  | [], _ => ⟨[], by simp, rfl⟩
  | c :: out, h => by
    obtain ⟨g, hg, rfl⟩ := h c (by simp)
    obtain ⟨gs, hgs, rfl⟩ := clus_map out (fun x hx => h x (by simp [hx]))
    exact ⟨g :: gs, by
      intro x hx
      rcases List.mem_cons.1 hx with rfl | hx
      · exact hg
      · exact hgs x hx, rfl⟩
theorem flat_isR {gs : List (List Nat)} (h : ∀ g ∈ gs, Cl g) : ∀ r ∈ gs.flatten, isR r = true := by
  intro r hr
  obtain ⟨c, hc, hrc⟩ := List.mem_flatten.1 hr
  exact (h c hc).rune r hrc
/-- Clusters, one behind the other, have themselves as clusters. -/
theorem cutL_flat {out : List (List UInt8)} (h : ∀ c ∈ out, Clu c) : cutL out.flatten = out := by
  obtain ⟨gs, hgs, rfl⟩ := clus_map out h
  unfold cutL
  rw [map_flat, runes_enc0 _ (flat_isR hgs), cut_flat hgs]
theorem cut_take (l : List UInt8) (k : Nat) : cutL ((cutL l).take k).flatten = (cutL l).take k := cutL_flat fun _ hc => clu_mem (List.mem_of_mem_take hc)
/-- A text without what stands in no cell. -/
def cleanL (l : List UInt8) : List UInt8 := (cutL l).flatten
theorem cut_clean (l : List UInt8) : cutL (cleanL l) = cutL l := cutL_flat fun _ hc => clu_mem hc
theorem clean_clean (l : List UInt8) : cleanL (cleanL l) = cleanL l := by
  have h := cut_clean l
  unfold cleanL at h ⊢
  rw [h]
/-- The columns of what begins with a base. -/
def colsL (l : List UInt8) : Int := match runesL l with | r :: _ => colsB r | [] => 0
theorem colsL_bd (l : List UInt8) : 0 ≤ colsL l ∧ colsL l ≤ 2 := by
  unfold colsL; split
  · exact cols_bd _
  · omega
theorem Clu.cols {c : List UInt8} (h : Clu c) : 1 ≤ colsL c ∧ colsL c ≤ 2 := by
  obtain ⟨g, hg, rfl⟩ := h
  obtain ⟨r, t, e, hb⟩ := hg.base
  unfold colsL
  rw [runes_enc0 _ hg.rune, e]
  have := cols_bd r
  dsimp only; omega
theorem Clu.len {c : List UInt8} (h : Clu c) : 1 ≤ c.length ∧ c.length ≤ 64 := by
  obtain ⟨g, hg, rfl⟩ := h
  obtain ⟨r, t, e, hb⟩ := hg.base
  refine ⟨?_, hg.len⟩
  rw [e, encL_cons, List.length_append]; have := bytesN_len r; omega
theorem Clu.cut {c : List UInt8} (h : Clu c) : cutL c = [c] := by
  have := cutL_flat (out := [c]) (by intro x hx; rw [List.mem_singleton.1 hx]; exact h)
  simpa using this
theorem cutL_nil : cutL [] = [] := rfl
/-- All columns. -/
def sumC (l : List (List UInt8)) : Int := l.foldr (fun c n => colsL c + n) 0
theorem sumC_cons (c : List UInt8) (l : List (List UInt8)) : sumC (c :: l) = colsL c + sumC l := rfl
theorem sumC_append (a b : List (List UInt8)) : sumC (a ++ b) = sumC a + sumC b := by
  induction a with
  | nil => simp [sumC]
  | cons c a ih => rw [List.cons_append, sumC_cons, sumC_cons, ih]; omega
theorem sumC_bd (l : List (List UInt8)) : 0 ≤ sumC l ∧ sumC l ≤ 2 * l.length := by
  induction l with
  | nil => simp [sumC]
  | cons c l ih => rw [sumC_cons, List.length_cons]; have := colsL_bd c; omega
/-- How many of the first clusters have room in n columns. -/
def fitK : List (List UInt8) → Int → Nat
  | [], _ => 0
  | c :: l, n => if n < colsL c then 0 else fitK l (n - colsL c) + 1
theorem fitK_le : ∀ (l : List (List UInt8)) (n : Int), fitK l n ≤ l.length
  | [], _ => Nat.le_refl _
  | c :: l, n => by
    unfold fitK; split
    · omega
    · have := fitK_le l (n - colsL c); simp; omega
/-- The lengths of a text's runes and clusters. -/
theorem stepL_le (l : List UInt8) (h : l ≠ []) : (stepL l).2 ≤ l.length := by
  match l, h with
  | c :: t, _ =>
    unfold stepL
    repeat' split
    all_goals first | (simp; done) | (rename_i e _; rw [e]; simp)
theorem runesF_len : ∀ (n : Nat) (l : List UInt8), (runesF n l).length ≤ n
  | 0, _ => by simp [runesF]
  | _ + 1, [] => by simp [runesF]
  | n + 1, c :: t => by unfold runesF; have := runesF_len n ((c :: t).drop (stepL (c :: t)).2); simp; omega
theorem runesL_len (l : List UInt8) : (runesL l).length ≤ l.length := runesF_len _ _
theorem stepG_len (out : List (List Nat)) (r : Nat) : (stepG out r).length ≤ out.length + 1 := by
  rcases stepG_two out r with e | ⟨e, _⟩ | ⟨o, c, eo, e, _⟩ <;> rw [e]
  · omega
  · simp
  · subst eo; simp
theorem cutG_len (rs : List Nat) : (cutG rs).length ≤ rs.length := by
  have : ∀ (rs : List Nat) (o : List (List Nat)), (rs.foldl stepG o).length ≤ o.length + rs.length := by
    intro rs
    induction rs with
    | nil => intro o; simp
    | cons r rs ih => intro o; rw [List.foldl_cons]; have := ih (stepG o r); have := stepG_len o r; simp; omega
  simpa [cutG] using this rs []
theorem cutL_len (l : List UInt8) : (cutL l).length ≤ l.length := by
  unfold cutL; rw [List.length_map]; exact Nat.le_trans (cutG_len _) (runesL_len l)
end Go.Proofs.Ytekodpcedjpnjaa
