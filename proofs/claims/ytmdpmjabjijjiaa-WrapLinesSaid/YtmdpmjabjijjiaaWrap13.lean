/- What the law WrapLines keeps in its loops: three rows of its own and the reference's lines. No condition. The law WrapLines. No condition. -/
import Derived.Test.YtmdpmjabjijjiaaWrap11
import Derived.Test.YtmdpmjabjijjiaaRClus7
import Derived.Test.YtmdpmjabjijjiaaFlat
import Derived.Deep.QuietTactic
import Derived.BigQuiet
namespace Go.Proofs.Ytmdpmjabjijjiaa
set_option linter.unusedVariables false
set_option linter.unusedSimpArgs false
open Go.RowKit Go.Shelf Go.Maps
/-- Apt rows are not one. -/
def Apt (v u : Value) : Prop := v.ownBlock = none ∨ v.ownBlock ≠ u.ownBlock
theorem Apt.symm {v u : Value} (h : Apt v u) : Apt u v := by
  rcases h with h | h
  · cases hu : u.ownBlock with
    | none => exact .inl hu
    | some k => exact .inr (by rw [hu, h]; simp)
  · exact .inr (fun e => h e.symm)
theorem Apt.nil (v : Value) : Apt v (.slice none 0 0) := by
  cases hv : v.ownBlock with
  | none => exact .inl hv
  | some k => exact .inr (by rw [hv]; simp [Value.ownBlock])
theorem apt_new {W : World} {n₀ : Nat} {e : TypeId} {v v' u : Value} {n : Nat} {xs : List Value} (h : Apt v u) (hu : W.ownsRow n₀ e 1 u n xs) (ho : v'.ownBlock = v.ownBlock ∨ v'.ownBlock = some W.heap.size) : Apt v' u := by
  rcases ho with ho | ho
  · unfold Apt; rw [ho]; exact h
  · refine .inr ?_
    rw [ho]
    intro e
    have := (hu.lt _ e.symm).2
    omega
structure R3 (w : World) (A F : CL) (I : List Nat) (L : CL) (va vf vi vl : Value) (W : World) : Prop where
  b : Below w.heap.size w W
  a : W.ownsRow w.heap.size 9 1 va A.length (strV A)
  f : W.ownsRow w.heap.size 9 1 vf F.length (strV F)
  i : W.ownsRow w.heap.size 3 1 vi I.length (natV I)
  l : W.ownsRow w.heap.size 9 1 vl L.length (strV L)
  af : Apt va vf
  al : Apt va vl
theorem R3.size {w W : World} {A F L : CL} {I : List Nat} {va vf vi vl : Value} (h : R3 w A F I L va vf vi vl W) : w.heap.size ≤ W.heap.size := h.b.size
theorem R3.nil (w : World) : R3 w [] [] [] [] (.slice none 0 0) (.slice none 0 0) (.slice none 0 0) (.slice none 0 0) w :=
  ⟨Below.refl _ _, World.ownsRow_nil _ _ _ _, World.ownsRow_nil _ _ _ _, World.ownsRow_nil _ _ _ _, World.ownsRow_nil _ _ _ _, .inl rfl, .inl rfl⟩
theorem own_belowR {W W' : World} {n₀ : Nat} {e : TypeId} {v : Value} {n : Nat} {xs : List Value} (h : W.ownsRow n₀ e 1 v n xs) (hb : Below W.heap.size W W') : W'.ownsRow n₀ e 1 v n xs :=
  own_far h (grown_of_below hb) (fun r e => by cases e)
theorem R3.below {w W W' : World} {A F L : CL} {I : List Nat} {va vf vi vl : Value} (h : R3 w A F I L va vf vi vl W) (hb : Below W.heap.size W W') : R3 w A F I L va vf vi vl W' :=
  ⟨bto h.b hb h.size, own_belowR h.a hb, own_belowR h.f hb, own_belowR h.i hb, own_belowR h.l hb, h.af, h.al⟩
theorem R3.alloc {w W : World} {A F L : CL} {I : List Nat} {va vf vi vl : Value} (h : R3 w A F I L va vf vi vl W) (o : Obj) : R3 w A F I L va vf vi vl (W.alloc o) :=
  h.below ((Below.refl _ _).alloc (Nat.le_refl _) o)
theorem R3.appF {w W W' : World} {A F : CL} {I : List Nat} {va vf vi v' : Value} {s : List UInt8} (h : R3 w A F I [] va vf vi (.slice none 0 0) W) (hgr : W.grownBy W' vf.ownBlock)
    (ho : W'.ownsRow w.heap.size 9 1 v' (F.length + 1) (strV F ++ [.string (S s)])) (hob : v'.ownBlock = vf.ownBlock ∨ v'.ownBlock = some W.heap.size) : R3 w A (F ++ [s]) I [] va v' vi (.slice none 0 0) W' :=
  ⟨h.b.grown hgr h.size (fun k e => (own_cells h.f k e).1), h.a.kept hgr h.af, by rw [List.length_append, strV_snoc]; exact ho,
    own_but h.i hgr (fun k e => by obtain ⟨_, cur, h2⟩ := own_cells h.f k e; exact .inr ⟨cur, _, _, lne, h2⟩), World.ownsRow_nil _ _ _ _, (apt_new h.af.symm h.a hob).symm, Apt.nil _⟩
theorem R3.appA {w W W' : World} {A F L : CL} {I : List Nat} {va vf vi vl v' : Value} {s : List UInt8} (h : R3 w A F I L va vf vi vl W) (hgr : W.grownBy W' va.ownBlock)
    (ho : W'.ownsRow w.heap.size 9 1 v' (A.length + 1) (strV A ++ [.string (S s)])) (hob : v'.ownBlock = va.ownBlock ∨ v'.ownBlock = some W.heap.size) : R3 w (A ++ [s]) F I L v' vf vi vl W' :=
  ⟨h.b.grown hgr h.size (fun k e => (own_cells h.a k e).1), by rw [List.length_append, strV_snoc]; exact ho, h.f.kept hgr h.af.symm,
    own_but h.i hgr (fun k e => by obtain ⟨_, cur, h2⟩ := own_cells h.a k e; exact .inr ⟨cur, _, _, lne, h2⟩), h.l.kept hgr h.al.symm, apt_new h.af h.f hob, apt_new h.al h.l hob⟩
theorem natV_snoc (l : List Nat) (n : Nat) : natV (l ++ [n]) = natV l ++ [.int .i64 (n : Int)] := by simp [natV]
theorem R3.appI {w W W' : World} {A F L : CL} {I : List Nat} {va vf vi vl v' : Value} {n : Nat} (h : R3 w A F I L va vf vi vl W) (hgr : W.grownBy W' vi.ownBlock)
    (ho : W'.ownsRow w.heap.size 3 1 v' (I.length + 1) (natV I ++ [.int .i64 (n : Int)])) : R3 w A F (I ++ [n]) L va vf v' vl W' :=
  have hc := fun k e => (by obtain ⟨_, cur, h2⟩ := own_cells h.i k e; exact .inr ⟨cur, _, _, lne.symm, h2⟩ : k < w.heap.size ∨ ∃ cur t fr, t ≠ (9 : TypeId) ∧ W.heap[k]? = some (.cells cur t fr))
  ⟨h.b.grown hgr h.size (fun k e => (own_cells h.i k e).1), own_but h.a hgr hc, own_but h.f hgr hc, by rw [List.length_append, natV_snoc]; exact ho, own_but h.l hgr hc, h.af, h.al⟩
theorem R3.lines {w W : World} {A F L : CL} {I : List Nat} {va vf vi v : Value} {n₁ : Nat} (h : R3 w A F I [] va vf vi (.slice none 0 0) W) (ho : W.ownsRow n₁ 9 1 v L.length (strV L)) (hn : w.heap.size ≤ n₁) (hv : Apt va v) : R3 w A F I L va vf vi v W :=
  ⟨h.b, h.a, h.f, h.i, own_base ho hn, h.af, hv⟩
theorem R3.none {w W : World} {A F L : CL} {I : List Nat} {va vf vi vl : Value} (h : R3 w A F I L va vf vi vl W) : R3 w A F I [] va vf vi (.slice none 0 0) W :=
  ⟨h.b, h.a, h.f, h.i, World.ownsRow_nil _ _ _ _, h.af, Apt.nil _⟩
/-- What a later call has made is not an old row. -/
theorem apt_fresh {W W' : World} {n₀ n₁ : Nat} {v u : Value} {n m : Nat} {xs ys : List Value} {e e' : TypeId} (h : W.ownsRow n₀ e 1 v n xs) (hu : W'.ownsRow n₁ e' 1 u m ys) (hn : W.heap.size ≤ n₁) : Apt v u := by
  cases hv : v.ownBlock with
  | none => exact .inl hv
  | some k =>
    refine .inr ?_
    rw [hv]
    intro e
    have h1 := (h.lt k hv).2
    have h2 := (hu.lt k e.symm).1
    omega
theorem nat_at {B : Nat} {w : World} {a : Option Addr} {L : List Nat} (h : RowAt B w a (natV L)) (k : Nat) (hk : k < L.length) : ∃ b off, a = some ⟨b, off, none⟩ ∧ b < B ∧ w.cell? ⟨b, off + k, none⟩ = some (.int .i64 (nth 0 L k : Nat)) := by
  obtain ⟨b, off, e, hb, hc⟩ := h k (by rw [natV_len]; exact hk)
  refine ⟨b, off, e, hb, ?_⟩
  rw [hc]
  simp [natV, nth, hk]
theorem linesP_fst (few : CL) (m : Int) (n : Nat) : (linesP few m (n + 1)).map (·.1) = (linesP few m n).map (·.1) ++ List.replicate (wrapL (nth [] few n) m).length n := by
  rw [linesP_succ, List.map_append, List.map_map]
  congr 1
  rw [List.eq_replicate_iff]
  refine ⟨by simp, fun x hx => ?_⟩
  simp at hx
  exact hx.2.symm
theorem linesP_snd (few : CL) (m : Int) (n : Nat) : (linesP few m (n + 1)).map (·.2) = (linesP few m n).map (·.2) ++ wrapL (nth [] few n) m := by
  rw [linesP_succ, List.map_append, List.map_map]
  congr 1
  simp [Function.comp_def]
theorem exists_list {α : Type} (d : α) (p : Nat → α → Prop) : ∀ n, (∀ i, i < n → ∃ x, p i x) → ∃ L : List α, L.length = n ∧ ∀ i, i < n → p i (nth d L i)
  | 0, _ => ⟨[], rfl, fun i hi => absurd hi (Nat.not_lt_zero _)⟩
  | n + 1, h => by
    obtain ⟨L, hL, hp⟩ := exists_list d p n (fun i hi => h i (by omega))
    obtain ⟨x, hx⟩ := h n (by omega)
    refine ⟨L ++ [x], by simp [hL], fun i hi => ?_⟩
    by_cases he : i < n
    · have : nth d (L ++ [x]) i = nth d L i := by rw [nth_eq _ _ _ (by simp; omega), nth_eq _ _ _ (by omega), List.getElem_append_left (by omega)]
      rw [this]; exact hp i he
    · obtain rfl : i = n := by omega
      have : nth d (L ++ [x]) i = x := by simp [nth, ← hL]
      rw [this]; exact hx
theorem flats_strs {W : World} {a : Option Addr} {len cap : Nat} (h : IsFlats [.str] W a len cap) : len ≤ cap ∧ cap ≤ maxLen ∧ ∃ T : CL, T.length = len ∧ (∀ s ∈ T, s.length ≤ maxLen) ∧ RowAt W.heap.size W a (strV T) := by
  obtain ⟨h1, h2, h3⟩ := h
  obtain ⟨T, hT, hp⟩ := exists_list ([] : List UInt8) (fun i l => l.length ≤ maxLen ∧ ∃ b off, a = some ⟨b, off, none⟩ ∧ b < W.heap.size ∧ W.cell? ⟨b, off + i, none⟩ = some (.string (S l))) len (fun i hi => by
    obtain ⟨b, off, V, e, hb, hF, hc⟩ := h3 i hi
    obtain ⟨v, vs, rfl, ⟨s, rfl, hs⟩, hn⟩ := hF.uncons
    obtain ⟨l, rfl⟩ := S_back s
    rw [S_size] at hs
    have := hc 0 (by simp)
    simp at this
    exact ⟨l, hs, b, off, e, hb, this⟩)
  refine ⟨h1, h2, T, hT, fun s hs => ?_, fun j hj => ?_⟩
  · obtain ⟨i, hi, rfl⟩ := List.mem_iff_getElem.1 hs
    have := (hp i (by omega)).1
    rwa [nth_eq _ _ _ hi] at this
  · rw [strV_len] at hj
    obtain ⟨_, b, off, e, hb, hc⟩ := hp j (by omega)
    exact ⟨b, off, e, hb, by rw [hc]; unfold strV; rw [nth_map _ [] _ _ hj]⟩
end Go.Proofs.Ytmdpmjabjijjiaa
namespace Go.Proofs.Ytmdpmjabjijjiaa
set_option linter.unusedVariables false
set_option linter.unusedSimpArgs false
open Go.RowKit Go.Shelf Go.Maps
theorem snoc_cell {W : World} {n₀ g c n k : Nat} {F : CL} {s : List UInt8} (h : W.ownsRow n₀ 9 1 (.slice (some ⟨g, 0, none⟩) n c) (F ++ [s]).length (strV (F ++ [s]))) (hk : F.length = k) : W.cell? ⟨g, k, none⟩ = some (.string (S s)) ∧ g < W.heap.size := by
  refine ⟨?_, (h.lt g rfl).2⟩
  have := h.cells (g := g) rfl k (.string (S s)) (by rw [strV_snoc, List.getElem?_append_right (by rw [strV_len]; omega), strV_len, hk]; simp)
  rw [Go.WideShapes.add_plain, Nat.zero_add] at this
  exact this
theorem take_snoc17 (L : CL) (k : Nat) (h : k < L.length) : L.take (k + 1) = L.take k ++ [nth [] L k] := by
  rw [List.take_succ_eq_append_getElem h, nth_eq _ _ _ h]
set_option maxRecDepth 100000 in
set_option maxHeartbeats 32000000 in
theorem wrapLines_law (m0 : Int) (a : Option Addr) (len cap : Nat) (st0 : Int) (w : World) (hm0 : (Lit.int .i64 m0).wf = true) (hfl : IsFlats [.str] w a len cap) (hst0 : (Lit.int .u8 st0).wf = true) :
    Calls Try.prog 13 #[.int .i64 m0, .slice a len cap, .int .u8 st0] w fun e w' => e = .returned (.bool true) ∧ Below w.heap.size w w' := by
  have hm : -9223372036854775808 ≤ m0 ∧ m0 ≤ 9223372036854775807 := by simpa [Lit.wf, IntKind.min, IntKind.max, IntKind.signed, IntKind.bits] using hm0
  have hst : 0 ≤ st0 ∧ st0 ≤ 255 := bounds_u8 hst0
  obtain ⟨st, rfl⟩ := Int.eq_ofNat_of_zero_le hst.1
  obtain ⟨hlc, hcm, T, hT, hTl, hrow⟩ := flats_strs hfl
  obtain ⟨i0, hi, hz0, hz1, hz2⟩ := info_parts infoStrc
  obtain ⟨j0, hj, hy0, hy1, hy2⟩ := info_parts infoIntL
  have CW := Lib.hid (fun W => wide17_any m0 W)
  obtain ⟨m, hm'⟩ : ∃ m, m = min m0 600 := ⟨_, rfl⟩
  rw [← hm'] at CW
  have hml : -9223372036854775808 ≤ m ∧ m ≤ 600 := by omega
  obtain ⟨FF, hFF⟩ : ∃ FF, FF = (T.take 6).map (fun l => l.take 300) := ⟨_, rfl⟩
  have hFl : FF.length = min len 6 := by rw [hFF, List.length_map, List.length_take, hT]; omega
  have hFs : ∀ s ∈ FF, s.length ≤ 400 := fun s hs => by
    rw [hFF] at hs
    obtain ⟨l, _, rfl⟩ := List.mem_map.1 hs
    rw [List.length_take]; omega
  have hFk : ∀ k, k < FF.length → (nth [] T k).take 300 = nth [] FF k := fun k hk => by
    have h2 : k < T.length := by omega
    rw [nth_eq _ _ _ hk, nth_eq _ _ _ h2]
    simp only [hFF, List.getElem_map, List.getElem_take]
  have hTk : ∀ k, k < FF.length → (nth [] T k).length ≤ maxLen := fun k hk => hTl _ (by rw [nth_eq _ _ _ (by omega)]; exact List.getElem_mem (by omega))
  have hPk : ∀ k, k ≤ FF.length → (linesP FF m k).length ≤ 400000 := fun k hk => by have := linesP_len FF m hFs k hk; omega
  have hcm9 : cap ≤ 9223372036854775807 := by unfold maxLen at hcm; omega
  have hFl6 : FF.length ≤ 6 := by omega
  have HROW := Lib.hid hrow
  have HFS := Lib.hid hFs
  have HFK := Lib.hid hFk
  have HTK := Lib.hid hTk
  have HPK := Lib.hid hPk
  have HT := Lib.hid hT
  clear hm hm' hm0 hFF hTl hst0 hfl hrow hFs hFk hTk hPk hT
  go_enter Try.func13, Try.ntmps13
  go_wp2_with (go_at_call 58; refine (CW.out _).mono ?_; rintro e wn ⟨rfl, rfl⟩)
  go_loopw [10, 7, 8, 9] (fun i va vi vf wr => ∃ k : Nat, k ≤ FF.length ∧ i = .int .i64 (k : Int) ∧ R3 w ((linesP FF m k).map (·.2)) (FF.take k) ((linesP FF m k).map (·.1)) [] va vf vi (.slice none 0 0) wr) (fun i _ _ _ _ => FF.length - (intOf i).toNat)
  case atStart => exact ⟨0, Nat.zero_le _, rfl, by simpa [linesP] using R3.nil w⟩
  case round =>
    obtain ⟨k, hk, rfl, hR⟩ := hrel
    have hPl := HPK.out k hk
    by_cases hlt : k < FF.length
    · have hkl : k < len := by omega
      have hk6 : (k : Int) < 6 := by omega
      obtain ⟨b, off, rfl, hbb, hcx⟩ := strs_at HROW.out k (by rw [HT.out]; exact hkl)
      have hdx := (hR.b.cell (p := ⟨b, off + k, none⟩) hbb).trans hcx
      have C0 := (fun W => cut17_any (nth [] T k) W (HTK.out k hlt))
      rw [HFK.out k hlt] at C0
      have hsl : (nth [] FF k).length ≤ 400 := HFS.out _ (by rw [nth_eq _ _ _ hlt]; exact List.getElem_mem hlt)
      have hP1 := linesP_snd FF m k
      have hP2 := linesP_fst FF m k
      have hPl2 := HPK.out (k + 1) hlt
      have hF1 : FF.take (k + 1) = FF.take k ++ [nth [] FF k] := take_snoc17 FF k hlt
      obtain ⟨s, hs⟩ : ∃ s, s = nth [] FF k := ⟨_, rfl⟩
      obtain ⟨D, hD⟩ : ∃ D, D = wrapL s m := ⟨_, rfl⟩
      rw [← hs] at C0 hsl hP1 hP2 hF1
      have CR := (fun W => refWrap17_own s m hsl (by omega) W)
      have CP := (fun W => wrap_own s m hsl (by omega) W)
      have hDl := wrapL_len s m hsl
      rw [← hD] at hP1 hP2 CR CP hDl
      obtain ⟨A, hA⟩ : ∃ A, A = (linesP FF m k).map (·.2) := ⟨_, rfl⟩
      obtain ⟨I, hI⟩ : ∃ I, I = (linesP FF m k).map (·.1) := ⟨_, rfl⟩
      obtain ⟨F, hF⟩ : ∃ F, F = FF.take k := ⟨_, rfl⟩
      have hAl : A.length ≤ 400000 := by rw [hA, List.length_map]; exact hPl
      have hIl : I.length ≤ 400000 := by rw [hI, List.length_map]; exact hPl
      have hFk0 : F.length = k := by rw [hF, List.length_take]; omega
      rw [← hA] at hP1 hR
      rw [← hI] at hP2 hR
      rw [← hF] at hF1 hR
      have CS := Lib.hid (fun W a b n c m d hn hm ha hb => sameAll_eq D a b n c m d W hn hm (by omega) ha hb)
      have C0 := Lib.hid C0
      have CR := Lib.hid CR
      have CP := Lib.hid CP
      have HP1 := Lib.hid hP1
      have HP2 := Lib.hid hP2
      have HF1 := Lib.hid hF1
      have HFK0 := Lib.hid hFk0
      obtain ⟨av, cv, rfl⟩ := own_slice hR.a
      obtain ⟨ai, ci, rfl⟩ := own_slice hR.i
      obtain ⟨af, cf, rfl⟩ := own_slice hR.f
      have hRs := hR.size
      have hkc : k < cap := by omega
      have hkf : k < F.length + 1 := by omega
      have hF6 : F.length ≤ 6 := by omega
      clear hs hD hA hI hF hP1 hP2 hF1 hPl2 hPl hcx hFk0
      go_wp2_with (first
        | (go_at_call 57; refine (C0.out _).mono ?_; rintro e wn ⟨rfl, rfl⟩)
        | (at_builtin; go_loud (refine wpList_append_own_at _ rfl _ _ 23 rfl w.heap.size 9 i0 (.string ⟨#[]⟩) 1 16 Try.underlying23 hi hz0 hz1 hz2 rfl (by decide) _ _ _ rfl (hR.alloc _).f _ 1 1 [.string (S s)] rfl rfl (boxed_news (Boxed.new _ 9 (.string (S s)))) (by simp [Value.oneCell']) (by unfold maxLen; omega) (by omega) (by simp; omega) ?_; intro v4 w4 ho4 hg4 _ hob4; obtain ⟨g4, c4, rfl⟩ := ownsRow_succ ho4; have hR4 := (hR.alloc _).appF hg4 ho4 hob4; obtain ⟨hfc1, hfc2⟩ := snoc_cell hR4.f HFK0.out; have hnc4 := (own_row_at (show w4.ownsRow _ _ _ _ _ _ from ho4)).2))
        | (go_at_call 67; refine (CR.out _).mono ?_; rintro e w5 ⟨v5, rfl, ho5, hb5⟩; obtain ⟨a5, c5, rfl⟩ := own_slice ho5; have hR5 := (hR4.below hb5).lines ho5 hR4.size (apt_fresh hR4.a ho5 (Nat.le_refl _)); have hfc5 := (hb5.cell (p := ⟨g4, k, none⟩) hfc2).trans hfc1)
        | (go_at_call 59; refine (CP.out _).mono ?_; rintro e w6 ⟨v6, rfl, ho6, hb6⟩; obtain ⟨a6, c6, rfl⟩ := own_slice ho6; have hR6 := hR5.below hb6)
        | (go_at_call 24; refine (CS.out _ _ _ _ _ _ _ (by simp) (by simp) (own_row_at ho6).1 (own_row_at hR6.l).1).mono ?_; rintro e w7 ⟨rfl, hb7⟩; have hR7 := hR6.below hb7))
      clear hR hR4 hR5 hR6 ho4 ho5 ho6 hg4 hob4 hfc1 hfc2 hfc5 hb5 hb6 hb7
      go_loopw [12, 7, 8] (fun j va vi wr' => ∃ q : Nat, q ≤ D.length ∧ j = .int .i64 (q : Int) ∧ R3 w (A ++ D.take q) (F ++ [s]) (I ++ List.replicate q k) D va (.slice (some ⟨g4, 0, none⟩) (F.length + 1) c4) vi (.slice a5 D.length c5) wr') (fun j _ _ _ => D.length - (intOf j).toNat)
      case atStart => exact ⟨0, Nat.zero_le _, rfl, by simpa using hR7⟩
      case round =>
        obtain ⟨q, hq, rfl, hR8⟩ := hrel
        obtain ⟨hrowl, hncl, hcml⟩ := own_row_at hR8.l
        obtain ⟨va8, cv8, rfl⟩ := own_slice hR8.a
        obtain ⟨vi8, ci8, rfl⟩ := own_slice hR8.i
        by_cases hql : q < D.length
        · obtain ⟨b9, o9, rfl, hb9, hc9⟩ := strs_at hrowl q hql
          have hqc : q < c5 := by omega
          have hA1 : A ++ D.take (q + 1) = (A ++ D.take q) ++ [nth [] D q] := by rw [take_snoc17 D q hql, List.append_assoc]
          have hI1 : I ++ List.replicate (q + 1) k = (I ++ List.replicate q k) ++ [k] := by rw [List.replicate_succ', List.append_assoc]
          have HA1 := Lib.hid hA1
          have HI1 := Lib.hid hI1
          have hAql : (A ++ D.take q).length ≤ 500000 := by rw [List.length_append, List.length_take]; omega
          have hIql : (I ++ List.replicate q k).length ≤ 500000 := by rw [List.length_append, List.length_replicate]; omega
          obtain ⟨AQ, hAQ⟩ : ∃ AQ, AQ = A ++ D.take q := ⟨_, rfl⟩
          obtain ⟨IQ, hIQ⟩ : ∃ IQ, IQ = I ++ List.replicate q k := ⟨_, rfl⟩
          obtain ⟨x, hx⟩ : ∃ x, x = nth [] D q := ⟨_, rfl⟩
          rw [← hAQ] at hR8 hAql HA1
          rw [← hIQ] at hR8 hIql HI1
          rw [← hx] at hc9 HA1
          have hs8 := hR8.size
          rw [← hAQ, ← hIQ]
          clear hAQ hIQ hx hA1 hI1 hrowl hncl hcml hb9
          go_wp2_with (first
            | (at_builtin; refine wpList_append_own_at _ rfl _ _ 23 rfl w.heap.size 9 i0 (.string ⟨#[]⟩) 1 16 Try.underlying23 hi hz0 hz1 hz2 rfl (by decide) _ _ _ rfl (hR8.alloc _).a _ 1 1 [.string (S x)] rfl rfl (boxed_news (Boxed.new _ 9 (.string (S x)))) (by simp [Value.oneCell']) (by unfold maxLen; omega) (by omega) (by simp; omega) ?_; intro v10 w10 ho10 hg10 _ hob10; have hR10 := (hR8.alloc _).appA hg10 ho10 hob10; have hs10 := hR10.size)
            | (at_builtin; refine wpList_append_own_at _ rfl _ _ 73 rfl w.heap.size 3 j0 (.int .i64 0) 1 8 Try.underlying73 hj hy0 hy1 hy2 rfl (by decide) _ _ _ rfl (hR10.alloc _).i _ 1 1 [.int .i64 (k : Int)] rfl rfl (boxed_news (Boxed.new _ 3 (.int .i64 (k : Int)))) (by simp [Value.oneCell']) (by unfold maxLen; omega) (by omega) (by simp; omega) ?_; intro v11 w11 ho11 hg11 _ _; have hR11 := (hR10.alloc _).appI hg11 ho11))
          go_roundw
          case rel => exact ⟨q + 1, hql, by go_num, by rw [HA1.out, HI1.out]; exact hR11⟩
          case measure => simp [intOf]; omega
        · obtain rfl : q = D.length := by omega
          clear hrowl hncl hcml
          go_wp2
          go_roundw
          case rel =>
            refine ⟨k + 1, hlt, by go_num, ?_⟩
            rw [HP1.out, HP2.out, HF1.out]
            rw [List.take_length] at hR8 ⊢
            exact hR8.none
          case measure => simp [intOf]; omega
    · obtain rfl : k = FF.length := by omega
      obtain ⟨P, hP⟩ : ∃ P, P = linesP FF m FF.length := ⟨_, rfl⟩
      rw [← hP, List.take_length] at hR
      rw [← hP] at hPl
      obtain ⟨AA, hAA⟩ : ∃ AA, AA = P.map (·.2) := ⟨_, rfl⟩
      obtain ⟨II, hII⟩ : ∃ II, II = P.map (·.1) := ⟨_, rfl⟩
      obtain ⟨K, hK⟩ : ∃ K, K = min AA.length st := ⟨_, rfl⟩
      have hAl : P.length = AA.length := by rw [hAA, List.length_map]
      have hIl : II.length = AA.length := by rw [hII, List.length_map]; exact hAl
      have L1 := (fun W a c hc hm hr => lines17_any FF m hFl6 HFS.out (by omega) K (by omega) a c hc hm W hr)
      have L2 := (fun W a c hc hm hr => lines17_any FF m hFl6 HFS.out (by omega) (AA.length + 1) (by omega) a c hc hm W hr)
      rw [← hP] at L1 L2
      rw [List.take_of_length_le (by omega : P.length ≤ AA.length + 1)] at L2
      have L2 := (fun W a c hc hm hr => (by simpa using L2 W a c hc hm hr : Calls Try.prog 68 #[.int .i64 m, .slice a FF.length c, .int .i64 ((AA.length : Int) + 1)] W (TwoR P W)))
      have e1 : (P.take K).map (·.2) = AA.take K := by rw [hAA, List.map_take]
      have e2 : (P.take K).map (·.1) = II.take K := by rw [hII, List.map_take]
      have e3 : (P.take K).length = K := by rw [List.length_take]; omega
      have T1 : ∀ W e W', TwoR (P.take K) W e W' → ∃ a c a2 c2, e = .returned (.tuple #[.slice a K c, .slice a2 K c2]) ∧ (K ≤ c ∧ c ≤ maxLen ∧ K ≤ c2 ∧ c2 ≤ maxLen) ∧ RowAt W'.heap.size W' a (strV (AA.take K)) ∧ RowAt W'.heap.size W' a2 (natV (II.take K)) ∧ Below W.heap.size W W' := fun W e W' h => by
        unfold TwoR at h
        rwa [e1, e2, e3] at h
      have T2 : ∀ W e W', TwoR P W e W' → ∃ a c a2 c2, e = .returned (.tuple #[.slice a AA.length c, .slice a2 AA.length c2]) ∧ (AA.length ≤ c ∧ c ≤ maxLen ∧ AA.length ≤ c2 ∧ c2 ≤ maxLen) ∧ RowAt W'.heap.size W' a (strV AA) ∧ RowAt W'.heap.size W' a2 (natV II) ∧ Below W.heap.size W W' := fun W e W' h => by
        unfold TwoR at h
        rwa [← hAA, ← hII, hAl] at h
      have hKA : K ≤ AA.length := by omega
      have hAAl : AA.length ≤ 400000 := by omega
      have hmin : min (AA.length : Int) (st : Int) = (K : Int) := by omega
      have hKst : K ≤ 255 := by omega
      have hwr : IntKind.i64.wrap (st : Int) = (st : Int) := IntWalk.i64_in _ (by omega)
      have hAK : (AA.take K).length = K := by rw [List.length_take]; omega
      have hIK : ∀ i, i < K → nth 0 (II.take K) i = nth 0 II i := fun i hi => by rw [nth_eq _ _ _ (by rw [List.length_take]; omega), nth_eq _ _ _ (by omega), List.getElem_take]
      have hIKl : (II.take K).length = K := by rw [List.length_take]; omega
      rw [← hAA, ← hII] at hR
      have hA := hR.a
      have hI := hR.i
      rw [hIl] at hI
      obtain ⟨aA, cA, rfl⟩ := own_slice hA
      obtain ⟨aI, cI, rfl⟩ := own_slice hI
      obtain ⟨aF, cF, rfl⟩ := own_slice hR.f
      obtain ⟨hrA, hnA, hmA⟩ := own_row_at hA
      obtain ⟨hrI, hnI, hmI⟩ := own_row_at hI
      obtain ⟨hrF, hnF, hmF⟩ := own_row_at hR.f
      have hb0 := hR.b
      have hKc : K ≤ cA := by omega
      have hmA9 : cA ≤ 9223372036854775807 := by unfold maxLen at hmA; omega
      have hmF9 : cF ≤ 9223372036854775807 := by unfold maxLen at hmF; omega
      have hK1 : ((K : Int) != (K : Int)) = false := by simp
      have hA1 : ((AA.length : Int) != (AA.length : Int)) = false := by simp
      have CS := Lib.hid (fun W a b n c m d hn hm ha hb => sameAll_eq AA a b n c m d W hn hm (by omega) ha hb)
      have CT := Lib.hid (fun W a b n c m d hn hm ha hb => sameAll_eq (AA.take K) a b n c m d W hn hm (by omega) ha hb)
      have L1 := Lib.hid L1
      have L2 := Lib.hid L2
      have T1 := Lib.hid T1
      have T2 := Lib.hid T2
      have HAK := Lib.hid hAK
      have HIK := Lib.hid hIK
      have HIL := Lib.hid hIl
      have HIKL := Lib.hid hIKl
      have HK := Lib.hid hK
      clear hP hAA hII hK hAl e1 e2 e3 hA hI hR hAK hIK hIl hIKl hPl hcm
      by_cases hl6 : len ≤ 6
      · have hnl : ¬ ((FF.length : Int) < (len : Int)) := by omega
        clear hFl
        go_wp2_with fail
        refine (L1.out _ _ _ hnF hmF9 hrF).mono ?_
        intro e w2 h2
        obtain ⟨a2, c2, x2, d2, rfl, ⟨hc2, hm2, hd2, hn2⟩, hr2, hx2, hb2⟩ := T1.out _ _ _ h2
        clear h2
        replace hrA := row_next hrA hb2
        replace hrI := row_next hrI hb2
        replace hrF := row_next hrF hb2
        go_wp2_with fail
        refine (L2.out _ _ _ hnF hmF9 hrF).mono ?_
        intro e w3 h3
        obtain ⟨a3, c3, x3, d3, rfl, ⟨hc3, hm3, hd3, hn3⟩, hr3, hx3, hb3⟩ := T2.out _ _ _ h3
        clear h3
        replace hrA := row_next hrA hb3
        replace hrI := row_next hrI hb3
        replace hr2 := row_next hr2 hb3
        replace hx2 := row_next hx2 hb3
        have hx2m : d2 ≤ 9223372036854775807 := by unfold maxLen at hn2; omega
        have hx3m : d3 ≤ 9223372036854775807 := by unfold maxLen at hn3; omega
        have hmI9 : cI ≤ 9223372036854775807 := by unfold maxLen at hmI; omega
        clear hrF
        go_wp2_with fail
        refine (CT.out _ _ _ _ _ _ _ (by rw [HAK.out]; simp) (by rw [HAK.out]; simp) hr2 (row_take hrA K)).mono ?_
        rintro e w4 ⟨rfl, hb4⟩
        replace hrA := row_next hrA hb4
        replace hrI := row_next hrI hb4
        replace hr3 := row_next hr3 hb4
        replace hx2 := row_next hx2 hb4
        replace hx3 := row_next hx3 hb4
        clear hr2
        go_wp2_with fail
        refine (CS.out _ _ _ _ _ _ _ (by simp) (by simp) hr3 hrA).mono ?_
        rintro e w5 ⟨rfl, hb5⟩
        replace hrI := row_next hrI hb5
        replace hx2 := row_next hx2 hb5
        replace hx3 := row_next hx3 hb5
        have hB5 : Below w.heap.size w w5 := bto (bto (bto (bto hb0 hb2 hb0.size) hb3 (bto hb0 hb2 hb0.size).size) hb4 (bto (bto hb0 hb2 hb0.size) hb3 (bto hb0 hb2 hb0.size).size).size) hb5 (bto (bto (bto hb0 hb2 hb0.size) hb3 (bto hb0 hb2 hb0.size).size) hb4 (bto (bto hb0 hb2 hb0.size) hb3 (bto hb0 hb2 hb0.size).size).size).size
        clear hr3 hrA hb2 hb3 hb4 hb5
        go_wp2
        go_loopw [18] (fun i wr' => ∃ q : Nat, q ≤ AA.length ∧ i = .int .i64 (q : Int) ∧ Below w5.heap.size w5 wr') (fun i _ => AA.length - (intOf i).toNat)
        case atStart => exact ⟨0, Nat.zero_le _, rfl, Below.refl _ _⟩
        case round =>
          obtain ⟨q, hq, rfl, hbr⟩ := hrel
          by_cases hql : q < AA.length
          · obtain ⟨b3, o3, rfl, hb3, hc3'⟩ := nat_at hx3 q (by rw [HIL.out]; exact hql)
            obtain ⟨b1, o1, rfl, hb1, hc1'⟩ := nat_at hrI q (by rw [HIL.out]; exact hql)
            have hd3' := (hbr.cell (p := ⟨b3, o3 + q, none⟩) hb3).trans hc3'
            have hd1' := (hbr.cell (p := ⟨b1, o1 + q, none⟩) hb1).trans hc1'
            have hqd3 : q < d3 := by omega
            have hqcI : q < cI := by omega
            by_cases hqK : q < K
            · obtain ⟨b2, o2, rfl, hb2, hc2'⟩ := nat_at hx2 q (by rw [HIKL.out]; exact hqK)
              have hd2' := (hbr.cell (p := ⟨b2, o2 + q, none⟩) hb2).trans hc2'
              rw [HIK.out q hqK] at hd2'
              obtain ⟨z, hz⟩ : ∃ z, z = nth 0 II q := ⟨_, rfl⟩
              rw [← hz] at hd1' hd2' hd3'
              have hzz : ((z : Int) != (z : Int)) = false := by simp
              have hqd2 : q < d2 := by omega
              clear hz hc1' hc2' hc3'
              go_wp2
              go_quiet (fail)
              go_wp2
              go_roundw
              case rel => exact ⟨q + 1, hql, by go_num, below_drewN hbr nq⟩
              case measure => simp [intOf]; omega
            · obtain ⟨z, hz⟩ : ∃ z, z = nth 0 II q := ⟨_, rfl⟩
              rw [← hz] at hd1' hd3'
              have hzz : ((z : Int) != (z : Int)) = false := by simp
              clear hz hc1' hc3'
              go_wp2
              go_quiet (fail)
              go_wp2
              go_roundw
              case rel => exact ⟨q + 1, hql, by go_num, below_drewN hbr nq⟩
              case measure => simp [intOf]; omega
          · obtain rfl : q = AA.length := by omega
            go_wp2_with (go_at_call 60; refine (awake17_any _).mono ?_; rintro e w8 ⟨rfl, hb8⟩)
            go_ret
            exact ⟨rfl, bto (bto hB5 hbr hB5.size) hb8 (bto hB5 hbr hB5.size).size⟩
      · have hyl : (FF.length : Int) < (len : Int) := by omega
        have hn6 : ¬ ((FF.length : Int) < 6) := by omega
        clear hFl
        go_wp2_with fail
        refine (L1.out _ _ _ hnF hmF9 hrF).mono ?_
        intro e w2 h2
        obtain ⟨a2, c2, x2, d2, rfl, ⟨hc2, hm2, hd2, hn2⟩, hr2, hx2, hb2⟩ := T1.out _ _ _ h2
        clear h2
        replace hrA := row_next hrA hb2
        replace hrI := row_next hrI hb2
        replace hrF := row_next hrF hb2
        go_wp2_with fail
        refine (L2.out _ _ _ hnF hmF9 hrF).mono ?_
        intro e w3 h3
        obtain ⟨a3, c3, x3, d3, rfl, ⟨hc3, hm3, hd3, hn3⟩, hr3, hx3, hb3⟩ := T2.out _ _ _ h3
        clear h3
        replace hrA := row_next hrA hb3
        replace hrI := row_next hrI hb3
        replace hr2 := row_next hr2 hb3
        replace hx2 := row_next hx2 hb3
        have hx2m : d2 ≤ 9223372036854775807 := by unfold maxLen at hn2; omega
        have hx3m : d3 ≤ 9223372036854775807 := by unfold maxLen at hn3; omega
        have hmI9 : cI ≤ 9223372036854775807 := by unfold maxLen at hmI; omega
        clear hrF
        go_wp2_with fail
        refine (CT.out _ _ _ _ _ _ _ (by rw [HAK.out]; simp) (by rw [HAK.out]; simp) hr2 (row_take hrA K)).mono ?_
        rintro e w4 ⟨rfl, hb4⟩
        replace hrA := row_next hrA hb4
        replace hrI := row_next hrI hb4
        replace hr3 := row_next hr3 hb4
        replace hx2 := row_next hx2 hb4
        replace hx3 := row_next hx3 hb4
        clear hr2
        go_wp2_with fail
        refine (CS.out _ _ _ _ _ _ _ (by simp) (by simp) hr3 hrA).mono ?_
        rintro e w5 ⟨rfl, hb5⟩
        replace hrI := row_next hrI hb5
        replace hx2 := row_next hx2 hb5
        replace hx3 := row_next hx3 hb5
        have hB5 : Below w.heap.size w w5 := bto (bto (bto (bto hb0 hb2 hb0.size) hb3 (bto hb0 hb2 hb0.size).size) hb4 (bto (bto hb0 hb2 hb0.size) hb3 (bto hb0 hb2 hb0.size).size).size) hb5 (bto (bto (bto hb0 hb2 hb0.size) hb3 (bto hb0 hb2 hb0.size).size) hb4 (bto (bto hb0 hb2 hb0.size) hb3 (bto hb0 hb2 hb0.size).size).size).size
        clear hr3 hrA hb2 hb3 hb4 hb5
        go_wp2
        go_loopw [18] (fun i wr' => ∃ q : Nat, q ≤ AA.length ∧ i = .int .i64 (q : Int) ∧ Below w5.heap.size w5 wr') (fun i _ => AA.length - (intOf i).toNat)
        case atStart => exact ⟨0, Nat.zero_le _, rfl, Below.refl _ _⟩
        case round =>
          obtain ⟨q, hq, rfl, hbr⟩ := hrel
          by_cases hql : q < AA.length
          · obtain ⟨b3, o3, rfl, hb3, hc3'⟩ := nat_at hx3 q (by rw [HIL.out]; exact hql)
            obtain ⟨b1, o1, rfl, hb1, hc1'⟩ := nat_at hrI q (by rw [HIL.out]; exact hql)
            have hd3' := (hbr.cell (p := ⟨b3, o3 + q, none⟩) hb3).trans hc3'
            have hd1' := (hbr.cell (p := ⟨b1, o1 + q, none⟩) hb1).trans hc1'
            have hqd3 : q < d3 := by omega
            have hqcI : q < cI := by omega
            by_cases hqK : q < K
            · obtain ⟨b2, o2, rfl, hb2, hc2'⟩ := nat_at hx2 q (by rw [HIKL.out]; exact hqK)
              have hd2' := (hbr.cell (p := ⟨b2, o2 + q, none⟩) hb2).trans hc2'
              rw [HIK.out q hqK] at hd2'
              obtain ⟨z, hz⟩ : ∃ z, z = nth 0 II q := ⟨_, rfl⟩
              rw [← hz] at hd1' hd2' hd3'
              have hzz : ((z : Int) != (z : Int)) = false := by simp
              have hqd2 : q < d2 := by omega
              clear hz hc1' hc2' hc3'
              go_wp2
              go_quiet (fail)
              go_wp2
              go_roundw
              case rel => exact ⟨q + 1, hql, by go_num, below_drewN hbr nq⟩
              case measure => simp [intOf]; omega
            · obtain ⟨z, hz⟩ : ∃ z, z = nth 0 II q := ⟨_, rfl⟩
              rw [← hz] at hd1' hd3'
              have hzz : ((z : Int) != (z : Int)) = false := by simp
              clear hz hc1' hc3'
              go_wp2
              go_quiet (fail)
              go_wp2
              go_roundw
              case rel => exact ⟨q + 1, hql, by go_num, below_drewN hbr nq⟩
              case measure => simp [intOf]; omega
          · obtain rfl : q = AA.length := by omega
            go_wp2_with (go_at_call 60; refine (awake17_any _).mono ?_; rintro e w8 ⟨rfl, hb8⟩)
            go_ret
            exact ⟨rfl, bto (bto hB5 hbr hB5.size) hb8 (bto hB5 hbr hB5.size).size⟩
end Go.Proofs.Ytmdpmjabjijjiaa
