/- Plain: a text of clusters is flat. No condition. Clusters printed on a terminal: what a cluster's bytes make; plain. No condition. A terminal as plain data: what sequences make that move its cursor, turn its style and show its cursor. No condition. Rows that are whole: told place by place. Plain. Whole rows stay whole when a place is set. Plain. Whole rows stay whole under put and erase. Plain. Fill and Text on rows and on the flat list: the same. Plain. All rows of a builder stay whole. Plain. Fill and Text leave whole rows. Plain. The rows of the flat list are the rows. Plain. A terminal as plain data: a piece of a row printed anew, cell by cell. No condition. A terminal as plain data: the spans in which two frames differ, printed with a pen. No condition. -/
import Derived.Test.YtjkajojjehgmdaaGreatRE02
import Derived.Test.YtjkajojjehgmdaaGreatRE04
import Derived.Test.YtjkajojjehgmdaaGreatRE07
import Derived.Test.YtjkajojjehgmdaaGreatRE08
import Derived.Test.YtjkajojjehgmdaaGreatRE13
import Derived.Test.YtjkajojjehgmdaaGreatRE14
import Derived.Test.YtjkajojjehgmdaaGreatRE15
import Derived.Test.YtjkajojjehgmdaaGreatRE17
import Derived.Test.YtjkajojjehgmdaaGreatRE22
set_option linter.unusedVariables false
set_option linter.unusedSimpArgs false
namespace Go.Proofs.YtjkajojjehgmdaaGreat
open Go.RowKit Go.Shelf Go.Maps
theorem foldl_noctrl' : ∀ (rs : List Nat) (out : List (List Nat)), (∀ c ∈ out, ∀ r ∈ c, ctrlB r = false) → ∀ c ∈ rs.foldl stepG out, ∀ r ∈ c, ctrlB r = false
 | [], out, h => h
 | r :: t, out, h => by
  rw [List.foldl_cons]
  refine foldl_noctrl' t _ ?_
  rcases stepG_two out r with e | ⟨e, hc⟩ | ⟨o, c, eo, e, hj, _⟩
  ·rw [e]; exact h
  ·rw [e]; intro c hc' x hx
   rcases List.mem_append.1 hc' with h1 | h1
   ·exact h c h1 x hx
   ·rw [List.mem_singleton.1 h1, List.mem_singleton] at hx
    subst hx
    unfold colsB at hc
    split at hc
    ·omega
    ·rename_i hz
     simp only [Bool.or_eq_true, not_or, Bool.not_eq_true] at hz
     exact hz.1.2
  ·rw [e]; intro c' hc' x hx
   rcases List.mem_append.1 hc' with h1 | h1
   ·exact h c' (by rw [eo]; exact List.mem_append_left _ h1) x hx
   ·rw [List.mem_singleton.1 h1] at hx
    rcases List.mem_append.1 hx with h2 | h2
    ·exact h c (by rw [eo]; simp) x h2
    ·rw [List.mem_singleton] at h2
     subst h2
     unfold joinB at hj
     simp at hj
     exact hj.2.2
theorem cl_noctrl' {g : List Nat} (h : Cl g) : ∀ r ∈ g, ctrlB r = false := by
 have := foldl_noctrl' g [] (by simp)
 have e := h.one
 unfold cutG at e
 rw [e] at this
 exact this g (by simp)
end Go.Proofs.YtjkajojjehgmdaaGreat
namespace Go.Proofs.YtjkajojjehgmdaaGreat
open Go.RowKit Go.Maps
theorem more_bytes (n : Nat) (h : isR n = true) (t : List UInt8) : moreL (bytesN n ++ t) = false := by
 rw [isR_iff] at h
 unfold bytesN
 by_cases h1 : n < 128
 ·rw [if_pos h1, List.cons_append]
  refine more_no ?_
  rw [byteB_nat' n (by omega)]
  unfold manyL
  rw [if_pos h1]; omega
 ·rw [if_neg h1]
  by_cases h2 : n < 2048
  ·rw [if_pos h2, List.cons_append, List.cons_append]
   refine more_no ?_
   rw [byteB_nat' _ (by omega), List.length_cons]
   unfold manyL
   rw [if_neg (by omega), if_neg (by omega), if_pos (by omega)]; omega
  ·rw [if_neg h2]
   by_cases h3 : n < 65536
   ·rw [if_pos h3, List.cons_append, List.cons_append, List.cons_append]
    refine more_no ?_
    rw [byteB_nat' _ (by omega), List.length_cons, List.length_cons]
    unfold manyL
    rw [if_neg (by omega), if_neg (by omega), if_neg (by omega), if_pos (by omega)]; omega
   ·rw [if_neg h3, List.cons_append, List.cons_append, List.cons_append, List.cons_append]
    refine more_no ?_
    rw [byteB_nat' _ (by omega), List.length_cons, List.length_cons, List.length_cons]
    unfold manyL
    rw [if_neg (by omega), if_neg (by omega), if_neg (by omega), if_neg (by omega), if_pos (by omega)]; omega
theorem bytes_head (n : Nat) (h : isR n = true) (hc : ctrlB n = false) (x : List UInt8) : ∃ c r, bytesN n ++ x = c :: r ∧ c.toNat ≠ 27 ∧ 32 ≤ c.toNat ∧ c.toNat ≠ 127 := by
 rw [isR_iff] at h
 unfold ctrlB at hc
 rw [decide_eq_false_iff_not] at hc
 unfold bytesN
 by_cases h1 : n < 128
 ·rw [if_pos h1]
  exact ⟨_, _, List.cons_append, by rw [byteB_nat' n (by omega)]; omega⟩
 ·rw [if_neg h1]
  by_cases h2 : n < 2048
  ·rw [if_pos h2]
   exact ⟨_, _, List.cons_append, by rw [byteB_nat' _ (by omega)]; omega⟩
  ·rw [if_neg h2]
   by_cases h3 : n < 65536
   ·rw [if_pos h3]
    exact ⟨_, _, List.cons_append, by rw [byteB_nat' _ (by omega)]; omega⟩
   ·rw [if_neg h3]
    exact ⟨_, _, List.cons_append, by rw [byteB_nat' _ (by omega)]; omega⟩
theorem first_rune (t : TS) (n : Nat) (h : isR n = true) (hc : ctrlB n = false) (x : List UInt8) : t.first (bytesN n ++ x) = (t.rune n, (bytesN n).length) := by
 have hm := more_bytes n h x
 have hs := step_bytes n h x
 obtain ⟨c, r, e, h1, h2, h3⟩ := bytes_head n h hc x
 rw [e] at hm hs ⊢
 unfold TS.first
 dsimp only
 rw [if_neg h1, if_neg (by omega), if_neg (by rw [hm]; simp), hs]
theorem run_rune (t : TS) (n : Nat) (h : isR n = true) (hc : ctrlB n = false) (x : List UInt8) : runT t (bytesN n ++ x) = runT (t.rune n) x := by
 have e := first_rune t n h hc x
 have hl := bytesN_len n
 rw [run_step t _ (by rw [e]; dsimp only; omega), e]
 dsimp only
 rw [List.drop_left]
theorem run_runes : ∀ (rs : List Nat) (t : TS) (x : List UInt8), (∀ r ∈ rs, isR r = true ∧ ctrlB r = false) → runT t (encL rs ++ x) = runT (rs.foldl TS.rune t) x
 | [], _, _, _ => rfl
 | r :: rs, t, x, h => by
  rw [encL_cons, List.append_assoc, run_rune t r (h r (List.mem_cons_self ..)).1 (h r (List.mem_cons_self ..)).2, run_runes rs _ x (fun z hz => h z (List.mem_cons_of_mem _ hz))]
  rfl
theorem foldG_len : ∀ (rs : List Nat) (out : List (List Nat)), (rs.foldl stepG out).flatten.length ≤ out.flatten.length + rs.length
 | [], out => by simp
 | r :: rs, out => by
  rw [List.foldl_cons]
  have h1 := foldG_len rs (stepG out r)
  have h2 : (stepG out r).flatten.length ≤ out.flatten.length + 1 := by
   rcases stepG_two out r with e | ⟨e, _⟩ | ⟨o, c, eo, e, _⟩
   ·rw [e]; omega
   ·rw [e]; simp
   ·rw [e, eo]; simp; omega
  rw [List.length_cons]; omega
theorem cl_marks {r : Nat} : ∀ (n : Nat) (t : List Nat), t.length = n → cutG (r :: t) = [r :: t] → ∀ m ∈ t, joinB m = true
 | 0, t, hl, _, m, hm => by rw [List.eq_nil_of_length_eq_zero hl] at hm; cases hm
 | n + 1, t, hl, h, m, hm => by
  have hne : t ≠ [] := fun e => by rw [e] at hl; cases hl
  obtain ⟨t', z, rfl⟩ : ∃ t' z, t = t' ++ [z] := ⟨t.dropLast, t.getLast hne, (List.dropLast_concat_getLast hne).symm⟩
  rw [← List.cons_append, cutG_snoc] at h
  have hL := foldG_len (r :: t') []
  rw [show (r :: t').foldl stepG [] = cutG (r :: t') from rfl] at hL
  rcases stepG_two (cutG (r :: t')) z with e | ⟨e, _⟩ | ⟨o, c, eo, e, hj, _⟩
  ·rw [e] at h; rw [h] at hL; simp at hL; omega
  ·rw [e] at h
   have h2 : cutG (r :: t') = [] ∧ [z] = r :: t' ++ [z] := by
    cases hq : cutG (r :: t') with
    | nil => rw [hq] at h; simp at h
    | cons a b => rw [hq] at h; simp at h
   have := congrArg List.length h2.2
   simp at this
  ·rw [e] at h
   have h3 : o = [] ∧ c ++ [z] = r :: t' ++ [z] := by
    cases o with
    | nil => exact ⟨rfl, by simpa using h⟩
    | cons a b => simp at h
   have h4 : c = r :: t' := List.append_cancel_right h3.2
   rw [h3.1, h4] at eo
   rcases List.mem_append.1 hm with h5 | h5
   ·exact cl_marks n t' (by simpa using hl) eo m h5
   ·rw [List.mem_singleton.1 h5]; exact hj
theorem Cl.marks {r : Nat} {t : List Nat} (h : Cl (r :: t)) : ∀ m ∈ t, joinB m = true := cl_marks _ t rfl h.one
def TS.layB (t : TS) (s : ByteArray) (w : Int) : TS :=
 { t with
   R := putR t.W t.H t.R t.row t.col s w t.y
   last := true
   lrow := t.row
   lcol := t.col
   col := if (t.W : Int) ≤ t.col + w then t.W - 1 else t.col + w.toNat
   pend := decide ((t.W : Int) ≤ t.col + w) || t.pend }
theorem nth_set {α : Type} (d : α) (L : List α) (i : Nat) (x : α) (h : i < L.length) : nth d (L.set i x) i = x := by
 rw [nth_eq _ _ _ (by rw [List.length_set]; exact h), List.getElem_set_self]
theorem putL_nth (M : List GC) (w c : Nat) (s : ByteArray) (wd : Int) (y : Sy) (h : c < M.length) : nth GC.zero (putL M w 0 c s wd y) c = ⟨s, wd, y⟩ := by
 unfold putL
 simp only [Nat.zero_add]
 split
 ·exact nth_set _ _ _ _ (by simp [wipeL_length]; exact h)
 ·exact nth_set _ _ _ _ (by simp [wipeL_length]; exact h)
theorem putL_set (M : List GC) (w c : Nat) (s s' : ByteArray) (wd : Int) (y : Sy) : (putL M w 0 c s wd y).set c ⟨s', wd, y⟩ = putL M w 0 c s' wd y := by
 unfold putL
 simp only [Nat.zero_add]
 split <;> rw [List.set_set]
theorem putErr_more {w h : Nat} {r c : Int} {s m : ByteArray} {wd : Int} (h0 : putErr w h r c s wd = 0) (hs : s.size + m.size ≤ 64) : putErr w h r c (s ++ m) wd = 0 := by
 obtain ⟨h1, h2, h3, h4, h5, h6, h7, h8⟩ := putErr_0 h0
 have hne : s.size ≠ 0 := fun e => h1 (ByteArray.size_eq_zero_iff.1 e)
 have hsz : (s ++ m).size = s.size + m.size := ByteArray.size_append
 have hne2 : s ++ m ≠ ⟨#[]⟩ := fun e => by rw [e] at hsz; have : (⟨#[]⟩ : ByteArray).size = 0 := rfl; omega
 unfold putErr
 rw [if_neg (by rintro (h | h | h); exact hne2 h; omega; omega), if_neg (by rintro (h | h); exact h ⟨h4, h5, h6, h7⟩; exact h.2 (h8 h.1))]
theorem putR_joinR {w h : Nat} {R : List (List GC)} (k : RowsOk w h R) (r c : Nat) (s m : ByteArray) (wd : Int) (y : Sy) (h0 : putErr w h r c s wd = 0) (hs : s.size + m.size ≤ 64) :
    joinR w h (putR w h R r c s wd y) r c m = putR w h R r c (s ++ m) wd y := by
 obtain ⟨h1, h2, h3, h4, h5, h6, h7, h8⟩ := putErr_0 h0
 have hr : r < h := by omega
 have hM := k.at hr
 have hc : c < (nth [] R r).length := by omega
 unfold putR
 rw [if_pos h0, if_pos (putErr_more h0 hs)]
 simp only [Int.toNat_natCast]
 have e1 : nth [] (R.set r (putL (nth [] R r) w 0 c s wd y)) r = putL (nth [] R r) w 0 c s wd y := nth_set _ _ _ _ (by rw [k.n]; exact hr)
 have e2 := putL_nth (nth [] R r) w c s wd y hc
 have e3 : joinAt (putL (nth [] R r) w 0 c s wd y) 0 c = c := by
  unfold joinAt
  rw [Nat.zero_add, e2]
  rw [if_neg (by dsimp only; omega)]
 unfold joinR
 rw [if_pos (by
  unfold joinOkR
  rw [Bool.and_eq_true, inG_iff, decide_eq_true_eq]
  simp only [Int.toNat_natCast]
  rw [e1, e3, e2]
  exact ⟨⟨h4, h5, h6, h7⟩, by dsimp only; omega⟩)]
 simp only [Int.toNat_natCast]
 rw [e1]
 unfold joinL
 rw [e3, Nat.zero_add, e2]
 dsimp only
 rw [putL_set, List.set_set]
def TS.clu (t : TS) (c : List UInt8) : TS := (t.room (colsL c)).layB (S c) (colsL c)
theorem colsL_enc {r : Nat} {t : List Nat} (h : ∀ x ∈ r :: t, isR x = true) : colsL (encL (r :: t)) = colsB r := by
 unfold colsL
 rw [runes_enc0 _ h]
theorem join_cols {m : Int} (h : joinB m = true) : ¬ 0 < colsB m := by
 unfold joinB at h
 rw [Bool.and_eq_true, decide_eq_true_eq] at h
 omega
theorem marks_lay {T : TS} (ok : RowsOk T.W T.H T.R) (w : Int) : ∀ (n : Nat) (ms : List Nat) (s : List UInt8), ms.length = n → putErr T.W T.H T.row T.col (S s) w = 0 → (s ++ encL ms).length ≤ 64 → (∀ m ∈ ms, joinB m = true) →
    ms.foldl TS.rune (T.layB (S s) w) = T.layB (S (s ++ encL ms)) w
 | _, [], s, _, _, _, _ => by rw [encL_nil, List.append_nil]; rfl
 | 0, _ :: _, _, hl, _, _, _ => by cases hl
 | n + 1, m :: ms, s, hl, h0, hs, hm => by
  have hj := hm m (List.mem_cons_self ..)
  rw [List.foldl_cons]
  have hlen : s.length + (bytesN m).length ≤ 64 := by rw [encL_cons, List.length_append, List.length_append] at hs; omega
  have hsz : (S s).size + (S (bytesN m)).size ≤ 64 := by rw [S_size, S_size]; exact hlen
  have e : (T.layB (S s) w).rune m = T.layB (S (s ++ bytesN m)) w := by
   unfold TS.rune
   rw [if_neg (join_cols hj), if_pos hj]
   unfold TS.layB
   dsimp only
   rw [if_pos rfl, putR_joinR ok T.row T.col (S s) (S (bytesN m)) w T.y h0 hsz, S_append]
  rw [e]
  have h0' := putErr_more h0 hsz
  rw [S_append] at h0'
  have := marks_lay ok w n ms (s ++ bytesN m) (by simpa using hl) h0' (by rw [List.append_assoc, ← encL_cons]; exact hs) (fun z hz => hm z (List.mem_cons_of_mem _ hz))
  rw [this, List.append_assoc, ← encL_cons]
theorem TOk.layB {t : TS} (k : TOk t) (hp : t.pend = false) (s : ByteArray) {w : Int} (hw : 1 ≤ w) (hw2 : (t.col : Int) + w ≤ t.W) : TOk (t.layB s w) := by
 have hc := k.col
 refine { w1 := k.w1, w2 := k.w2, h1 := k.h1, h2 := k.h2, ok := k.ok.put _ _ _ _ _, ro := k.ro.put k.ok _ _ _ _ _, row := k.row, col := ?_, pe := ?_ }
 ·show (if (t.W : Int) ≤ t.col + w then t.W - 1 else t.col + w.toNat) < t.W
  split <;> omega
 ·show (decide ((t.W : Int) ≤ t.col + w) || t.pend) = true → (if (t.W : Int) ≤ t.col + w then t.W - 1 else t.col + w.toNat) + 1 = t.W
  rw [hp, Bool.or_false, decide_eq_true_eq]
  intro h
  rw [if_pos h]; omega
theorem TOk.clu {t : TS} (k : TOk t) {c : List UInt8} (hc : Clu c) (hw : colsL c ≤ t.W) : TOk (t.clu c) ∧ (t.clu c).W = t.W ∧ (t.clu c).H = t.H := by
 have h1 := hc.cols
 obtain ⟨h2, h3, h4, h5, h6, _⟩ := k.room (w := colsL c) h1.1 hw
 exact ⟨h2.layB h3 _ h1.1 (by rw [h4]; exact h6), h4, h5⟩
theorem fold_clu {t : TS} (k : TOk t) {g : List Nat} (hg : Cl g) (hw : colsL (encL g) ≤ t.W) : g.foldl TS.rune t = t.clu (encL g) := by
 obtain ⟨r, ms, rfl, hb⟩ := hg.base
 have hcl := colsL_enc hg.rune
 have hbd := cols_bd r
 rw [List.foldl_cons]
 unfold TS.clu
 rw [hcl] at hw ⊢
 obtain ⟨h2, h3, h4, h5, h6, _⟩ := k.room (w := colsB r) (by omega) hw
 have e : t.rune r = (t.room (colsB r)).layB (S (bytesN r)) (colsB r) := by
  unfold TS.rune
  rw [if_pos hb]
  unfold TS.print
  rw [if_neg (by omega)]
  rfl
 rw [e]
 have hl := bytesN_len r
 have hlen := hg.len
 rw [encL_cons] at hlen ⊢
 have hrow := h2.row
 have hcol := h2.col
 refine marks_lay h2.ok (colsB r) ms.length ms (bytesN r) rfl ?_ hlen hg.marks
 have hsz := S_size (bytesN r)
 have hne : S (bytesN r) ≠ ⟨#[]⟩ := fun e => by rw [e] at hsz; have : (⟨#[]⟩ : ByteArray).size = 0 := rfl; omega
 unfold putErr
 rw [if_neg (by rintro (h | h | h); exact hne h; omega; omega), if_neg (by omega)]
theorem run_clus : ∀ (C : List (List UInt8)) (t : TS) (x : List UInt8), TOk t → (∀ c ∈ C, Clu c ∧ colsL c ≤ t.W) → runT t (C.flatten ++ x) = runT (C.foldl TS.clu t) x ∧ TOk (C.foldl TS.clu t) ∧ (C.foldl TS.clu t).W = t.W ∧ (C.foldl TS.clu t).H = t.H
 | [], _, _, k, _ => ⟨rfl, k, rfl, rfl⟩
 | c :: C, t, x, k, h => by
  obtain ⟨hc, hw⟩ := h c (List.mem_cons_self ..)
  obtain ⟨k2, e1, e2⟩ := k.clu hc hw
  obtain ⟨h1, h2, h3, h4⟩ := run_clus C (t.clu c) x k2 (fun z hz => by rw [e1]; exact h z (List.mem_cons_of_mem _ hz))
  refine ⟨?_, h2, h3.trans e1, h4.trans e2⟩
  obtain ⟨g, hg, rfl⟩ := hc
  rw [List.flatten_cons, List.append_assoc, run_runes g t _ (fun r hr => ⟨hg.rune r hr, cl_noctrl' hg r hr⟩), fold_clu k hg hw]
  exact h1
theorem spanN_none (p : UInt8 → Bool) (e : UInt8) (x : List UInt8) (h : p e = false) : spanN p (e :: x) = 0 := by
 unfold spanN; rw [h]; rfl
theorem spanN_allp (p : UInt8 → Bool) : ∀ (P m : List UInt8), (∀ c ∈ P, p c = true) → spanN p (P ++ m) = P.length + spanN p m
 | [], m, _ => by simp
 | c :: P, m, h => by
  rw [List.cons_append, spanN, if_pos (h c (List.mem_cons_self ..)), spanN_allp p P m (fun z hz => h z (List.mem_cons_of_mem _ hz)), List.length_cons]
  omega
theorem endB_no {e : UInt8} (h : endB e = true) : parB e = false ∧ midB e = false := by
 unfold endB at h
 have := of_decide_eq_true h
 exact ⟨decide_eq_false (by omega), decide_eq_false (by omega)⟩
theorem seq_csi (t : TS) (P x : List UInt8) (e : UInt8) (hP : ∀ c ∈ P, parB c = true) (he : endB e = true) (hl : P.length < 30) : t.seq (P ++ e :: x) = (t.off.obey P e.toNat, P.length + 3) := by
 obtain ⟨hep, hem⟩ := endB_no he
 have e1 : spanN parB (P ++ e :: x) = P.length := by rw [spanN_allp _ _ _ hP, spanN_none _ _ _ hep]; rfl
 have e2 : (P ++ e :: x).drop P.length = e :: x := by simp
 have e3 : nth 0 (P ++ e :: x) P.length = e := by unfold nth; simp
 have e4 : (P ++ e :: x).take P.length = P := by simp
 unfold TS.seq
 dsimp only
 simp only [e1, e2, spanN_none _ _ _ hem, Nat.add_zero, e3, e4]
 rw [if_neg (by omega), if_neg (by simp; omega), if_pos he, if_pos trivial]
 congr 1
 omega
theorem run_csi (t : TS) (P x : List UInt8) (e : UInt8) (hP : ∀ c ∈ P, parB c = true) (he : endB e = true) (hl : P.length < 30) : runT t ([27, 91] ++ P ++ [e] ++ x) = runT (t.off.obey P e.toNat) x := by
 have hx : [27, 91] ++ P ++ [e] ++ x = 27 :: 91 :: (P ++ e :: x) := by simp
 have hf : t.first ([27, 91] ++ P ++ [e] ++ x) = (t.off.obey P e.toNat, P.length + 3) := by
  rw [hx, ← seq_csi t P x e hP he hl]
  rfl
 rw [run_step _ _ (by rw [hf]; simp), hf]
 dsimp only
 rw [hx]
 simp
def Digs (D : List UInt8) : Prop := ∀ c ∈ D, 48 ≤ c.toNat ∧ c.toNat ≤ 57
def valT (acc : Nat) (D : List UInt8) : Nat := D.foldl (fun a c => min 9999 (10 * a + (c.toNat - 48))) acc
theorem nums_dig : ∀ (D : List UInt8) (acc : Nat), Digs D → numsT acc D = [valT acc D]
 | [], _, _ => rfl
 | c :: D, acc, h => by
  have hc := h c (List.mem_cons_self ..)
  rw [numsT, if_neg (fun e => by subst e; revert hc; decide), nums_dig D _ (fun z hz => h z (List.mem_cons_of_mem _ hz))]
  rfl
theorem nums_sep : ∀ (A : List UInt8) (acc : Nat) (D : List UInt8), numsT acc (A ++ 59 :: D) = numsT acc A ++ numsT 0 D
 | [], acc, D => by rw [List.nil_append]; simp [numsT]
 | c :: A, acc, D => by
  rw [List.cons_append, numsT, numsT]
  split
  ·rw [nums_sep A 0 D]; rfl
  ·exact nums_sep A _ D
theorem dec_digs (n : Nat) : Digs (decL n) := by
 induction n using Nat.strongRecOn with
 | _ n ih =>
  by_cases h : n < 10
  ·rw [decL_small h]
   intro c hc
   rw [List.mem_singleton.1 hc, digB_nat n h]; omega
  ·rw [decL_big h]
   intro c hc
   rcases List.mem_append.1 hc with h1 | h1
   ·exact ih _ (by omega) c h1
   ·rw [List.mem_singleton.1 h1, digB_nat _ (by omega)]; omega
theorem val_dec (n : Nat) : n ≤ 9999 → valT 0 (decL n) = n := by
 induction n using Nat.strongRecOn with
 | _ n ih =>
  intro hn
  by_cases h : n < 10
  ·rw [decL_small h]
   unfold valT
   rw [List.foldl_cons, List.foldl_nil, digB_nat n h]
   omega
  ·rw [decL_big h]
   unfold valT
   rw [List.foldl_append]
   have := ih (n / 10) (by omega) (by omega)
   unfold valT at this
   rw [this, List.foldl_cons, List.foldl_nil, digB_nat _ (by omega)]
   omega
theorem nums_dec {n : Nat} (h : n ≤ 9999) : numsT 0 (decL n) = [n] := by rw [nums_dig _ _ (dec_digs n), val_dec n h]
theorem plain_digs {D : List UInt8} (h : Digs D) : plainB D = true := by
 unfold plainB
 rw [List.all_eq_true]
 intro c hc
 rw [decide_eq_true (h c hc), Bool.or_true]
theorem par_digs {D : List UInt8} (h : Digs D) : ∀ c ∈ D, parB c = true := fun c hc => by
 have := h c hc
 exact decide_eq_true (by omega)
theorem par_plain {D : List UInt8} (h : plainB D = true) : ∀ c ∈ D, parB c = true := fun c hc => by
 unfold plainB at h
 rw [List.all_eq_true] at h
 have := h c hc
 rw [Bool.or_eq_true, decide_eq_true_eq, decide_eq_true_eq] at this
 refine decide_eq_true ?_
 rcases this with rfl | h
 ·decide
 ·omega
theorem obey_nums (t : TS) (b : List UInt8) (e : Nat) (h : plainB b = true) : t.obey b e = t.plain (numsT 0 b) e := by
 cases b with
 | nil => rfl
 | cons c r =>
  unfold TS.obey
  dsimp only
  have hc : c ≠ 63 := by
   rintro rfl
   unfold plainB at h
   rw [List.all_cons, Bool.and_eq_true] at h
   exact absurd h.1 (by decide)
  rw [if_neg hc, if_pos h]
theorem run_dec (t : TS) {n : Nat} (h : n ≤ 9999) (e : UInt8) (he : endB e = true) (x : List UInt8) : runT t ([27, 91] ++ decL n ++ [e] ++ x) = runT (t.off.plain [n] e.toNat) x := by
 have hl := decL_le n h
 rw [run_csi t _ x e (par_digs (dec_digs n)) he (by omega), obey_nums _ _ _ (plain_digs (dec_digs n)), nums_dec h]
theorem run_by (t : TS) {n : Int} (h : 1 ≤ n) (h2 : n ≤ 9999) (e : UInt8) (he : endB e = true) (x : List UInt8) : runT t (byL n e ++ x) = runT (t.off.plain [n.toNat] e.toNat) x := by
 unfold byL
 rw [if_neg (by omega), Int.min_eq_left h2]
 exact run_dec t (by omega) e he x
theorem run_col (t : TS) {n : Nat} (h : n ≤ 9998) (x : List UInt8) : runT t (colL n ++ x) = runT (t.off.moved t.row n) x := by
 unfold colL
 rw [if_neg (by omega), show (min (n : Int) 9998 + 1).toNat = n + 1 by omega, run_dec t (by omega) 71 (by decide) x]
 unfold TS.plain
 dsimp only [show (71 : UInt8).toNat = 71 from rfl]
 rw [if_neg (by decide), if_neg (by decide), if_neg (by decide), if_neg (by decide), if_pos (by decide)]
 congr 2
 show max 1 ((n + 1 : Nat) : Int) - 1 = n
 omega
theorem byL_0 {n : Int} (h : n < 1) (e : UInt8) : byL n e = [] := by unfold byL; rw [if_pos h]
theorem byL_ne {n : Int} (h : 1 ≤ n) (e : UInt8) : byL n e ≠ [] := by unfold byL; rw [if_neg (by omega)]; simp
def TS.at_ (t : TS) (r c : Nat) : TS := { t with row := r, col := c, pend := false, last := false }
theorem moved_to (t : TS) (r c : Int) (r' c' : Nat) (hr : (r' : Int) = r) (hc : (c' : Int) = c) (h1 : r' < t.H) (h2 : c' < t.W) : t.off.moved r c = t.at_ r' c' := by
 unfold TS.moved TS.at_ TS.off
 dsimp only
 rw [show (max 0 (min r ((t.H : Int) - 1))).toNat = r' by omega, show (max 0 (min c ((t.W : Int) - 1))).toNat = c' by omega]
theorem run_vert {t : TS} (a c r' : Nat) (ha : a ≤ 9000) (hc : c ≤ 9000) (hr : r' < t.H) (hcol : t.col < t.W) (hrow : (r' : Int) = t.row + c - a) (x : List UInt8) :
    runT t (byL ((a : Int) - c) 65 ++ byL ((c : Int) - a) 66 ++ x) = runT (if a = c then t else t.at_ r' t.col) x ∧ (byL ((a : Int) - c) 65 ++ byL ((c : Int) - a) 66 = [] ↔ a = c) := by
 by_cases h : a = c
 ·subst h
  rw [byL_0 (by omega), byL_0 (by omega), if_pos rfl]
  exact ⟨rfl, by simp⟩
 ·rw [if_neg h]
  by_cases hlt : a < c
  ·rw [byL_0 (n := (a : Int) - c) (by omega), List.nil_append]
   refine ⟨?_, by simp [byL_ne (show 1 ≤ (c : Int) - a by omega), h]⟩
   rw [run_by t (by omega) (by omega) 66 (by decide)]
   congr 1
   unfold TS.plain
   dsimp only [show (66 : UInt8).toNat = 66 from rfl]
   rw [if_neg (by decide), if_pos (by decide)]
   refine moved_to t _ _ _ _ ?_ ?_ hr hcol
   ·show (r' : Int) = (t.row : Int) + max 1 ((((c : Int) - a).toNat : Nat) : Int)
    omega
   ·rfl
  ·rw [byL_0 (n := (c : Int) - a) (by omega), List.append_nil]
   refine ⟨?_, by simp [byL_ne (show 1 ≤ (a : Int) - c by omega), h]⟩
   rw [run_by t (by omega) (by omega) 65 (by decide)]
   congr 1
   unfold TS.plain
   dsimp only [show (65 : UInt8).toNat = 65 from rfl]
   rw [if_pos (by decide)]
   refine moved_to t _ _ _ _ ?_ ?_ hr hcol
   ·show (r' : Int) = (t.row : Int) - max 1 ((((a : Int) - c).toNat : Nat) : Int)
    omega
   ·rfl
theorem run_cr (t : TS) (x : List UInt8) : runT t ([13] ++ x) = runT (t.at_ t.row 0) x := by
 have hf : t.first ([13] ++ x) = (t.at_ t.row 0, 1) := rfl
 rw [run_step _ _ (by rw [hf]; simp), hf]
 rfl
theorem run_move {t : TS} (a c d r' : Nat) (ha : a ≤ 9000) (hc : c ≤ 9000) (hr : r' < t.H) (hcol : t.col < t.W) (hd : d < t.W) (hW : t.W ≤ 9000) (hrow : (r' : Int) = t.row + c - a) (x : List UInt8) :
    runT t (moveL a t.col c d ++ x) = runT (if a = c ∧ t.col = d then t else t.at_ r' d) x ∧ (moveL a t.col c d = [] ↔ a = c ∧ t.col = d) := by
 have hv := fun x => run_vert (t := t) a c r' ha hc hr hcol hrow x
 obtain ⟨V, hV⟩ : ∃ V, V = byL ((a : Int) - c) 65 ++ byL ((c : Int) - a) 66 := ⟨_, rfl⟩
 unfold moveL
 dsimp only
 simp only [← hV] at hv ⊢
 by_cases hb : (t.col : Int) = d
 ·have hb' : t.col = d := by omega
  rw [if_pos hb]
  obtain ⟨h1, h2⟩ := hv x
  refine ⟨?_, by rw [h2]; simp [hb']⟩
  rw [h1]
  by_cases hac : a = c
  ·rw [if_pos hac, if_pos ⟨hac, hb'⟩]
  ·rw [if_neg hac, if_neg (fun h => hac h.1), hb']
 ·have hb' : ¬ t.col = d := by omega
  rw [if_neg hb, if_neg (show ¬ (a = c ∧ t.col = d) from fun h => hb' h.2)]
  obtain ⟨T, hT⟩ : ∃ T, T = (if a = c then t else t.at_ r' t.col) := ⟨_, rfl⟩
  have hT1 : T.row = r' ∧ T.col = t.col ∧ T.W = t.W ∧ T.H = t.H ∧ ∀ c d, T.at_ c d = t.at_ c d := by
   rw [hT]
   split
   ·rename_i h; subst h; exact ⟨by omega, rfl, rfl, rfl, fun _ _ => rfl⟩
   ·exact ⟨rfl, rfl, rfl, rfl, fun _ _ => rfl⟩
  obtain ⟨e1, e2, e3, e4, e5⟩ := hT1
  have hv1 : ∀ y, runT t (V ++ y) = runT T y := fun y => by rw [(hv y).1, hT]
  by_cases hz : (d : Int) = 0
  ·rw [if_pos hz]
   have hz' : d = 0 := by omega
   refine ⟨?_, ⟨fun h => by simp at h, fun h => absurd h.2 hb'⟩⟩
   rw [List.append_assoc, hv1, run_cr, e5, e1, hz']
  ·rw [if_neg hz]
   have hstep : ∀ y, runT T (byL ((d : Int) - t.col) 67 ++ byL ((t.col : Int) - d) 68 ++ y) = runT (t.at_ r' d) y := fun y => by
    by_cases hlt : t.col < d
    ·rw [byL_0 (n := (t.col : Int) - d) (by omega), List.append_nil, run_by T (by omega) (by omega) 67 (by decide)]
     congr 1
     unfold TS.plain
     dsimp only [show (67 : UInt8).toNat = 67 from rfl]
     rw [if_neg (by decide), if_neg (by decide), if_pos (by decide), ← e5]
     refine moved_to T _ _ _ _ (show (r' : Int) = (T.row : Int) by rw [e1]) ?_ (by rw [e4]; exact hr) (by rw [e3]; exact hd)
     show (d : Int) = (T.col : Int) + max 1 ((((d : Int) - t.col).toNat : Nat) : Int)
     rw [e2]; omega
    ·rw [byL_0 (n := (d : Int) - t.col) (by omega), List.nil_append, run_by T (by omega) (by omega) 68 (by decide)]
     congr 1
     unfold TS.plain
     dsimp only [show (68 : UInt8).toNat = 68 from rfl]
     rw [if_neg (by decide), if_neg (by decide), if_neg (by decide), if_pos (by decide), ← e5]
     refine moved_to T _ _ _ _ (show (r' : Int) = (T.row : Int) by rw [e1]) ?_ (by rw [e4]; exact hr) (by rw [e3]; exact hd)
     show (d : Int) = (T.col : Int) - max 1 ((((t.col : Int) - d).toNat : Nat) : Int)
     rw [e2]; omega
   have hne : byL ((d : Int) - t.col) 67 ++ byL ((t.col : Int) - d) 68 ≠ [] := by
    by_cases hlt : t.col < d
    ·simp [byL_ne (show 1 ≤ (d : Int) - t.col by omega)]
    ·simp [byL_ne (show 1 ≤ (t.col : Int) - d by omega)]
   split
   ·refine ⟨?_, ?_⟩
    ·rw [List.append_assoc, hv1, run_col T (by omega), e1]
     congr 1
     rw [← e5]
     exact moved_to T _ _ _ _ rfl rfl (by rw [e4]; exact hr) (by rw [e3]; exact hd)
    ·have : colL (d : Int) ≠ [] := by unfold colL; rw [if_neg (by omega)]; simp
     exact ⟨fun h => absurd (List.append_eq_nil_iff.1 h).2 this, fun h => absurd h.2 hb'⟩
   ·refine ⟨?_, ?_⟩
    ·rw [List.append_assoc, hv1, hstep]
    ·exact ⟨fun h => absurd (List.append_eq_nil_iff.1 h).2 hne, fun h => absurd h.2 hb'⟩
theorem sepTo_le (l : List Int) (hl : ∀ k, 0 ≤ nth 0 l k ∧ nth 0 l k ≤ 99) (k : Nat) : (sepTo l k).length ≤ 3 * k := by
 induction k with
 | zero => simp [sepTo]
 | succ k ih =>
  have h := decL_len 1 (min (nth 0 l k) 9999).toNat (by have := hl k; omega)
  simp only [sepTo, List.length_append]
  split
  ·simp; omega
  ·simp; omega
theorem sepTo_plain (l : List Int) (k : Nat) : plainB (sepTo l k) = true := by
 induction k with
 | zero => rfl
 | succ k ih =>
  have h := plain_digs (dec_digs (min (nth 0 l k) 9999).toNat)
  unfold plainB at ih h ⊢
  simp only [sepTo, List.all_append, ih, h, Bool.true_and, Bool.and_true]
  split <;> rfl
theorem sepTo_nums (l : List Int) (hl : ∀ k, 0 ≤ nth 0 l k ∧ nth 0 l k ≤ 99) : ∀ k, k + 1 ≤ l.length → numsT 0 (sepTo l (k + 1)) = (l.take (k + 1)).map Int.toNat
 | 0, h => by
  have h0 := hl 0
  have e : sepTo l 1 = decL (min (nth 0 l 0) 9999).toNat := by simp [sepTo]
  rw [e, nums_dec (by omega), Int.min_eq_left (by omega)]
  cases l with
  | nil => simp at h
  | cons a l => simp [nth]
 | k + 1, h => by
  have h0 := hl (k + 1)
  have e : sepTo l (k + 1 + 1) = sepTo l (k + 1) ++ 59 :: decL (min (nth 0 l (k + 1)) 9999).toNat := by rw [sepTo, if_neg (by omega)]; simp
  rw [e, nums_sep, sepTo_nums l hl k (by omega), nums_dec (by omega), Int.min_eq_left (by omega), List.take_succ_eq_append_getElem (i := k + 1) (by omega), nth_eq _ _ _ (by omega), List.map_append]
  rfl
theorem sty_fg (y : Sy) (c : Int) (h : 0 ≤ c ∧ c ≤ 8) : styT y (colourI c 30).toNat = { y with f := c } := by
 unfold colourI styT
 by_cases h0 : c = 0
 ·subst h0; rfl
 ·rw [if_neg h0]
  rw [if_neg (by omega), if_neg (by omega), if_neg (by omega), if_neg (by omega), if_pos (by omega)]
  congr 1
  omega
theorem sty_bg (y : Sy) (c : Int) (h : 0 ≤ c ∧ c ≤ 8) : styT y (colourI c 40).toNat = { y with g := c } := by
 unfold colourI styT
 by_cases h0 : c = 0
 ·subst h0; rfl
 ·rw [if_neg h0]
  rw [if_neg (by omega), if_neg (by omega), if_neg (by omega), if_neg (by omega), if_neg (by omega), if_neg (by omega), if_pos (by omega)]
  congr 1
  omega
theorem sty_nums (b u i : Bool) (f g : Int) (b' u' i' : Bool) (f' g' : Int) (h1 : 0 ≤ f' ∧ f' ≤ 8) (h2 : 0 ≤ g' ∧ g' ≤ 8) :
    ((numsL b u i f g b' u' i' f' g').map Int.toNat).foldl styT ⟨b, u, i, f, g⟩ = ⟨b', u', i', f', g'⟩ := by
 have e1 : ∀ y : Sy, (List.map Int.toNat (if f' ≠ y.f then [colourI f' 30] else [])).foldl styT y = { y with f := f' } := fun y => by
  split
  ·exact sty_fg y f' h1
  ·rename_i h; have : f' = y.f := by simpa using h
   rw [this]; rfl
 have e2 : ∀ y : Sy, (List.map Int.toNat (if g' ≠ y.g then [colourI g' 40] else [])).foldl styT y = { y with g := g' } := fun y => by
  split
  ·exact sty_bg y g' h2
  ·rename_i h; have : g' = y.g := by simpa using h
   rw [this]; rfl
 unfold numsL
 dsimp only
 simp only [List.map_append, List.foldl_append]
 have key : ∀ (A : List Int) (Y : Sy), (A.map Int.toNat).foldl styT ⟨b, u, i, f, g⟩ = Y → Y.b = b' → Y.u = u' → Y.i = i' → ∀ f0 g0, Y.f = f0 → Y.g = g0 →
     (List.map Int.toNat (if g' ≠ g0 then [colourI g' 40] else [])).foldl styT ((List.map Int.toNat (if f' ≠ f0 then [colourI f' 30] else [])).foldl styT ((A.map Int.toNat).foldl styT ⟨b, u, i, f, g⟩)) = ⟨b', u', i', f', g'⟩ := by
  intro A Y hA hb hu hi f0 g0 hf hg
  subst hf hg
  rw [hA, e1 Y]
  have := e2 { Y with f := f' }
  dsimp only at this
  rw [this]
  subst hb hu hi
  rfl
 have := fun A Y h => key A Y h
 cases b <;> cases b' <;> cases u <;> cases u' <;> cases i <;> cases i' <;>
  first
  | (refine Eq.trans ?_ (key [] _ rfl rfl rfl rfl _ _ rfl rfl); rfl)
  | (refine Eq.trans ?_ (key [0] _ rfl rfl rfl rfl _ _ rfl rfl); rfl)
  | (refine Eq.trans ?_ (key [1] _ rfl rfl rfl rfl _ _ rfl rfl); rfl)
  | (refine Eq.trans ?_ (key [4] _ rfl rfl rfl rfl _ _ rfl rfl); rfl)
  | (refine Eq.trans ?_ (key [7] _ rfl rfl rfl rfl _ _ rfl rfl); rfl)
  | (refine Eq.trans ?_ (key [0, 1] _ rfl rfl rfl rfl _ _ rfl rfl); rfl)
  | (refine Eq.trans ?_ (key [0, 4] _ rfl rfl rfl rfl _ _ rfl rfl); rfl)
  | (refine Eq.trans ?_ (key [0, 7] _ rfl rfl rfl rfl _ _ rfl rfl); rfl)
  | (refine Eq.trans ?_ (key [1, 4] _ rfl rfl rfl rfl _ _ rfl rfl); rfl)
  | (refine Eq.trans ?_ (key [1, 7] _ rfl rfl rfl rfl _ _ rfl rfl); rfl)
  | (refine Eq.trans ?_ (key [4, 7] _ rfl rfl rfl rfl _ _ rfl rfl); rfl)
  | (refine Eq.trans ?_ (key [0, 1, 4] _ rfl rfl rfl rfl _ _ rfl rfl); rfl)
  | (refine Eq.trans ?_ (key [0, 1, 7] _ rfl rfl rfl rfl _ _ rfl rfl); rfl)
  | (refine Eq.trans ?_ (key [0, 4, 7] _ rfl rfl rfl rfl _ _ rfl rfl); rfl)
  | (refine Eq.trans ?_ (key [1, 4, 7] _ rfl rfl rfl rfl _ _ rfl rfl); rfl)
theorem numsL_bd (b u i : Bool) (f g : Int) (b' u' i' : Bool) (f' g' : Int) (h1 : 0 ≤ f' ∧ f' ≤ 8) (h2 : 0 ≤ g' ∧ g' ≤ 8) : (∀ x ∈ numsL b u i f g b' u' i' f' g', 0 ≤ x ∧ x ≤ 99) ∧ (numsL b u i f g b' u' i' f' g').length ≤ 6 := by
 have c1 : 0 ≤ colourI f' 30 ∧ colourI f' 30 ≤ 99 := by unfold colourI; split <;> omega
 have c2 : 0 ≤ colourI g' 40 ∧ colourI g' 40 ≤ 99 := by unfold colourI; split <;> omega
 unfold numsL
 dsimp only
 constructor
 ·intro x hx
  simp only [List.mem_append] at hx
  rcases hx with ((((h | h) | h) | h) | h) | h <;> (split at h <;> simp at h <;> (try subst h) <;> omega)
 ·simp only [List.length_append]
  have : ∀ (p : Prop) [Decidable p] (x : Int), (if p then [x] else []).length ≤ 1 := fun p _ x => by split <;> simp
  have a1 := this ((b && !b' || u && !u' || i && !i') = true) 0
  have a2 := this ((b' && !(!(b && !b' || u && !u' || i && !i') && b)) = true) 1
  have a3 := this ((u' && !(!(b && !b' || u && !u' || i && !i') && u)) = true) 4
  have a4 := this ((i' && !(!(b && !b' || u && !u' || i && !i') && i)) = true) 7
  have a5 := this (f' ≠ (if (b && !b' || u && !u' || i && !i') = true then 0 else f)) (colourI f' 30)
  have a6 := this (g' ≠ (if (b && !b' || u && !u' || i && !i') = true then 0 else g)) (colourI g' 40)
  omega
theorem nth_bd {l : List Int} (h : ∀ x ∈ l, 0 ≤ x ∧ x ≤ 99) (k : Nat) : 0 ≤ nth 0 l k ∧ nth 0 l k ≤ 99 := by
 rcases Nat.lt_or_ge k l.length with hk | hk
 ·rw [nth_eq _ _ _ hk]; exact h _ (List.getElem_mem hk)
 ·unfold nth; rw [List.getD_eq_getElem?_getD, List.getElem?_eq_none hk]; simp
def styB (y z : Sy) : List UInt8 := styleL y.b y.u y.i y.f y.g z.b z.u z.i z.f z.g
theorem styB_self (y : Sy) : styB y y = [] := by
 unfold styB styleL eqS
 rw [decide_eq_true (by simp)]
 rfl
theorem styB_len (y z : Sy) (h2 : 0 ≤ z.f ∧ z.f ≤ 8 ∧ 0 ≤ z.g ∧ z.g ≤ 8) : (styB y z).length ≤ 21 := by
 obtain ⟨b1, b2⟩ := numsL_bd y.b y.u y.i y.f y.g z.b z.u z.i z.f z.g ⟨h2.1, h2.2.1⟩ ⟨h2.2.2.1, h2.2.2.2⟩
 unfold styB styleL
 split
 ·simp
 ·unfold seqL
  have := sepTo_le _ (nth_bd b1) (numsL y.b y.u y.i y.f y.g z.b z.u z.i z.f z.g).length
  simp only [List.length_append, List.length_cons, List.length_nil]
  omega
theorem run_style {t : TS} (z : Sy) (h1 : 0 ≤ t.y.f ∧ t.y.f ≤ 8 ∧ 0 ≤ t.y.g ∧ t.y.g ≤ 8) (h2 : 0 ≤ z.f ∧ z.f ≤ 8 ∧ 0 ≤ z.g ∧ z.g ≤ 8) (he : t.y ≠ z) (x : List UInt8) :
    runT t (styB t.y z ++ x) = runT { t with y := z, last := false } x := by
 obtain ⟨b1, b2⟩ := numsL_bd t.y.b t.y.u t.y.i t.y.f t.y.g z.b z.u z.i z.f z.g ⟨h2.1, h2.2.1⟩ ⟨h2.2.2.1, h2.2.2.2⟩
 have hs := sty_nums t.y.b t.y.u t.y.i t.y.f t.y.g z.b z.u z.i z.f z.g ⟨h2.1, h2.2.1⟩ ⟨h2.2.2.1, h2.2.2.2⟩
 have heq : eqS t.y.b t.y.u t.y.i t.y.f t.y.g z.b z.u z.i z.f z.g = false := by
  unfold eqS
  refine decide_eq_false fun h => he ?_
  obtain ⟨e1, e2, e3, e4, e5⟩ := h
  cases hy : t.y
  cases z
  rw [hy] at e1 e2 e3 e4 e5
  simp_all
 unfold styB styleL mayB
 rw [heq, decide_eq_true h1, decide_eq_true h2, if_neg (by simp)]
 obtain ⟨L, hL⟩ : ∃ L, L = numsL t.y.b t.y.u t.y.i t.y.f t.y.g z.b z.u z.i z.f z.g := ⟨_, rfl⟩
 rw [← hL] at b1 b2 hs ⊢
 have hne : L.length ≠ 0 := fun h0 => by
  have : L = [] := List.eq_nil_of_length_eq_zero h0
  rw [this] at hs
  exact he hs
 obtain ⟨k, hk⟩ := Nat.exists_eq_succ_of_ne_zero hne
 have hle := sepTo_le L (nth_bd b1) L.length
 unfold seqL
 rw [run_csi t _ x 109 (par_plain (sepTo_plain L _)) (by decide) (by omega), obey_nums _ _ _ (sepTo_plain L _), hk, sepTo_nums L (nth_bd b1) k (by omega), show k + 1 = L.length from hk.symm, List.take_length]
 congr 1
 unfold TS.plain
 dsimp only [show (109 : UInt8).toNat = 109 from rfl]
 rw [if_neg (by decide), if_neg (by decide), if_neg (by decide), if_neg (by decide), if_neg (by decide), if_neg (by decide), if_neg (by decide), if_neg (by decide), if_pos (by decide)]
 have e : t.off.y = t.y := rfl
 rw [e]
 have : (L.map Int.toNat).foldl styT t.y = z := hs
 rw [this]
 rfl
def seenB (on : Bool) : List UInt8 := [27, 91, 63, 50, 53, if on then 104 else 108]
def pasteB (on : Bool) : List UInt8 := [27, 91, 63, 50, 48, 48, 52, if on then 104 else 108]
theorem run_seen (t : TS) (on : Bool) (x : List UInt8) : runT t (seenB on ++ x) = runT { t with seen := on, last := false } x := by
 have h := run_csi t [63, 50, 53] x (if on then 104 else 108) (by decide) (by cases on <;> decide) (by decide)
 cases on <;> exact h
theorem run_paste (t : TS) (on : Bool) (x : List UInt8) : runT t (pasteB on ++ x) = runT { t with marked := on, last := false } x := by
 have h := run_csi t [63, 50, 48, 48, 52] x (if on then 104 else 108) (by decide) (by cases on <;> decide) (by decide)
 cases on <;> exact h
end Go.Proofs.YtjkajojjehgmdaaGreat
namespace Go.Proofs.YtjkajojjehgmdaaGreat
end Go.Proofs.YtjkajojjehgmdaaGreat
namespace Go.Proofs.YtjkajojjehgmdaaGreat
open Go.RowKit Go.Shelf Go.Maps
end Go.Proofs.YtjkajojjehgmdaaGreat
namespace Go.Proofs.YtjkajojjehgmdaaGreat
end Go.Proofs.YtjkajojjehgmdaaGreat
namespace Go.Proofs.YtjkajojjehgmdaaGreat
open Go.RowKit Go.Shelf Go.Maps
theorem okB_clu {x : List UInt8} {y : Sy} (h : Clu x) (hy : mayF y = true) : okB ⟨S x, colsL x, y⟩ = true := by
 have hl := h.len
 have hc := h.cols
 unfold okB
 simp only [Bool.and_eq_true, decide_eq_true_eq]
 have e : (S x).data.toList = x := by simp [S]
 rw [e]
 refine ⟨hy, by omega, isCl_of h, widthL_cluF h, ?_⟩
 rw [S_size]; omega
end Go.Proofs.YtjkajojjehgmdaaGreat
namespace Go.Proofs.YtjkajojjehgmdaaGreat
end Go.Proofs.YtjkajojjehgmdaaGreat
namespace Go.Proofs.YtjkajojjehgmdaaGreat
open Go.RowKit Go.Maps
inductive Seg : List GC → Prop
 | nil : Seg []
 | one (c : GC) (t : List GC) : c.w = 1 → Seg t → Seg (c :: t)
 | two (c d : GC) (t : List GC) : c.w = 2 → d.w = 0 → Seg t → Seg (c :: d :: t)
theorem whole_one {c : GC} {t : List GC} (h : wholeB (c :: t) = true) : okB c = true ∧ ((c.w = 1 ∧ wholeB t = true) ∨ (c.w = 2 ∧ ∃ t', t = GC.tail c.y :: t' ∧ wholeB t' = true)) := by
 rw [wholeB_cons, Bool.and_eq_true] at h
 obtain ⟨h1, h2⟩ := h
 refine ⟨h1, ?_⟩
 by_cases hw : c.w = 1
 ·rw [if_pos hw] at h2; exact .inl ⟨hw, h2⟩
 ·rw [if_neg hw] at h2
  right
  have hk := h1
  unfold okB at hk
  simp only [Bool.and_eq_true, decide_eq_true_eq] at hk
  refine ⟨hk.2.1.resolve_left hw, ?_⟩
  cases t with
  | nil => cases h2
  | cons d t' =>
   unfold wholeTl at h2
   rw [Bool.and_eq_true] at h2
   exact ⟨t', by rw [(eqC_iff _ _).1 h2.1], h2.2⟩
theorem whole_ind {P : List GC → Prop} (h0 : P []) (h1 : ∀ c t, okB c = true → c.w = 1 → wholeB t = true → P t → P (c :: t)) (h2 : ∀ c t, okB c = true → c.w = 2 → wholeB t = true → P t → P (c :: GC.tail c.y :: t)) :
    ∀ (n : Nat) (M : List GC), M.length ≤ n → wholeB M = true → P M
 | _, [], _, _ => h0
 | 0, _ :: _, hl, _ => by simp at hl
 | n + 1, c :: t, hl, h => by
  obtain ⟨ho, ⟨hw, ht⟩ | ⟨hw, t', rfl, ht⟩⟩ := whole_one h
  ·exact h1 c t ho hw ht (whole_ind h0 h1 h2 n t (by simpa using hl) ht)
  ·exact h2 c t' ho hw ht (whole_ind h0 h1 h2 n t' (by simp at hl; omega) ht)
theorem whole_seg {M : List GC} (h : wholeB M = true) : Seg M :=
 whole_ind (P := Seg) .nil (fun c t _ hw _ ih => .one c t hw ih) (fun c t _ hw _ ih => .two c _ t hw rfl ih) M.length M (Nat.le_refl _) h
theorem okB_facts {c : GC} (h : okB c = true) : mayF c.y = true ∧ Clu c.s.data.toList ∧ colsL c.s.data.toList = c.w ∧ c.s = S c.s.data.toList ∧ c.s.size ≤ 64 := by
 unfold okB at h
 simp only [Bool.and_eq_true, decide_eq_true_eq] at h
 obtain ⟨h1, h2, h3, h4, h5⟩ := h
 have hc := isCl_clu h3
 exact ⟨h1, hc, by rw [← widthL_cluF hc]; exact h4, by simp [S], h5⟩
theorem nth_at (P X : List GC) (x : GC) : nth GC.zero (P ++ x :: X) P.length = x := by unfold nth; simp
theorem set_at' (P X : List GC) (x y : GC) : (P ++ x :: X).set P.length y = P ++ y :: X := by simp
theorem set_at1 (P X : List GC) (x z y : GC) : (P ++ x :: z :: X).set (P.length + 1) y = P ++ x :: y :: X := by
 simp
theorem wipe_seg {x : GC} {X' : List GC} (h : Seg (x :: X')) (P Q : List GC) (n : Nat) (hn : P.length + 1 + X'.length ≤ n) : ∃ X'', Seg X'' ∧ X''.length = X'.length ∧ wipeL (P ++ x :: (X' ++ Q)) 0 n P.length = P ++ GC.blank :: (X'' ++ Q) := by
 unfold wipeL
 simp only [Nat.zero_add, nth_at, set_at']
 cases h with
 | one _ _ hw ht =>
  refine ⟨X', ht, rfl, ?_⟩
  rw [if_neg (by omega), if_neg (by omega)]
 | two _ d t hw hd ht =>
  refine ⟨GC.blank :: t, .one _ _ rfl ht, rfl, ?_⟩
  rw [if_pos ⟨hw, by simp at hn; omega⟩]
  rw [List.cons_append, set_at1]
  rfl
theorem put_one {x : GC} {X' : List GC} (h : Seg (x :: X')) (P Q : List GC) (n : Nat) (hn : P.length + 1 + X'.length ≤ n) (s : ByteArray) (y : Sy) :
    ∃ X'', Seg X'' ∧ X''.length = X'.length ∧ putL (P ++ x :: (X' ++ Q)) n 0 P.length s 1 y = P ++ ⟨s, 1, y⟩ :: (X'' ++ Q) := by
 obtain ⟨X'', h1, h2, h3⟩ := wipe_seg h P Q n hn
 refine ⟨X'', h1, h2, ?_⟩
 unfold putL
 rw [if_neg (by decide), h3, Nat.zero_add, set_at']
theorem put_two {x z : GC} {X' : List GC} (h : Seg (x :: z :: X')) (P Q : List GC) (n : Nat) (hn : P.length + 2 + X'.length ≤ n) (s : ByteArray) (y : Sy) :
    ∃ X'', Seg X'' ∧ X''.length = X'.length ∧ putL (P ++ x :: z :: (X' ++ Q)) n 0 P.length s 2 y = P ++ ⟨s, 2, y⟩ :: GC.tail y :: (X'' ++ Q) := by
 obtain ⟨X1, h1, h2, h3⟩ := wipe_seg h P Q n (by simp; omega)
 rw [List.cons_append] at h3
 cases X1 with
 | nil => simp at h2
 | cons a X1 =>
  obtain ⟨X2, k1, k2, k3⟩ := wipe_seg h1 (P ++ [GC.blank]) Q n (by simp at h2 ⊢; omega)
  refine ⟨X2, k1, by simp at h2; omega, ?_⟩
  unfold putL
  rw [if_pos rfl, h3]
  have e : P ++ GC.blank :: (a :: X1 ++ Q) = P ++ [GC.blank] ++ a :: (X1 ++ Q) := by simp
  have el : P.length + 1 = (P ++ [GC.blank]).length := by simp
  rw [Nat.zero_add, Nat.zero_add, e, el, k3, set_at']
  have e2 : P ++ [GC.blank] ++ (⟨⟨#[]⟩, 0, y⟩ : GC) :: (X2 ++ Q) = P ++ GC.blank :: (⟨⟨#[]⟩, 0, y⟩ :: (X2 ++ Q)) := by simp
  rw [e2, set_at']
  rfl
def mayS (y : Sy) : Prop := 0 ≤ y.f ∧ y.f ≤ 8 ∧ 0 ≤ y.g ∧ y.g ≤ 8
theorem mayF_S {y : Sy} (h : mayF y = true) : mayS y := by
 unfold mayF at h
 have h1 := of_decide_eq_true h
 exact h1
def cellsB : Sy → List GC → List UInt8
 | _, [] => []
 | y, c :: t => if c.w = 0 then cellsB y t else styB y c.y ++ c.s.data.toList ++ cellsB c.y t
def lastY : Sy → List GC → Sy
 | y, [] => y
 | y, c :: t => if c.w = 0 then lastY y t else lastY c.y t
structure Rest (t u : TS) : Prop where
 W : u.W = t.W
 H : u.H = t.H
 row : u.row = t.row
 seen : u.seen = t.seen
 marked : u.marked = t.marked
 bells : u.bells = t.bells
 gone : u.gone = t.gone
theorem Rest.refl (t : TS) : Rest t t := ⟨rfl, rfl, rfl, rfl, rfl, rfl, rfl⟩
theorem Rest.trans {t u v : TS} (h : Rest t u) (k : Rest u v) : Rest t v := ⟨k.W.trans h.W, k.H.trans h.H, k.row.trans h.row, k.seen.trans h.seen, k.marked.trans h.marked, k.bells.trans h.bells, k.gone.trans h.gone⟩
def Col (t : TS) (k : Nat) : Prop := t.col = min k (t.W - 1) ∧ t.pend = decide (k = t.W)
theorem run_sty {t : TS} (k : TOk t) (hy : mayS t.y) (z : Sy) (hz : mayS z) : ∃ u, (∀ x, runT t (styB t.y z ++ x) = runT u x) ∧ TOk u ∧ u.y = z ∧ u.R = t.R ∧ u.col = t.col ∧ u.pend = t.pend ∧ Rest t u := by
 by_cases h : t.y = z
 ·subst h
  exact ⟨t, fun x => by rw [styB_self]; rfl, k, rfl, rfl, rfl, rfl, Rest.refl _⟩
 ·exact ⟨{ t with y := z, last := false }, fun x => run_style z hy hz h x, { w1 := k.w1, w2 := k.w2, h1 := k.h1, h2 := k.h2, ok := k.ok, ro := k.ro, row := k.row, col := k.col, pe := k.pe }, rfl, rfl, rfl, rfl, ⟨rfl, rfl, rfl, rfl, rfl, rfl, rfl⟩⟩
theorem clu_at {t : TS} (k : TOk t) {c : List UInt8} (hc : Clu c) {m : Nat} (hm : m < t.W) (hcol : Col t m) (hw : (m : Int) + colsL c ≤ t.W) :
    TOk (t.clu c) ∧ (t.clu c).R = t.R.set t.row (putL (nth [] t.R t.row) t.W 0 m (S c) (colsL c) t.y) ∧ Col (t.clu c) (m + (colsL c).toNat) ∧ (t.clu c).y = t.y ∧ Rest t (t.clu c) := by
 have hcb := hc.cols
 have hcl := hc.len
 obtain ⟨h1, h2⟩ := hcol
 have hp : t.pend = false := by rw [h2]; exact decide_eq_false (by omega)
 have hcm : t.col = m := by rw [h1]; omega
 have hroom : t.room (colsL c) = t := by
  unfold TS.room
  rw [hp, if_neg (by rw [Bool.false_or, decide_eq_true_eq]; omega)]
 obtain ⟨k1, k2, k3⟩ := k.clu hc (by omega)
 have hsz := S_size c
 have hne : S c ≠ ⟨#[]⟩ := fun e => by rw [e] at hsz; have : (⟨#[]⟩ : ByteArray).size = 0 := rfl; omega
 have he : putErr t.W t.H t.row t.col (S c) (colsL c) = 0 := by
  have := k.row
  unfold putErr
  rw [if_neg (by rintro (h | h | h); exact hne h; omega; omega), if_neg (by omega)]
 have eR : (t.clu c).R = putR t.W t.H t.R t.row t.col (S c) (colsL c) t.y := by unfold TS.clu; rw [hroom]; rfl
 refine ⟨k1, ?_, ⟨?_, ?_⟩, ?_, ⟨k2, k3, ?_, ?_, ?_, ?_, ?_⟩⟩
 ·rw [eR]; unfold putR; rw [if_pos he]; simp only [Int.toNat_natCast]; rw [hcm]
 ·rw [k2]; unfold TS.clu; rw [hroom]
  show (if (t.W : Int) ≤ t.col + colsL c then t.W - 1 else t.col + (colsL c).toNat) = _
  rw [hcm]; split <;> omega
 ·rw [k2]; unfold TS.clu; rw [hroom]
  show (decide ((t.W : Int) ≤ t.col + colsL c) || t.pend) = _
  rw [hp, Bool.or_false, hcm]
  exact decide_eq_decide.2 (by omega)
 all_goals (unfold TS.clu; rw [hroom]; rfl)
theorem run_clu1 {t : TS} (k : TOk t) {c : List UInt8} (hc : Clu c) (hw : colsL c ≤ t.W) (x : List UInt8) : runT t (c ++ x) = runT (t.clu c) x := by
 have := (run_clus [c] t x k (fun z hz => by rw [List.mem_singleton.1 hz]; exact ⟨hc, hw⟩)).1
 simpa using this
theorem nth_setR (R : List (List GC)) (r : Nat) (M : List GC) (h : r < R.length) : nth [] (R.set r M) r = M := nth_set _ _ _ _ h
theorem run_cells : ∀ (n : Nat) (Y X P Q : List GC) (t : TS), Y.length ≤ n → wholeB Y = true → Seg X → X.length = Y.length → TOk t → mayS t.y → nth [] t.R t.row = P ++ (X ++ Q) → Col t P.length →
    ∃ u, (∀ x, runT t (cellsB t.y Y ++ x) = runT u x) ∧ TOk u ∧ u.R = t.R.set t.row (P ++ (Y ++ Q)) ∧ Col u (P.length + Y.length) ∧ u.y = lastY t.y Y ∧ mayS u.y ∧ Rest t u
 | _, [], X, P, Q, t, _, _, _, hl, k, hy, hR, hcol => by
  have : X = [] := List.eq_nil_of_length_eq_zero hl
  subst this
  refine ⟨t, fun x => rfl, k, ?_, hcol, rfl, hy, Rest.refl _⟩
  rw [← hR]
  have hr := k.row
  have hn := k.ok.n
  rw [nth_eq _ _ _ (by omega), List.set_getElem_self]
 | 0, _ :: _, _, _, _, _, hn, _, _, _, _, _, _, _ => by simp at hn
 | n + 1, c :: Y', X, P, Q, t, hn, hwh, hX, hl, k, hy, hR, hcol => by
  obtain ⟨ho, hw⟩ := whole_one hwh
  obtain ⟨o1, o2, o3, o4, o5⟩ := okB_facts ho
  have hwne : ¬ c.w = 0 := by rcases hw with ⟨h, _⟩ | ⟨h, _⟩ <;> omega
  have hrow := k.row
  have hRn := k.ok.n
  have hM := k.ok.at hrow
  rw [hR] at hM
  simp only [List.length_append] at hM
  obtain ⟨u, hu1, hu2, hu3, hu4, hu5, hu6, hu7⟩ := run_sty k hy c.y (mayF_S o1)
  have hnu : nth [] u.R u.row = P ++ (X ++ Q) := by rw [hu4, hu7.row]; exact hR
  have hcu : Col u P.length := by unfold Col at hcol ⊢; rw [hu5, hu6, hu7.W]; exact hcol
  rw [cellsB, if_neg hwne, lastY, if_neg hwne]
  rcases hw with ⟨hw1, hY'⟩ | ⟨hw2, Y'', rfl, hY'⟩
  ·cases X with
   | nil => simp at hl
   | cons x X' =>
    have hlX : X'.length = Y'.length := by simpa using hl
    simp only [List.length_cons] at hM
    obtain ⟨X'', s1, s2, s3⟩ := put_one hX P Q u.W (by rw [hu7.W]; omega) (S c.s.data.toList) c.y
    obtain ⟨v1, v2, v3, v4, v5⟩ := clu_at hu2 o2 (m := P.length) (by rw [hu7.W]; omega) hcu (by rw [o3, hw1, hu7.W]; omega)
    rw [hnu, o3, hw1, hu3, List.cons_append, s3, ← o4] at v2
    rw [o3, hw1] at v3
    have hcc : (⟨c.s, 1, c.y⟩ : GC) = c := by rw [← hw1]
    rw [hcc] at v2
    obtain ⟨z, hz1, hz2, hz3, hz4, hz5, hz6, hz7⟩ := run_cells n Y' X'' (P ++ [c]) Q (u.clu c.s.data.toList) (by simpa using hn) hY' s1 (s2.trans hlX) v1 (by rw [v4, hu3]; exact mayF_S o1)
     (by rw [v2, v5.row, nth_setR _ _ _ (by rw [hu4, hu7.row, hRn]; exact hrow)]; simp) (by simpa using v3)
    refine ⟨z, fun x => ?_, hz2, ?_, ?_, ?_, hz6, hu7.trans (v5.trans hz7)⟩
    ·have hz1' := hz1 x
     rw [v4, hu3] at hz1'
     rw [List.append_assoc, List.append_assoc, hu1, run_clu1 hu2 o2 (by rw [o3, hw1, hu7.W]; omega)]
     exact hz1'
    ·rw [hz3, v2, v5.row, hu7.row, hu4, List.set_set]; simp
    ·have e : (P ++ [c]).length + Y'.length = P.length + (c :: Y').length := by simp; omega
     rw [← e]; exact hz4
    ·rw [hz5, v4, hu3]
  ·match X, hX, hl with
   | [], _, hl => simp at hl
   | [x], _, hl => simp at hl
   | x :: x2 :: X', hX, hl =>
    have hlX : X'.length = Y''.length := by simpa using hl
    simp only [List.length_cons] at hM
    obtain ⟨X'', s1, s2, s3⟩ := put_two hX P Q u.W (by rw [hu7.W]; omega) (S c.s.data.toList) c.y
    obtain ⟨v1, v2, v3, v4, v5⟩ := clu_at hu2 o2 (m := P.length) (by rw [hu7.W]; omega) hcu (by rw [o3, hw2, hu7.W]; omega)
    rw [hnu, o3, hw2, hu3, List.cons_append, List.cons_append, s3, ← o4] at v2
    rw [o3, hw2] at v3
    have hcc : (⟨c.s, 2, c.y⟩ : GC) = c := by rw [← hw2]
    rw [hcc] at v2
    obtain ⟨z, hz1, hz2, hz3, hz4, hz5, hz6, hz7⟩ := run_cells n Y'' X'' (P ++ [c, GC.tail c.y]) Q (u.clu c.s.data.toList) (by simp at hn; omega) hY' s1 (s2.trans hlX) v1 (by rw [v4, hu3]; exact mayF_S o1)
     (by rw [v2, v5.row, nth_setR _ _ _ (by rw [hu4, hu7.row, hRn]; exact hrow)]; simp) (by simpa using v3)
    refine ⟨z, fun x => ?_, hz2, ?_, ?_, ?_, hz6, hu7.trans (v5.trans hz7)⟩
    ·have hz1' := hz1 x
     rw [v4, hu3] at hz1'
     rw [cellsB, if_pos (show (GC.tail c.y).w = 0 from rfl), List.append_assoc, List.append_assoc, hu1, run_clu1 hu2 o2 (by rw [o3, hw2, hu7.W]; omega)]
     exact hz1'
    ·rw [hz3, v2, v5.row, hu7.row, hu4, List.set_set]; simp
    ·have e : (P ++ [c, GC.tail c.y]).length + Y''.length = P.length + (c :: GC.tail c.y :: Y'').length := by simp; omega
     rw [← e]; exact hz4
    ·rw [hz5, v4, hu3, lastY, if_pos (show (GC.tail c.y).w = 0 from rfl)]
structure Pen where
 row : Nat
 col : Nat
 behind : Bool
 y : Sy
def Pen.mv (p : Pen) (r c : Nat) : List UInt8 := if moveL p.row p.col r c = [] ∧ p.behind = true then colL c else moveL p.row p.col r c
def Pen.to (p : Pen) (r c : Nat) : Pen := ⟨r, c, false, p.y⟩
structure PAt (top : Nat) (p : Pen) (t : TS) : Prop where
 row : t.row = top + p.row
 col : t.col = p.col
 pend : t.pend = p.behind
 y : t.y = p.y
 may : mayS p.y
structure Kept (t u : TS) : Prop where
 W : u.W = t.W
 H : u.H = t.H
 seen : u.seen = t.seen
 marked : u.marked = t.marked
 bells : u.bells = t.bells
 gone : u.gone = t.gone
theorem Kept.refl (t : TS) : Kept t t := ⟨rfl, rfl, rfl, rfl, rfl, rfl⟩
theorem Kept.trans {t u v : TS} (h : Kept t u) (k : Kept u v) : Kept t v := ⟨k.W.trans h.W, k.H.trans h.H, k.seen.trans h.seen, k.marked.trans h.marked, k.bells.trans h.bells, k.gone.trans h.gone⟩
theorem Rest.kept {t u : TS} (h : Rest t u) : Kept t u := ⟨h.W, h.H, h.seen, h.marked, h.bells, h.gone⟩
theorem TOk.at_ {t : TS} (k : TOk t) {r c : Nat} (hr : r < t.H) (hc : c < t.W) : TOk (t.at_ r c) :=
 { w1 := k.w1, w2 := k.w2, h1 := k.h1, h2 := k.h2, ok := k.ok, ro := k.ro, row := hr, col := hc, pe := fun e => by cases e }
theorem run_mv {t : TS} {top : Nat} {p : Pen} (k : TOk t) (a : PAt top p t) {r c : Nat} (hr : top + r < t.H) (hc : c < t.W) :
    ∃ u, (∀ x, runT t (p.mv r c ++ x) = runT u x) ∧ TOk u ∧ PAt top (p.to r c) u ∧ u.R = t.R ∧ Kept t u := by
 have hw2 := k.w2
 have hh2 := k.h2
 have hro := k.row
 have har := a.row
 have hco := k.col
 have hm := fun x => run_move (t := t) p.row r c (top + r) (by omega) (by omega) hr hco hc (by omega) (by rw [har]; omega) x
 have hac := a.col
 unfold Pen.mv
 rw [← hac]
 by_cases hz : p.row = r ∧ t.col = c
 ·obtain ⟨hz1, hz2⟩ := hz
  have he := (hm []).2.2 ⟨hz1, hz2⟩
  by_cases hb : p.behind = true
  ·rw [if_pos ⟨he, hb⟩]
   refine ⟨t.at_ (top + r) c, fun x => ?_, k.at_ hr hc, ⟨rfl, rfl, rfl, a.y, a.may⟩, rfl, ⟨rfl, rfl, rfl, rfl, rfl, rfl⟩⟩
   rw [run_col t (by omega)]
   congr 1
   exact moved_to t _ _ _ _ (by omega) rfl hr hc
  ·rw [if_neg (fun h => hb h.2), he]
   exact ⟨t, fun x => rfl, k, ⟨by rw [har, hz1]; rfl, hz2, (show t.pend = false by rw [a.pend]; simpa using hb), a.y, a.may⟩, rfl, Kept.refl t⟩
 ·have hne : moveL p.row t.col r c ≠ [] := fun e => hz ((hm []).2.1 e)
  rw [if_neg (fun h => hne h.1)]
  refine ⟨t.at_ (top + r) c, fun x => ?_, k.at_ hr hc, ⟨rfl, rfl, rfl, a.y, a.may⟩, rfl, ⟨rfl, rfl, rfl, rfl, rfl, rfl⟩⟩
  rw [(hm x).1, if_neg hz]
theorem run_span {t : TS} {top : Nat} {p : Pen} (k : TOk t) (a : PAt top p t) {r : Nat} (hr : top + r < t.H) {Y X P Q : List GC} (hY : wholeB Y = true) (hX : Seg X) (hl : X.length = Y.length) (hne : X ≠ []) (hR : nth [] t.R (top + r) = P ++ (X ++ Q)) :
    ∃ u, (∀ x, runT t (p.mv r P.length ++ cellsB p.y Y ++ x) = runT u x) ∧ TOk u ∧ PAt top ⟨r, min (P.length + Y.length) (t.W - 1), decide (P.length + Y.length = t.W), lastY p.y Y⟩ u ∧ u.R = t.R.set (top + r) (P ++ (Y ++ Q)) ∧ Kept t u := by
 have hM := k.ok.at hr
 rw [hR] at hM
 simp only [List.length_append] at hM
 have hXl : X.length ≠ 0 := fun e => hne (List.eq_nil_of_length_eq_zero e)
 obtain ⟨u, u1, u2, u3, u4, u5⟩ := run_mv k a hr (c := P.length) (by omega)
 have ur : u.row = top + r := u3.row
 have uy : u.y = p.y := u3.y
 obtain ⟨v, v1, v2, v3, v4, v5, v6, v7⟩ := run_cells Y.length Y X P Q u (Nat.le_refl _) hY hX hl u2 (by rw [u3.y]; exact u3.may) (by rw [u4, ur]; exact hR) ⟨by rw [u3.col, u5.W]; show P.length = _; omega, by rw [u3.pend, u5.W]; show false = _; exact (decide_eq_false (by omega)).symm⟩
 rw [uy] at v1 v5
 refine ⟨v, fun x => by rw [List.append_assoc, u1, v1], v2, ⟨by rw [v7.row, ur], by rw [v4.1, ← v7.W.trans u5.W, v7.W], by rw [v4.2, ← v7.W.trans u5.W, v7.W], v5, by rw [← v5]; exact v6⟩, by rw [v3, u4, ur], u5.trans v7.kept⟩
theorem whole_split : ∀ (n i : Nat) (A : List GC), i ≤ n → i ≤ A.length → wholeB A = true → (i = 0 ∨ (nth GC.zero A (i - 1)).w ≠ 2) → wholeB (A.take i) = true ∧ wholeB (A.drop i) = true
 | _, 0, A, _, _, h, _ => ⟨rfl, h⟩
 | n, i + 1, [], _, hl, _, _ => by simp at hl
 | 0, i + 1, _ :: _, hn, _, _, _ => by omega
 | n + 1, i + 1, c :: t, hn, hl, h, hc => by
  obtain ⟨ho, ⟨hw, ht⟩ | ⟨hw, t', rfl, ht⟩⟩ := whole_one h
  ·obtain ⟨h1, h2⟩ := whole_split n i t (by omega) (by simpa using hl) ht (by
    rcases Nat.eq_zero_or_pos i with h0 | h0
    ·exact .inl h0
    ·right
     obtain ⟨j, rfl⟩ : ∃ j, i = j + 1 := ⟨i - 1, by omega⟩
     have := hc.resolve_left (by omega)
     simpa [nth] using this)
   refine ⟨?_, h2⟩
   rw [List.take_succ_cons, wholeB_cons, ho, if_pos hw, h1]; rfl
  ·have hi : i ≠ 0 := by
    rintro rfl
    have := hc.resolve_left (by omega)
    simp [nth] at this
    exact this hw
   obtain ⟨j, rfl⟩ : ∃ j, i = j + 1 := ⟨i - 1, by omega⟩
   obtain ⟨h1, h2⟩ := whole_split n j t' (by omega) (by simpa using hl) ht (by
    rcases Nat.eq_zero_or_pos j with h0 | h0
    ·exact .inl h0
    ·right
     obtain ⟨m, rfl⟩ : ∃ m, j = m + 1 := ⟨j - 1, by omega⟩
     have := hc.resolve_left (by omega)
     simpa [nth] using this)
   refine ⟨?_, h2⟩
   rw [List.take_succ_cons, List.take_succ_cons, wholeB_cons, ho, if_neg (by omega)]
   show (true && (eqC (GC.tail c.y) (GC.tail c.y) && wholeB (t'.take j))) = true
   rw [h1, (eqC_iff _ _).2 rfl]; rfl
theorem nth_dropG (l : List GC) (i j : Nat) : nth GC.zero (l.drop i) j = nth GC.zero l (i + j) := by simp [nth, List.getElem?_drop]
theorem whole_mid {A : List GC} (h : wholeB A = true) {a b : Nat} (hab : a ≤ b) (hb : b ≤ A.length) (h1 : a = 0 ∨ (nth GC.zero A (a - 1)).w ≠ 2) (h2 : b = A.length ∨ (nth GC.zero A (b - 1)).w ≠ 2) : wholeB ((A.drop a).take (b - a)) = true := by
 have d := (whole_split a a A (Nat.le_refl _) (by omega) h h1).2
 rcases h2 with h2 | h2
 ·rw [List.take_of_length_le (by rw [List.length_drop]; omega)]; exact d
 ·refine (whole_split (b - a) (b - a) (A.drop a) (Nat.le_refl _) (by rw [List.length_drop]; omega) d ?_).1
  rcases Nat.eq_or_lt_of_le hab with e | e
  ·exact .inl (by omega)
  ·right; rw [nth_dropG, show a + (b - a - 1) = b - 1 by omega]; exact h2
def spansF : Nat → Option Nat → List Bool → List (Nat × Nat)
 | i, none, [] => []
 | i, some a, [] => [(a, i)]
 | i, none, true :: t => spansF (i + 1) (some i) t
 | i, some a, true :: t => spansF (i + 1) (some a) t
 | i, none, false :: t => spansF (i + 1) none t
 | i, some a, false :: t => (a, i) :: spansF (i + 1) none t
def spanB (p : Pen) (w r a b : Nat) (l : List GC) : List UInt8 × Pen :=
 (p.mv r a ++ cellsB p.y ((l.drop a).take (b - a)), ⟨r, min b (w - 1), decide (b = w), lastY p.y ((l.drop a).take (b - a))⟩)
def penL (w : Nat) (B : List (List GC)) : Pen → List (Nat × Nat × Nat) → List UInt8 × Pen
 | p, [] => ([], p)
 | p, s :: l => ((spanB p w s.1 s.2.1 s.2.2 (nth [] B s.1)).1 ++ (penL w B (spanB p w s.1 s.2.1 s.2.2 (nth [] B s.1)).2 l).1, (penL w B (spanB p w s.1 s.2.1 s.2.2 (nth [] B s.1)).2 l).2)
theorem penL_app (w : Nat) (B : List (List GC)) : ∀ (l m : List (Nat × Nat × Nat)) (p : Pen), penL w B p (l ++ m) = ((penL w B p l).1 ++ (penL w B (penL w B p l).2 m).1, (penL w B (penL w B p l).2 m).2)
 | [], m, p => by simp [penL]
 | s :: l, m, p => by
  rw [List.cons_append, penL, penL_app w B l m]
  simp [penL]
structure Chg (A B : List GC) (on : List Bool) : Prop where
 a : wholeB A = true
 b : wholeB B = true
 la : A.length = on.length
 lb : B.length = on.length
 same : ∀ i, i < on.length → nth false on i = false → nth GC.zero A i = nth GC.zero B i
 cut : ∀ i, i + 1 < on.length → nth false on i ≠ nth false on (i + 1) → (nth GC.zero A i).w ≠ 2 ∧ (nth GC.zero B i).w ≠ 2
theorem take_same {A B : List GC} {i : Nat} (hA : i < A.length) (hB : i < B.length) (h : nth GC.zero A i = nth GC.zero B i) : B.take i ++ A.drop i = B.take (i + 1) ++ A.drop (i + 1) := by
 rw [nth_eq _ _ _ hA, nth_eq _ _ _ hB] at h
 rw [List.drop_eq_getElem_cons hA, h, List.take_succ_eq_append_getElem hB, List.append_assoc]
 rfl
theorem mid_split {A B : List GC} {a b : Nat} (hab : a ≤ b) : B.take a ++ A.drop a = B.take a ++ ((A.drop a).take (b - a) ++ A.drop b) := by
 congr 1
 conv => lhs; rw [← List.take_append_drop (b - a) (A.drop a)]
 rw [List.drop_drop, show a + (b - a) = b by omega]
theorem mid_join {B Q : List GC} {a b : Nat} (hab : a ≤ b) : B.take a ++ ((B.drop a).take (b - a) ++ Q) = B.take b ++ Q := by
 rw [← List.append_assoc]
 congr 1
 conv => rhs; rw [show b = a + (b - a) by omega]
 rw [List.take_add]
theorem run_row {A B : List GC} {on : List Bool} (h : Chg A B on) {top r w : Nat} {BB : List (List GC)} (hBB : nth [] BB r = B) (hw : on.length = w) : ∀ (L : List Bool) (i : Nat) (o : Option Nat) (t : TS) (p : Pen), on.drop i = L → i ≤ on.length → TOk t → t.W = w → top + r < t.H → PAt top p t →
    (match o with
     | none => nth [] t.R (top + r) = B.take i ++ A.drop i ∧ (i = 0 ∨ nth false on (i - 1) = false)
     | some a => nth [] t.R (top + r) = B.take a ++ A.drop a ∧ a < i ∧ (a = 0 ∨ nth false on (a - 1) = false) ∧ nth false on a = true ∧ nth false on (i - 1) = true) →
    ∃ u, (∀ x, runT t ((penL w BB p ((spansF i o L).map fun s => (r, s.1, s.2))).1 ++ x) = runT u x) ∧ TOk u ∧ PAt top (penL w BB p ((spansF i o L).map fun s => (r, s.1, s.2))).2 u ∧ u.R = t.R.set (top + r) B ∧ Kept t u := by
 -- a span that ends at a column
 have spn : ∀ (a b : Nat) (t : TS) (p : Pen), a < b → b ≤ on.length → TOk t → t.W = w → top + r < t.H → PAt top p t → nth [] t.R (top + r) = B.take a ++ A.drop a → (a = 0 ∨ nth false on (a - 1) = false) → nth false on a = true → nth false on (b - 1) = true → (b = on.length ∨ nth false on b = false) →
     ∃ u, (∀ x, runT t ((spanB p w r a b B).1 ++ x) = runT u x) ∧ TOk u ∧ PAt top (spanB p w r a b B).2 u ∧ u.R = t.R.set (top + r) (B.take b ++ A.drop b) ∧ Kept t u := by
  intro a b t p hab hb k hW hr pa hR h1 h2 h3 h4
  have hla := h.la
  have hlb := h.lb
  have c1 : a = 0 ∨ ((nth GC.zero A (a - 1)).w ≠ 2 ∧ (nth GC.zero B (a - 1)).w ≠ 2) := by
   rcases h1 with h1 | h1
   ·exact .inl h1
   ·rcases Nat.eq_zero_or_pos a with h0 | h0
    ·exact .inl h0
    ·right; exact h.cut (a - 1) (by omega) (by rw [show a - 1 + 1 = a by omega, h1, h2]; decide)
  have c2 : b = on.length ∨ ((nth GC.zero A (b - 1)).w ≠ 2 ∧ (nth GC.zero B (b - 1)).w ≠ 2) := by
   rcases h4 with h4 | h4
   ·exact .inl h4
   ·rcases Nat.eq_or_lt_of_le hb with e | e
    ·exact .inl e
    ·right; exact h.cut (b - 1) (by omega) (by rw [show b - 1 + 1 = b by omega, h3, h4]; decide)
  have sA := whole_mid h.a (Nat.le_of_lt hab) (by omega) (c1.imp id And.left) (by rw [hla]; exact c2.imp id And.left)
  have sB := whole_mid h.b (Nat.le_of_lt hab) (by omega) (c1.imp id And.right) (by rw [hlb]; exact c2.imp id And.right)
  have lA : ((A.drop a).take (b - a)).length = b - a := by rw [List.length_take, List.length_drop]; omega
  have lB : ((B.drop a).take (b - a)).length = b - a := by rw [List.length_take, List.length_drop]; omega
  have lT : (B.take a).length = a := by rw [List.length_take]; omega
  rw [mid_split (Nat.le_of_lt hab)] at hR
  obtain ⟨u, u1, u2, u3, u4, u5⟩ := run_span k pa hr sB (whole_seg sA) (by rw [lA, lB]) (fun e => by rw [e] at lA; simp at lA; omega) hR
  rw [lT, lB, show a + (b - a) = b by omega, hW] at u3
  rw [lT] at u1
  refine ⟨u, fun x => ?_, u2, u3, ?_, u5⟩
  ·exact u1 x
  ·rw [u4, mid_join (Nat.le_of_lt hab)]
 intro L
 induction L with
 | nil =>
  intro i o t p hd hi k hW hr pa ho
  have hie : i = on.length := by
   have := congrArg List.length hd
   rw [List.length_drop] at this
   simp at this; omega
  have hlen := h.la
  have hlen2 := h.lb
  cases o with
  | none =>
   refine ⟨t, fun x => by simp [spansF, penL], k, by simp only [spansF, List.map_nil, penL]; exact pa, ?_, Kept.refl t⟩
   have hM := ho.1
   rw [List.drop_of_length_le (by omega), List.append_nil, List.take_of_length_le (by omega)] at hM
   have hn := k.ok.n
   rw [← hM, nth_eq _ _ _ (by omega), List.set_getElem_self]
  | some a =>
   obtain ⟨o1, o2, o3, o4, o5⟩ := ho
   obtain ⟨u, u1, u2, u3, u4, u5⟩ := spn a i t p o2 hi k hW hr pa o1 o3 o4 o5 (.inl hie)
   simp only [spansF, List.map_cons, List.map_nil, penL, hBB, List.append_nil]
   refine ⟨u, u1, u2, u3, ?_, u5⟩
   rw [u4, List.take_of_length_le (by omega), List.drop_of_length_le (by omega), List.append_nil]
 | cons c L ih =>
  intro i o t p hd hi k hW hr pa ho
  have hlt : i < on.length := by
   have := congrArg List.length hd
   rw [List.length_drop] at this
   simp at this; omega
  have hla := h.la
  have hlb := h.lb
  have hdc := List.drop_eq_getElem_cons hlt
  rw [hd] at hdc
  obtain ⟨hc, hL⟩ := List.cons.inj hdc
  have hci : nth false on i = c := by rw [nth_eq _ _ _ hlt]; exact hc.symm
  cases c with
  | true =>
   cases o with
   | none =>
    simp only [spansF]
    exact ih (i + 1) (some i) t p hL.symm (by omega) k hW hr pa ⟨ho.1, by omega, ho.2, hci, hci⟩
   | some a =>
    obtain ⟨o1, o2, o3, o4, o5⟩ := ho
    simp only [spansF]
    exact ih (i + 1) (some a) t p hL.symm (by omega) k hW hr pa ⟨o1, by omega, o3, o4, hci⟩
  | false =>
   have hsm := h.same i hlt hci
   cases o with
   | none =>
    simp only [spansF]
    exact ih (i + 1) none t p hL.symm (by omega) k hW hr pa ⟨by rw [ho.1]; exact take_same (by omega) (by omega) hsm, .inr hci⟩
   | some a =>
    obtain ⟨o1, o2, o3, o4, o5⟩ := ho
    obtain ⟨u, u1, u2, u3, u4, u5⟩ := spn a i t p o2 hi k hW hr pa o1 o3 o4 o5 (.inr hci)
    have hn := k.ok.n
    obtain ⟨v, v1, v2, v3, v4, v5⟩ := ih (i + 1) none u (spanB p w r a i B).2 hL.symm (by omega) u2 (by rw [u5.W]; exact hW) (by rw [u5.H]; exact hr) u3
     ⟨by rw [u4, nth_setR _ _ _ (by omega)]; exact take_same (by omega) (by omega) hsm, .inr hci⟩
    simp only [spansF, List.map_cons, penL, hBB]
    refine ⟨v, fun x => ?_, v2, v3, by rw [v4, u4, List.set_set], u5.trans v5⟩
    rw [List.append_assoc, u1, v1]
end Go.Proofs.YtjkajojjehgmdaaGreat
