/- The program: Check of any frame. No condition but that the strings are not too long for a cut. -/
import Derived.Test.YtjkajojjehgmdaaGreatRE18
import Derived.Test.YtjkajojjehgmdaaGreatRE19
set_option linter.unusedVariables false
set_option linter.unusedSimpArgs false
namespace Go.Proofs.YtjkajojjehgmdaaGreat
open Go.RowKit Go.Shelf Go.Maps
def rowsOkB (w : Nat) (R : List (List GC)) : Bool := R.all (fun M => decide (M.length = w) && wholeB M)
def okF (R : List (List GC)) (r c : Int) : Bool :=
 decide (1 ≤ R.length ∧ R.length ≤ 60 ∧ 1 ≤ (nth [] R 0).length ∧ (nth [] R 0).length ≤ 500 ∧ 0 ≤ r ∧ r < R.length ∧ 0 ≤ c ∧ c < (nth [] R 0).length) && rowsOkB (nth [] R 0).length R
theorem rowsOkB_drop (w : Nat) (R : List (List GC)) (k : Nat) (hk : k < R.length) : rowsOkB w (R.drop k) = ((decide ((nth [] R k).length = w) && wholeB (nth [] R k)) && rowsOkB w (R.drop (k + 1))) := by
 rw [List.drop_eq_getElem_cons hk, nth_eq _ _ _ hk]
 rfl
def errF (b : Bool) : Int := if b then 0 else 90
set_option maxRecDepth 100000 in
set_option maxHeartbeats 8000000 in
theorem check_any {W : World} {a : Option Addr} {n cap : Nat} {R : List (List GC)} (hR : RowsAt W a n R) (hn : n ≤ maxLen) (hs : ∀ M ∈ R, ∀ c ∈ M, c.s.size ≤ 1100000) (r c : Int) (s : Bool) :
    Calls Tryz.prog 37 #[.agg #[.slice a n cap, .int .i64 r, .int .i64 c, .bool s]] W fun e w' => e = .returned (.int .i64 (errF (okF R r c))) ∧ Below W.heap.size W w' := by
 have hl := hR.len
 unfold maxLen at hn
 have z1 : FBI (W.alloc (.cells #[.slice a n cap, .int .i64 r, .int .i64 c, .bool s] 42)) W.heap.size (.slice a n cap) r c s := World.alloc_heap_new W _
 have b1 : Below W.heap.size W (W.alloc (.cells #[.slice a n cap, .int .i64 r, .int .i64 c, .bool s] 42)) := (Below.refl _ _).alloc (Nat.le_refl _) _
 have R1 := hR.below b1
 have e1 := z1.cells.2.1
 have e2 := z1.cells.2.2.1
 by_cases hn1 : n < 1 ∨ 60 < n
 ·have HF : Hid (errF (okF R r c) = 90) := Lib.hid (by
   have : okF R r c = false := by
    unfold okF
    rw [Bool.and_eq_false_iff]
    exact .inl (decide_eq_false (by omega))
   rw [this]; rfl)
  clear hR R1 hs hl
  have hni : (n : Int) < 1 ∨ 60 < (n : Int) := by omega
  clear hn1
  rcases hni with h | h
  ·go_enter Tryz.func37, Tryz.ntmps37
   go_wp2
   go_ret
   exact ⟨congrArg (fun x => Ending.returned (.int .i64 x)) HF.out.symm, b1⟩
  ·have h1 : ¬ (n : Int) < 1 := by omega
   go_enter Tryz.func37, Tryz.ntmps37
   go_wp2
   go_ret
   exact ⟨congrArg (fun x => Ending.returned (.int .i64 x)) HF.out.symm, b1⟩
 obtain ⟨M0, hM0⟩ : ∃ M, M = nth [] R 0 := ⟨_, rfl⟩
 have hM0' : R[0]? = some M0 := by rw [hM0, nth_eq _ _ _ (by omega)]; exact List.getElem?_eq_getElem (by omega)
 obtain ⟨b, off, a2, c2, rfl, hb, hc0, ⟨hc1, hc2⟩, _⟩ := R1.at_ 0 M0 hM0'
 rw [Nat.add_zero] at hc0
 unfold maxLen at hc2
 obtain ⟨w, hw⟩ : ∃ w, w = M0.length := ⟨_, rfl⟩
 rw [← hw] at hc0 hc1
 have HOK : Hid (okF R r c = (decide (1 ≤ n ∧ n ≤ 60 ∧ 1 ≤ w ∧ w ≤ 500 ∧ 0 ≤ r ∧ r < (n : Int) ∧ 0 ≤ c ∧ c < (w : Int)) && rowsOkB w R)) := Lib.hid (by unfold okF; rw [← hM0, ← hw, hl])
 have k1 : ¬ (n : Int) < 1 := by omega
 have k2 : ¬ 60 < (n : Int) := by omega
 clear hM0 hM0' hw
 by_cases hD : 1 ≤ (w : Int) ∧ (w : Int) ≤ 500 ∧ 0 ≤ r ∧ r < (n : Int) ∧ 0 ≤ c ∧ c < (w : Int)
 case neg =>
  have HF : Hid (errF (okF R r c) = 90) := Lib.hid (by
   have : okF R r c = false := by
    rw [HOK.out, Bool.and_eq_false_iff]
    exact .inl (decide_eq_false (by omega))
   rw [this]; rfl)
  clear hR R1 hs hl HOK hn1
  go_enter Tryz.func37, Tryz.ntmps37
  go_wp2
  all_goals first
   | (exfalso; omega)
   | (go_ret; exact ⟨congrArg (fun x => Ending.returned (.int .i64 x)) HF.out.symm, b1⟩)
 case pos =>
 obtain ⟨d1, d2, d3, d4, d5, d6⟩ := hD
 obtain ⟨z, hz⟩ : ∃ z, z = rowsOkB w R := ⟨_, rfl⟩
 have HE : Hid (okF R r c = z) := Lib.hid (by rw [HOK.out, hz, decide_eq_true (by omega)]; rfl)
 have HZ : Hid (z = rowsOkB w (R.drop 0)) := Lib.hid (by rw [hz]; rfl)
 have HD := Lib.hid (fun k (hk : k < n) => rowsOkB_drop w R k (by omega))
 have HN : Hid (rowsOkB w (R.drop n) = true) := Lib.hid (by rw [List.drop_eq_nil_of_le (by omega)]; rfl)
 have k3 : ¬ (w : Int) < 1 := by omega
 have k4 : ¬ 500 < (w : Int) := by omega
 have k5 : ¬ r < 0 := by omega
 have k6 : ¬ (n : Int) ≤ r := by omega
 have k7 : ¬ c < 0 := by omega
 have k8 : ¬ (w : Int) ≤ c := by omega
 have HR := Lib.hid R1
 have HS := Lib.hid hs
 have HL := Lib.hid hl
 have hn60 : n ≤ 60 := by omega
 have hw500 : w ≤ 500 := by omega
 clear hR R1 hs hl hz HOK hn1
 go_enter Tryz.func37, Tryz.ntmps37
 go_wp2
 obtain ⟨X, hX⟩ : ∃ X, W.alloc (.cells #[.slice (some ⟨b, off, none⟩) n cap, .int .i64 r, .int .i64 c, .bool s] 42) = X := ⟨_, rfl⟩
 rw [hX] at b1 HR ⊢
 clear hX hc0 e1 e2 z1
 have R1 := HR.out
 go_loopw [54] (fun i wr => ∃ k : Nat, k ≤ n ∧ i = .int .i64 k ∧ Hid (z = rowsOkB w (R.drop k)) ∧ Below X.heap.size X wr) (fun i _ => n - (intOf i).toNat)
 case atStart => exact ⟨0, Nat.zero_le _, rfl, HZ, Below.refl _ _⟩
 case round =>
  obtain ⟨k, hk, rfl, hf, hbr⟩ := hrel
  by_cases hlt : k < n
  ·have hMk : R[k]? = some (nth [] R k) := by rw [nth_eq _ _ _ (by rw [HL.out]; exact hlt), List.getElem?_eq_getElem (by rw [HL.out]; exact hlt)]
   obtain ⟨b', off', a3, c3, e', hb', hc3, ⟨hc4, hc5⟩, hM⟩ := (R1.below hbr).at_ k _ hMk
   simp only [Option.some.injEq, Addr.mk.injEq] at e'
   obtain ⟨rfl, rfl, _⟩ := e'
   have hsM := HS.out _ (List.mem_of_getElem? hMk)
   have hDk := HD.out k hlt
   obtain ⟨M, hMM⟩ : ∃ M, M = nth [] R k := ⟨_, rfl⟩
   rw [← hMM] at hc3 hc4 hM hsM hDk
   obtain ⟨m, hm⟩ : ∃ m, m = M.length := ⟨_, rfl⟩
   rw [← hm] at hc3 hc4 hM hDk
   unfold maxLen at hc5
   clear hMk hMM hm
   by_cases hml : m = w
   ·subst hml
    have CW := (fun cap => whole_any (cap := cap) hM (by omega) hsM)
    have hne : ((m : Int) != (m : Int)) = false := by simp
    have HDk : Hid (z = (wholeB M && rowsOkB m (R.drop (k + 1)))) := Lib.hid (by rw [hf.out, hDk]; simp)
    clear hM hc5 hsM hDk
    cases hwb : wholeB M with
    | true =>
     have HZ2 : Hid (z = rowsOkB m (R.drop (k + 1))) := Lib.hid (by rw [HDk.out, hwb]; rfl)
     simp only [hwb] at CW
     have CW := Lib.hid CW
     clear hwb
     go_wp2_with (go_at_call 63; refine (CW.out _).mono ?_; rintro e w2 ⟨rfl, hb2⟩; have hB2 := bto hbr hb2 hbr.size)
     go_roundw
     case rel => exact ⟨k + 1, hlt, by go_num, HZ2, hB2⟩
     case measure => simp [intOf]; omega
    | false =>
     have HF : Hid (errF (okF R r c) = 90) := Lib.hid (by rw [HE.out, HDk.out, hwb]; rfl)
     simp only [hwb] at CW
     have CW := Lib.hid CW
     clear hwb
     go_wp2_with (go_at_call 63; refine (CW.out _).mono ?_; rintro e w2 ⟨rfl, hb2⟩; have hB2 := bto hbr hb2 hbr.size)
     go_ret
     exact ⟨congrArg (fun x => Ending.returned (.int .i64 x)) HF.out.symm, bto b1 hB2 b1.size⟩
   ·have hne : ((m : Int) != (w : Int)) = true := by simp; omega
    have HF : Hid (errF (okF R r c) = 90) := Lib.hid (by rw [HE.out, hf.out, hDk]; simp [hml, errF])
    clear hM hc5 hsM hDk hml
    go_wp2
    go_ret
    exact ⟨congrArg (fun x => Ending.returned (.int .i64 x)) HF.out.symm, bto b1 hbr b1.size⟩
  ·obtain rfl : k = n := by omega
   have HF : Hid (errF (okF R r c) = 0) := Lib.hid (by rw [HE.out, hf.out, HN.out]; rfl)
   go_wp2
   go_ret
   exact ⟨congrArg (fun x => Ending.returned (.int .i64 x)) HF.out.symm, bto b1 hbr b1.size⟩
end Go.Proofs.YtjkajojjehgmdaaGreat
