/- The program's region: laid, Above, End. No condition but on the lengths. Printed by gen_rn4.py. -/
import Derived.Test.YtjkajojjehgmdaaGreatRE42
set_option linter.unusedVariables false
set_option linter.unusedSimpArgs false
namespace Go.Proofs.YtjkajojjehgmdaaGreat
open Go.RowKit Go.Shelf Go.Maps
structure StrsAt (W : World) (a : Option Addr) (n : Nat) (L : List (List UInt8)) : Prop where
 len : L.length = n
 at_ : ∀ (i : Nat) (l : List UInt8), L[i]? = some l → ∃ g off, a = some ⟨g, off, none⟩ ∧ g < W.heap.size ∧ W.cell? ⟨g, off + i, none⟩ = some (.string (S l))
theorem StrsAt.below {W X : World} {a : Option Addr} {n : Nat} {L : List (List UInt8)} (h : StrsAt W a n L) (hb : Below W.heap.size W X) : StrsAt X a n L :=
 ⟨h.len, fun i l hl => by
  obtain ⟨g, off, h1, h2, h3⟩ := h.at_ i l hl
  exact ⟨g, off, h1, Nat.lt_of_lt_of_le h2 hb.size, (hb.cell (p := ⟨g, off + i, none⟩) h2).trans h3⟩⟩
theorem StrsAt.nil (W : World) (a : Option Addr) : StrsAt W a 0 [] := ⟨rfl, fun i l h => by simp at h⟩
def clsF (w : Int) (l : List UInt8) : List (List UInt8) := (cutL (flatL l)).take (fitK (cutL (flatL l)) w)
theorem fitK_sumG : ∀ (L : List (List UInt8)) (n : Int), sumC (L.take (fitK L n)) ≤ max 0 n
 | [], n => by simp [fitK, sumC]; omega
 | c :: L, n => by
  unfold fitK
  split
  ·simp [sumC]; omega
  ·rename_i h
   have := fitK_sumG L (n - colsL c)
   have hc := colsL_bd c
   rw [List.take_succ_cons, sumC_cons]
   omega
theorem clsF_ok (w : Nat) (l : List UInt8) : (∀ c ∈ clsF w l, Clu c) ∧ sumC (clsF w l) ≤ w := by
 refine ⟨fun c hc => clu_mem (List.mem_of_mem_take hc), ?_⟩
 have := fitK_sumG (cutL (flatL l)) w
 unfold clsF
 omega
theorem flat_len64G (l : List UInt8) : (flatL l).length ≤ 64 * l.length := by
 have := clean_len (blanksL l)
 unfold flatL
 unfold blanksL at this ⊢
 simpa using this
theorem flat_le : ∀ (C : List (List UInt8)), (∀ c ∈ C, Clu c) → (C.flatten.length : Int) ≤ 64 * sumC C
 | [], _ => by simp [sumC]
 | c :: C, h => by
  have h1 := flat_le C (fun x hx => h x (List.mem_cons_of_mem _ hx))
  have h2 := (h c (List.mem_cons_self ..)).cols
  have h3 := (h c (List.mem_cons_self ..)).len.2
  rw [List.flatten_cons, List.length_append, sumC_cons]
  omega
theorem clsF_len (w : Nat) (hw : w ≤ 500) (l : List UInt8) : (clsF w l).flatten.length ≤ 32000 := by
 obtain ⟨h1, h2⟩ := clsF_ok w l
 have := flat_le _ h1
 omega
theorem linesB_len (w : Nat) (hw : w ≤ 500) : ∀ L : List (List UInt8), (linesB (L.map (clsF w))).length ≤ 32002 * L.length
 | [] => Nat.le_refl _
 | l :: L => by
  have h1 := linesB_len w hw L
  have h2 := clsF_len w hw l
  show (((clsF w l).flatten ++ [13, 10]) ++ linesB (L.map (clsF w))).length ≤ _
  rw [List.length_append, List.length_append, List.length_cons, List.length_cons, List.length_cons, List.length_nil]
  omega
theorem linesB_app (A B : List (List (List UInt8))) : linesB (A ++ B) = linesB A ++ linesB B := by
 unfold linesB
 rw [List.flatMap_append]
set_option maxRecDepth 100000 in
set_option maxHeartbeats 16000000 in
theorem glaid_any {W : World} {b : Nat} {v : Value} {r c : Int} {s : Bool} {w : Nat} {h want ph : Int} (z : RgB W b v r c s w h want ph) (hw : w ≤ 500) {a : Option Addr} {n cap : Nat} {L : List (List UInt8)} (hL : StrsAt W a n L) (hn : n ≤ 1000) (hl : ∀ l ∈ L, l.length ≤ 10000) :
    Calls Tryz.prog 43 #[.pointer (some ⟨b, 0, none⟩), .slice a n cap] W fun e w' => e = .returned (.string (S (linesB (L.map (clsF w))))) ∧ Below W.heap.size W w' := by
 have hLl := hL.len
 have HL := Lib.hid hL
 have HLE := Lib.hid hl
 have hbl := z.lt
 clear hL hl
 obtain ⟨X, hX⟩ : ∃ X, W.alloc (.cells #[.pointer none, .slice none 0 0] 114) = X := ⟨_, rfl⟩
 have sX : X.heap.size = W.heap.size + 1 := by rw [← hX]; simp
 have bX : Below W.heap.size W X := by rw [← hX]; exact (Below.refl _ _).alloc (Nat.le_refl _) _
 have hsb0 : SBx (W.heap.size + 1) W.heap.size X [] := SBx.new (by rw [← hX]; exact World.alloc_heap_new W _) (by omega) (by omega)
 have HX := Lib.hid hX
 clear hX
 go_enter Tryz.func43, Tryz.ntmps43
 go_wp2
 try rw [HX.out]
 clear HX
 go_loopw [12] (fun iv wr => ∃ j : Nat, j ≤ n ∧ iv = .int .i64 j ∧ SBx (W.heap.size + 1) W.heap.size wr (linesB ((L.take j).map (clsF w))) ∧ But (W.heap.size + 1) W.heap.size X wr) (fun iv _ => n - (intOf iv).toNat)
 case atStart => exact ⟨0, Nat.zero_le _, rfl, hsb0, But.refl _ _ _⟩
 case round =>
  obtain ⟨j, hj, rfl, hsb, hbut⟩ := hrel
  have hXs := hbut.size
  by_cases hlt : j < n
  ·obtain ⟨l, hl⟩ : ∃ l, l = nth [] L j := ⟨_, rfl⟩
   have hl' : L[j]? = some l := by rw [hl, nth_eq _ _ _ (by omega)]; exact List.getElem?_eq_getElem (by omega)
   obtain ⟨g, off, rfl, hg, hgc⟩ := HL.out.at_ j l hl'
   have hll := HLE.out l (List.mem_of_getElem? hl')
   have hfl := flat_len64G l
   have gr : wr.cell? ⟨g, off + j, none⟩ = some (.string (S l)) := (cell_block (hbut.block g (by omega) (by omega))).trans ((bX.cell (p := ⟨g, off + j, none⟩) hg).trans hgc)
   have zr : RgB wr b v r c s w h want ph := (hbut.block b (by omega) (by omega)).trans (z.below bX)
   have CFl := Lib.hid (fun Y => flat_any l (by omega) Y)
   have CFi := Lib.hid (fun Y => fitc_any (flatL l) w (by omega) (by omega) Y)
   have HSN : Hid (linesB ((L.take (j + 1)).map (clsF w)) = linesB ((L.take j).map (clsF w)) ++ fitT (flatL l) w ++ [13, 10]) := Lib.hid (by
    rw [List.take_succ_eq_append_getElem (by omega), List.map_append, linesB_app, List.append_assoc]
    congr 1
    have : L[j] = l := (List.getElem?_eq_some_iff.1 hl').2
    rw [this]
    show (clsF w l).flatten ++ [13, 10] ++ [] = _
    rw [List.append_nil]
    rfl)
   have hlen := linesB_len w hw (L.take j)
   rw [List.length_take] at hlen
   have hfit : (fitT (flatL l) w).length ≤ 32000 := clsF_len w hw l
   obtain ⟨f, hf⟩ : ∃ f, f = fitT (flatL l) w := ⟨_, rfl⟩
   obtain ⟨m, hm⟩ : ∃ m, m = fitN (flatL l) w := ⟨_, rfl⟩
   rw [← hf] at hfit
   simp only [← hf, ← hm] at CFi HSN
   obtain ⟨bs, hbs⟩ : ∃ bs, bs = linesB ((L.take j).map (clsF w)) := ⟨_, rfl⟩
   rw [← hbs] at hlen hsb HSN
   have hlen2 : bs.length ≤ 40000000 := by have := Nat.min_le_right j L.length; have := Nat.min_le_left j L.length; omega
   have HLEN := Lib.hid hlen2
   have HFIT := Lib.hid hfit
   clear hbs hlen hlen2 hfit
   have hji : (j : Int) < (n : Int) := by omega
   clear hl hl' hgc hll hfl hf hm HL HLE
   go_upto_region 5 with (fail)
   refine wp_region_mix2 [(true, 0), (true, 2), (true, 3), (true, 4), (true, 5), (false, 1), (false, 6), (true, 7), (true, 8), (true, 9), (true, 10), (true, 11)] (fun Y => Below wr.heap.size wr Y) (by kernel_rfl) (by kernel_rfl) (by rfl) (by kernel_rfl) (by kernel_rfl) (fun _ _ d _ _ h => by cases d <;> exact h) ((Below.refl _ _).drew) ?_
   simp only [mixL, List.getElem?_cons_succ, List.getElem?_cons_zero]
   obtain ⟨q0, hq0⟩ : ∃ q, wr.drew = q := ⟨_, rfl⟩
   have Bq0 : Below wr.heap.size wr q0 := by rw [← hq0]; exact (Below.refl _ _).drew
   rw [hq0]
   clear hq0
   iterate 5 (refine' wpMix2_read (v := _) rfl ?_ ?_; rotate_left 1; (intro w' hw'; obtain ⟨c0, c1, c2, c3, c4, c5, c6, c7⟩ := (zr.below hw').cells; go_simp; try with_reducible rfl); try simp only [Act.put, List.setIfInBounds_toArray, List.set_cons_zero, List.set_cons_succ])
   refine wpMix2_act (fun K hK => ?_)
   go_wp2_with fail
   refine (CFl.out _).mono ?_
   rintro e q1 ⟨rfl, hq1⟩
   have Bq1 : Below wr.heap.size wr q1 := bto Bq0 hq1 Bq0.size
   go_wp2
   refine hK _ _ Bq1 ?_
   clear hK K
   refine wpMix2_act (fun K hK => ?_)
   go_wp2_with fail
   refine (CFi.out _).mono ?_
   rintro e q2 ⟨rfl, hq2⟩
   have Bq2 : Below wr.heap.size wr q2 := bto Bq1 hq2 Bq1.size
   go_wp2
   refine hK _ _ Bq2 ?_
   clear hK K
   iterate 5 (refine' wpMix2_read (v := _) rfl ?_ ?_; rotate_left 1; (intro w' hw'; obtain ⟨c0, c1, c2, c3, c4, c5, c6, c7⟩ := (zr.below hw').cells; go_simp; try with_reducible rfl); try simp only [Act.put, List.setIfInBounds_toArray, List.set_cons_zero, List.set_cons_succ])
   refine wpMix2_nil ?_
   have CW1 := Lib.hid (fun Y (hY : SBx (W.heap.size + 1) W.heap.size Y bs) => hY.write f (by have := HLEN.out; have := HFIT.out; omega))
   have CW2 := Lib.hid (fun Y (hY : SBx (W.heap.size + 1) W.heap.size Y (bs ++ f)) => hY.write [13, 10] (by have := HLEN.out; have := HFIT.out; rw [List.length_append]; simp; omega))
   have hsb2 := hsb.below Bq2
   have hbut2 := hbut.trans (But.of_below (by omega) Bq2)
   have h2s := Bq2.size
   clear CFl CFi hsb
   go_wp2_with (first
    | (go_at_call 67; refine (CW2.out _ hsb3).mono ?_; rintro e w4 ⟨rfl, hsb4, hbut4, _⟩)
    | (go_at_call 67; refine (CW1.out _ hsb2).mono ?_; rintro e w3 ⟨rfl, hsb3, hbut3, _⟩))
   go_roundw
   case rel => exact ⟨j + 1, hlt, by go_num, by rw [HSN.out]; exact hsb4, (hbut2.trans hbut3).trans hbut4⟩
   case measure => simp [intOf]; omega
  ·obtain rfl : j = n := by omega
   rw [List.take_of_length_le (by omega)] at hsb
   have CS := Lib.hid hsb.string
   unfold StrRet at CS
   go_wp2_with (go_at_call 68; refine CS.out.mono ?_; rintro e w5 ⟨rfl, hb5, _⟩)
   go_ret
   exact ⟨rfl, (bX.trans (hbut.below (by omega) (by omega))).trans (hb5.mono (by omega))⟩
end Go.Proofs.YtjkajojjehgmdaaGreat
