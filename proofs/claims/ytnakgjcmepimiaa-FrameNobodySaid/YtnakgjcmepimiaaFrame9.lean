/- The law's example. No condition. -/
import Derived.Test.YtnakgjcmepimiaaFrame8
namespace Go.Proofs.Ytnakgjcmepimiaa
set_option linter.unusedVariables false
set_option linter.unusedSimpArgs false
open Go.RowKit Go.Shelf Go.Maps
def awT : List UInt8 := [228, 184, 173, 120, 121]
def awC : List (List UInt8) := cutL (flatL awT)
def awK : Nat := fitK awC (((4 : Nat) : Int) - ((1 : Nat) : Int))
def awG : List GC := putsG 4 1 ((0 : Nat) : Int) ((1 : Nat) : Int) Sy.zero awC awK (List.replicate (4 * 1) GC.blank)
theorem awF0 : (⟨#[228, 184, 173, 120, 121]⟩ : ByteArray) = S awT := by kernel_rfl
theorem awF1 : ((1 : Nat) : Int) + sumC (awC.take awK) = 4 := by kernel_rfl
theorem awF2 : S (lineT (lineL awG 4 0)) = ⟨#[32, 228, 184, 173, 120]⟩ := by kernel_rfl
theorem awF3 : wholeB (lineL awG 4 0) = true := by kernel_rfl
theorem awF4 : (lineL awG 4 0).all (fun c => decide (c.s.size ≤ 64)) = true := by kernel_rfl
theorem awF5 : (lineL awG 4 0).length = 4 := by kernel_rfl
theorem fnew_okI (x y : Int) (a b : Nat) (hx : x = a) (hy : y = b) (h : 1 ≤ a ∧ a ≤ 500 ∧ 1 ≤ b ∧ b ≤ 60) (W : World) :
    Calls Try.prog 10 #[.int .i64 x, .int .i64 y] W fun e w' => ∃ z p q, e = .returned (.tuple #[.pointer (some ⟨z, 0, none⟩), .int .i64 0]) ∧ BAt w' z p q a b (List.replicate (a * b) GC.blank) 0 0 false ∧ (W.heap.size ≤ z ∧ W.heap.size ≤ p ∧ W.heap.size ≤ q) ∧ Below W.heap.size W w' := by
  subst hx hy; exact fnew_ok a b h W
theorem text_aw {W : World} {b p q : Nat} {r c : Nat} {s : Bool} (a : BAt W b p q 4 1 (List.replicate (4 * 1) GC.blank) r c s) :
    Calls Try.prog 11 #[.pointer (some ⟨b, 0, none⟩), .int .i64 0, .int .i64 1, .string ⟨#[228, 184, 173, 120, 121]⟩, .agg #[.bool false, .bool false, .bool false, .int .i64 0, .int .i64 0]] W fun e w' =>
      e = .returned (.tuple #[.int .i64 4, .int .i64 0]) ∧ BAt w' b p q 4 1 awG r c s ∧ Only [q] W w' := by
  have h := text_ok a 0 1 awT Sy.zero (by omega) (by omega) rfl (by decide)
  rw [← awF0] at h
  refine h.mono fun e w' ⟨h1, h2, h3⟩ => ⟨?_, h2, h3⟩
  rw [h1]
  exact congrArg (fun x => Ending.returned (.tuple #[.int .i64 x, .int .i64 0])) awF1
set_option maxRecDepth 100000 in
set_option maxHeartbeats 8000000 in
theorem awake09_any (W : World) : Calls Try.prog 14 #[] W fun e w' => e = .returned (.bool true) ∧ Below W.heap.size W w' := by
  have C0 := Lib.hid (fun W => fnew_okI 4 1 4 1 rfl rfl (by omega) W)
  have C1 := Lib.hid (fun W => fnew_bad 0 1 (by omega) W)
  have hl4 : ∀ c ∈ lineL awG 4 0, c.s.size ≤ 64 := fun c hc => by have := List.all_eq_true.1 awF4 c hc; simpa using this
  have HL4 := Lib.hid hl4
  have CF := Lib.hid (fun W b p q r c s (a : BAt W b p q 4 1 awG r c s) hr hc => frame_any a (by omega) hr hc)
  have CT := Lib.hid (fun W b p q r c s (a : BAt W b p q 4 1 (List.replicate (4 * 1) GC.blank) r c s) => text_aw a)
  have hrg : rowsG awG 4 1 = [lineL awG 4 0] := rfl
  have HRG := Lib.hid hrg
  clear hl4 hrg
  go_enter Try.func14, Try.ntmps14
  go_wp2_with fail
  refine (C0.out _).mono ?_
  rintro e w1 ⟨z, p, q, rfl, a1, ⟨g1, g2, g3⟩, hb1⟩
  go_wp2_with fail
  refine (CT.out _ _ _ _ _ _ _ a1).mono ?_
  rintro e w2 ⟨rfl, a2, o2⟩
  go_wp2_with fail
  refine (CF.out _ _ _ _ _ _ _ a2 (by omega) (by omega)).mono ?_
  rintro e w3 ⟨ar, cap, rfl, hR, ⟨hc1, hc2⟩, hb3⟩
  rw [HRG.out] at hR hc1 ⊢
  simp only [List.length_cons, List.length_nil, Nat.zero_add] at hR hc1 ⊢
  go_wp2_with fail
  refine (C1.out _).mono ?_
  rintro e w4 ⟨rfl, hw4⟩
  have z4 : FBox w4 w3.heap.size (.slice ar 1 cap) 0 0 false := by rw [← hw4]; exact World.alloc_heap_new w3 _
  have hb4 : Below w3.heap.size w3 w4 := by rw [← hw4]; exact (Below.refl _ _).alloc (Nat.le_refl _) _
  have R4 := hR.below hb4
  have B4 : Below W.heap.size W w4 := by
    have k2 : Below W.heap.size W w2 := hb1.trans (o2.below (by simp; omega) hb1.size)
    have k3 := bto k2 hb3 k2.size
    exact bto k3 hb4 k3.size
  clear hw4 hR
  obtain ⟨bb, off, a2', c2, rfl, hbl, hcell, ⟨hc3, hc4⟩, hM⟩ := R4.at_ 0 (lineL awG 4 0) rfl
  rw [awF5] at hcell hc3 hM
  rw [Nat.add_zero] at hcell
  obtain ⟨e0, e1, e2, e3, _⟩ := z4.cells
  have CL := fun cap => fline_any (cap := cap) hM (by omega) HL4.out
  simp only [awF2] at CL
  have CL := Lib.hid CL
  go_wp2_with fail
  refine (CL.out _).mono ?_
  rintro e w5 ⟨rfl, hb5⟩
  have z5 := z4.below hb5
  obtain ⟨d0, d1, d2, d3, _⟩ := z5.cells
  have R5 := R4.below hb5
  have CK := Lib.hid (fun cap => check_true (cap := cap) (r := 0) (c := 0) (w := 4) (s := false) R5 (by omega) (by omega) (fun M hM => by rw [List.mem_singleton] at hM; subst hM; exact ⟨awF5, awF3⟩) (by omega) (by omega) (by omega) (by omega))
  go_wp2_with (go_at_call 17; refine (CK.out _).mono ?_; rintro e w6 ⟨rfl, hb6⟩)
  go_ret
  exact ⟨rfl, bto (bto B4 hb5 B4.size) hb6 (bto B4 hb5 B4.size).size⟩
end Go.Proofs.Ytnakgjcmepimiaa
