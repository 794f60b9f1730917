/- The law RegionNobody. No condition. -/
import Derived.Test.YtekodpcedjpnjaaGreatRN48
import Derived.Test.YtekodpcedjpnjaaGreatRN51
set_option linter.unusedVariables false
set_option linter.unusedSimpArgs false
namespace Go.Proofs.YtekodpcedjpnjaaGreat
open Go.RowKit Go.Shelf Go.Maps
set_option maxRecDepth 100000 in
set_option maxHeartbeats 16000000 in
theorem regionNobody_any {W : World} {a : Option Addr} {n cap : Nat} {R : List (List GC)} (hR : RowsAt W a n R) (hn : n ≤ cap) (hcap : cap ≤ maxLen) (r c : Int) (s : Bool) (wd ht : Int) :
    Calls Tryz.prog 14 #[.agg #[.slice a n cap, .int .i64 r, .int .i64 c, .bool s], .int .i64 wd, .int .i64 ht] W fun e w' => e = .returned (.bool true) ∧ Below W.heap.size W w' := by
  obtain ⟨X0, hX0⟩ : ∃ X, W.alloc (.cells #[.slice a n cap, .int .i64 r, .int .i64 c, .bool s] 52) = X := ⟨_, rfl⟩
  have z0 : FBI X0 W.heap.size (.slice a n cap) r c s := by rw [← hX0]; exact World.alloc_heap_new W _
  have b0 : Below W.heap.size W X0 := by rw [← hX0]; exact (Below.refl _ _).alloc (Nat.le_refl _) _
  have s0 : X0.heap.size = W.heap.size + 1 := by rw [← hX0]; simp
  obtain ⟨X1, hX1⟩ : ∃ X, X0.alloc (.cells #[.slice none 0 0, .int .i64 0, .int .i64 0, .bool false, .int .i64 0, .int .i64 0, .int .i64 0, .int .i64 0] 134) = X := ⟨_, rfl⟩
  have zb : RgB X1 (W.heap.size + 1) (.slice none 0 0) 0 0 false 0 0 0 0 := by rw [← hX1, ← s0]; exact World.alloc_heap_new X0 _
  have b1 : Below X0.heap.size X0 X1 := by rw [← hX1]; exact (Below.refl _ _).alloc (Nat.le_refl _) _
  have s1 : X1.heap.size = W.heap.size + 1 + 1 := by rw [← hX1]; simp [s0]
  obtain ⟨X, hX⟩ : ∃ X, X1.alloc (.cells #[.pointer none, .pointer (some ⟨W.heap.size + 1, 0, none⟩)] 101) = X := ⟨_, rfl⟩
  have zc : X.heap[W.heap.size + 1 + 1]? = some (.cells #[.pointer none, .pointer (some ⟨W.heap.size + 1, 0, none⟩)] 101 (0, 0)) := by rw [← hX, ← s1]; exact World.alloc_heap_new X1 _
  have b2 : Below X1.heap.size X1 X := by rw [← hX]; exact (Below.refl _ _).alloc (Nat.le_refl _) _
  have nb : NoR X (.pointer (some ⟨W.heap.size + 1, 0, none⟩)) := .inr ⟨_, rfl, zb.below b2⟩
  have zf := (z0.below b1).below b2
  have d0 : X.cell? ⟨W.heap.size + 1 + 1, 0, none⟩ = some (.pointer none) := by rw [cell_of_row X _ 0 _ _ _ zc]; rfl
  have d1 : X.cell? ⟨W.heap.size + 1 + 1, 1, none⟩ = some (.pointer (some ⟨W.heap.size + 1, 0, none⟩)) := by rw [cell_of_row X _ 1 _ _ _ zc]; rfl
  have sX : W.heap.size + 1 + 1 < X.heap.size := (Array.getElem?_eq_some_iff.1 zc).1
  have bW : Below W.heap.size W X := bto (bto b0 b1 b0.size) b2 (bto b0 b1 b0.size).size
  have HR := Lib.hid (hR.below bW)
  have HX0 := Lib.hid hX0
  have HX1 := Lib.hid hX1
  have HX := Lib.hid hX
  have NB := Lib.hid nb
  have hF0 : ∀ W, (Instr.field 52 (.agg #[.slice none 0 0, .int .i64 0, .int .i64 0, .bool false]) 0).run Tryz.prog W = .ok (.slice none 0 0) W := fun _ => by kernel_rfl
  have hE : (⟨#[]⟩ : ByteArray) ++ (⟨#[]⟩ : ByteArray) = ⟨#[]⟩ := rfl
  clear hX0 hX1 hX zb zc nb b1 s1 b0 s0 z0 b2 hR
  go_enter Tryz.func14, Tryz.ntmps14
  go_wp2
  try rw [HX0.out]
  try rw [HX1.out]
  try rw [HX.out]
  go_loopw [27] (fun i wr => ∃ k : Nat, k ≤ 2 ∧ i = .int .i64 (k : Int) ∧ Below X.heap.size X wr) (fun i _ => 2 - (intOf i).toNat)
  case atStart => exact ⟨0, Nat.zero_le _, rfl, Below.refl _ _⟩
  case round =>
    obtain ⟨k, hk, rfl, hb⟩ := hrel
    by_cases hlt : k < 2
    · have hv : ∃ v, X.cell? ⟨W.heap.size + 1 + 1, k, none⟩ = some (.pointer v) ∧ NoR X (.pointer v) := by
        rcases (by omega : k = 0 ∨ k = 1) with rfl | rfl
        · exact ⟨_, d0, .inl rfl⟩
        · exact ⟨_, d1, NB.out⟩
      obtain ⟨v, hd, hn'⟩ := hv
      have hdr := (hb.cell (p := ⟨W.heap.size + 1 + 1, k, none⟩) sX).trans hd
      have hN := Lib.hid (fun W' (h : Below X.heap.size X W') => hn'.below h)
      have CF := Lib.hid (fun Y (h : Below X.heap.size X Y) => frame11_any (HR.out.below h) hn hcap r c s)
      have hk2 : (k : Int) < 2 := by omega
      have zfr := zf.below hb
      clear hn' hd d0 d1
      go_upto_region 6 with (go_at_call 61; refine (gStart_no (hN.out _ hb)).mono ?_; rintro e w1 ⟨rfl, h1⟩; have B1 := bto hb h1 hb.size)
      obtain ⟨u0, u1, u2, u3⟩ := (zf.below B1).cells
      go_wp2_with (first
        | (go_at_call 63; refine (CF.out _ B1).mono ?_; rintro e w2 ⟨a2, c2, rfl, hR2, hc2, h2⟩; have B2 := bto B1 h2 B1.size)
        | (go_at_call 62; refine (gDraw_no (hN.out _ B2) _ _ _ _).mono ?_; rintro e w3 ⟨rfl, h3⟩; have B3 := bto B2 h3 B2.size)
        | (go_at_call 80; refine (gResize_no (hN.out _ B3) _ _).mono ?_; rintro e w4 ⟨rfl, h4⟩; have B4 := bto B3 h4 B3.size; have B4a := bto B4 ((Below.refl _ _).alloc (Nat.le_refl _) (.cells #[.string ⟨#[97]⟩] 9)) B4.size)
        | (go_at_call 81; refine (gAbove_no (hN.out _ B4a) _ _ _).mono ?_; rintro e w5 ⟨rfl, h5⟩; have B5 := bto B4a h5 B4a.size)
        | (go_at_call 64; refine (gEnd_no (hN.out _ B5) _ _ _).mono ?_; rintro e w6 ⟨rfl, h6⟩; have B6 := bto B5 h6 B5.size)
        | (go_at_call 73; refine (gSize_no (hN.out _ B6)).mono ?_; rintro e w7 ⟨rfl, rfl⟩)
        | (go_at_call 71; refine (gOpen_no (hN.out _ B6)).mono ?_; rintro e w7 ⟨rfl, rfl⟩)
        | (go_at_call 79; refine (gShown_no (hN.out _ B6)).mono ?_; rintro e w7 ⟨rfl, h7⟩; have B7 := bto B6 h7 B6.size))
      go_roundw
      case rel => exact ⟨k + 1, by omega, by go_num, B7⟩
      case measure => simp [intOf]; omega
    · obtain rfl : k = 2 := by omega
      go_wp2_with (go_at_call 68; refine (awake11_any _).mono ?_; rintro e w8 ⟨rfl, hb8⟩)
      go_ret
      exact ⟨rfl, bto (bto bW hb bW.size) hb8 (bto bW hb bW.size).size⟩
theorem regionNobody_law (a : Option Addr) (n cap : Nat) (r c : Int) (s : Bool) (R : List (List GC)) (wd ht : Int) (W : World)
    (h : RowsAt W a n R) (_ : n ≤ maxLen) (hc : n ≤ cap) (hm : cap ≤ maxLen) (_ : (Lit.int .i64 wd).wf = true) (_ : (Lit.int .i64 ht).wf = true) :
    Calls Tryz.prog 14 #[.agg #[.slice a n cap, .int .i64 r, .int .i64 c, .bool s], .int .i64 wd, .int .i64 ht] W fun e w' => e = .returned (.bool true) ∧ Below W.heap.size W w' :=
  regionNobody_any h hc hm r c s wd ht
end Go.Proofs.YtekodpcedjpnjaaGreat
