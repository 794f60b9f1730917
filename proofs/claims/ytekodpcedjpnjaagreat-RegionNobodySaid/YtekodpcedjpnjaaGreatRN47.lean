/- The reference's Ready. No condition but that the bytes are not too many. The law's example in plain data. No condition. -/
import Derived.Test.YtekodpcedjpnjaaGreatRN35
import Derived.Test.YtekodpcedjpnjaaGreatRN46
set_option linter.unusedVariables false
set_option linter.unusedSimpArgs false
namespace Go.Proofs.YtekodpcedjpnjaaGreat
open Go.RowKit Go.Shelf Go.Maps
def readyT (w h : Nat) (s : List UInt8) : TS × List UInt8 := runT (runT (TS.new w h) s).1 ((runT (TS.new w h) s).2 ++ [24])
theorem runF_cntG : ∀ (n : Nat) (t : TS) (b : List UInt8), (runF n t b).1.bells ≤ t.bells + n ∧ (runF n t b).1.gone ≤ t.gone + n
  | 0, _, _ => ⟨Nat.le_refl _, Nat.le_refl _⟩
  | n + 1, t, b => by
    unfold runF
    split
    · exact ⟨by show t.bells ≤ _; omega, by show t.gone ≤ _; omega⟩
    · have h1 := runF_cntG n (t.first b).1 (b.drop (t.first b).2)
      have h2 := TS.first_cnt t b
      omega
theorem runT_cntG (t : TS) (b : List UInt8) : (runT t b).1.bells ≤ t.bells + b.length ∧ (runT t b).1.gone ≤ t.gone + b.length := runF_cntG _ _ _
set_option maxRecDepth 100000 in
set_option maxHeartbeats 8000000 in
theorem rready_any {F : Nat → Prop} {W : World} (hF : ∀ b, W.heap.size ≤ b → F b) (w h : Nat) (hd : 1 ≤ w ∧ w ≤ 500 ∧ 1 ≤ h ∧ h ≤ 500) {v : Value} {s : List UInt8} (hs : HA W v s) (hl : s.length ≤ 1000000) :
    Calls Tryz.prog 60 #[.int .i64 w, .int .i64 h, v] W (WPost F (readyT w h s) W) := by
  have CN := Lib.hid (fun (X : World) (bX : Below W.heap.size W X) (_ : W.heap.size < X.heap.size) => rtnew_ok (F := fun b => F b ∧ b ≠ W.heap.size) (W := X) (fun b hb => ⟨hF b (by have := bX.size; omega), by omega⟩) w h hd)
  have k0 : Hid (TOk (TS.new w h)) := Lib.hid (TOk.new hd.1 hd.2.1 hd.2.2.1 hd.2.2.2)
  have hn1 : OneV (.slice none 0 0) := rfl
  obtain ⟨av, cv, rfl⟩ := hs.slice
  have HS := Lib.hid hs
  clear hd hs
  go_enter Tryz.func60, Tryz.ntmps60
  go_upto_region 0 with (fail)
  go_cut [6] (fun u wx => u = .pointer (some ⟨W.heap.size, 0, none⟩) ∧ TBx wx W.heap.size zCells ∧ Below W.heap.size W wx)
  case first =>
    have FIN : Hid (TBx (W.alloc (.cells zCells 63)) W.heap.size zCells ∧ Below W.heap.size W (W.alloc (.cells zCells 63))) := Lib.hid ⟨TBx.new _ _, (Below.refl _ _).alloc (Nat.le_refl _) _⟩
    go_wp2
    go_meet
    exact ⟨rfl, FIN.out⟩
  case rest =>
    obtain ⟨rfl, p1, bX⟩ := hcut
    go_wp2_with fail
    refine (CN.out _ bX p1.lt).mono ?_
    rintro e w2 ⟨a2, c2, rfl, g2, hb2⟩
    have p2 := p1.below hb2
    have b2 := bto bX hb2 bX.size
    have pn : TBx (w2.alloc (.cells zCells 63)) w2.heap.size zCells := TBx.new _ _
    have bz : Below w2.heap.size w2 (w2.alloc (.cells zCells 63)) := (Below.refl _ _).alloc (Nat.le_refl _) _
    have hlt := p2.lt
    dsimp only at g2
    go_upto_region 2 with (refine wpList_tstore rfl _ _ rfl w2.heap.size rfl (tCells a2 c2 (TS.new w h) (.slice none 0 0)) rfl zCells ?_ rfl rfl (tCells_one _ _ _ hn1) ?_; exact pn; intro V p6 o6)
    have bV : Below w2.heap.size w2 V := bz.trans (o6.below (by simp) bz.size)
    have gV := (g2.mono (F' := fun b => F b ∧ b ≠ W.heap.size ∧ b ≠ w2.heap.size) (fun b hb hlt => ⟨hb.1, hb.2, by omega⟩)).below bV
    have p4 := p2.below bV
    have hvs := bV.size
    have bWV := bto b2 bV b2.size
    have hp6 := p6.lt
    have CW := rwrite_any (W := V) (F := fun b => F b ∧ b ≠ W.heap.size ∧ b ≠ w2.heap.size) (fun b hb => ⟨hF b (by have := bWV.size; omega), by omega, by omega⟩) (bv := .slice none 0 0) (l := []) (.inl ⟨rfl, rfl⟩) (HS.out.below bWV) k0.out (by simp; omega) (by show 0 + 10000000 < _; omega) (by show 0 + 10000000 < _; omega) gV
    rw [List.nil_append] at CW
    have k1 := k0.out.run s
    obtain ⟨n1, n2⟩ := runT_cntG (TS.new w h) s
    have n3 := run_waits s.length (TS.new w h) s (Nat.le_refl _)
    have HRD : Hid (readyT w h s = runT (runT (TS.new w h) s).1 ((runT (TS.new w h) s).2 ++ [24])) := Lib.hid rfl
    obtain ⟨x, hx⟩ : ∃ x, x = runT (TS.new w h) s := ⟨_, rfl⟩
    rw [← hx] at CW k1 n1 n2 n3 HRD
    have n1' : x.1.bells ≤ 1000000 := Nat.le_trans n1 (by show 0 + s.length ≤ _; omega)
    have n2' : x.1.gone ≤ 1000000 := Nat.le_trans n2 (by show 0 + s.length ≤ _; omega)
    have CW := Lib.hid CW
    have K1 := Lib.hid k1
    clear CN gV g2 p1 p2 pn hx n1 n2 k1
    go_upto_region 3 with (first
      | (refine wpList_tload rfl _ rfl w2.heap.size rfl (tCells a2 c2 (TS.new w h) (.slice none 0 0)) ?_ rfl ?_; exact p6)
      | (go_at_call 32; refine (CW.out).mono ?_; rintro e w7 ⟨a7, c7, bv, rfl, g7, hb7, hbb7⟩; have p7 := p6.below hbb7)
      | (refine wpList_tstore rfl _ _ rfl w2.heap.size rfl (tCells a7 c7 x.1 bv) rfl (tCells a2 c2 (TS.new w h) (.slice none 0 0)) ?_ rfl rfl (tCells_one _ _ _ hb7.one) ?_; exact p7; intro w8 p8 o8))
    have g8 := g7.keep o8.size (fun b hb hlt => o8.block b hlt (by simpa using hb.2.2))
    have hb8 := hb7.keep o8.size (fun b hb hlt => o8.block b hlt (by simpa using hb.2.2))
    have p48 : TBx w8 W.heap.size zCells := (p4.below hbb7).only o8 (by simp; omega)
    have b7 := bto bWV hbb7 bWV.size
    have b8 := b7.trans (o8.below (by simp; omega) b7.size)
    have bB : Below w8.heap.size w8 (w8.alloc (.cells #[.int .u8 24] 5)) := (Below.refl _ _).alloc (Nat.le_refl _) _
    have hBy : Bys (w8.alloc (.cells #[.int .u8 24] 5)) w8.heap.size 0 [24] := ⟨by simp, fun j hj => by
      obtain rfl : j = 0 := by simpa using hj
      rw [cell_of_row _ _ _ _ _ _ (World.alloc_heap_new w8 _)]
      rfl⟩
    obtain ⟨X, hX⟩ : ∃ X, w8.alloc (.cells #[.int .u8 24] 5) = X := ⟨_, rfl⟩
    rw [hX] at bB hBy
    have pX := p8.below bB
    have p4X := p48.below bB
    have bWX := bto b8 bB b8.size
    have hFX : ∀ b, X.heap.size ≤ b → F b ∧ b ≠ W.heap.size := fun b hb => ⟨hF b (by have := bWX.size; omega), by have := bWX.size; have := bB.size; have := p48.lt; omega⟩
    have hHA : HA X (.slice (some ⟨w8.heap.size, 0, none⟩) 1 1) [24] := .inl (.inr ⟨w8.heap.size, 0, 1, 1, rfl, rfl, ⟨Nat.le_refl _, by unfold maxLen; omega⟩, hBy, trivial⟩)
    have CW2 := rwrite_any hFX (bv := bv) (l := x.2) ((hb8.mono (F' := fun b => F b ∧ b ≠ W.heap.size) (fun b hb _ => ⟨hb.1, hb.2.1⟩)).below bB) hHA K1.out (by simp; omega) (by omega) (by omega) ((g8.mono (F' := fun b => F b ∧ b ≠ W.heap.size) (fun b hb _ => ⟨hb.1, hb.2.1⟩)).below bB)
    rw [← HRD.out] at CW2
    have CW2 := Lib.hid CW2
    clear g8 hb8 g7 hBy hHA p48 p4
    go_wp2_with (first
      | (refine wpList_tload rfl _ rfl w2.heap.size rfl (tCells a7 c7 x.1 bv) ?_ rfl ?_; exact p8)
      | (refine wpList_tload rfl _ rfl w2.heap.size rfl (tCells a7 c7 x.1 bv) ?_ rfl ?_; exact pX)
      | (go_at_call 32; refine (CW2.out).mono ?_; rintro e w9 ⟨a9, c9, bv9, rfl, g9, hb9, hbb9⟩; have p9 := p4X.below hbb9)
      | (refine wpList_tstore rfl _ _ rfl W.heap.size rfl (tCells a9 c9 (readyT w h s).1 bv9) rfl zCells ?_ rfl rfl (tCells_one _ _ _ hb9.one) ?_; exact p9; intro w10 p10 o10))
    refine tret rfl rfl p10 rfl ?_
    have b9 := bto bWX hbb9 bWX.size
    exact ⟨a9, c9, bv9, rfl, (g9.keep o10.size (fun b hb hlt => o10.block b hlt (by simpa using hb.2))).mono (fun b hb _ => hb.1), (hb9.keep o10.size (fun b hb hlt => o10.block b hlt (by simpa using hb.2))).mono (fun b hb _ => hb.1), b9.trans (o10.below (by simp) b9.size)⟩
end Go.Proofs.YtekodpcedjpnjaaGreat
namespace Go.Proofs.YtekodpcedjpnjaaGreat
open Go.RowKit Go.Shelf Go.Maps
def aw11 : TS := (readyT 4 2 [97, 13, 10, 98]).1
theorem aw11_w : (readyT 4 2 [97, 13, 10, 98]).2 = [] := by kernel_rfl
theorem aw11_f : aw11.gone = 0 ∧ aw11.bells = 0 := ⟨by kernel_rfl, by kernel_rfl⟩
def aw11s : TS := (runT aw11 (startB 2)).1
theorem aw11s_w : (runT aw11 (startB 2)).2 = [] := by kernel_rfl
theorem aw11s_f : aw11s.W = 4 ∧ aw11s.H = 2 ∧ aw11s.gone = 1 ∧ aw11s.row = 0 ∧ aw11s.marked = true ∧ S (trimL (textL (nth [] aw11s.R 0))) = S [] := ⟨by kernel_rfl, by kernel_rfl, by kernel_rfl, by kernel_rfl, by kernel_rfl, by kernel_rfl⟩
end Go.Proofs.YtekodpcedjpnjaaGreat
