/- The grid's small functions: blank, size, made, there, line, wipe. blanks, New, Size, Cell, Row. Cell, Row. Put. Put where it refuses; Join. Join. Erase. Put and erase: what they make of a grid's cells; the cells' strings stay short. No condition. Two cells compared. No condition. Two rows of cells compared. -/
import Derived.Test.YtjkajojjehgmdaaGreatRE02
set_option linter.unusedVariables false
set_option linter.unusedSimpArgs false
namespace Go.Proofs.YtjkajojjehgmdaaGreat
open Go.RowKit
structure GridAt (W : World) (p q : Nat) (w h : Nat) (L : List GC) : Prop where
 head : W.heap[p]? = some (.cells #[.int .i64 w, .int .i64 h, .slice (some ⟨q, 0, none⟩) (w * h) (w * h)] 211 (0, 0))
 blk : GBlk W q L
 ne : p ≠ q
 len : L.length = w * h
 w1 : 1 ≤ w
 w2 : w ≤ 500
 h1 : 1 ≤ h
 h2 : h ≤ 500
theorem GridAt.cells {W : World} {p q w h : Nat} {L : List GC} (g : GridAt W p q w h L) : W.cell? ⟨p, 0, none⟩ = some (.int .i64 w) ∧ W.cell? ⟨p, 1, none⟩ = some (.int .i64 h) ∧ W.cell? ⟨p, 2, none⟩ = some (.slice (some ⟨q, 0, none⟩) (w * h) (w * h)) := by
 refine ⟨?_, ?_, ?_⟩ <;> rw [cell_of_row W p _ _ _ _ g.head] <;> rfl
theorem GridAt.only {W W' : World} {p q w h : Nat} {L : List GC} {S : List Nat} (g : GridAt W p q w h L) (ho : Only S W W') (hp : p ∉ S) (hq : q ∉ S) : GridAt W' p q w h L :=
 { g with head := ho.heap g.head hp, blk := g.blk.only ho hq }
set_option maxRecDepth 100000 in
theorem blank_any (w : World) : Calls Tryz.prog 180 #[] w fun e w' => e = .returned (.agg #[.string ⟨#[32]⟩, .int .i64 1, .bool false, .bool false, .bool false, .int .i64 0, .int .i64 0]) ∧ Below w.heap.size w w' := by
 go_enter Tryz.func180, Tryz.ntmps180
 go_wp2
 refine bodyPost_ret (results_cell_row rfl _ _ w.heap.size 88 _ (0, 0) _ rfl (World.alloc_heap_new w _) Tryz.underlying88 rfl (by kernel_rfl)) rfl ?_
 exact ⟨rfl, (Below.refl _ _).alloc (Nat.le_refl _) _⟩
set_option maxRecDepth 100000 in
theorem size_any (a b : Int) (w : World) : Calls Tryz.prog 148 #[.int .i64 a, .int .i64 b] w fun e w' => e = .returned (.bool (decide (1 ≤ a ∧ a ≤ 500 ∧ 1 ≤ b ∧ b ≤ 500))) ∧ w = w' := by
 obtain ⟨z, hz⟩ : ∃ z, z = decide (1 ≤ a ∧ a ≤ 500 ∧ 1 ≤ b ∧ b ≤ 500) := ⟨_, rfl⟩
 rw [← hz]
 have HZ := Lib.hid hz
 clear hz
 go_enter Tryz.func148, Tryz.ntmps148
 go_wp2
 all_goals go_ret
 all_goals exact ⟨ret_bool (by rw [HZ.out]; first | (symm; simp; omega) | (simp; omega) | simp [*]), rfl⟩
set_option maxRecDepth 100000 in
theorem made_any {W : World} {p q w h : Nat} {L : List GC} (g : GridAt W p q w h L) : Calls Tryz.prog 151 #[.pointer (some ⟨p, 0, none⟩)] W fun e w' => e = .returned (.bool true) ∧ W = w' := by
 obtain ⟨c0, c1, c2⟩ := g.cells
 have := g.w1
 go_enter Tryz.func151, Tryz.ntmps151
 go_wp2
 go_ret
 exact ⟨ret_bool (by simp; omega), rfl⟩
set_option maxRecDepth 100000 in
theorem line_any {W : World} {p q w h : Nat} {L : List GC} (g : GridAt W p q w h L) (r : Int) (h0 : 0 ≤ r) (h1 : r < h) (k : Nat) (hk : k = w * r.toNat) :
   Calls Tryz.prog 181 #[.pointer (some ⟨p, 0, none⟩), .int .i64 r] W fun e w' => e = .returned (.slice (some ⟨q, k * 7, none⟩) w (w * h - k)) ∧ Below W.heap.size W w' := by
 obtain ⟨c0, c1, c2⟩ := g.cells
 have hw1 := g.w1
 have hw2 := g.w2
 have hh2 := g.h2
 obtain ⟨n, hn⟩ : ∃ n, n = w * h := ⟨_, rfl⟩
 rw [← hn] at c2 ⊢
 obtain ⟨e, he⟩ : ∃ e, e = k + w := ⟨_, rfl⟩
 have hkn : k + w ≤ n := by
  obtain ⟨r', rfl⟩ := Int.eq_ofNat_of_zero_le h0
  simp only [Int.toNat_natCast] at hk
  have : r' + 1 ≤ h := by omega
  have := Nat.mul_le_mul_left w this
  rw [hk, hn]; rw [Nat.mul_add, Nat.mul_one] at this; exact this
 have hnb : n ≤ 250000 := by rw [hn]; exact Nat.mul_le_mul g.w2 g.h2
 have hr : r * (w : Int) = (k : Int) := by
  obtain ⟨r', rfl⟩ := Int.eq_ofNat_of_zero_le h0
  simp only [Int.toNat_natCast] at hk
  rw [hk, Int.natCast_mul, Int.mul_comm]
 have hr1 : (r + 1) * (w : Int) = (e : Int) := by rw [Int.add_mul, hr, he]; omega
 have m1 : IntKind.i64.wrap (r * (w : Int)) = (k : Int) := by rw [hr, IntKind.wrap_i64]; omega
 have m2 : IntKind.i64.wrap (r + 1) = r + 1 := by rw [IntKind.wrap_i64]; omega
 have m3 : IntKind.i64.wrap ((r + 1) * (w : Int)) = (e : Int) := by rw [hr1, IntKind.wrap_i64]; omega
 have l1 : k ≤ e := by omega
 have l2 : e ≤ n := by omega
 have l3 : k < n := by omega
 have l4 : k ≠ n := by omega
 have HK := Lib.hid hk
 have HN := Lib.hid hn
 have HE := Lib.hid he
 clear hr hr1 hk hn he
 go_enter Tryz.func181, Tryz.ntmps181
 go_wp2
 refine wp_region_still_lit (by kernel_rfl) (by kernel_rfl) ?_
 repeat still_step
 refine wpStill_nil ?_
 go_wp2
 go_ret
 refine ⟨?_, ⟨rfl, rfl, rfl, Nat.le_refl _, fun _ _ => rfl⟩⟩
 have e1 : e - k = w := by have := HE.out; omega
 show Ending.returned (.slice (some ⟨q, k * 7, none⟩) (e - k) (n - k)) = _
 rw [e1]
def wipeL (L : List GC) (o n c : Nat) : List GC :=
 let w := (nth GC.zero L (o + c)).w
 let L1 := L.set (o + c) GC.blank
 if w = 2 ∧ c + 1 < n then L1.set (o + (c + 1)) GC.blank else if w = 0 ∧ 0 < c then L1.set (o + (c - 1)) GC.blank else L1
theorem wipeL_length (L : List GC) (o n c : Nat) : (wipeL L o n c).length = L.length := by
 unfold wipeL; dsimp only; split
 ·simp
 ·split <;> simp
def half (n k : Nat) : List GC := List.replicate k GC.blank ++ List.replicate (n - k) GC.zero
theorem half_zero (n : Nat) : half n 0 = List.replicate n GC.zero := by simp [half]
theorem half_full (n : Nat) : half n n = List.replicate n GC.blank := by simp [half]
theorem half_length {n k : Nat} (h : k ≤ n) : (half n k).length = n := by simp [half]; omega
theorem half_set {n k : Nat} (h : k < n) : (half n k).set k GC.blank = half n (k + 1) := by
 unfold half
 rw [List.set_append_right _ _ (by simp), List.length_replicate, Nat.sub_self, show n - k = (n - (k + 1)) + 1 by omega, List.replicate_succ, List.set_cons_zero, List.replicate_succ', List.append_assoc]
 rfl
set_option maxRecDepth 100000 in
set_option maxHeartbeats 1000000 in
theorem blanks_any (m : Int) (h0 : 0 ≤ m) (h1 : m ≤ 250000) (W : World) :
    Calls Tryz.prog 149 #[.int .i64 m] W fun e w' => e = .returned (.slice (some ⟨W.heap.size, 0, none⟩) m.toNat m.toNat) ∧ GBlk w' W.heap.size (List.replicate m.toNat GC.blank) ∧ Below W.heap.size W w' := by
 obtain ⟨n, rfl⟩ := Int.eq_ofNat_of_zero_le h0
 simp only [Int.toNat_natCast]
 have hn : n ≤ 250000 := by omega
 have hmk := run_gmake W n (by omega)
 rw [← half_zero] at hmk
 have b0 : GBlk (W.alloc (.cells (flatV (half n 0)).toArray 88)) W.heap.size (half n 0) := GBlk.made W _
 have l0 : Below W.heap.size W (W.alloc (.cells (flatV (half n 0)).toArray 88)) := (Below.refl _ _).alloc (Nat.le_refl _) _
 have hs0 : W.heap.size < (W.alloc (.cells (flatV (half n 0)).toArray 88)).heap.size := by simp
 go_enter Tryz.func149, Tryz.ntmps149
 go_wp2
 go_loopw [9] (fun i wr => ∃ k : Nat, k ≤ n ∧ i = .int .i64 k ∧ GBlk wr W.heap.size (half n k) ∧ Below W.heap.size W wr) (fun i _ => n - (intOf i).toNat)
 case atStart => exact ⟨0, by omega, rfl, b0, l0⟩
 case round =>
  obtain ⟨k, hk, rfl, hb, hl⟩ := hrel
  clear b0 l0 hs0 hmk
  by_cases hlt : k < n
  ·have hlen := half_length (Nat.le_of_lt hlt)
   go_wp2_with (first
    | (go_at_call 180; refine (blank_any _).mono ?_; rintro e w1 ⟨rfl, hb1⟩; have b1 := hb.only (Only.of_below (S := []) hb1) (by simp); have l1 := bto hl hb1 hl.size; clear hb hl hb1)
    | (refine wpList_gstore rfl _ _ rfl W.heap.size _ rfl GC.blank rfl _ (by assumption) k (by omega) (by omega) ?_; intro w2 b2 o2))
   refine ⟨⟨k + 1, by omega, by go_num, by rw [← half_set hlt]; exact b2, l1.trans (o2.below (by simp) l1.size)⟩, by simp [intOf]; omega⟩
  ·obtain rfl : k = n := by omega
   rw [half_full] at hb
   go_wp2
   go_ret
   exact ⟨rfl, hb, hl⟩
theorem New_size (a b : Int) : (decide (1 ≤ a ∧ a ≤ 500 ∧ 1 ≤ b ∧ b ≤ 500)) = true ↔ (1 ≤ a ∧ a ≤ 500 ∧ 1 ≤ b ∧ b ≤ 500) := by simp
set_option maxRecDepth 100000 in
set_option maxHeartbeats 1000000 in
theorem new_ok (a b : Int) (h : 1 ≤ a ∧ a ≤ 500 ∧ 1 ≤ b ∧ b ≤ 500) (W : World) :
    Calls Tryz.prog 107 #[.int .i64 a, .int .i64 b] W fun e w' => ∃ p, e = .returned (.tuple #[.pointer (some ⟨p, 0, none⟩), .int .i64 0]) ∧ W.heap.size ≤ p ∧ GridAt w' p W.heap.size a.toNat b.toNat (List.replicate (a.toNat * b.toNat) GC.blank) ∧ Below W.heap.size W w' := by
 have hz : decide (1 ≤ a ∧ a ≤ 500 ∧ 1 ≤ b ∧ b ≤ 500) = true := (New_size a b).2 h
 obtain ⟨x, rfl⟩ := Int.eq_ofNat_of_zero_le (show 0 ≤ a by omega)
 obtain ⟨y, rfl⟩ := Int.eq_ofNat_of_zero_le (show 0 ≤ b by omega)
 obtain ⟨h1, h2, h3, h4⟩ := h
 have hxy : x * y ≤ 500 * 500 := Nat.mul_le_mul (by omega) (by omega)
 obtain ⟨n, hn⟩ : ∃ n, n = x * y := ⟨_, rfl⟩
 have hni : (x : Int) * (y : Int) = (n : Int) := by rw [hn, Int.natCast_mul]
 have cs := size_any (x : Int) (y : Int) W
 rw [hz] at cs
 have CS := Lib.hid cs
 have hnb : (n : Int) ≤ 250000 := by omega
 have hm : IntKind.i64.wrap ((x : Int) * (y : Int)) = (n : Int) := by rw [hni, IntKind.wrap_i64]; omega
 have cb := blanks_any (n : Int) (by omega) hnb W
 simp only [Int.toNat_natCast] at cb ⊢
 have CB := Lib.hid cb
 rw [← hn]
 have HN := Lib.hid hn
 clear hn hxy cb cs hz
 go_enter Tryz.func107, Tryz.ntmps107
 go_wp2_with (first
  | (go_at_call 148; refine (CS.out).mono ?_; rintro e w1 ⟨rfl, rfl⟩)
  | (go_at_call 149; refine (CB.out).mono ?_; rintro e w1 ⟨rfl, hb1, hl1⟩))
 go_ret2
 have hh : (w1.alloc (.cells #[.int .i64 x, .int .i64 y, .slice (some ⟨W.heap.size, 0, none⟩) n n] 211)).heap[w1.heap.size]? = some (.cells #[.int .i64 x, .int .i64 y, .slice (some ⟨W.heap.size, 0, none⟩) n n] 211 (0, 0)) := World.alloc_heap_new w1 _
 have hlt := hb1.lt
 exact ⟨w1.heap.size, rfl, hl1.size, { head := (by rw [← HN.out]; exact hh), blk := hb1.alloc _, ne := (by omega), len := (by simp; exact HN.out), w1 := by omega, w2 := by omega, h1 := by omega, h2 := by omega }, hl1.alloc hl1.size _⟩
def lineL (L : List GC) (w r : Nat) : List GC := (L.drop (w * r)).take w
theorem line_le {w h r : Nat} (hr : r < h) : w * r + w ≤ w * h := by
 have : w * (r + 1) ≤ w * h := Nat.mul_le_mul_left w hr
 rw [Nat.mul_add, Nat.mul_one] at this
 omega
theorem lineL_length {L : List GC} {w h r : Nat} (hl : L.length = w * h) (hr : r < h) : (lineL L w r).length = w := by
 have := line_le (w := w) hr
 simp [lineL]; omega
set_option maxRecDepth 100000 in
set_option maxHeartbeats 1000000 in
theorem row_ok {W : World} {p q w h : Nat} {L : List GC} (g : GridAt W p q w h L) (r : Int) (hr0 : 0 ≤ r) (hr1 : r < h) :
    Calls Tryz.prog 152 #[.pointer (some ⟨p, 0, none⟩), .int .i64 r] W fun e w' => e = .returned (.slice (some ⟨W.heap.size, 0, none⟩) w w) ∧ GBlk w' W.heap.size (lineL L w r.toNat) ∧ Below W.heap.size W w' := by
 obtain ⟨k, hk⟩ : ∃ k, k = w * r.toNat := ⟨_, rfl⟩
 obtain ⟨M, hM⟩ : ∃ M, M = lineL L w r.toNat := ⟨_, rfl⟩
 have hMl : M.length = w := by rw [hM]; exact lineL_length g.len (by omega)
 have hMd : M = (L.drop k).take w := by rw [hM, hk]; rfl
 rw [← hM]
 obtain ⟨c0, c1, c2⟩ := g.cells
 have hmk := run_gmake W w (by have := g.w2; omega)
 obtain ⟨Z, hZ⟩ : ∃ Z, Z = List.replicate w GC.zero := ⟨_, rfl⟩
 have hZl : Z.length = w := by rw [hZ]; simp
 rw [← hZ] at hmk
 clear hZ
 have o1 : Only [] W (W.alloc (.cells (flatV Z).toArray 88)) := (Only.refl _ _).alloc _
 have b1 : GBlk (W.alloc (.cells (flatV Z).toArray 88)) W.heap.size Z := GBlk.made W Z
 have g1 := g.only o1 (by simp) (by simp)
 generalize hW1 : W.alloc (.cells (flatV Z).toArray 88) = W1 at o1 b1 g1 hmk
 have CM := Lib.hid (made_any g)
 have CL := Lib.hid (line_any g1 r hr0 hr1 k hk)
 have HM := Lib.hid hMd
 have HK := Lib.hid hk
 have hsp : splice Z 0 M = M := by unfold splice; simp; omega
 clear hk hM hMd hW1
 go_enter Tryz.func152, Tryz.ntmps152
 go_wp2_with (first
  | (go_at_call 151; refine (CM.out).mono ?_; rintro e w1 ⟨rfl, rfl⟩)
  | (go_at_call 181; refine (CL.out).mono ?_; rintro e w2 ⟨rfl, hb2⟩; have b2 := b1.only (Only.of_below (S := []) hb2) (by simp); have r2 := (g1.blk.only (Only.of_below (S := []) hb2) (by simp)).range k w)
  | (refine wpList_gcopy rfl _ _ rfl _ _ _ _ _ _ rfl rfl W.heap.size Z M 0 b2 (by rw [hMl]; simp) (fun _ => ⟨⟨_, rfl, by omega⟩, q, _, rfl, by rw [HM.out, show k * 7 = 7 * k by omega]; exact r2⟩) (by omega) ?_; intro w3 b3 o3))
 go_ret
 rw [hsp] at b3
 exact ⟨rfl, b3, (((o1.trans (Only.of_below hb2)).mono (S' := [W.heap.size]) (by simp)).trans o3).below (by simp) (Nat.le_refl _)⟩
theorem not_empty {s : ByteArray} (h : s ≠ ⟨#[]⟩) : s.toList.isEmpty = false := by
 rw [ByteArray.toList_eq, List.isEmpty_eq_false_iff]
 intro h2
 exact h (ByteArray.ext (Array.toList_inj.1 (by simpa using h2)))
def putErr (w h : Nat) (r c : Int) (s : ByteArray) (wd : Int) : Int :=
 if s = ⟨#[]⟩ ∨ 64 < s.size ∨ (wd ≠ 1 ∧ wd ≠ 2) then 1 else if ¬ (0 ≤ r ∧ r < h ∧ 0 ≤ c ∧ c < w) ∨ (wd = 2 ∧ ¬ c + 1 < w) then 5 else 0
def putL (L : List GC) (w k c : Nat) (s : ByteArray) (wd : Int) (y : Sy) : List GC :=
 if wd = 2 then ((wipeL (wipeL L k w c) k w (c + 1)).set (k + (c + 1)) ⟨⟨#[]⟩, 0, y⟩).set (k + c) ⟨s, wd, y⟩ else (wipeL L k w c).set (k + c) ⟨s, wd, y⟩
theorem putL_length (L : List GC) (w k c : Nat) (s : ByteArray) (wd : Int) (y : Sy) : (putL L w k c s wd y).length = L.length := by
 unfold putL; split <;> simp [wipeL_length]
theorem GridAt.step {W W' : World} {p q w h : Nat} {L L' : List GC} (g : GridAt W p q w h L) (ho : Only [q] W W') (hb : GBlk W' q L') (hl : L'.length = L.length) : GridAt W' p q w h L' :=
 { g with head := ho.heap g.head (by simp; exact g.ne), blk := hb, len := hl.trans g.len }
theorem SyBox.only {W W' : World} {r : Nat} {y : Sy} {S : List Nat} (h : SyBox W r y) (ho : Only S W W') (hr : r ∉ S) : SyBox W' r y := ho.heap h hr
theorem SyBox.lt {W : World} {r : Nat} {y : Sy} (h : SyBox W r y) : r < W.heap.size := (Array.getElem?_eq_some_iff.1 h).1
theorem is_empty : (⟨#[]⟩ : ByteArray).toList.isEmpty = true := by rw [ByteArray.toList_eq]; rfl
def putG (w h : Nat) (L : List GC) (r c : Int) (s : ByteArray) (wd : Int) (y : Sy) : List GC := if putErr w h r c s wd = 0 then putL L w (w * r.toNat) c.toNat s wd y else L
theorem flatV_setS (L : List GC) (i : Nat) (s : ByteArray) (C : GC) (h : L[i]? = some C) : (flatV L).set (7 * i) (.string s) = flatV (L.set i { C with s := s }) := by
 induction L generalizing i with
 | nil => simp at h
 | cons c L ih =>
  cases i with
  | zero =>
   simp only [List.getElem?_cons_zero, Option.some.injEq] at h
   subst h
   rfl
  | succ i =>
   simp only [List.getElem?_cons_succ] at h
   show (c.vals ++ flatV L).set (7 * (i + 1)) _ = c.vals ++ flatV (L.set i { C with s := s })
   rw [List.set_append_right _ _ (by rw [GC.vals_length]; omega), GC.vals_length, show 7 * (i + 1) - 7 = 7 * i by omega, ih i h]
theorem GBlk.setS {W : World} {q : Nat} {L : List GC} (hb : GBlk W q L) {i : Nat} {C : GC} (h : L[i]? = some C) (s : ByteArray) (off : Nat) (ho : off = 7 * i) : GBlk (W.setCell ⟨q, off, none⟩ (.string s)) q (L.set i { C with s := s }) ∧ Only [q] W (W.setCell ⟨q, off, none⟩ (.string s)) := by
 subst ho
 refine ⟨?_, (Only.refl [q] W).setCell (.inl (by simp)) _⟩
 rw [setCell_eq_setRow W q (7 * i) _ _ _ (.string s) hb]
 have e : (flatV L).toArray.setIfInBounds (7 * i) (.string s) = (flatV (L.set i { C with s := s })).toArray := by
  rw [← flatV_setS L i s C h]
  simp
 rw [e]
 exact hb.set _
theorem GBlk.frozen {W : World} {q : Nat} {L : List GC} (hb : GBlk W q L) (o : Nat) : W.frozen? ⟨q, o, none⟩ = false := by
 unfold GBlk at hb
 simp [World.frozen?, hb]
def joinAt (L : List GC) (k c : Nat) : Nat := if (nth GC.zero L (k + c)).w = 0 ∧ 0 < c then c - 1 else c
def joinL (L : List GC) (k c : Nat) (s : ByteArray) : List GC := L.set (k + joinAt L k c) { nth GC.zero L (k + joinAt L k c) with s := (nth GC.zero L (k + joinAt L k c)).s ++ s }
theorem joinL_length (L : List GC) (k c : Nat) (s : ByteArray) : (joinL L k c s).length = L.length := by simp [joinL]
def wipes (k w : Nat) : Nat → Nat → List GC → List GC
 | _, 0, L => L
 | i, n + 1, L => wipes k w (i + 1) n (wipeL L k w i)
theorem wipes_length (k w : Nat) : ∀ (n i : Nat) (L : List GC), (wipes k w i n L).length = L.length
 | 0, _, _ => rfl
 | n + 1, i, L => by rw [wipes, wipes_length k w n, wipeL_length]
def eraseL (L : List GC) (k w : Nat) (a b : Int) : List GC := wipes k w (max 0 a).toNat ((min b w).toNat - (max 0 a).toNat) L
theorem eraseL_length (L : List GC) (k w : Nat) (a b : Int) : (eraseL L k w a b).length = L.length := wipes_length _ _ _ _ _
end Go.Proofs.YtjkajojjehgmdaaGreat
namespace Go.Proofs.YtjkajojjehgmdaaGreat
open Go.RowKit Go.Maps
def GOk (L : List GC) : Prop := ∀ c ∈ L, c.s.size ≤ 64
theorem GOk.set {L : List GC} (h : GOk L) (i : Nat) (c : GC) (hc : c.s.size ≤ 64) : GOk (L.set i c) := by
 intro x hx
 rcases List.mem_or_eq_of_mem_set hx with h1 | h1
 ·exact h x h1
 ·rw [h1]; exact hc
theorem GC.blank_ok : GC.blank.s.size ≤ 64 := by decide
theorem GOk.wipe {L : List GC} (h : GOk L) (o n c : Nat) : GOk (wipeL L o n c) := by
 unfold wipeL
 dsimp only
 split
 ·exact (h.set _ _ GC.blank_ok).set _ _ GC.blank_ok
 ·split
  ·exact (h.set _ _ GC.blank_ok).set _ _ GC.blank_ok
  ·exact h.set _ _ GC.blank_ok
theorem GOk.wipes {k w : Nat} : ∀ (n i : Nat) (L : List GC), GOk L → GOk (wipes k w i n L)
 | 0, _, _, h => h
 | n + 1, i, L, h => GOk.wipes n (i + 1) _ (h.wipe k w i)
theorem GOk.replicate (n : Nat) : GOk (List.replicate n GC.blank) := by
 intro c hc
 rw [List.eq_of_mem_replicate hc]
 exact GC.blank_ok
theorem GOk.put {L : List GC} (h : GOk L) (w t : Nat) (r c : Int) (s : ByteArray) (wd : Int) (y : Sy) : GOk (putG w t L r c s wd y) := by
 unfold putG
 split
 ·rename_i h0
  have hs : s.size ≤ 64 := by
   unfold putErr at h0
   split at h0
   ·cases h0
   ·rename_i h1
    exact Nat.le_of_not_lt (fun h => h1 (.inr (.inl h)))
  unfold putL
  split
  ·exact (((h.wipe _ _ _).wipe _ _ _).set _ _ (by show 0 ≤ 64; omega)).set _ _ hs
  ·exact (h.wipe _ _ _).set _ _ hs
 ·exact h
def inG (w h : Nat) (r c : Int) : Bool := decide (0 ≤ r ∧ r < h ∧ 0 ≤ c ∧ c < w)
def joinOk (w h : Nat) (L : List GC) (r c : Int) (s : ByteArray) : Bool := inG w h r c && decide ((s.size : Int) ≤ 64 - (nth GC.zero L (w * r.toNat + joinAt L (w * r.toNat) c.toNat)).s.size)
def joinErr (w h : Nat) (r c : Int) : Int := if inG w h r c then 0 else 5
def joinG (w h : Nat) (L : List GC) (r c : Int) (s : ByteArray) : List GC := if joinOk w h L r c s then joinL L (w * r.toNat) c.toNat s else L
theorem GOk.join {L : List GC} (h : GOk L) (w t : Nat) (r c : Int) (s : ByteArray) : GOk (joinG w t L r c s) := by
 unfold joinG
 split
 ·rename_i h0
  unfold joinOk at h0
  simp only [Bool.and_eq_true, decide_eq_true_eq] at h0
  refine h.set _ _ ?_
  show (_ ++ _ : ByteArray).size ≤ 64
  rw [ByteArray.size_append]
  omega
 ·exact h
def eraseErr (h : Nat) (r : Int) : Int := if 0 ≤ r ∧ r < h then 0 else 5
def eraseG (w h : Nat) (L : List GC) (r a b : Int) : List GC := if 0 ≤ r ∧ r < h then eraseL L (w * r.toNat) w a b else L
theorem GOk.erase {L : List GC} (h : GOk L) (w t : Nat) (r a b : Int) : GOk (eraseG w t L r a b) := by
 unfold eraseG eraseL
 split
 ·exact h.wipes _ _ _
 ·exact h
def eqC (c d : GC) : Bool := decide (c.s = d.s ∧ c.w = d.w ∧ c.y.b = d.y.b ∧ c.y.u = d.y.u ∧ c.y.i = d.y.i ∧ c.y.f = d.y.f ∧ c.y.g = d.y.g)
theorem eqC_iff (c d : GC) : eqC c d = true ↔ c = d := by
 obtain ⟨s, w, b, u, i, f, g⟩ := c
 obtain ⟨s', w', b', u', i', f', g'⟩ := d
 simp [eqC]
theorem eqC_self (c : GC) : eqC c c = true := (eqC_iff c c).2 rfl
theorem toList_inj (s t : ByteArray) : (s.toList = t.toList) = (s = t) := by
 rw [ByteArray.toList_eq, ByteArray.toList_eq]
 exact propext ⟨fun h => ByteArray.ext (Array.toList_inj.1 h), fun h => by rw [h]⟩
set_option maxRecDepth 100000 in
theorem neq_gc (c d : GC) (W : World) : (binOp .neq 88 (.agg #[.string c.s, .int .i64 c.w, .bool c.y.b, .bool c.y.u, .bool c.y.i, .int .i64 c.y.f, .int .i64 c.y.g]) (.agg #[.string d.s, .int .i64 d.w, .bool d.y.b, .bool d.y.u, .bool d.y.i, .int .i64 d.y.f, .int .i64 d.y.g])).run Tryz.prog W = .ok (.bool (!eqC c d)) W := by
 obtain ⟨s, w, b, u, i, f, g⟩ := c
 obtain ⟨s', w', b', u', i', f', g'⟩ := d
 unfold eqC
 go_simp
 simp only [toList_inj]
 by_cases h0 : s = s' <;> by_cases h1 : w = w' <;> by_cases h2 : b = b' <;> by_cases h3 : u = u' <;> by_cases h4 : i = i' <;> by_cases h5 : f = f' <;> by_cases h6 : g = g' <;> simp [h0, h1, h2, h3, h4, h5, h6]
structure CellsAt (W : World) (a : Option Addr) (n : Nat) (M : List GC) : Prop where
 len : M.length = n
 at_ : ∀ i c, M[i]? = some c → ∃ b off, a = some ⟨b, off, none⟩ ∧ b < W.heap.size ∧ W.rangeAt b (off + i * 7) c.vals
theorem CellsAt.nil (W : World) (a : Option Addr) : CellsAt W a 0 [] := ⟨rfl, fun i c hi => by simp at hi⟩
theorem CellsAt.below {W W' : World} {a : Option Addr} {n : Nat} {M : List GC} (h : CellsAt W a n M) (hb : Below W.heap.size W W') : CellsAt W' a n M :=
 ⟨h.len, fun i c hi => by
  obtain ⟨b, off, h1, h2, h3⟩ := h.at_ i c hi
  exact ⟨b, off, h1, Nat.lt_of_lt_of_le h2 hb.size, fun j v hv => (hb.cell (p := ⟨b, _, none⟩) h2).trans (h3 j v hv)⟩⟩
def eqL : List GC → List GC → Bool
 | [], [] => true
 | c :: M, d :: N => eqC c d && eqL M N
 | _, _ => false
theorem eqL_iff : ∀ (M N : List GC), eqL M N = true ↔ M = N
 | [], [] => by simp [eqL]
 | [], _ :: _ => by simp [eqL]
 | _ :: _, [] => by simp [eqL]
 | c :: M, d :: N => by simp [eqL, eqL_iff M N, eqC_iff]
theorem eqL_self (M : List GC) : eqL M M = true := (eqL_iff M M).2 rfl
theorem eqL_drop (M N : List GC) (k : Nat) (h1 : k < M.length) (h2 : k < N.length) : eqL (M.drop k) (N.drop k) = (eqC (nth GC.zero M k) (nth GC.zero N k) && eqL (M.drop (k + 1)) (N.drop (k + 1))) := by
 rw [List.drop_eq_getElem_cons h1, List.drop_eq_getElem_cons h2, nth_eq _ _ _ h1, nth_eq _ _ _ h2]
 rfl
theorem eqL_len {M N : List GC} (h : M.length ≠ N.length) : eqL M N = false := by
 cases hb : eqL M N with
 | false => rfl
 | true => exact absurd (congrArg List.length ((eqL_iff M N).1 hb)) h
theorem vals_at {W : World} {b o : Nat} {c : GC} (h : W.rangeAt b o c.vals) : W.cell? ⟨b, o, none⟩ = some (.string c.s) ∧ W.cell? ⟨b, o + 1, none⟩ = some (.int .i64 c.w) ∧ W.cell? ⟨b, o + 2, none⟩ = some (.bool c.y.b) ∧ W.cell? ⟨b, o + 3, none⟩ = some (.bool c.y.u) ∧ W.cell? ⟨b, o + 4, none⟩ = some (.bool c.y.i) ∧ W.cell? ⟨b, o + 5, none⟩ = some (.int .i64 c.y.f) ∧ W.cell? ⟨b, o + 6, none⟩ = some (.int .i64 c.y.g) :=
 ⟨h 0 _ rfl, h 1 _ rfl, h 2 _ rfl, h 3 _ rfl, h 4 _ rfl, h 5 _ rfl, h 6 _ rfl⟩
set_option maxRecDepth 100000 in
set_option maxHeartbeats 4000000 in
theorem sameCells_any {W : World} {a1 a2 : Option Addr} {n1 n2 c1 c2 : Nat} {M N : List GC} (hM : CellsAt W a1 n1 M) (hN : CellsAt W a2 n2 N) (hn : n1 ≤ 1000000) (hn2 : n2 ≤ 1000000) :
    Calls Tryz.prog 13 #[.slice a1 n1 c1, .slice a2 n2 c2] W fun e w' => e = .returned (.bool (eqL M N)) ∧ Below W.heap.size W w' := by
 obtain ⟨z, hz⟩ : ∃ z, z = eqL M N := ⟨_, rfl⟩
 rw [← hz]
 have HZ := Lib.hid hz
 clear hz
 have l1 := hM.len
 have l2 := hN.len
 by_cases hlen : n1 = n2
 ·obtain rfl := hlen
  go_enter Tryz.func13, Tryz.ntmps13
  go_wp2
  go_loopw [5] (fun i wr => ∃ k : Nat, k ≤ n1 ∧ i = .int .i64 k ∧ Hid (z = eqL (M.drop k) (N.drop k)) ∧ Below W.heap.size W wr) (fun i _ => n1 - (intOf i).toNat)
  case atStart => exact ⟨0, Nat.zero_le _, rfl, HZ, Below.refl _ _⟩
  case round =>
   obtain ⟨k, hk, rfl, hf, hb⟩ := hrel
   by_cases hlt : k < n1
   ·obtain ⟨C, hC⟩ : ∃ C, C = nth GC.zero M k := ⟨_, rfl⟩
    obtain ⟨D, hD⟩ : ∃ D, D = nth GC.zero N k := ⟨_, rfl⟩
    have hCi : M[k]? = some C := by rw [hC, nth_eq _ _ _ (by omega), List.getElem?_eq_getElem (by omega)]
    have hDi : N[k]? = some D := by rw [hD, nth_eq _ _ _ (by omega), List.getElem?_eq_getElem (by omega)]
    have hone := eqL_drop M N k (by omega) (by omega)
    rw [← hC, ← hD] at hone
    have HONE := Lib.hid hone
    obtain ⟨b1, o1, rfl, hb1, r1⟩ := (hM.below hb).at_ k C hCi
    obtain ⟨b2, o2, rfl, hb2, r2⟩ := (hN.below hb).at_ k D hDi
    obtain ⟨x0, x1, x2, x3, x4, x5, x6⟩ := vals_at r1
    obtain ⟨y0, y1, y2, y3, y4, y5, y6⟩ := vals_at r2
    have hq := neq_gc C D
    clear hone hC hD hCi hDi r1 r2
    go_wp2
    refine wp_region_still_lit (by kernel_rfl) (by kernel_rfl) ?_
    repeat still_step
    refine wpStill_nil ?_
    cases hcd : eqC C D with
    | true =>
     have HZ2 : Hid (z = eqL (M.drop (k + 1)) (N.drop (k + 1))) := Lib.hid (by rw [hf.out, HONE.out, hcd]; rfl)
     go_wp2
     go_roundw
     case rel => exact ⟨k + 1, by omega, by go_num, HZ2, hb.drew⟩
     case measure => simp [intOf]; omega
    | false =>
     have HZ2 : Hid (z = false) := Lib.hid (by rw [hf.out, HONE.out, hcd]; rfl)
     go_wp2
     go_ret
     exact ⟨ret_bool HZ2.out.symm, hb.drew⟩
   ·have HZ2 : Hid (z = true) := Lib.hid (by rw [hf.out, List.drop_eq_nil_of_le (by omega), List.drop_eq_nil_of_le (by omega)]; rfl)
    go_wp2
    go_ret
    exact ⟨ret_bool HZ2.out.symm, hb⟩
 ·have HZ2 : Hid (z = false) := Lib.hid (by rw [HZ.out]; exact eqL_len (by omega))
  have hne : (((n1 : Int) == (n2 : Int)) = false) := by simp; omega
  go_enter Tryz.func13, Tryz.ntmps13
  go_wp2
  go_ret
  exact ⟨ret_bool HZ2.out.symm, Below.refl _ _⟩
end Go.Proofs.YtjkajojjehgmdaaGreat
