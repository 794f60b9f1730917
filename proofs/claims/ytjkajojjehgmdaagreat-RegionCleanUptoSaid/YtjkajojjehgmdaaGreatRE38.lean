/- The reference's grid: Text; equal cells and styles compared. No condition but that the rows' strings are not too long. The reference's terminal: Write. No condition but that the counters are not at their ends and the bytes not too many. The reference's terminal: New. The reference's grid: Text. No condition but that the rows' strings are not too long. The law's comparison of the program's terminal with the reference's: shows is true where both stand as the same state. No condition. -/
import Derived.Test.YtjkajojjehgmdaaGreatRE02
import Derived.Test.YtjkajojjehgmdaaGreatRE03
import Derived.Test.YtjkajojjehgmdaaGreatRE04
import Derived.Test.YtjkajojjehgmdaaGreatRE08
import Derived.Test.YtjkajojjehgmdaaGreatRE15
import Derived.Test.YtjkajojjehgmdaaGreatRE17
import Derived.Test.YtjkajojjehgmdaaGreatRE22
import Derived.Test.YtjkajojjehgmdaaGreatRE23
import Derived.Test.YtjkajojjehgmdaaGreatRE34
import Derived.Test.YtjkajojjehgmdaaGreatRE37
set_option linter.unusedVariables false
set_option linter.unusedSimpArgs false
namespace Go.Proofs.YtjkajojjehgmdaaGreat
open Go.RowKit Go.Shelf Go.Maps
theorem S_cut (l : List UInt8) (n : Nat) : (S l).extract 0 n = S (l.take n) := by
 unfold S
 apply ByteArray.ext
 rw [ByteArray.data_extract]
 apply Array.ext'
 simp [List.extract]
theorem textL_line (M : List GC) : textL M = lineT M := rfl
set_option maxRecDepth 100000 in
set_option maxHeartbeats 8000000 in
theorem rtext_ok {F : Nat → Prop} {W : World} {a : Option Addr} {cap w h : Nat} {R : List (List GC)} (g : RG F W a cap w h R) (ro : ROk R) (hw5 : w ≤ 500) (r : Int) (h0 : 0 ≤ r) (h1 : r < h) :
    Calls Tryz.prog 15 #[.agg #[.int .i64 w, .int .i64 h, .slice a h cap], .int .i64 r] W fun e w' => e = .returned (.string (S (trimL (textL (nth [] R r.toNat))))) ∧ Below W.heap.size W w' := by
 have b1 : Below W.heap.size W (W.alloc (.cells #[.int .i64 w, .int .i64 h, .slice a h cap] 30)) := (Below.refl _ _).alloc (Nat.le_refl _) _
 have CC := Lib.hid (rcells_ok (g.below b1) r h0 h1)
 have hs : ∀ c ∈ nth [] R r.toNat, c.s.size ≤ 64 := fun c hc => ro.at _ c hc
 have hMl : (nth [] R r.toNat).length = w := g.ok.at (by omega)
 obtain ⟨M, hM⟩ : ∃ M, M = nth [] R r.toNat := ⟨_, rfl⟩
 rw [← hM] at CC hs hMl ⊢
 have hlen : ∀ k, (lineT (M.take k)).length ≤ 64000 := fun k => by
  have h1 := lineT_len (M.take k) (fun c hc => hs c (List.mem_of_mem_take hc))
  rw [List.length_take] at h1
  omega
 have HLEN := Lib.hid hlen
 have HMl := Lib.hid hMl
 have HS := Lib.hid hs
 rw [textL_line]
 clear hlen g ro hM h0 h1 hMl hs
 go_enter Tryz.func15, Tryz.ntmps15
 go_wp2_with fail
 refine (CC.out).mono ?_
 rintro e w1 ⟨a2, c2, rfl, hM, ⟨_, _⟩, hb1⟩
 have B1 := bto b1 hb1 b1.size
 clear b1 hb1
 go_wp2
 go_loopw [7, 6] (fun i g wr => ∃ k : Nat, k ≤ w ∧ i = .int .i64 k ∧ g = .string (S (lineT (M.take k))) ∧ Below w1.heap.size w1 wr) (fun i _ _ => w - (intOf i).toNat)
 case atStart => exact ⟨0, Nat.zero_le _, rfl, rfl, Below.refl _ _⟩
 case round =>
  obtain ⟨k, hk, rfl, rfl, hb⟩ := hrel
  by_cases hlt : k < w
  ·have hMl := HMl.out
   have hCi : M[k]? = some (nth GC.zero M k) := by rw [nth_eq _ _ _ (by omega), List.getElem?_eq_getElem (by omega)]
   have HT := Lib.hid (lineT_take M k (by omega))
   have hsz := HS.out (nth GC.zero M k) (by rw [nth_eq _ _ _ (by omega)]; exact List.getElem_mem (by omega))
   obtain ⟨b1, o1, rfl, hb1, r1⟩ := (hM.below hb).at_ k _ hCi
   obtain ⟨C, hC⟩ : ∃ C, C = nth GC.zero M k := ⟨_, rfl⟩
   rw [← hC] at HT hsz r1
   obtain ⟨x0, _⟩ := vals_at r1
   have hL := HLEN.out k
   obtain ⟨T, hT⟩ : ∃ T, T = lineT (M.take k) := ⟨_, rfl⟩
   rw [← hT] at HT hL ⊢
   have hsT := S_size T
   have HAP := Lib.hid (show S T ++ C.s = S (T ++ C.s.data.toList) by rw [← S_append, S_list])
   clear hT hC hCi r1 hMl
   go_wp2
   go_roundw
   case rel => exact ⟨k + 1, hlt, by go_num, by rw [HT.out, ← HAP.out], hb⟩
   case measure => simp [intOf]; omega
  ·obtain rfl : k = w := by omega
   have ht : M.take k = M := List.take_of_length_le (by rw [HMl.out]; exact Nat.le_refl _)
   have hL := HLEN.out k
   rw [ht] at hL ⊢
   obtain ⟨T, hT⟩ : ∃ T, T = lineT M := ⟨_, rfl⟩
   rw [← hT] at hL ⊢
   have BV := bto B1 hb B1.size
   have hsz := S_size T
   have hget := S_get T
   have hcut := S_cut T
   obtain ⟨len, hlen⟩ : ∃ n, n = T.length := ⟨_, rfl⟩
   rw [← hlen] at hL hsz
   have HL := Lib.hid hlen
   have HTL : Hid (trimL (lineT M) = T.take (trimN T len)) := Lib.hid (by rw [← hT, hlen]; rfl)
   clear hlen ht hT
   go_wp2
   go_loop [8] (fun i => ∃ n : Nat, n ≤ len ∧ i = .int .i64 n ∧ Hid (trimN T len = trimN T n)) (fun i => (intOf i).toNat)
   case atStart => exact ⟨len, Nat.le_refl _, rfl, rfl⟩
   case round =>
    obtain ⟨n, hn, rfl, htr⟩ := hrel
    cases n with
    | zero =>
     have hz : trimN T len = 0 := by rw [htr.out]; rfl
     have HZ := Lib.hid hz
     clear hz
     go_wp2
     go_ret
     exact ⟨ret_str (by rw [HTL.out, HZ.out]; rfl), BV⟩
    | succ n =>
     have hn1 : n + 1 ≤ len := hn
     by_cases h32 : nth 0 T n = 32
     ·have hs : trimN T (n + 1) = trimN T n := by rw [trimN, if_pos h32]
      have HS := Lib.hid hs
      have he : (((nth 0 T n).toNat : Int) == 32) = true := by rw [h32]; rfl
      clear hs h32
      go_wp2
      go_round
      case rel => exact ⟨n, by omega, by go_num, Lib.hid (htr.out.trans HS.out)⟩
      case measure => simp [intOf]
     ·have HZ : Hid (trimN T len = n + 1) := Lib.hid (by rw [htr.out, trimN, if_neg h32])
      have hne : (((nth 0 T n).toNat : Int) == 32) = false := by
       have : (nth 0 T n).toNat ≠ 32 := fun h => h32 (UInt8.toNat_inj.1 h)
       simp; omega
      go_wp2
      go_ret
      exact ⟨ret_str (by rw [HTL.out, HZ.out]), BV⟩
def HB (F : Nat → Prop) (W : World) (v : Value) (l : List UInt8) : Prop :=
 (v = .slice none 0 0 ∧ l = []) ∨ ∃ g off n c, v = .slice (some ⟨g, off, none⟩) n c ∧ l.length = n ∧ (n ≤ c ∧ c ≤ maxLen) ∧ Bys W g off l ∧ F g
def HAF (F : Nat → Prop) (W : World) (v : Value) (l : List UInt8) : Prop := HB F W v l ∨ ∃ ad c, v = .slice (some ad) 0 c ∧ l = []
abbrev HA (W : World) (v : Value) (l : List UInt8) : Prop := HAF (fun _ => True) W v l
theorem HB.one {F : Nat → Prop} {W : World} {v : Value} {l : List UInt8} (h : HB F W v l) : OneV v := by
 rcases h with ⟨rfl, _⟩ | ⟨g, off, n, c, rfl, _⟩ <;> rfl
theorem HB.below {F : Nat → Prop} {W W' : World} {v : Value} {l : List UInt8} (h : HB F W v l) (hb : Below W.heap.size W W') : HB F W' v l := by
 rcases h with h | ⟨g, off, n, c, h1, h2, h3, h4, h5⟩
 ·exact .inl h
 ·exact .inr ⟨g, off, n, c, h1, h2, h3, h4.below hb, h5⟩
theorem HB.slice {F : Nat → Prop} {W : World} {v : Value} {l : List UInt8} (h : HB F W v l) : ∃ a c, v = .slice a l.length c := by
 rcases h with ⟨rfl, rfl⟩ | ⟨g, off, n, c, rfl, rfl, _⟩
 ·exact ⟨_, _, rfl⟩
 ·exact ⟨_, _, rfl⟩
theorem HAF.slice {F : Nat → Prop} {W : World} {v : Value} {l : List UInt8} (h : HAF F W v l) : ∃ a c, v = .slice a l.length c := by
 rcases h with h | ⟨ad, c, rfl, rfl⟩
 ·exact h.slice
 ·exact ⟨_, _, rfl⟩
theorem HAF.below {F : Nat → Prop} {W W' : World} {v : Value} {l : List UInt8} (h : HAF F W v l) (hb : Below W.heap.size W W') : HAF F W' v l := h.imp (fun h => h.below hb) id
theorem Bys.dropAt {W : World} {b off : Nat} {l : List UInt8} (h : Bys W b off l) (k : Nat) : Bys W b (off + k) (l.drop k) := ⟨h.lt, fun j hj => by
 rw [List.length_drop] at hj
 rw [Nat.add_assoc, h.at_ (k + j) (by omega)]
 simp [nth, List.getD, List.getElem?_drop]⟩
theorem HB.mono {F F' : Nat → Prop} {W : World} {v : Value} {l : List UInt8} (h : HB F W v l) (hF : ∀ b, F b → b < W.heap.size → F' b) : HB F' W v l := by
 rcases h with h | ⟨g, off, n, c, h1, h2, h3, h4, h5⟩
 ·exact .inl h
 ·exact .inr ⟨g, off, n, c, h1, h2, h3, h4, hF _ h5 h4.lt⟩
theorem HAF.mono {F F' : Nat → Prop} {W : World} {v : Value} {l : List UInt8} (h : HAF F W v l) (hF : ∀ b, F b → b < W.heap.size → F' b) : HAF F' W v l := h.imp (fun h => h.mono hF) id
theorem HB.keep {F : Nat → Prop} {W Y : World} {v : Value} {l : List UInt8} (h : HB F W v l) (hs : W.heap.size ≤ Y.heap.size) (hk : ∀ b, F b → b < W.heap.size → Y.heap[b]? = W.heap[b]?) : HB F Y v l := by
 rcases h with h | ⟨g, off, n, c, h1, h2, h3, h4, h5⟩
 ·exact .inl h
 ·exact .inr ⟨g, off, n, c, h1, h2, h3, h4.of_block (hk g h5 h4.lt) hs, h5⟩
theorem HAF.keep {F : Nat → Prop} {W Y : World} {v : Value} {l : List UInt8} (h : HAF F W v l) (hs : W.heap.size ≤ Y.heap.size) (hk : ∀ b, F b → b < W.heap.size → Y.heap[b]? = W.heap[b]?) : HAF F Y v l := h.imp (fun h => h.keep hs hk) id
theorem TBx.grow {W W' : World} {b : Nat} {cs : Array Value} {row : Option Nat} (h : TBx W b cs) (hg : W.grownBy W' row) (hr : ∀ k, row = some k → k ≠ b) : TBx W' b cs :=
 (hg.block b h.lt (fun e => hr b e.symm rfl)).trans h
def WPost (F : Nat → Prop) (x : TS × List UInt8) (W : World) (e : Ending) (w' : World) : Prop :=
 ∃ a c bv, e = .returned (.agg (tCells a c x.1 bv)) ∧ RG F w' a c x.1.W x.1.H x.1.R ∧ HB F w' bv x.2 ∧ Below W.heap.size W w'
def JB (n₀ : Nat) (W : World) (v : Value) (L : List UInt8) : Prop :=
 (∃ a c, v = .slice a L.length c) ∧ (L ≠ [] → ∃ g c, v = .slice (some ⟨g, 0, none⟩) L.length c ∧ (L.length ≤ c ∧ c ≤ maxLen) ∧ Bys W g 0 L ∧ n₀ ≤ g)
theorem JB.of_held {n₀ : Nat} {W : World} {v : Value} {L : List UInt8} (h : Held W n₀ v L) : JB n₀ W v L :=
 ⟨own_slice h, fun hne => by
  have hl : L.length ≠ 0 := fun e => hne (List.eq_nil_of_length_eq_zero e)
  obtain ⟨g, c, rfl⟩ := own_ne h hl
  have hk := (own_cells h g rfl).1
  obtain ⟨h1, _, h3, h4⟩ := Held.bys h
  exact ⟨g, c, rfl, ⟨h3, h4⟩, h1, hk⟩⟩
def JSt (W : World) (cs : Array Value) (L : List UInt8) (v : Value) (X : World) : Prop :=
 JB (W.heap.size + 1 + 1) X v L ∧ TBx X W.heap.size cs ∧ TBx X (W.heap.size + 1) zCells ∧ Below W.heap.size W X
structure JMid (W : World) (cs : Array Value) (L : List UInt8) (v : Value) (X : World) : Prop where
 held : Held X (W.heap.size + 1 + 1) v L
 p1 : TBx X W.heap.size cs
 p2 : TBx X (W.heap.size + 1) zCells
 b : Below W.heap.size W X
 sz : W.heap.size + 1 + 1 ≤ X.heap.size
theorem JMid.next {W X Y : World} {cs : Array Value} {L L' : List UInt8} {v v' : Value} (m : JMid W cs L v X) (h : Held Y (W.heap.size + 1 + 1) v' L') (hg : X.grownBy Y v.ownBlock) : JMid W cs L' v' Y := by
 have hr : ∀ k, v.ownBlock = some k → W.heap.size + 1 + 1 ≤ k := fun k e => (own_cells m.held k e).1
 exact ⟨h, m.p1.grow hg (fun k e => by have := hr k e; omega), m.p2.grow hg (fun k e => by have := hr k e; omega), m.b.grown hg m.b.size (fun k e => by have := hr k e; omega), Nat.le_trans m.sz hg.size⟩
theorem held_app {W : World} {n₀ : Nat} {v : Value} {l s L : List UInt8} {n m : Nat} (h : W.ownsRow n₀ 5 1 v (n + m) (u8v l ++ u8v s)) (hl : l.length = n) (hs : s.length = m) (hL : L = l ++ s) : Held W n₀ v L := by
 unfold Held
 rw [hL, u8v_app, List.length_append, hl, hs]
 exact h
theorem JMid.done {W X : World} {cs : Array Value} {L : List UInt8} {v : Value} (m : JMid W cs L v X) : JSt W cs L v X := ⟨JB.of_held m.held, m.p1, m.p2, m.b⟩
def lenV : Value → Nat
 | .slice _ n _ => n
 | _ => 0
structure WSt (F : Nat → Prop) (W : World) (n : Nat) (L : List UInt8) (t : TS) (y : Value) (X : World) (k : Nat) (t' : TS) (a : Option Addr) (c : Nat) : Prop where
 le : k ≤ n
 ok : TOk t'
 run : runT t L = runT t' (L.drop k)
 gone : t'.gone ≤ t.gone + k
 bells : t'.bells ≤ t.bells + k
 sl : ∃ ya yc, y = .slice ya (n - k) yc
 by_ : k < n → ∃ g off yc, y = .slice (some ⟨g, off, none⟩) (n - k) yc ∧ (n - k ≤ yc ∧ yc ≤ maxLen) ∧ Bys X g off (L.drop k) ∧ W.heap.size + 1 + 1 ≤ g
 p : TBx X W.heap.size (tCells a c t' (.slice none 0 0))
 q : TBx X (W.heap.size + 1) zCells
 g : RG (fun b => F b ∧ b ≠ W.heap.size ∧ b ≠ W.heap.size + 1) X a c t'.W t'.H t'.R
 b : Below W.heap.size W X
set_option maxRecDepth 100000 in
set_option maxHeartbeats 8000000 in
theorem rwrite_any {F : Nat → Prop} {W : World} (hF : ∀ b, W.heap.size ≤ b → F b) {a : Option Addr} {cap : Nat} {t : TS} {bv v : Value} {l s : List UInt8} (hb : HB F W bv l) (hs : HA W v s) (ok : TOk t) (hlen : l.length + s.length ≤ 10000000)
    (hg : t.gone + 10000000 < 4611686018427387904) (hbl : t.bells + 10000000 < 4611686018427387904) (gR : RG F W a cap t.W t.H t.R) :
    Calls Tryz.prog 9 #[.agg (tCells a cap t bv), v] W (WPost F (runT t (l ++ s)) W) := by
 obtain ⟨i0, hi, hz0, hz1, hz2⟩ := info_parts infoU8c
 have h1 := hb.one
 have gF := gR.mono (F' := fun b => F b ∧ b ≠ W.heap.size ∧ b ≠ W.heap.size + 1) (fun b h1 h2 => ⟨h1, by omega, by omega⟩)
 have GF := Lib.hid gF
 have OK := Lib.hid ok
 obtain ⟨L, hL⟩ : ∃ L, L = l ++ s := ⟨_, rfl⟩
 have hLl : L.length = l.length + s.length := by rw [hL, List.length_append]
 rw [← hL]
 have HL := Lib.hid hL
 have hLb : L.length ≤ 10000000 := by omega
 have HLL := Lib.hid hLl
 obtain ⟨va, vc, hvs⟩ := hs.slice
 have HS := Lib.hid hs
 have HBB := Lib.hid hb
 clear gR gF ok hL hb hs hLl
 go_enter Tryz.func9, Tryz.ntmps9
 go_upto_region 0 with (fail)
 go_cut [2, 4] (fun u y wx => u = .pointer (some ⟨W.heap.size, 0, none⟩) ∧ y = .pointer (some ⟨W.heap.size + 1, 0, none⟩) ∧ TIn W (tCells a cap t bv) wx)
 case first =>
  go_wp2
  go_meet
  exact ⟨rfl, rfl, tin W _⟩
 case rest =>
  obtain ⟨rfl, rfl, p1, p2, bX, sX0⟩ := hcut
  have sX := Lib.hid sX0
  clear sX0
  go_upto_region 1 with (fail)
  go_cut [1] (fun y wx => JSt W (tCells a cap t bv) L y wx)
  case first =>
   have hm := World.ownsRow_made (base := W.heap.size + 1 + 1) (e := 5) (size := 1) wc #[] 0 (by have := sX.out; omega) (by unfold maxLen; omega) rfl
   have b1 : Below wc.heap.size wc (wc.alloc (.cells #[] 5)) := (Below.refl _ _).alloc (Nat.le_refl _) _
   have m0 : JMid W (tCells a cap t bv) [] (.slice (some ⟨wc.heap.size, 0, none⟩) 0 0) (wc.alloc (.cells #[] 5)) := ⟨hm, p1.below b1, p2.below b1, bto bX b1 bX.size, by have := b1.size; have := sX.out; omega⟩
   have M0 := Lib.hid m0
   have q1 := m0.p1
   have c15 := q1.tc.2.2.2.2.2.2.2.2.2.2.2.2.2.2.2.1
   have hz := m0.sz
   have hll := HLL.out
   clear m0 hm b1 p1 p2 q1
   rcases HBB.out with ⟨rfl, rfl⟩ | ⟨gb, ob, nb, cb, rfl, hlb, ⟨hcb1, hcb2⟩, hBb, hFb⟩
   ·rcases HS.out with (⟨rfl, rfl⟩ | ⟨gs, os, ns, cs, rfl, hls, ⟨hcs1, hcs2⟩, hBs, hFs⟩) | ⟨ad, cs, rfl, rfl⟩
    ·have FIN : Hid (JSt W (tCells a cap t (.slice none 0 0)) L (.slice (some ⟨wc.heap.size, 0, none⟩) 0 0) (wc.alloc (.cells #[] 5))) := Lib.hid (by rw [HL.out]; exact M0.out.done)
     clear hvs
     go_wp2_with (at_builtin; refine wpList_append_own_none rfl _ _ 22 rfl (W.heap.size + 1 + 1) 5 i0 1 Tryz.underlying22 hi _ _ _ rfl M0.out.held rfl ?_)
     go_meet
     exact FIN.out
    ·have hBX := hBs.below (w' := wc.alloc (.cells #[] 5)) M0.out.b
     have hnews := bys_news hBX
     have HLS := Lib.hid hls
     have hns : ns ≤ 10000000 := by omega
     have HLs : Hid (L = s) := Lib.hid HL.out
     clear hvs hls hBs hBX hll
     go_wp2_with (first
      | (at_builtin; refine wpList_append_own_none rfl _ _ 22 rfl (W.heap.size + 1 + 1) 5 i0 1 Tryz.underlying22 hi _ _ _ rfl M0.out.held rfl ?_)
      | (at_builtin; refine wpList_append_own_at _ rfl _ _ 22 rfl (W.heap.size + 1 + 1) 5 i0 (.int .u8 0) 1 1 Tryz.underlying22 hi hz0 hz1 hz2 rfl (by decide) _ _ _ rfl M0.out.held _ _ _ (u8v s) rfl (by rw [u8v_len, HLS.out, Nat.mul_one]) hnews (u8v_one _) (by unfold maxLen; simp; omega) (by simp; omega) hz ?_; intro v' w1 hown' hgrow _ _; have HM1 : Hid (JMid W (tCells a cap t (.slice none 0 0)) L v' w1) := Lib.hid (M0.out.next (held_app hown' rfl HLS.out HL.out) hgrow); clear hown' hgrow))
     go_meet
     exact HM1.out.done
    ·clear hvs
     go_wp2_with (first
      | (at_builtin; refine wpList_append_own_none rfl _ _ 22 rfl (W.heap.size + 1 + 1) 5 i0 1 Tryz.underlying22 hi _ _ _ rfl M0.out.held rfl ?_)
      | (at_builtin; refine wpList_append_own_at _ rfl _ _ 22 rfl (W.heap.size + 1 + 1) 5 i0 (.int .u8 0) 1 1 Tryz.underlying22 hi hz0 hz1 hz2 rfl (by decide) _ _ _ rfl M0.out.held ad 0 cs (u8v []) rfl rfl (fun j u hj => by simp [u8v] at hj) (u8v_one _) (by unfold maxLen; simp) (by simp) hz ?_; intro v' w1 hown' hgrow _ _; have HM1 : Hid (JMid W (tCells a cap t (.slice none 0 0)) L v' w1) := Lib.hid (M0.out.next (held_app hown' rfl rfl HL.out) hgrow); clear hown' hgrow))
     go_meet
     exact HM1.out.done
   ·have hBX := hBb.below (w' := wc.alloc (.cells #[] 5)) M0.out.b
    have hnewb := bys_news hBX
    have HLB := Lib.hid hlb
    have hnb : nb ≤ 10000000 := by omega
    rcases HS.out with (⟨rfl, rfl⟩ | ⟨gs, os, ns, cs, rfl, hls, ⟨hcs1, hcs2⟩, hBs, hFs⟩) | ⟨ad, cs, rfl, rfl⟩
    ·have HLs : Hid (L = [] ++ l) := Lib.hid (by rw [HL.out, List.append_nil]; rfl)
     clear hvs hlb hBb hBX hll
     go_wp2_with (first
      | (at_builtin; refine wpList_append_own_at _ rfl _ _ 22 rfl (W.heap.size + 1 + 1) 5 i0 (.int .u8 0) 1 1 Tryz.underlying22 hi hz0 hz1 hz2 rfl (by decide) _ _ _ rfl M0.out.held _ _ _ (u8v l) rfl (by rw [u8v_len, HLB.out, Nat.mul_one]) hnewb (u8v_one _) (by unfold maxLen; simp; omega) (by simp; omega) hz ?_; intro v' w1 hown' hgrow _ _; have HM1 : Hid (JMid W (tCells a cap t (.slice (some ⟨gb, ob, none⟩) nb cb)) L v' w1) := Lib.hid (M0.out.next (held_app hown' rfl HLB.out HLs.out) hgrow); clear hown' hgrow)
      | (at_builtin; refine wpList_append_own_none rfl _ _ 22 rfl (W.heap.size + 1 + 1) 5 i0 1 Tryz.underlying22 hi _ _ _ rfl HM1.out.held rfl ?_))
     go_meet
     exact HM1.out.done
    ·have HLS := Lib.hid hls
     have HBS := Lib.hid hBs
     have hns : l.length + ns ≤ 10000000 := by omega
     clear hvs hlb hBb hBX hll hls hBs
     go_wp2_with (first
      | (at_builtin; refine wpList_append_own_at _ rfl _ _ 22 rfl (W.heap.size + 1 + 1) 5 i0 (.int .u8 0) 1 1 Tryz.underlying22 hi hz0 hz1 hz2 rfl (by decide) _ _ _ rfl M0.out.held _ _ _ (u8v l) rfl (by rw [u8v_len, HLB.out, Nat.mul_one]) hnewb (u8v_one _) (by unfold maxLen; simp; omega) (by simp; omega) hz ?_; intro v' w1 hown' hgrow _ _; have HM1 : Hid (JMid W (tCells a cap t (.slice (some ⟨gb, ob, none⟩) nb cb)) l v' w1) := Lib.hid (M0.out.next (held_app (L := l) hown' rfl HLB.out rfl) hgrow); clear hown' hgrow)
      | (at_builtin; refine wpList_append_own_at _ rfl _ _ 22 rfl (W.heap.size + 1 + 1) 5 i0 (.int .u8 0) 1 1 Tryz.underlying22 hi hz0 hz1 hz2 rfl (by decide) _ _ _ rfl HM1.out.held _ _ _ (u8v s) rfl (by rw [u8v_len, HLS.out, Nat.mul_one]) (bys_news (HBS.out.below HM1.out.b)) (u8v_one _) (by unfold maxLen; omega) (by omega) HM1.out.sz ?_; intro v2 w2 hown2 hgrow2 _ _; have HM2 : Hid (JMid W (tCells a cap t (.slice (some ⟨gb, ob, none⟩) nb cb)) L v2 w2) := Lib.hid (HM1.out.next (held_app hown2 rfl HLS.out HL.out) hgrow2); clear hown2 hgrow2))
     go_meet
     exact HM2.out.done
    ·have HLs : Hid (L = [] ++ l) := Lib.hid (by rw [HL.out, List.append_nil]; rfl)
     clear hvs hlb hBb hBX hll
     go_wp2_with (first
      | (at_builtin; refine wpList_append_own_at _ rfl _ _ 22 rfl (W.heap.size + 1 + 1) 5 i0 (.int .u8 0) 1 1 Tryz.underlying22 hi hz0 hz1 hz2 rfl (by decide) _ _ _ rfl M0.out.held _ _ _ (u8v l) rfl (by rw [u8v_len, HLB.out, Nat.mul_one]) hnewb (u8v_one _) (by unfold maxLen; simp; omega) (by simp; omega) hz ?_; intro v' w1 hown' hgrow _ _; have HM1 : Hid (JMid W (tCells a cap t (.slice (some ⟨gb, ob, none⟩) nb cb)) l v' w1) := Lib.hid (M0.out.next (held_app (L := l) hown' rfl HLB.out rfl) hgrow); clear hown' hgrow)
      | (at_builtin; refine wpList_append_own_at _ rfl _ _ 22 rfl (W.heap.size + 1 + 1) 5 i0 (.int .u8 0) 1 1 Tryz.underlying22 hi hz0 hz1 hz2 rfl (by decide) _ _ _ rfl HM1.out.held ad 0 cs (u8v []) rfl rfl (fun j u hj => by simp [u8v] at hj) (u8v_one _) (by unfold maxLen; omega) (by omega) HM1.out.sz ?_; intro v2 w2 hown2 hgrow2 _ _; have HM2 : Hid (JMid W (tCells a cap t (.slice (some ⟨gb, ob, none⟩) nb cb)) L v2 w2) := Lib.hid (HM1.out.next (held_app hown2 rfl rfl HL.out) hgrow2); clear hown2 hgrow2))
     go_meet
     exact HM2.out.done
  case rest =>
   obtain ⟨jb, p3, p4, b3⟩ := hcut
   clear p1 p2 bX sX
   obtain ⟨n, hn⟩ : ∃ n, n = L.length := ⟨_, rfl⟩
   unfold JB at jb
   rw [← hn] at jb
   have hn5 : n ≤ 10000000 := by omega
   obtain ⟨⟨ya, yc, rfl⟩, jb2⟩ := jb
   obtain ⟨pA, oA⟩ := p3.set 15 (.slice none 0 0) (tCells a cap t (.slice none 0 0)) rfl
   have qA := p4.only oA (by simp)
   have bA := b3.trans (oA.below (by simp) b3.size)
   have fz := p3.tc.2.2.2.2.2.2.2.2.2.2.2.2.2.2.2.2.2.2.2
   have c15 := p3.tc.2.2.2.2.2.2.2.2.2.2.2.2.2.2.2.1
   have hn1 : OneV (.slice none 0 0) := rfl
   have st0 : WSt F W n L t (.slice ya n yc) (wc.setCell ⟨W.heap.size, 15, none⟩ (.slice none 0 0)) 0 t a cap :=
    { le := Nat.zero_le _, ok := OK.out, run := rfl, gone := Nat.le_refl _, bells := Nat.le_refl _, sl := ⟨ya, yc, rfl⟩, p := pA, q := qA, g := GF.out.below bA, b := bA,
      by_ := fun h0 => by
       obtain ⟨g, c, e, h1, h2, h3⟩ := jb2 (fun e => by rw [e] at hn; simp at hn; omega)
       exact ⟨g, 0, c, e, h1, ⟨by simp [World.setCell]; exact h2.lt, fun j hj => by rw [cell_block (set_other _ _ _ _ _ (by omega))]; exact h2.at_ j hj⟩, h3⟩ }
   have ST0 := Lib.hid st0
   have HN := Lib.hid hn
   clear st0 jb2 hn pA qA bA oA b3 p4 p3
   refine (‹∀ (a : Act) (w : World), Code.wp Tryz.prog _ _ a w → _›) _ _ ?_
   go_wp2
   go_loopw [1] (fun y wr => ∃ k t' a' c', WSt F W n L t y wr k t' a' c') (fun y _ => lenV y)
   case atStart => exact ⟨0, t, a, cap, ST0.out⟩
   case round =>
    obtain ⟨k, t', a', c', st⟩ := hrel
    clear c15 fz
    have hFX : ∀ b, wr.heap.size ≤ b → F b ∧ b ≠ W.heap.size ∧ b ≠ W.heap.size + 1 := fun b hb => by
     have := st.b.size
     have := st.q.lt
     exact ⟨hF b (by omega), by omega, by omega⟩
    by_cases hkn : k < n
    ·obtain ⟨g, off, yc', rfl, ⟨hc1, hc2⟩, hB, hg2⟩ := st.by_ hkn
     unfold maxLen at hc2
     obtain ⟨ch, r, hcr⟩ : ∃ ch r, L.drop k = ch :: r := ⟨L[k]'(by rw [← HN.out]; exact hkn), L.drop (k + 1), List.drop_eq_getElem_cons (by rw [← HN.out]; exact hkn)⟩
     have hrl : r.length + 1 = n - k := by
      have := congrArg List.length hcr
      rw [List.length_drop, ← HN.out, List.length_cons] at this
      omega
     have hgo := st.gone
     have hbe := st.bells
     have hB' := hB
     rw [hcr] at hB'
     have CF := rfirst_any (cb := yc') hFX hn1 st.ok (by omega) (by omega) st.g hB' hrl (by omega) hc1
     rw [← hcr] at CF
     have hfle := t'.first_le (L.drop k)
     rw [List.length_drop, ← HN.out] at hfle
     have hcnt' := t'.first_cnt (L.drop k)
     have hokf := st.ok.first (L.drop k)
     have hstep := run_step t' (L.drop k)
     have hwait := run_wait t' (L.drop k)
     obtain ⟨z, hz⟩ : ∃ z, z = t'.first (L.drop k) := ⟨_, rfl⟩
     rw [← hz] at CF hfle hcnt' hokf hstep hwait
     obtain ⟨tn, m⟩ := z
     dsimp only at hfle hcnt' hokf hstep hwait
     obtain ⟨N, hN⟩ : ∃ N, N = n - k := ⟨_, rfl⟩
     rw [← hN] at CF hc1 hfle hrl
     have CFH := Lib.hid CF
     have HS := Lib.hid st
     have HBX := Lib.hid hB
     have pV := st.p
     have qV := st.q
     have HNN := Lib.hid hN
     have hN0 : 0 < N := by omega
     have hN1 : N ≤ 10000000 := by omega
     have hNi : (0 : Int) < (N : Int) := by omega
     have hdl : Hid ((L.drop k).length = N) := Lib.hid (by rw [List.length_drop, ← HN.out, hN])
     rw [← hN]
     by_cases hm : m = 0
     ·have hw := hwait hm
      have ht := (hfle.2 hm).1
      subst hm
      subst ht
      have HRUN : Hid (runT t L = (tn, L.drop k)) := Lib.hid (st.run.trans hw)
      have HG2 := Lib.hid hg2
      clear hw hwait hstep hfle hcnt' hokf hcr hrl hB hB' CF st hz hgo hbe hg2 hN
      go_wp2_with (refine wpList_tload rfl _ rfl W.heap.size rfl (tCells a' c' tn (.slice none 0 0)) ?_ rfl ?_; exact pV)
      refine (CFH.out).mono ?_
      rintro e w2 ⟨a2, c2, rfl, g2, hb2⟩
      dsimp only at g2
      have pn : TBx (w2.alloc (.cells zCells 34)) w2.heap.size zCells := TBx.new _ _
      have b2 := bto HS.out.b hb2 HS.out.b.size
      have hlt := (qV.below hb2).lt
      obtain ⟨X2, hX2⟩ : ∃ X2, w2.alloc (.cells zCells 34) = X2 := ⟨_, rfl⟩
      have bX2 : Below w2.heap.size w2 X2 := by rw [← hX2]; exact (Below.refl _ _).alloc (Nat.le_refl _) _
      rw [hX2] at pn
      have HX2 := Lib.hid hX2
      clear hX2
      have pW := (pV.below hb2).below bX2
      have qW := (qV.below hb2).below bX2
      go_upto_region 5 with (refine wpList_tstore rfl _ _ rfl w2.heap.size rfl _ rfl zCells ?_ rfl rfl (tCells_one _ _ _ hn1) ?_; rw [← HX2.out] at pn; exact pn; intro w3 p3 o3)
      have o3' : Only [w2.heap.size] X2 w3 := by rw [← HX2.out]; exact o3
      clear o3 HX2
      have pW3 := pW.only o3' (by simp; omega)
      have qW3 := qW.only o3' (by simp; omega)
      have bX := bto b2 bX2 b2.size
      have b3 := bX.trans (o3'.below (by simp; exact b2.size) bX.size)
      have g3 := g2.keep (Y := w3) (Nat.le_trans bX2.size o3'.size) (fun b hb hlt => (o3'.block b (Nat.lt_of_lt_of_le hlt bX2.size) (by simp; omega)).trans (bX2.block b hlt))
      have hgw := HBX.out.lt
      have hB3 : Bys w3 g off (L.drop k) := ((HBX.out.below hb2).below bX2).of_block (o3'.block g (by have := hb2.size; have := bX2.size; omega) (by have := hb2.size; simp; omega)) o3'.size
      go_upto_region 7 with (first
       | (refine wpList_tload rfl _ rfl w2.heap.size rfl (tCells a2 c2 tn (.slice none 0 0)) ?_ rfl ?_; exact p3)
       | (refine wpList_tstore rfl _ _ rfl W.heap.size rfl _ rfl (tCells a' c' tn (.slice none 0 0)) ?_ rfl rfl (tCells_one _ _ _ hn1) ?_; exact pW3; intro w4 p4 o4))
      have q4 := qW3.only o4 (by simp)
      have b4 := b3.trans (o4.below (by simp) b3.size)
      have g4 := g3.keep o4.size (fun b hb hlt => o4.block b hlt (by simpa using hb.2.1))
      have fz := p4.tc.2.2.2.2.2.2.2.2.2.2.2.2.2.2.2.2.2.2.2
      have c15 := p4.tc.2.2.2.2.2.2.2.2.2.2.2.2.2.2.2.1
      obtain ⟨p5, o5⟩ := p4.set 15 (.slice (some ⟨g, off, none⟩) N yc') (tCells a2 c2 tn (.slice (some ⟨g, off, none⟩) N yc')) rfl
      have q5 := q4.only o5 (by simp)
      have b5 := b4.trans (o5.below (by simp) b4.size)
      have g5 := g4.keep o5.size (fun b hb hlt => o5.block b hlt (by simpa using hb.2.1))
      go_wp2_with (first
       | (refine wpList_tload rfl _ rfl W.heap.size rfl (tCells a2 c2 tn (.slice (some ⟨g, off, none⟩) N yc')) ?_ rfl ?_; exact p5)
       | (refine wpList_tstore rfl _ _ rfl (W.heap.size + 1) rfl _ rfl zCells ?_ rfl rfl (tCells_one _ _ _ rfl) ?_; exact q5; intro w7 p7 o7))
      have b7 : Below W.heap.size W w7 := b5.trans (o7.below (by simp) b5.size)
      refine tret rfl rfl p7 rfl ?_
      rw [HRUN.out]
      have hgn := HG2.out
      have hB4 := hB3.of_block (o4.block g hB3.lt (by simp; omega)) o4.size
      have hB5 := hB4.of_block (o5.block g hB4.lt (by simp; omega)) o5.size
      exact ⟨a2, c2, _, rfl, (g5.keep o7.size (fun b hb hlt => o7.block b hlt (by simpa using hb.2.2))).mono (fun b hb _ => hb.1), .inr ⟨g, off, N, yc', rfl, hdl.out, ⟨hc1, by unfold maxLen; omega⟩, hB5.of_block (o7.block g hB5.lt (by simp; omega)) o7.size, hF g (by omega)⟩, b7⟩
     ·have hmi : ((m : Int) == 0) = false := by simp; omega
      have hru : runT t L = runT tn (L.drop (k + m)) := by rw [st.run, hstep hm, List.drop_drop]
      have HM : Hid (k + m ≤ n ∧ TOk tn ∧ runT t L = runT tn (L.drop (k + m)) ∧ tn.gone ≤ t.gone + (k + m) ∧ tn.bells ≤ t.bells + (k + m)) := Lib.hid ⟨by omega, hokf, hru, by omega, by omega⟩
      have hmN : m ≤ N := hfle.1
      have hm0 : 0 < m := by omega
      have HG2 := Lib.hid hg2
      clear hru hwait hstep hfle hcnt' hokf hcr hrl hB hB' CF st hz hgo hbe hg2 hN hm
      go_wp2_with (refine wpList_tload rfl _ rfl W.heap.size rfl (tCells a' c' t' (.slice none 0 0)) ?_ rfl ?_; exact pV)
      refine (CFH.out).mono ?_
      rintro e w2 ⟨a2, c2, rfl, g2, hb2⟩
      dsimp only at g2
      have pn : TBx (w2.alloc (.cells zCells 34)) w2.heap.size zCells := TBx.new _ _
      have b2 := bto HS.out.b hb2 HS.out.b.size
      have hlt := (qV.below hb2).lt
      obtain ⟨X2, hX2⟩ : ∃ X2, w2.alloc (.cells zCells 34) = X2 := ⟨_, rfl⟩
      have bX2 : Below w2.heap.size w2 X2 := by rw [← hX2]; exact (Below.refl _ _).alloc (Nat.le_refl _) _
      rw [hX2] at pn
      have HX2 := Lib.hid hX2
      clear hX2
      have pW := (pV.below hb2).below bX2
      have qW := (qV.below hb2).below bX2
      go_upto_region 5 with (refine wpList_tstore rfl _ _ rfl w2.heap.size rfl _ rfl zCells ?_ rfl rfl (tCells_one _ _ _ hn1) ?_; rw [← HX2.out] at pn; exact pn; intro w3 p3 o3)
      have o3' : Only [w2.heap.size] X2 w3 := by rw [← HX2.out]; exact o3
      clear o3 HX2
      have pW3 := pW.only o3' (by simp; omega)
      have qW3 := qW.only o3' (by simp; omega)
      have bX := bto b2 bX2 b2.size
      have b3 := bX.trans (o3'.below (by simp; exact b2.size) bX.size)
      have g3 := g2.keep (Y := w3) (Nat.le_trans bX2.size o3'.size) (fun b hb hlt => (o3'.block b (Nat.lt_of_lt_of_le hlt bX2.size) (by simp; omega)).trans (bX2.block b hlt))
      have hgw := HBX.out.lt
      have hB3 : Bys w3 g off (L.drop k) := ((HBX.out.below hb2).below bX2).of_block (o3'.block g (by have := hb2.size; have := bX2.size; omega) (by have := hb2.size; simp; omega)) o3'.size
      have hmi1 : (0 : Int) ≤ (m : Int) := by omega
      have hmi2 : (m : Int) ≤ (N : Int) := by omega
      have hmi3 : (m : Int) ≤ (yc' : Int) := by omega
      have hmi4 : m ≤ yc' := by omega
      by_cases hmc : m = yc'
      all_goals
       go_wp2_with (first
        | (refine wpList_tload rfl _ rfl w2.heap.size rfl (tCells a2 c2 tn (.slice none 0 0)) ?_ rfl ?_; exact p3)
        | (refine wpList_tstore rfl _ _ rfl W.heap.size rfl _ rfl (tCells a' c' t' (.slice none 0 0)) ?_ rfl rfl (tCells_one _ _ _ hn1) ?_; exact pW3; intro w4 p4 o4))
       have q4 := qW3.only o4 (by simp)
       have b4 := b3.trans (o4.below (by simp) b3.size)
       have g4 := g3.keep o4.size (fun b hb hlt => o4.block b hlt (by simpa using hb.2.1))
       have hB4 := hB3.of_block (o4.block g hB3.lt (by have := HG2.out; simp; omega)) o4.size
       have HB4 := Lib.hid hB4
       clear hB4 hB3
       go_roundw
       case rel =>
        obtain ⟨m1, m2, m3, m4, m5⟩ := HM.out
        have hN := HNN.out
        have hbd := HB4.out.dropAt m
        rw [List.drop_drop] at hbd
        first
         | exact ⟨k + m, tn, a2, c2, { le := m1, ok := m2, run := m3, gone := m4, bells := m5, sl := ⟨some ⟨g, off, none⟩, 0, by rw [show n - (k + m) = 0 by omega]⟩, by_ := fun h => by omega, p := p4, q := q4, g := g4, b := b4 }⟩
         | exact ⟨k + m, tn, a2, c2, { le := m1, ok := m2, run := m3, gone := m4, bells := m5, sl := ⟨some ⟨g, off + m, none⟩, yc' - m, by rw [show n - (k + m) = N - m by omega]⟩, by_ := fun _ => ⟨g, off + m, yc' - m, by rw [show n - (k + m) = N - m by omega], ⟨by omega, by unfold maxLen; omega⟩, hbd, HG2.out⟩, p := p4, q := q4, g := g4, b := b4 }⟩
       case measure => simp [lenV]; omega
    ·have hk : k = n := by have := st.le; omega
     subst hk
     obtain ⟨ya', yc', rfl⟩ := st.sl
     rw [Nat.sub_self]
     have pV := st.p
     have qV := st.q
     have HS := Lib.hid st
     clear st
     go_wp2_with (first
      | (refine wpList_tload rfl _ rfl W.heap.size rfl (tCells a' c' t' (.slice none 0 0)) ?_ rfl ?_; exact pV)
      | (refine wpList_tstore rfl _ _ rfl (W.heap.size + 1) rfl _ rfl zCells ?_ rfl rfl (tCells_one _ _ _ hn1) ?_; exact qV; intro w7 p7 o7))
     have st := HS.out
     have b7 : Below W.heap.size W w7 := st.b.trans (o7.below (by simp) st.b.size)
     refine tret rfl rfl p7 rfl ?_
     have hrun : runT t L = (t', []) := by
      have := st.run
      rw [List.drop_eq_nil_of_le (by rw [HN.out]; exact Nat.le_refl _)] at this
      rw [this]; rfl
     rw [hrun]
     exact ⟨a', c', _, rfl, (st.g.keep o7.size (fun b hb hlt => o7.block b hlt (by simpa using hb.2.2))).mono (fun b hb _ => hb.1), .inl ⟨rfl, rfl⟩, b7⟩
set_option maxRecDepth 100000 in
set_option maxHeartbeats 8000000 in
theorem rtnew_ok {F : Nat → Prop} {W : World} (hF : ∀ b, W.heap.size ≤ b → F b) (w h : Nat) (hd : 1 ≤ w ∧ w ≤ 500 ∧ 1 ≤ h ∧ h ≤ 500) :
    Calls Tryz.prog 30 #[.int .i64 w, .int .i64 h] W (TPost2 F (TS.new w h, 0) (.slice none 0 0) W) := by
 have CN := Lib.hid (fun (X : World) (hX : W.heap.size < X.heap.size) (bX : Below W.heap.size W X) => rnew_ok (F := fun b => F b ∧ b ≠ W.heap.size) (W := X) (fun b hb => ⟨hF b (by omega), by omega⟩) w h hd)
 have hn1 : OneV (.slice none 0 0) := rfl
 go_enter Tryz.func30, Tryz.ntmps30
 go_upto_region 0 with (fail)
 go_cut [4, 5] (fun u y wx => u = .pointer (some ⟨W.heap.size, 0, none⟩) ∧ y = .int .i64 0 ∧ TBx wx W.heap.size zCells ∧ Below W.heap.size W wx)
 case first =>
  have FIN : Hid (TBx (W.alloc (.cells zCells 34)) W.heap.size zCells ∧ Below W.heap.size W (W.alloc (.cells zCells 34))) := Lib.hid ⟨TBx.new _ _, (Below.refl _ _).alloc (Nat.le_refl _) _⟩
  go_wp2
  go_meet
  exact ⟨rfl, rfl, FIN.out⟩
 case rest =>
  obtain ⟨rfl, rfl, p1, bX⟩ := hcut
  go_wp2_with fail
  refine (CN.out _ p1.lt bX).mono ?_
  rintro e w2 ⟨a2, c2, rfl, g2, hb2⟩
  have p2 := p1.below hb2
  have b2 := bto bX hb2 bX.size
  have bG : Below w2.heap.size w2 (w2.alloc (.cells #[.int .i64 w, .int .i64 h, .slice a2 h c2] 30)) := (Below.refl _ _).alloc (Nat.le_refl _) _
  have p3 := p2.below bG
  have b3 := bto b2 bG b2.size
  have g3 := g2.below bG
  have G3 := Lib.hid g3
  have hlt := p2.lt
  clear g2 g3 p1 p2 hb2
  go_wp2_with (refine wpList_tstore rfl _ _ rfl W.heap.size rfl (tCells a2 c2 (TS.new w h) (.slice none 0 0)) rfl zCells ?_ rfl rfl (tCells_one _ _ _ hn1) ?_; exact p3; intro w7 p7 o7)
  have b7 : Below W.heap.size W w7 := b3.trans (o7.below (by simp) b3.size)
  refine tret2 rfl rfl rfl p7 rfl ?_
  exact tpost2 rfl ((G3.out.keep o7.size (fun b hb hlt => o7.block b hlt (by simpa using hb.2))).mono (fun b hb _ => hb.1)) b7
end Go.Proofs.YtjkajojjehgmdaaGreat
