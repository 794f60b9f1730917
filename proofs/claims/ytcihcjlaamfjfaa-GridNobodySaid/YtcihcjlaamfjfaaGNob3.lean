/- The law GridNobody. -/
import Derived.Test.YtcihcjlaamfjfaaGNob2
import Derived.Test.YtcihcjlaamfjfaaLexFast
namespace Go.Proofs.Ytcihcjlaamfjfaa
open Go.RowKit Go.Maps
theorem BW.noG {B : Nat} {w : World} (p : BW B w) {x : Option Addr} (h : NoG w (.pointer x)) (hB : ∀ z, x = some ⟨z, 0, none⟩ → z < B) : NoG p.W (.pointer x) := h.below p.h (fun z e => hB z (by simpa using e))
theorem BW.grid {B : Nat} {w : World} (b : BW B w) {p q t h : Nat} {L : List GC} (g : GridAt w p q t h L) (hp : p < B) (hq : q < B) : GridAt b.W p q t h L :=
  ⟨(b.h.block p hp).trans g.head, (b.h.block q hq).trans g.blk, g.ne, g.len, g.w1, g.w2, g.h1, g.h2⟩
theorem wp_region_bwAt {P : Program} {id : Nat} {Q : Exit → Act → World → Prop} {a : Act} {wc : World} {l : List Oper} (B : Nat) (w : World) (h0 : Below B w wc) (hm : P.follows .mixedOrders = true) (hB : Region.lexB .any l.toArray = true)
    (h : wpQuiet P l.toArray (fun w' => ∃ p : BW B w, w' = p.W) (fun a' => ∀ w', (∃ p : BW B w, w' = p.W) → Q .normal a' w') l a) : (Code.region id l.toArray true).wp P Q a wc :=
  wp_region_quiet (C := fun w' => ∃ p : BW B w, w' = p.W) hm hB ⟨⟨{ wc with drawn := wc.drawn + 1 }, h0.trans ⟨rfl, rfl, rfl, Nat.le_refl _, fun _ _ => rfl⟩⟩, rfl⟩ (by simpa using h)
set_option maxRecDepth 100000 in
set_option maxHeartbeats 4000000 in
theorem gridNobody_law (o : OpV) (hok : o.Ok) (w : World) :
    Calls Try.prog 14 #[.agg #[.int .u8 o.d, .int .i64 o.r, .int .i64 o.c, .string o.s, .int .i64 o.k, .bool o.y.b, .bool o.y.u, .bool o.y.i, .int .i64 o.y.f, .int .i64 o.y.g, .int .i64 o.t, .int .i64 o.n]] w fun e w' => e = .returned (.bool true) ∧ Below w.heap.size w w' := by
  obtain ⟨o', ho'⟩ : ∃ o', o' = fewO o := ⟨_, rfl⟩
  have CW := Lib.hid (fun W => few_any2 o o' hok ho' W)
  clear ho'
  have hb0 : Below w.heap.size w (w.alloc (.cells #[.int .u8 o.d, .int .i64 o.r, .int .i64 o.c, .string o.s, .int .i64 o.k, .bool o.y.b, .bool o.y.u, .bool o.y.i, .int .i64 o.y.f, .int .i64 o.y.g, .int .i64 o.t, .int .i64 o.n] 71)) := (Below.refl _ _).alloc (Nat.le_refl _) _
  have ob0 : OpBlk (w.alloc (.cells #[.int .u8 o.d, .int .i64 o.r, .int .i64 o.c, .string o.s, .int .i64 o.k, .bool o.y.b, .bool o.y.u, .bool o.y.i, .int .i64 o.y.f, .int .i64 o.y.g, .int .i64 o.t, .int .i64 o.n] 71)) w.heap.size o := World.alloc_heap_new w _
  generalize hV0 : w.alloc (.cells #[.int .u8 o.d, .int .i64 o.r, .int .i64 o.c, .string o.s, .int .i64 o.k, .bool o.y.b, .bool o.y.u, .bool o.y.i, .int .i64 o.y.f, .int .i64 o.y.g, .int .i64 o.t, .int .i64 o.n] 71) = V0 at hb0 ob0
  go_enter Try.func14, Try.ntmps14
  go_wp2_with (first
    | (refine wpList_opload rfl _ rfl w.heap.size rfl o ob0 ?_)
    | (go_at_call 63; refine (CW.out _).mono ?_; rintro e w1 ⟨rfl, hb1⟩; have ob1 := ob0.only (Only.of_below (S := []) hb1) (by simp))
    | (refine wpList_opstore rfl _ _ rfl w.heap.size rfl o o' rfl ob1 ?_; intro w2 ob2 o2)
    | (go_at_call 66; refine (new_ok 2 2 (by omega) _).mono ?_; rintro e w3 ⟨p, rfl, hp, g3, hb3⟩))
  have hB2 : Below w.heap.size w w2 := (bto hb0 hb1 hb0.size).trans (o2.below (by simp) (bto hb0 hb1 hb0.size).size)
  have hB3 := bto hB2 hb3 hB2.size
  have ob3 := ob2.only (Only.of_below (S := []) hb3) (by simp)
  have oo : Only [] w3 ((w3.alloc (.cells #[.int .i64 0, .int .i64 0, .slice none 0 0] 95)).alloc (.cells #[.pointer none, .pointer (some ⟨w3.heap.size, 0, none⟩)] 57)) := ((Only.refl _ _).alloc _).alloc _
  have g4 := g3.only oo (by simp) (by simp)
  have ob4 := ob3.only oo (by simp)
  have z4 : ((w3.alloc (.cells #[.int .i64 0, .int .i64 0, .slice none 0 0] 95)).alloc (.cells #[.pointer none, .pointer (some ⟨w3.heap.size, 0, none⟩)] 57)).heap[w3.heap.size]? = some (.cells #[.int .i64 0, .int .i64 0, .slice none 0 0] 95 (0, 0)) := (Below.heap_alloc _ _ _ (by simp)).trans (World.alloc_heap_new w3 _)
  have l4 : ((w3.alloc (.cells #[.int .i64 0, .int .i64 0, .slice none 0 0] 95)).alloc (.cells #[.pointer none, .pointer (some ⟨w3.heap.size, 0, none⟩)] 57)).heap[w3.heap.size + 1]? = some (.cells #[.pointer none, .pointer (some ⟨w3.heap.size, 0, none⟩)] 57 (0, 0)) := by
    have := World.alloc_heap_new (w3.alloc (.cells #[.int .i64 0, .int .i64 0, .slice none 0 0] 95)) (.cells #[.pointer none, .pointer (some ⟨w3.heap.size, 0, none⟩)] 57)
    simpa using this
  have s4 : ((w3.alloc (.cells #[.int .i64 0, .int .i64 0, .slice none 0 0] 95)).alloc (.cells #[.pointer none, .pointer (some ⟨w3.heap.size, 0, none⟩)] 57)).heap.size = w3.heap.size + 1 + 1 := by simp
  have hB4 : Below w.heap.size w ((w3.alloc (.cells #[.int .i64 0, .int .i64 0, .slice none 0 0] 95)).alloc (.cells #[.pointer none, .pointer (some ⟨w3.heap.size, 0, none⟩)] 57)) := hB3.trans (oo.below (by simp) hB3.size)
  generalize (w3.alloc (.cells #[.int .i64 0, .int .i64 0, .slice none 0 0] 95)).alloc (.cells #[.pointer none, .pointer (some ⟨w3.heap.size, 0, none⟩)] 57) = W4 at oo g4 ob4 z4 l4 s4 hB4 ⊢
  clear hb0 hb1 o2 hb3 hB2 hB3 ob3 ob2 ob1 ob0 oo hV0 g3
  have hX : ∀ n : Nat, n < 2 → ∃ x : Option Addr, (#[.pointer none, .pointer (some ⟨w3.heap.size, 0, none⟩)] : Array Value)[n]? = some (.pointer x) ∧ NoG W4 (.pointer x) ∧ ∀ z, x = some ⟨z, 0, none⟩ → z < W4.heap.size := by
    intro n hn
    obtain rfl | rfl : n = 0 ∨ n = 1 := by omega
    · exact ⟨none, rfl, .inl rfl, fun z h => by cases h⟩
    · exact ⟨some ⟨w3.heap.size, 0, none⟩, rfl, .inr ⟨_, rfl, z4⟩, fun z h => by simp at h; omega⟩
  have HX := Lib.hid hX
  clear hX z4
  go_loopw [7] (fun i wr => ∃ n : Nat, n ≤ 2 ∧ i = .int .i64 n ∧ Below W4.heap.size W4 wr) (fun i _ => 2 - (intOf i).toNat)
  case atStart => exact ⟨0, by omega, rfl, Below.refl _ _⟩
  case round =>
    obtain ⟨n, hn, rfl, hb⟩ := hrel
    by_cases hn2 : n < 2
    · have hni : (n : Int) < 2 := by omega
      obtain ⟨x, hx1, hx2, hx3⟩ := HX.out n hn2
      have lc : wr.cell? ⟨w3.heap.size + 1, n, none⟩ = some (.pointer x) := by rw [cell_of_row wr _ _ _ _ _ ((hb.block _ (by omega)).trans l4)]; exact hx1
      have nx := hx2.below hb (fun z e => hx3 z (by simpa using e))
      go_wp2_with (first
        | (go_at_call 73; refine (gsize_no nx).mono ?_; rintro e w5 ⟨rfl, hb5⟩; have hB5 := bto hb hb5 hb.size; have lc5 := (hb5.cell (p := ⟨w3.heap.size + 1, n, none⟩) (by show w3.heap.size + 1 < _; have := hb.size; omega)).trans lc; have nx5 := hx2.below hB5 (fun z e => hx3 z (by simpa using e)))
        | (go_at_call 65; refine (cell_no nx5 0 0).mono ?_; rintro e w6 ⟨rfl, hb6⟩; have hB6 := bto hB5 hb6 hB5.size)
        | (refine wpList_gstore rfl _ _ rfl w6.heap.size _ rfl GC.zero rfl [GC.zero] (GBlk.made w6 [GC.zero]) 0 (by omega) (by simp) ?_; intro w7 z7 o7; have hB7 : Below W4.heap.size W4 w7 := hB6.trans ((((Only.refl [w6.heap.size] w6).alloc _).trans o7).below (by simp; exact hB6.size) hB6.size)))
      have hp4 : p < W4.heap.size := (Array.getElem?_eq_some_iff.1 g4.head).1
      have hq4 := g4.blk.lt
      have hw4 : w.heap.size < W4.heap.size := (Array.getElem?_eq_some_iff.1 ob4).1
      have c4 : W4.cell? ⟨w3.heap.size + 1, n, none⟩ = some (.pointer x) := by rw [cell_of_row W4 _ _ _ _ _ l4]; exact hx1
      have LC := fun p : BW W4.heap.size W4 => p.cell (by show w3.heap.size + 1 < _; omega) c4
      obtain ⟨k0, k1, k2, k3, k4, k5, k6, k7, k8, k9, k10, k11⟩ := ob4.cells
      have K1 := fun p : BW W4.heap.size W4 => p.cell (by show w.heap.size < _; omega) k1
      have K2 := fun p : BW W4.heap.size W4 => p.cell (by show w.heap.size < _; omega) k2
      have K3 := fun p : BW W4.heap.size W4 => p.cell (by show w.heap.size < _; omega) k3
      have K4 := fun p : BW W4.heap.size W4 => p.cell (by show w.heap.size < _; omega) k4
      have K5 := fun p : BW W4.heap.size W4 => p.cell (by show w.heap.size < _; omega) k5
      have K6 := fun p : BW W4.heap.size W4 => p.cell (by show w.heap.size < _; omega) k6
      have K7 := fun p : BW W4.heap.size W4 => p.cell (by show w.heap.size < _; omega) k7
      have K8 := fun p : BW W4.heap.size W4 => p.cell (by show w.heap.size < _; omega) k8
      have K9 := fun p : BW W4.heap.size W4 => p.cell (by show w.heap.size < _; omega) k9
      have K10 := fun p : BW W4.heap.size W4 => p.cell (by show w.heap.size < _; omega) k10
      have K11 := fun p : BW W4.heap.size W4 => p.cell (by show w.heap.size < _; omega) k11
      have D1 := Lib.hid (fun p : BW W4.heap.size W4 => join_no_ (p.noG hx2 hx3) 0 0 o'.s)
      have D2 := Lib.hid (fun p : BW W4.heap.size W4 => resize_no (p.noG hx2 hx3) o'.n o'.t o'.r)
      have D3 := Lib.hid (fun p : BW W4.heap.size W4 => scroll_no (p.noG hx2 hx3) o'.n)
      have D4 := Lib.hid (fun p : BW W4.heap.size W4 => (row_no (p.noG hx2 hx3) 0).mono (fun e w' h => (⟨h.1, h.2 ▸ Below.refl _ _⟩ : e = .returned (.slice none 0 0) ∧ Below p.W.heap.size p.W w')))
      have D5 := Lib.hid (fun p : BW W4.heap.size W4 => text_no (p.noG hx2 hx3) 0)
      have D6 := Lib.hid (fun p : BW W4.heap.size W4 => put_no (p.noG hx2 hx3) o'.r o'.c o'.s o'.k o'.y)
      have D7 := Lib.hid (fun p : BW W4.heap.size W4 => erase_no (p.noG hx2 hx3) o'.r o'.c o'.t)
      have D8 := Lib.hid (fun p : BW W4.heap.size W4 => same_no1 (p.noG hx2 hx3))
      have D9 := Lib.hid (fun b : BW W4.heap.size W4 => same_no2 (b.grid g4 hp4 hq4) (b.noG hx2 hx3))
      have D10 := Lib.hid (fun p : BW W4.heap.size W4 => fork_no (p.noG hx2 hx3))
      clear k0 k1 k2 k3 k4 k5 k6 k7 k8 k9 k10 k11 nx nx5 lc lc5 hb5 hb6 z7 o7 c4 CW hx2
      refine wp_region_bwAt W4.heap.size W4 hB7 (by kernel_rfl) (by kernel_rfl) ?_
      repeat (go_big_quiet_step ((apply Calls.bw_of (Nat.le_refl _); exact D1.out _)))
      refine wpQuiet_nil ?_
      rintro _ ⟨⟨w8, hB8⟩, rfl⟩
      go_wp2_with fail
      refine wp_region_bwAt W4.heap.size W4 hB8 (by kernel_rfl) (by kernel_rfl) ?_
      repeat (go_big_quiet_step ((apply Calls.bw_of (Nat.le_refl _); exact D2.out _)))
      refine wpQuiet_nil ?_
      rintro _ ⟨⟨w9, hB9⟩, rfl⟩
      go_wp2_with fail
      refine wp_region_bwAt W4.heap.size W4 hB9 (by kernel_rfl) (lexB_fast (by kernel_rfl)) ?_
      dsimp only [List.append]
      repeat (go_big_quiet_step ((apply Calls.bw_of (Nat.le_refl _); first
        | (go_at_call 69; exact D3.out _)
        | (go_at_call 54; exact D4.out _)
        | (go_at_call 76; exact D5.out _)
        | (go_at_call 64; exact D6.out _)
        | (go_at_call 77; exact D7.out _)
        | (go_at_call_of 62 (Value.pointer (some (⟨p, 0, none⟩ : Addr))); exact D9.out _)
        | (go_at_call 62; exact D8.out _)
        | (go_at_call 68; exact D10.out _))))
      refine wpQuiet_nil ?_
      rintro _ ⟨⟨w10, hB10⟩, rfl⟩
      go_wp2_with fail
      go_roundw
      case rel => exact ⟨n + 1, by omega, by go_num, hB10⟩
      case measure => simp [intOf]; omega
    · have hni : (2 : Int) ≤ (n : Int) := by omega
      go_wp2_with (go_at_call 51; refine (awake04_any _).mono ?_; rintro e w5 ⟨rfl, hb5⟩)
      go_ret
      exact ⟨rfl, bto (hB4.trans (hb.mono hB4.size)) hb5 (hB4.trans (hb.mono hB4.size)).size⟩
end Go.Proofs.Ytcihcjlaamfjfaa
