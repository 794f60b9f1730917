/- The law GridPuts. -/
import Derived.Test.YtcihcjlaamfjfaaGPut2
namespace Go.Proofs.Ytcihcjlaamfjfaa
open Go.RowKit Go.Maps
set_option maxRecDepth 100000 in
set_option maxHeartbeats 4000000 in
theorem gridPuts_law (o : OpV) (hok : o.Ok) {a : Option Addr} {len cap : Nat} {ops : List OpV} (w : World) (hops : OpsAt w a len ops) (hlen : len ≤ maxLen) :
    Calls Try.prog 12 #[.slice a len cap, .agg #[.int .u8 o.d, .int .i64 o.r, .int .i64 o.c, .string o.s, .int .i64 o.k, .bool o.y.b, .bool o.y.u, .bool o.y.i, .int .i64 o.y.f, .int .i64 o.y.g, .int .i64 o.t, .int .i64 o.n]] w fun e w' => e = .returned (.bool true) ∧ Below w.heap.size w w' := by
  obtain ⟨o', ho'⟩ : ∃ o', o' = fewO o := ⟨_, rfl⟩
  have CW := Lib.hid (fun W => few_any2 o o' hok ho' W)
  clear ho'
  obtain ⟨F, hF⟩ : ∃ F, F = filledL ops := ⟨_, rfl⟩
  have hFl : F.length = 48 := by rw [hF]; exact filledL_length ops
  have hb0 : Below w.heap.size w (w.alloc (.cells #[.int .u8 o.d, .int .i64 o.r, .int .i64 o.c, .string o.s, .int .i64 o.k, .bool o.y.b, .bool o.y.u, .bool o.y.i, .int .i64 o.y.f, .int .i64 o.y.g, .int .i64 o.t, .int .i64 o.n] 71)) := (Below.refl _ _).alloc (Nat.le_refl _) _
  have ob0 : OpBlk (w.alloc (.cells #[.int .u8 o.d, .int .i64 o.r, .int .i64 o.c, .string o.s, .int .i64 o.k, .bool o.y.b, .bool o.y.u, .bool o.y.i, .int .i64 o.y.f, .int .i64 o.y.g, .int .i64 o.t, .int .i64 o.n] 71)) w.heap.size o := World.alloc_heap_new w _
  have hs0 : (w.alloc (.cells #[.int .u8 o.d, .int .i64 o.r, .int .i64 o.c, .string o.s, .int .i64 o.k, .bool o.y.b, .bool o.y.u, .bool o.y.i, .int .i64 o.y.f, .int .i64 o.y.g, .int .i64 o.t, .int .i64 o.n] 71)).heap.size = w.heap.size + 1 := by simp
  generalize hV0 : w.alloc (.cells #[.int .u8 o.d, .int .i64 o.r, .int .i64 o.c, .string o.s, .int .i64 o.k, .bool o.y.b, .bool o.y.u, .bool o.y.i, .int .i64 o.y.f, .int .i64 o.y.g, .int .i64 o.t, .int .i64 o.n] 71) = V0 at hb0 ob0 hs0
  have hops0 := hops.below hb0
  go_enter Try.func12, Try.ntmps12
  go_wp2_with fail
  refine (filled_any (cap := cap) hops0 hlen).mono ?_
  rintro e w1 ⟨p, q, rfl, hp, hq, g1, hb1⟩
  go_wp2_with fail
  refine (filled_any (cap := cap) (hops0.below hb1) hlen).mono ?_
  rintro e w2 ⟨p', q', rfl, hp', hq', x2, hb2⟩
  rw [← hF] at g1 x2
  have g2 := g1.only (Only.of_below (S := []) hb2) (by simp) (by simp)
  have ob2 := (ob0.only (Only.of_below (S := []) hb1) (by simp)).only (Only.of_below (S := []) hb2) (by simp)
  have hpl : p < w1.heap.size := (Array.getElem?_eq_some_iff.1 g1.head).1
  have hql : q < w1.heap.size := g1.blk.lt
  have hB2 : Below w.heap.size w w2 := bto (bto hb0 hb1 (by omega)) hb2 (by have := hb1.size; omega)
  have hs1 := hb1.size
  have hs2 := hb2.size
  clear hb1 hb2 g1 hops0 ob0 hb0 hops hV0
  have CS := same_any g2 x2
  rw [eqL_self] at CS
  have CS := Lib.hid CS
  go_wp2_with (first
    | (go_at_call 62; refine (CS.out).mono ?_; rintro e w3 ⟨rfl, hb3⟩)
    | (go_at_call 51; refine (awake04_any _).mono ?_; rintro e w4 ⟨rfl, hb4⟩; have ob4 := (ob2.only (Only.of_below (S := []) hb3) (by simp)).only (Only.of_below (S := []) hb4) (by simp))
    | (refine wpList_opload rfl _ rfl w.heap.size rfl o ob4 ?_)
    | (go_at_call 63; refine (CW.out _).mono ?_; rintro e w5 ⟨rfl, hb5⟩; have ob5 := ob4.only (Only.of_below (S := []) hb5) (by simp))
    | (refine wpList_opstore rfl _ _ rfl w.heap.size rfl o o' rfl ob5 ?_; intro w6 ob6 o6; obtain ⟨k0, k1, k2, k3, k4, k5, k6, k7, k8, k9, k10, k11⟩ := ob6.cells))
  have hg6 : GridAt w6 p q 12 4 F := ((((g2.only (Only.of_below (S := []) hb3) (by simp) (by simp)).only (Only.of_below (S := []) hb4) (by simp) (by simp)).only (Only.of_below (S := []) hb5) (by simp) (by simp))).only o6 (by simp; omega) (by simp; omega)
  have hx6 : GridAt w6 p' q' 12 4 F := ((((x2.only (Only.of_below (S := []) hb3) (by simp) (by simp)).only (Only.of_below (S := []) hb4) (by simp) (by simp)).only (Only.of_below (S := []) hb5) (by simp) (by simp))).only o6 (by simp; omega) (by simp; omega)
  have hB5 : Below w.heap.size w w5 := bto (bto (bto hB2 hb3 hB2.size) hb4 (bto hB2 hb3 hB2.size).size) hb5 (bto (bto hB2 hb3 hB2.size) hb4 (bto hB2 hb3 hB2.size).size).size
  have hB6 : Below w.heap.size w w6 := hB5.trans (o6.below (by simp) hB5.size)
  refine (put_any hg6 o'.r o'.c o'.s o'.k o'.y).mono ?_
  rintro e w7 ⟨rfl, g7, o7⟩
  have x7 := hx6.only o7 (by simp; omega) (by simp; omega)
  have ob7 := ob6.only o7 (by simp; omega)
  have hB7 : Below w.heap.size w w7 := hB6.trans (o7.below (by simp; omega) hB6.size)
  have hfar := put_far F o'.r o'.c o'.s o'.k o'.y
  have hzero := @putErr_zero 12 4 o'.r o'.c o'.s o'.k
  have hGl : (putG 12 4 F o'.r o'.c o'.s o'.k o'.y).length = 48 := by rw [putG_length]; exact hFl
  revert g7 hfar hzero hGl
  generalize putG 12 4 F o'.r o'.c o'.s o'.k o'.y = G
  generalize putErr 12 4 o'.r o'.c o'.s o'.k = ev
  intro g7 hfar hzero hGl
  have HFAR := Lib.hid hfar
  have HZERO := Lib.hid hzero
  clear hfar hzero k0 k1 k2 k3 k4 k5 k6 k7 k8 k9 k10 k11 ob6 hg6 hx6 hB6 hB5 o6 o7 hb3 hb4 hb5 ob5 ob4 ob2 g2 x2 hB2 CS CW hok
  obtain ⟨k0, k1, k2, k3, k4, k5, k6, k7, k8, k9, k10, k11⟩ := ob7.cells
  have hw7 : w.heap.size < w7.heap.size := (Array.getElem?_eq_some_iff.1 ob7).1
  clear k0 k3 k5 k6 k7 k8 k9 k10 k11 k1 k2 k4
  go_wp2_with fail
  go_loopw [9, 8] (fun i z wr => ∃ n : Nat, n ≤ 4 ∧ i = .int .i64 n ∧ z = .bool (alikeN G F (12 * n)) ∧ Below w7.heap.size w7 wr) (fun i _ _ => 4 - (intOf i).toNat)
  case atStart => exact ⟨0, Nat.zero_le _, rfl, rfl, Below.refl _ _⟩
  case round =>
    obtain ⟨n, hn, rfl, rfl, hbw⟩ := hrel
    by_cases hn4 : n < 4
    · have hn4i : (n : Int) < 4 := by omega
      go_wp2_with fail
      go_loopw [10, 8] (fun j z wr2 => ∃ m : Nat, m ≤ 12 ∧ j = .int .i64 m ∧ z = .bool (alikeN G F (12 * n + m)) ∧ Below w7.heap.size w7 wr2) (fun j _ _ => 12 - (intOf j).toNat)
      case atStart => exact ⟨0, Nat.zero_le _, rfl, rfl, hbw⟩
      case round =>
        obtain ⟨m, hm, rfl, rfl, hb2⟩ := hrel
        by_cases hm12 : m < 12
        · have hm12i : (m : Int) < 12 := by omega
          obtain ⟨A, hA⟩ : ∃ A, A = nth GC.zero G (12 * n + m) := ⟨_, rfl⟩
          obtain ⟨B, hB⟩ : ∃ B, B = nth GC.zero F (12 * n + m) := ⟨_, rfl⟩
          have gr := g7.only (Only.of_below (S := []) hb2) (by simp) (by simp)
          have xr := x7.only (Only.of_below (S := []) hb2) (by simp) (by simp)
          have or := ob7.only (Only.of_below (S := []) hb2) (by simp)
          have CA := cell_ok gr (n : Int) (m : Int) (by omega) (by omega) (by omega) (by omega)
          simp only [Int.toNat_natCast] at CA
          rw [← hA] at CA
          have CA : Calls Try.prog 65 #[.pointer (some ⟨p, 0, none⟩), .int .i64 n, .int .i64 m] wr fun e w' => e = .returned (.tuple #[.agg #[.string A.s, .int .i64 A.w, .bool A.y.b, .bool A.y.u, .bool A.y.i, .int .i64 A.y.f, .int .i64 A.y.g], .bool true]) ∧ Below wr.heap.size wr w' := CA
          have CA := Lib.hid CA
          obtain ⟨al, hal⟩ : ∃ al, al = alikeN G F (12 * n + m) := ⟨_, rfl⟩
          have hal1 : alikeN G F (12 * n + (m + 1)) = (al && eqC A B) := by rw [hal, hA, hB]; rfl
          rw [← hal]
          have HAL := Lib.hid hal1
          obtain ⟨fr, hfr⟩ : ∃ fr, fr = decide (ev ≠ 0 ∨ (n : Int) ≠ o'.r ∨ (m : Int) < o'.c - 1 ∨ o'.c + o'.k < (m : Int)) := ⟨_, rfl⟩
          have hAB : fr = true → A = B := fun h => by rw [hA, hB]; exact HFAR.out n m hn4 hm12 (by rw [hfr] at h; simpa using h)
          have HFR := Lib.hid hfr
          have hbd : ev = 0 → 0 ≤ o'.c ∧ o'.c < 12 ∧ 1 ≤ o'.k ∧ o'.k ≤ 2 := fun h => by have := HZERO.out h; omega
          clear hal hal1 hA hfr
          go_wp2_with (first
            | (go_at_call_of 65 (Value.pointer (some (⟨p, 0, none⟩ : Addr))); refine (CA.out).mono ?_; rintro e w8 ⟨rfl, hb8⟩)
            | (refine wpList_gstore rfl _ _ rfl w8.heap.size _ rfl A rfl [GC.zero] (GBlk.made w8 [GC.zero]) 0 (by omega) (by simp) ?_; intro w9 zA oA))
          have oo9 : Only [w8.heap.size] w8 w9 := ((Only.refl _ _).alloc _).trans oA
          have xr8 := xr.only (Only.of_below (S := []) hb8) (by simp) (by simp)
          have or8 := or.only (Only.of_below (S := []) hb8) (by simp)
          have hp8 := (Array.getElem?_eq_some_iff.1 xr8.head).1
          have hq8 := xr8.blk.lt
          have ho8 := (Array.getElem?_eq_some_iff.1 or8).1
          have xr9 := xr8.only oo9 (by simp; omega) (by simp; omega)
          have or9 := or8.only oo9 (by simp; omega)
          have hB8 := bto hb2 hb8 hb2.size
          have hB9 : Below w7.heap.size w7 w9 := hB8.trans (oo9.below (by simp; exact hB8.size) hB8.size)
          have zA' : GBlk w9 w8.heap.size [A] := zA
          have hlA := zA'.lt
          have CB := cell_ok xr9 (n : Int) (m : Int) (by omega) (by omega) (by omega) (by omega)
          simp only [Int.toNat_natCast] at CB
          rw [← hB] at CB
          have CB : Calls Try.prog 65 #[.pointer (some ⟨p', 0, none⟩), .int .i64 n, .int .i64 m] w9 fun e w' => e = .returned (.tuple #[.agg #[.string B.s, .int .i64 B.w, .bool B.y.b, .bool B.y.u, .bool B.y.i, .int .i64 B.y.f, .int .i64 B.y.g], .bool true]) ∧ Below w9.heap.size w9 w' := CB
          clear xr8 or8 hp8 hq8 ho8 xr9 zA oA oo9 hB hb8 CA gr xr or
          refine CB.mono ?_
          rintro e w10 ⟨rfl, hb10⟩
          have zA2 := zA'.only (Only.of_below (S := []) hb10) (by simp)
          have or10 := or9.only (Only.of_below (S := []) hb10) (by simp)
          have ho10 := (Array.getElem?_eq_some_iff.1 or10).1
          have hB10 := bto hB9 hb10 hB9.size
          have hl10 := hb10.size
          clear CB
          go_upto_region 15 with (refine wpList_gstore rfl _ _ rfl w10.heap.size _ rfl B rfl [GC.zero] (GBlk.made w10 [GC.zero]) 0 (by omega) (by simp) ?_; intro w11 zB oB)
          have oo11 : Only [w10.heap.size] w10 w11 := ((Only.refl _ _).alloc _).trans oB
          have zB' : GBlk w11 w10.heap.size [B] := zB
          have zA3 := zA2.only oo11 (by simp; omega)
          have or11 := or10.only oo11 (by simp; omega)
          have hB11 : Below w7.heap.size w7 w11 := hB10.trans (oo11.below (by simp; exact hB10.size) hB10.size)
          have rA : w11.rangeAt w8.heap.size 0 A.vals := zA3.range1 (i := 0) (c := A) rfl
          have rB : w11.rangeAt w10.heap.size 0 B.vals := zB'.range1 (i := 0) (c := B) rfl
          obtain ⟨x0, x1, x2, x3, x4, x5, x6⟩ := vals_at0 rA
          obtain ⟨y0, y1, y2, y3, y4, y5, y6⟩ := vals_at0 rB
          obtain ⟨k0, k1, k2, k3, k4, k5, k6, k7, k8, k9, k10, k11⟩ := or11.cells
          have q1 := eql_gc A B
          have q2 := neq_gc A B
          clear k0 k3 k5 k6 k7 k8 k9 k10 k11 zB oB oo11 zB' zA3 or11 rA rB zA2 or10 hb10 zA' or9
          obtain ⟨eq, heq⟩ : ∃ eq, eq = eqC A B := ⟨_, rfl⟩
          rw [← heq] at HAL q1 q2
          have hfe : fr = true → eq = true := fun h => by rw [heq, hAB h]; exact eqC_self B
          have HFE := Lib.hid hfe
          have HBD := Lib.hid hbd
          clear heq hAB hfe hbd
          obtain ⟨an, han⟩ : ∃ an, an = (al && eq) := ⟨_, rfl⟩
          have HAN := Lib.hid han
          clear han
          go_cut [8] (fun v wx => v = .bool an ∧ wx = w11)
          case first =>
            clear k1 k2 k4 q2
            cases al with
            | false =>
              go_wp2
              go_meet
              exact ⟨ret_val (by rw [HAN.out]; rfl), rfl⟩
            | true =>
              go_wp2
              go_meet
              exact ⟨ret_val (by rw [HAN.out]; rfl), rfl⟩
          case rest =>
            obtain ⟨rfl, rfl⟩ := hcut
            go_upto_region 16 with fail
            go_cut [15] (fun v wx => v = .bool fr ∧ wx = wc)
            case first =>
              clear x0 x1 x2 x3 x4 x5 x6 y0 y1 y2 y3 y4 y5 y6 q1 q2
              by_cases h1 : ev = 0
              · subst h1
                obtain ⟨b1, b2, b3, b4⟩ := HBD.out rfl
                by_cases h2 : (n : Int) = o'.r
                · have e1 : ((n : Int) == o'.r) = true := by simpa using h2
                  have e2 : ((n : Int) != o'.r) = false := by simpa using h2
                  have H2 := Lib.hid h2
                  clear h2
                  by_cases h3 : (m : Int) < o'.c - 1
                  · go_wp2
                    go_meet
                    exact ⟨ret_val (by rw [HFR.out]; symm; simp; omega), rfl⟩
                  · by_cases h4 : o'.c + o'.k < (m : Int)
                    · go_wp2
                      go_meet
                      exact ⟨ret_val (by rw [HFR.out]; symm; simp; omega), rfl⟩
                    · go_wp2
                      go_meet
                      exact ⟨ret_val (by rw [HFR.out]; have := H2.out; symm; simp; omega), rfl⟩
                · have e1 : ((n : Int) == o'.r) = false := by simpa using h2
                  have e2 : ((n : Int) != o'.r) = true := by simpa using h2
                  have H2 := Lib.hid h2
                  clear h2
                  go_wp2
                  go_meet
                  exact ⟨ret_val (by rw [HFR.out]; have := H2.out; symm; simp; omega), rfl⟩
              · have e1 : (ev == 0) = false := by simpa using h1
                have e2 : (ev != 0) = true := by simpa using h1
                have H1 := Lib.hid h1
                clear h1
                go_wp2
                go_meet
                exact ⟨ret_val (by rw [HFR.out]; have := H1.out; symm; simp; omega), rfl⟩
            case rest =>
              obtain ⟨rfl, rfl⟩ := hcut
              clear k1 k2 k4 q1
              cases fr with
              | false =>
                go_wp2
                go_roundw
                case rel =>
                  exact ⟨m + 1, by omega, by go_num, ret_val (HAN.out.trans HAL.out.symm), hB11⟩
                case measure => simp [intOf]; omega
              | true =>
                have he := HFE.out rfl
                rw [he] at q2
                go_wp2
                go_roundw
                case rel =>
                  exact ⟨m + 1, by omega, by go_num, ret_val (HAN.out.trans HAL.out.symm), hB11⟩
                case measure => simp [intOf]; omega
        · obtain rfl : m = 12 := by omega
          go_wp2_with fail
          go_roundw
          case rel => exact ⟨n + 1, by omega, by go_num, congrArg Value.bool (congrArg (alikeN G F) (by omega)), hb2⟩
          case measure => simp [intOf]; omega
    · obtain rfl : n = 4 := by omega
      obtain ⟨z, hz⟩ : ∃ z, z = eqL G F := ⟨_, rfl⟩
      have hz1 : alikeN G F (12 * 4) = z := by rw [hz]; exact alikeN_eq G F 48 hGl hFl
      have gr := g7.only (Only.of_below (S := []) hbw) (by simp) (by simp)
      have xr := x7.only (Only.of_below (S := []) hbw) (by simp) (by simp)
      have S1 := same_any gr xr
      rw [← hz] at S1
      have S1 := Lib.hid S1
      have hz2 : eqL F G = z := by rw [eqL_comm, hz]
      rw [hz1]
      clear hz hz1
      go_wp2_with fail
      refine (S1.out).mono ?_
      rintro e w8 ⟨rfl, hb8⟩
      have S2 := same_any (xr.only (Only.of_below (S := []) hb8) (by simp) (by simp)) (gr.only (Only.of_below (S := []) hb8) (by simp) (by simp))
      rw [hz2] at S2
      go_wp2_with fail
      refine S2.mono ?_
      rintro e w9 ⟨rfl, hb9⟩
      go_wp2_with fail
      go_ret
      have hBB := hB7.trans (hbw.mono (by omega))
      exact ⟨rfl, bto (bto hBB hb8 hBB.size) hb9 (bto hBB hb8 hBB.size).size⟩
end Go.Proofs.Ytcihcjlaamfjfaa
