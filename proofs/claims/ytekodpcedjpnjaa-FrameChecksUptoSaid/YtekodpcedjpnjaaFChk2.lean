/- Frames of any cells: the program's and the reference's Same. No condition but on the rows' number and lengths. -/
import Derived.Test.YtekodpcedjpnjaaFrame9
namespace Go.Proofs.Ytekodpcedjpnjaa
set_option linter.unusedVariables false
set_option linter.unusedSimpArgs false
open Go.RowKit Go.Shelf Go.Maps
/-- A frame in a box. -/
def FBI (W : World) (F : Nat) (v : Value) (r c : Int) (s : Bool) : Prop := W.heap[F]? = some (.cells #[v, .int .i64 r, .int .i64 c, .bool s] 51 (0, 0))
theorem FBI.lt {W : World} {F : Nat} {v : Value} {r c : Int} {s : Bool} (h : FBI W F v r c s) : F < W.heap.size := (Array.getElem?_eq_some_iff.1 h).1
theorem FBI.cells {W : World} {F : Nat} {v : Value} {r c : Int} {s : Bool} (h : FBI W F v r c s) :
    W.cell? ⟨F, 0, none⟩ = some v ∧ W.cell? ⟨F, 1, none⟩ = some (.int .i64 r) ∧ W.cell? ⟨F, 2, none⟩ = some (.int .i64 c) ∧ W.cell? ⟨F, 3, none⟩ = some (.bool s) := by
  refine ⟨?_, ?_, ?_, ?_⟩ <;> rw [cell_of_row W F _ _ _ _ h] <;> rfl
theorem FBI.below {W W' : World} {F : Nat} {v : Value} {r c : Int} {s : Bool} (h : FBI W F v r c s) (hb : Below W.heap.size W W') : FBI W' F v r c s := (hb.block F h.lt).trans h
set_option maxRecDepth 100000 in
set_option maxHeartbeats 4000000 in
theorem sameRow_any {W : World} {a1 a2 : Option Addr} {n1 n2 c1 c2 : Nat} {M N : List GC} (hM : CellsAt W a1 n1 M) (hN : CellsAt W a2 n2 N) (hn : n1 ≤ 1000000) (hn2 : n2 ≤ 1000000) :
    Calls Try.prog 74 #[.slice a1 n1 c1, .slice a2 n2 c2] W fun e w' => e = .returned (.bool (eqL M N)) ∧ Below W.heap.size W w' := by
  obtain ⟨z, hz⟩ : ∃ z, z = eqL M N := ⟨_, rfl⟩
  rw [← hz]
  have HZ := Lib.hid hz
  clear hz
  have l1 := hM.len
  have l2 := hN.len
  by_cases hlen : n1 = n2
  · obtain rfl := hlen
    go_enter Try.func74, Try.ntmps74
    go_wp2
    go_loopw [14] (fun i wr => ∃ k : Nat, k ≤ n1 ∧ i = .int .i64 k ∧ Hid (z = eqL (M.drop k) (N.drop k)) ∧ Below W.heap.size W wr) (fun i _ => n1 - (intOf i).toNat)
    case atStart => exact ⟨0, Nat.zero_le _, rfl, HZ, Below.refl _ _⟩
    case round =>
      obtain ⟨k, hk, rfl, hf, hb⟩ := hrel
      by_cases hlt : k < n1
      · obtain ⟨C, hC⟩ : ∃ C, C = nth GC.zero M k := ⟨_, rfl⟩
        obtain ⟨D, hD⟩ : ∃ D, D = nth GC.zero N k := ⟨_, rfl⟩
        have hCi : M[k]? = some C := by rw [hC, nth_eq _ _ _ (by omega), List.getElem?_eq_getElem (by omega)]
        have hDi : N[k]? = some D := by rw [hD, nth_eq _ _ _ (by omega), List.getElem?_eq_getElem (by omega)]
        have hone := eqL_drop M N k (by omega) (by omega)
        rw [← hC, ← hD] at hone
        have HONE := Lib.hid hone
        obtain ⟨b1, o1, rfl, hb1, r1⟩ := (hM.below hb).at_ k C hCi
        obtain ⟨b2, o2, rfl, hb2, r2⟩ := (hN.below hb).at_ k D hDi
        obtain ⟨x0, x1, x2, x3, x4, x5, x6⟩ := vals_at r1
        have hq := neq_gc C D
        obtain ⟨cs, cw, cy⟩ := C
        dsimp only at x0 x1 x2 x3 x4 x5 x6 hq
        have hb1x : Below wr.heap.size wr (wr.alloc (.cells #[.string cs, .int .i64 cw, .bool cy.b, .bool cy.u, .bool cy.i, .int .i64 cy.f, .int .i64 cy.g] 70)) := (Below.refl _ _).alloc (Nat.le_refl _) _
        have g1 : GBlk (wr.alloc (.cells #[.string cs, .int .i64 cw, .bool cy.b, .bool cy.u, .bool cy.i, .int .i64 cy.f, .int .i64 cy.g] 70)) wr.heap.size [⟨cs, cw, cy⟩] := GBlk.made wr [⟨cs, cw, cy⟩]
        obtain ⟨X1, hX1⟩ : ∃ X, wr.alloc (.cells #[.string cs, .int .i64 cw, .bool cy.b, .bool cy.u, .bool cy.i, .int .i64 cy.f, .int .i64 cy.g] 70) = X := ⟨_, rfl⟩
        rw [hX1] at g1 hb1x
        have HX1 := Lib.hid hX1
        have r3 : X1.rangeAt b2 (o2 + k * 7) D.vals := fun j v hv => (hb1x.cell (p := ⟨b2, _, none⟩) hb2).trans (r2 j v hv)
        obtain ⟨t0, t1, t2, t3, t4, t5, t6⟩ := vals_at r3
        have gr := g1.range1 (i := 0) (c := ⟨cs, cw, cy⟩) rfl
        rw [Nat.mul_zero] at gr
        obtain ⟨y0, y1, y2, y3, y4, y5, y6⟩ := vals_at gr
        dsimp only [Nat.zero_add] at y0 y1 y2 y3 y4 y5 y6
        have hB1 := bto hb hb1x hb.size
        clear hone hC hD hCi hDi r1 r2 r3 gr g1 hX1
        go_wp2_with fail
        rw [HX1.out]
        refine wp_region_still_lit (by kernel_rfl) (by kernel_rfl) ?_
        repeat still_step
        refine wpStill_nil ?_
        cases hcd : eqC ⟨cs, cw, cy⟩ D with
        | true =>
          have HZ2 : Hid (z = eqL (M.drop (k + 1)) (N.drop (k + 1))) := Lib.hid (by rw [hf.out, HONE.out, hcd]; rfl)
          go_wp2
          go_roundw
          case rel => exact ⟨k + 1, by omega, by go_num, HZ2, hB1.drew⟩
          case measure => simp [intOf]; omega
        | false =>
          have HZ2 : Hid (z = false) := Lib.hid (by rw [hf.out, HONE.out, hcd]; rfl)
          go_wp2
          go_ret
          exact ⟨ret_bool HZ2.out.symm, hB1.drew⟩
      · have HZ2 : Hid (z = true) := Lib.hid (by rw [hf.out, List.drop_eq_nil_of_le (by omega), List.drop_eq_nil_of_le (by omega)]; rfl)
        go_wp2
        go_ret
        exact ⟨ret_bool HZ2.out.symm, hb⟩
  · have HZ2 : Hid (z = false) := Lib.hid (by rw [HZ.out]; exact eqL_len (by omega))
    have hne : (((n1 : Int) == (n2 : Int)) = false) := by simp; omega
    go_enter Try.func74, Try.ntmps74
    go_wp2
    go_ret
    exact ⟨ret_bool HZ2.out.symm, Below.refl _ _⟩
/-- Rows of cells, the same. -/
def eqR : List (List GC) → List (List GC) → Bool
  | [], [] => true
  | M :: R, N :: Q => eqL M N && eqR R Q
  | _, _ => false
theorem eqR_iff : ∀ (R Q : List (List GC)), eqR R Q = true ↔ R = Q
  | [], [] => by simp [eqR]
  | [], _ :: _ => by simp [eqR]
  | _ :: _, [] => by simp [eqR]
  | c :: M, d :: N => by simp [eqR, eqR_iff M N, eqL_iff]
theorem eqR_self (R : List (List GC)) : eqR R R = true := (eqR_iff R R).2 rfl
theorem eqR_drop (M N : List (List GC)) (k : Nat) (h1 : k < M.length) (h2 : k < N.length) : eqR (M.drop k) (N.drop k) = (eqL (nth [] M k) (nth [] N k) && eqR (M.drop (k + 1)) (N.drop (k + 1))) := by
  rw [List.drop_eq_getElem_cons h1, List.drop_eq_getElem_cons h2, nth_eq _ _ _ h1, nth_eq _ _ _ h2]
  rfl
theorem eqR_len {M N : List (List GC)} (h : M.length ≠ N.length) : eqR M N = false := by
  cases hb : eqR M N with
  | false => rfl
  | true => exact absurd (congrArg List.length ((eqR_iff M N).1 hb)) h
end Go.Proofs.Ytekodpcedjpnjaa
namespace Go.Proofs.Ytekodpcedjpnjaa
set_option linter.unusedVariables false
set_option linter.unusedSimpArgs false
open Go.RowKit Go.Shelf Go.Maps
set_option maxRecDepth 100000 in
set_option maxHeartbeats 8000000 in
theorem fsame_any {W : World} {a1 a2 : Option Addr} {n1 n2 c1 c2 : Nat} {R Q : List (List GC)} (h1 : RowsAt W a1 n1 R) (h2 : RowsAt W a2 n2 Q) (hm1 : ∀ M ∈ R, M.length ≤ 1000000) (hm2 : ∀ M ∈ Q, M.length ≤ 1000000) (hn : n1 ≤ maxLen) (x1 x2 y1 y2 : Int) (s1 s2 : Bool) :
    Calls Try.prog 24 #[.agg #[.slice a1 n1 c1, .int .i64 x1, .int .i64 y1, .bool s1], .agg #[.slice a2 n2 c2, .int .i64 x2, .int .i64 y2, .bool s2]] W fun e w' => e = .returned (.bool (decide (n1 = n2 ∧ x1 = x2 ∧ y1 = y2 ∧ s1 = s2) && eqR R Q)) ∧ Below W.heap.size W w' := by
  have hl1 := h1.len
  have hl2 := h2.len
  unfold maxLen at hn
  obtain ⟨zz, hzz⟩ : ∃ zz, zz = (decide (n1 = n2 ∧ x1 = x2 ∧ y1 = y2 ∧ s1 = s2) && eqR R Q) := ⟨_, rfl⟩
  rw [← hzz]
  have HZZ := Lib.hid hzz
  clear hzz
  have z1 : FBI (W.alloc (.cells #[.slice a1 n1 c1, .int .i64 x1, .int .i64 y1, .bool s1] 51)) W.heap.size (.slice a1 n1 c1) x1 y1 s1 := World.alloc_heap_new W _
  have b1 : Below W.heap.size W (W.alloc (.cells #[.slice a1 n1 c1, .int .i64 x1, .int .i64 y1, .bool s1] 51)) := (Below.refl _ _).alloc (Nat.le_refl _) _
  obtain ⟨X1, hX1⟩ : ∃ X1, W.alloc (.cells #[.slice a1 n1 c1, .int .i64 x1, .int .i64 y1, .bool s1] 51) = X1 := ⟨_, rfl⟩
  have s1' : X1.heap.size = W.heap.size + 1 := by rw [← hX1]; simp
  rw [hX1] at z1 b1
  obtain ⟨X2, hX2⟩ : ∃ X2, X1.alloc (.cells #[.slice a2 n2 c2, .int .i64 x2, .int .i64 y2, .bool s2] 51) = X2 := ⟨_, rfl⟩
  have z2 : FBI X2 (W.heap.size + 1) (.slice a2 n2 c2) x2 y2 s2 := by rw [← hX2, ← s1']; exact World.alloc_heap_new X1 _
  have b12 : Below X1.heap.size X1 X2 := by rw [← hX2]; exact (Below.refl _ _).alloc (Nat.le_refl _) _
  have q1 := z1.below b12
  have b2 := bto b1 b12 b1.size
  have HX1 := Lib.hid hX1
  have HX2 := Lib.hid hX2
  have S1 := Lib.hid s1'
  clear hX1 hX2 s1' z1 b1 b12
  obtain ⟨u0, u1, u2, u3⟩ := q1.cells
  obtain ⟨v0, v1, v2, v3⟩ := z2.cells
  by_cases e1 : n1 = n2
  case neg =>
    have hne : ((n1 : Int) != (n2 : Int)) = true := by simp; omega
    have HF : Hid (zz = false) := Lib.hid (by rw [HZZ.out]; simp [e1])
    clear h1 h2 hm1 hm2 hl1 hl2 e1
    go_enter Try.func24, Try.ntmps24
    go_upto_region 1 with (fail)
    try rw [HX1.out]
    try rw [HX2.out]
    try rw [S1.out]
    go_wp2
    go_ret
    exact ⟨ret_bool HF.out.symm, b2⟩
  case pos =>
  obtain rfl := e1
  by_cases e2 : x1 = x2
  case neg =>
    have hne : (x1 != x2) = true := by simpa using e2
    have HF : Hid (zz = false) := Lib.hid (by rw [HZZ.out]; simp [e2])
    clear h1 h2 hm1 hm2 hl1 hl2 e2
    go_enter Try.func24, Try.ntmps24
    go_upto_region 1 with (fail)
    try rw [HX1.out]
    try rw [HX2.out]
    try rw [S1.out]
    go_wp2
    go_ret
    exact ⟨ret_bool HF.out.symm, b2⟩
  case pos =>
  obtain rfl := e2
  by_cases e3 : y1 = y2
  case neg =>
    have hne : (y1 != y2) = true := by simpa using e3
    have HF : Hid (zz = false) := Lib.hid (by rw [HZZ.out]; simp [e3])
    clear h1 h2 hm1 hm2 hl1 hl2 e3
    go_enter Try.func24, Try.ntmps24
    go_upto_region 1 with (fail)
    try rw [HX1.out]
    try rw [HX2.out]
    try rw [S1.out]
    go_wp2
    go_ret
    exact ⟨ret_bool HF.out.symm, b2⟩
  case pos =>
  obtain rfl := e3
  by_cases e4 : s1 = s2
  case neg =>
    have HF : Hid (zz = false) := Lib.hid (by rw [HZZ.out]; simp [e4])
    clear h1 h2 hm1 hm2 hl1 hl2
    cases s1 <;> cases s2 <;> first
      | exact absurd rfl e4
      | (go_enter Try.func24, Try.ntmps24
         go_upto_region 1 with (fail)
         try rw [HX1.out]
         try rw [HX2.out]
         try rw [S1.out]
         go_wp2
         go_ret
         exact ⟨ret_bool HF.out.symm, b2⟩)
  case pos =>
  obtain rfl := e4
  obtain ⟨z, hz⟩ : ∃ z, z = eqR R Q := ⟨_, rfl⟩
  have HE : Hid (zz = z) := Lib.hid (by rw [HZZ.out, hz]; simp)
  have HZ := Lib.hid hz
  clear hz
  have CS := Lib.hid (fun (X : World) (hX : Below W.heap.size W X) (k : Nat) (hk : k < n1) => (by
    obtain ⟨b1, o1, u1, d1, e1, f1, g1, _, k1⟩ := (h1.below hX).at_ k (nth [] R k) (by rw [nth_eq _ _ _ (by omega)]; exact List.getElem?_eq_getElem (by omega))
    obtain ⟨b2, o2, u2, d2, e2, f2, g2, _, k2⟩ := (h2.below hX).at_ k (nth [] Q k) (by rw [nth_eq _ _ _ (by omega)]; exact List.getElem?_eq_getElem (by omega))
    have hm : (nth [] R k).length ≤ 1000000 := hm1 _ (by rw [nth_eq _ _ _ (by omega)]; exact List.getElem_mem _)
    have hm' : (nth [] Q k).length ≤ 1000000 := hm2 _ (by rw [nth_eq _ _ _ (by omega)]; exact List.getElem_mem _)
    have hc := sameRow_any (c1 := d1) (c2 := d2) k1 k2 hm hm'
    exact ⟨b1, o1, u1, d1, b2, o2, u2, d2, (nth [] R k).length, (nth [] Q k).length, e1, f1, g1, e2, f2, g2, hc⟩ :
    ∃ b1 o1 u1 d1 b2 o2 u2 d2 m m', a1 = some ⟨b1, o1, none⟩ ∧ b1 < X.heap.size ∧ X.cell? ⟨b1, o1 + k, none⟩ = some (.slice u1 m d1) ∧ a2 = some ⟨b2, o2, none⟩ ∧ b2 < X.heap.size ∧ X.cell? ⟨b2, o2 + k, none⟩ = some (.slice u2 m' d2) ∧
      Calls Try.prog 74 #[.slice u1 m d1, .slice u2 m' d2] X fun e w' => e = .returned (.bool (eqL (nth [] R k) (nth [] Q k))) ∧ Below X.heap.size X w'))
  have HD := Lib.hid (fun k (hk : k < n1) => eqR_drop R Q k (by omega) (by omega))
  have HN : Hid (eqR (R.drop n1) (Q.drop n1) = true) := Lib.hid (by rw [List.drop_eq_nil_of_le (by omega), List.drop_eq_nil_of_le (by omega)]; rfl)
  clear h1 h2 hm1 hm2 hl1 hl2
  go_enter Try.func24, Try.ntmps24
  go_upto_region 1 with (fail)
  try rw [HX1.out]
  try rw [HX2.out]
  try rw [S1.out]
  go_wp2
  go_loopw [38] (fun i wr => ∃ k : Nat, k ≤ n1 ∧ i = .int .i64 k ∧ Hid (z = eqR (R.drop k) (Q.drop k)) ∧ FBI wr W.heap.size (.slice a1 n1 c1) x1 y1 s1 ∧ FBI wr (W.heap.size + 1) (.slice a2 n1 c2) x1 y1 s1 ∧ Below W.heap.size W wr) (fun i _ => n1 - (intOf i).toNat)
  case atStart => exact ⟨0, Nat.zero_le _, rfl, HZ, q1, z2, b2⟩
  case round =>
    obtain ⟨k, hk, rfl, hf, p1, p2, hb⟩ := hrel
    clear u0 u1 u2 u3 v0 v1 v2 v3
    obtain ⟨u0, u1, u2, u3⟩ := p1.cells
    obtain ⟨v0, v1, v2, v3⟩ := p2.cells
    have hlt := p2.lt
    by_cases hkn : k < n1
    · obtain ⟨b3, o3, u3', d3, b4, o4, u4, d4, m, m', rfl, hb3, hc3, rfl, hb4, hc4, hcall⟩ := CS.out wr hb k hkn
      have HC := Lib.hid hcall
      have HDk := Lib.hid (HD.out k hkn)
      clear hcall
      go_wp2_with fail
      refine HC.out.mono ?_
      rintro e w3 ⟨rfl, hb5⟩
      have q1 := p1.below hb5
      have q2 := p2.below hb5
      have b5 := bto hb hb5 hb.size
      clear p1 p2 hc3 hc4 u0 u1 u2 u3 v0 v1 v2 v3
      cases hq : eqL (nth [] R k) (nth [] Q k) with
      | true =>
        have HZ2 : Hid (z = eqR (R.drop (k + 1)) (Q.drop (k + 1))) := Lib.hid (by rw [hf.out, HDk.out, hq]; rfl)
        clear hq
        go_wp2
        go_roundw
        case rel => exact ⟨k + 1, hkn, by go_num, HZ2, q1, q2, b5⟩
        case measure => simp [intOf]; omega
      | false =>
        have HZ2 : Hid (z = false) := Lib.hid (by rw [hf.out, HDk.out, hq]; rfl)
        clear hq
        go_wp2
        go_ret
        exact ⟨ret_bool (HZ2.out.symm.trans HE.out.symm), b5⟩
    · obtain rfl : k = n1 := by omega
      have HZ2 : Hid (z = true) := Lib.hid (hf.out.trans HN.out)
      go_wp2
      go_ret
      exact ⟨ret_bool (HZ2.out.symm.trans HE.out.symm), hb⟩
set_option maxRecDepth 100000 in
set_option maxHeartbeats 8000000 in
theorem rsame_any {W : World} {a1 a2 : Option Addr} {n1 n2 c1 c2 : Nat} {R Q : List (List GC)} (h1 : RowsAt W a1 n1 R) (h2 : RowsAt W a2 n2 Q) (hm1 : ∀ M ∈ R, M.length ≤ 1000000) (hm2 : ∀ M ∈ Q, M.length ≤ 1000000) (hn : n1 ≤ maxLen) (x1 x2 y1 y2 : Int) (s1 s2 : Bool) :
    Calls Try.prog 25 #[.agg #[.slice a1 n1 c1, .int .i64 x1, .int .i64 y1, .bool s1], .agg #[.slice a2 n2 c2, .int .i64 x2, .int .i64 y2, .bool s2]] W fun e w' => e = .returned (.bool (decide (n1 = n2 ∧ x1 = x2 ∧ y1 = y2 ∧ s1 = s2) && eqR R Q)) ∧ Below W.heap.size W w' := by
  have hl1 := h1.len
  have hl2 := h2.len
  unfold maxLen at hn
  obtain ⟨zz, hzz⟩ : ∃ zz, zz = (decide (n1 = n2 ∧ x1 = x2 ∧ y1 = y2 ∧ s1 = s2) && eqR R Q) := ⟨_, rfl⟩
  rw [← hzz]
  have HZZ := Lib.hid hzz
  clear hzz
  have z1 : FBI (W.alloc (.cells #[.slice a1 n1 c1, .int .i64 x1, .int .i64 y1, .bool s1] 51)) W.heap.size (.slice a1 n1 c1) x1 y1 s1 := World.alloc_heap_new W _
  have b1 : Below W.heap.size W (W.alloc (.cells #[.slice a1 n1 c1, .int .i64 x1, .int .i64 y1, .bool s1] 51)) := (Below.refl _ _).alloc (Nat.le_refl _) _
  obtain ⟨X1, hX1⟩ : ∃ X1, W.alloc (.cells #[.slice a1 n1 c1, .int .i64 x1, .int .i64 y1, .bool s1] 51) = X1 := ⟨_, rfl⟩
  have s1' : X1.heap.size = W.heap.size + 1 := by rw [← hX1]; simp
  rw [hX1] at z1 b1
  obtain ⟨X2, hX2⟩ : ∃ X2, X1.alloc (.cells #[.slice a2 n2 c2, .int .i64 x2, .int .i64 y2, .bool s2] 51) = X2 := ⟨_, rfl⟩
  have z2 : FBI X2 (W.heap.size + 1) (.slice a2 n2 c2) x2 y2 s2 := by rw [← hX2, ← s1']; exact World.alloc_heap_new X1 _
  have b12 : Below X1.heap.size X1 X2 := by rw [← hX2]; exact (Below.refl _ _).alloc (Nat.le_refl _) _
  have q1 := z1.below b12
  have b2 := bto b1 b12 b1.size
  have HX1 := Lib.hid hX1
  have HX2 := Lib.hid hX2
  have S1 := Lib.hid s1'
  clear hX1 hX2 s1' z1 b1 b12
  obtain ⟨u0, u1, u2, u3⟩ := q1.cells
  obtain ⟨v0, v1, v2, v3⟩ := z2.cells
  by_cases e1 : n1 = n2
  case neg =>
    have hne : ((n1 : Int) != (n2 : Int)) = true := by simp; omega
    have HF : Hid (zz = false) := Lib.hid (by rw [HZZ.out]; simp [e1])
    clear h1 h2 hm1 hm2 hl1 hl2 e1
    go_enter Try.func25, Try.ntmps25
    go_upto_region 1 with (fail)
    try rw [HX1.out]
    try rw [HX2.out]
    try rw [S1.out]
    go_wp2
    go_ret
    exact ⟨ret_bool HF.out.symm, b2⟩
  case pos =>
  obtain rfl := e1
  by_cases e2 : x1 = x2
  case neg =>
    have hne : (x1 != x2) = true := by simpa using e2
    have HF : Hid (zz = false) := Lib.hid (by rw [HZZ.out]; simp [e2])
    clear h1 h2 hm1 hm2 hl1 hl2 e2
    go_enter Try.func25, Try.ntmps25
    go_upto_region 1 with (fail)
    try rw [HX1.out]
    try rw [HX2.out]
    try rw [S1.out]
    go_wp2
    go_ret
    exact ⟨ret_bool HF.out.symm, b2⟩
  case pos =>
  obtain rfl := e2
  by_cases e3 : y1 = y2
  case neg =>
    have hne : (y1 != y2) = true := by simpa using e3
    have HF : Hid (zz = false) := Lib.hid (by rw [HZZ.out]; simp [e3])
    clear h1 h2 hm1 hm2 hl1 hl2 e3
    go_enter Try.func25, Try.ntmps25
    go_upto_region 1 with (fail)
    try rw [HX1.out]
    try rw [HX2.out]
    try rw [S1.out]
    go_wp2
    go_ret
    exact ⟨ret_bool HF.out.symm, b2⟩
  case pos =>
  obtain rfl := e3
  by_cases e4 : s1 = s2
  case neg =>
    have HF : Hid (zz = false) := Lib.hid (by rw [HZZ.out]; simp [e4])
    clear h1 h2 hm1 hm2 hl1 hl2
    cases s1 <;> cases s2 <;> first
      | exact absurd rfl e4
      | (go_enter Try.func25, Try.ntmps25
         go_upto_region 1 with (fail)
         try rw [HX1.out]
         try rw [HX2.out]
         try rw [S1.out]
         go_wp2
         go_ret
         exact ⟨ret_bool HF.out.symm, b2⟩)
  case pos =>
  obtain rfl := e4
  obtain ⟨z, hz⟩ : ∃ z, z = eqR R Q := ⟨_, rfl⟩
  have HE : Hid (zz = z) := Lib.hid (by rw [HZZ.out, hz]; simp)
  have HZ := Lib.hid hz
  clear hz
  have CS := Lib.hid (fun (X : World) (hX : Below W.heap.size W X) (k : Nat) (hk : k < n1) => (by
    obtain ⟨b1, o1, u1, d1, e1, f1, g1, _, k1⟩ := (h1.below hX).at_ k (nth [] R k) (by rw [nth_eq _ _ _ (by omega)]; exact List.getElem?_eq_getElem (by omega))
    obtain ⟨b2, o2, u2, d2, e2, f2, g2, _, k2⟩ := (h2.below hX).at_ k (nth [] Q k) (by rw [nth_eq _ _ _ (by omega)]; exact List.getElem?_eq_getElem (by omega))
    have hm : (nth [] R k).length ≤ 1000000 := hm1 _ (by rw [nth_eq _ _ _ (by omega)]; exact List.getElem_mem _)
    have hm' : (nth [] Q k).length ≤ 1000000 := hm2 _ (by rw [nth_eq _ _ _ (by omega)]; exact List.getElem_mem _)
    have hc := sameCells_any (c1 := d1) (c2 := d2) k1 k2 hm hm'
    exact ⟨b1, o1, u1, d1, b2, o2, u2, d2, (nth [] R k).length, (nth [] Q k).length, e1, f1, g1, e2, f2, g2, hc⟩ :
    ∃ b1 o1 u1 d1 b2 o2 u2 d2 m m', a1 = some ⟨b1, o1, none⟩ ∧ b1 < X.heap.size ∧ X.cell? ⟨b1, o1 + k, none⟩ = some (.slice u1 m d1) ∧ a2 = some ⟨b2, o2, none⟩ ∧ b2 < X.heap.size ∧ X.cell? ⟨b2, o2 + k, none⟩ = some (.slice u2 m' d2) ∧
      Calls Try.prog 69 #[.slice u1 m d1, .slice u2 m' d2] X fun e w' => e = .returned (.bool (eqL (nth [] R k) (nth [] Q k))) ∧ Below X.heap.size X w'))
  have HD := Lib.hid (fun k (hk : k < n1) => eqR_drop R Q k (by omega) (by omega))
  have HN : Hid (eqR (R.drop n1) (Q.drop n1) = true) := Lib.hid (by rw [List.drop_eq_nil_of_le (by omega), List.drop_eq_nil_of_le (by omega)]; rfl)
  clear h1 h2 hm1 hm2 hl1 hl2
  go_enter Try.func25, Try.ntmps25
  go_upto_region 1 with (fail)
  try rw [HX1.out]
  try rw [HX2.out]
  try rw [S1.out]
  go_wp2
  go_loopw [5] (fun i wr => ∃ k : Nat, k ≤ n1 ∧ i = .int .i64 k ∧ Hid (z = eqR (R.drop k) (Q.drop k)) ∧ FBI wr W.heap.size (.slice a1 n1 c1) x1 y1 s1 ∧ FBI wr (W.heap.size + 1) (.slice a2 n1 c2) x1 y1 s1 ∧ Below W.heap.size W wr) (fun i _ => n1 - (intOf i).toNat)
  case atStart => exact ⟨0, Nat.zero_le _, rfl, HZ, q1, z2, b2⟩
  case round =>
    obtain ⟨k, hk, rfl, hf, p1, p2, hb⟩ := hrel
    clear u0 u1 u2 u3 v0 v1 v2 v3
    obtain ⟨u0, u1, u2, u3⟩ := p1.cells
    obtain ⟨v0, v1, v2, v3⟩ := p2.cells
    have hlt := p2.lt
    by_cases hkn : k < n1
    · obtain ⟨b3, o3, u3', d3, b4, o4, u4, d4, m, m', rfl, hb3, hc3, rfl, hb4, hc4, hcall⟩ := CS.out wr.drew (hb.trans (Below.refl _ _).drew) k hkn
      have HC := Lib.hid hcall
      have HDk := Lib.hid (HD.out k hkn)
      clear hcall
      have dB : Below wr.heap.size wr wr.drew := (Below.refl _ _).drew
      go_wp2
      refine wp_region_mix2 [(true, 0), (true, 1), (true, 2), (true, 3), (true, 4), (true, 5), (true, 6), (true, 7), (true, 8), (true, 9), (false, 10), (true, 11)] (fun w' => FBI w' W.heap.size (.slice (some ⟨b3, o3, none⟩) n1 c1) x1 y1 s1 ∧ FBI w' (W.heap.size + 1) (.slice (some ⟨b4, o4, none⟩) n1 c2) x1 y1 s1 ∧ w'.cell? ⟨b3, o3 + k, none⟩ = some (.slice u3' m d3) ∧ w'.cell? ⟨b4, o4 + k, none⟩ = some (.slice u4 m' d4)) (by kernel_rfl) (by kernel_rfl) (by rfl) (by kernel_rfl) (by kernel_rfl) (fun _ _ d _ _ h => by cases d <;> exact h) ⟨p1.below dB, p2.below dB, hc3, hc4⟩ ?_
      simp only [mixL, List.getElem?_cons_succ, List.getElem?_cons_zero]
      repeat (refine' wpMix2_read (v := _) rfl ?_ ?_; rotate_left 1; (intro w' hw'; obtain ⟨j1, j2, j3, j4⟩ := hw'; obtain ⟨g0, g1, g2, g3⟩ := j1.cells; obtain ⟨k0, k1, k2, k3⟩ := j2.cells; go_simp; try with_reducible rfl); try simp only [Act.put, List.setIfInBounds_toArray, List.set_cons_zero, List.set_cons_succ])
      refine wpMix2_act (fun K hK => ?_)
      go_wp2_with fail
      refine HC.out.mono ?_
      rintro e w3 ⟨rfl, hb50⟩
      have hb5 : Below wr.heap.size wr w3 := dB.trans hb50
      have q1 := p1.below hb5
      have q2 := p2.below hb5
      have b5 := bto hb hb5 hb.size
      have hc5 : w3.cell? ⟨b3, o3 + k, none⟩ = some (.slice u3' m d3) := (hb50.cell (p := ⟨b3, _, none⟩) hb3).trans hc3
      have hc6 : w3.cell? ⟨b4, o4 + k, none⟩ = some (.slice u4 m' d4) := (hb50.cell (p := ⟨b4, _, none⟩) hb4).trans hc4
      go_wp2
      refine hK _ _ ⟨q1, q2, hc5, hc6⟩ ?_
      clear hK K
      refine' wpMix2_read (v := _) rfl ?_ ?_
      rotate_left 1
      · intro w' hw'; go_simp; try with_reducible rfl
      try simp only [Act.put, List.setIfInBounds_toArray, List.set_cons_zero, List.set_cons_succ]
      refine wpMix2_nil ?_
      clear p1 p2 hc3 hc4 hc5 hc6 u0 u1 u2 u3 v0 v1 v2 v3
      cases hq : eqL (nth [] R k) (nth [] Q k) with
      | true =>
        have HZ2 : Hid (z = eqR (R.drop (k + 1)) (Q.drop (k + 1))) := Lib.hid (by rw [hf.out, HDk.out, hq]; rfl)
        clear hq
        go_wp2
        go_roundw
        case rel => exact ⟨k + 1, hkn, by go_num, HZ2, q1, q2, b5⟩
        case measure => simp [intOf]; omega
      | false =>
        have HZ2 : Hid (z = false) := Lib.hid (by rw [hf.out, HDk.out, hq]; rfl)
        clear hq
        go_wp2
        go_ret
        exact ⟨ret_bool (HZ2.out.symm.trans HE.out.symm), b5⟩
    · obtain rfl : k = n1 := by omega
      have HZ2 : Hid (z = true) := Lib.hid (hf.out.trans HN.out)
      go_wp2
      go_ret
      exact ⟨ret_bool (HZ2.out.symm.trans HE.out.symm), hb⟩
end Go.Proofs.Ytekodpcedjpnjaa
