/- The law FrameChecks: the iterator over the rows' texts. No condition but that the rows' texts are not too long. -/
import Derived.Test.YtekodpcedjpnjaaFK2
import Derived.Test.YtekodpcedjpnjaaFChk2
import Derived.Test.YtekodpcedjpnjaaRangeX
import Derived.Test.YtekodpcedjpnjaaClus6
namespace Go.Proofs.Ytekodpcedjpnjaa
set_option linter.unusedVariables false
set_option linter.unusedSimpArgs false
open Go.RowKit Go.Shelf Go.Maps
attribute [local go_sem] Oper.semAt_some
/-- All blocks ahead of a number stand. -/
structure LowK (n : Nat) (A B : World) : Prop where
  b : ∀ k, k < n → B.heap[k]? = A.heap[k]?
  size : A.heap.size ≤ B.heap.size
theorem LowK.refl (n : Nat) (A : World) : LowK n A A := ⟨fun _ _ => rfl, Nat.le_refl _⟩
theorem LowK.trans {n : Nat} {A B C : World} (h : LowK n A B) (k : LowK n B C) : LowK n A C := ⟨fun j hj => (k.b j hj).trans (h.b j hj), Nat.le_trans h.size k.size⟩
theorem LowK.of_below {n m : Nat} {A B : World} (h : Below m A B) (hn : n ≤ m) : LowK n A B := ⟨fun k hk => h.block k (by omega), h.size⟩
theorem LowK.put {n : Nat} {w : World} (hn : n ≤ w.heap.size) (W : World) (l : Nat) (o o' : Obj) (hl : w.heap.size ≤ l) (h : W.heap[l]? = some o) (h1 : o.isCells = false) (h2 : o.isWalk = false) : LowK n W (W.putObj l o') :=
  ⟨fun k hk => World.putObj_heap_other (by omega), by simp [World.putObj]⟩
theorem cellLow {W X : World} {k j : Nat} (h : X.heap[k]? = W.heap[k]?) : X.cell? ⟨k, j, none⟩ = W.cell? ⟨k, j, none⟩ := by
  unfold World.cell?
  dsimp only
  rw [h]
theorem CellsAt.low {V W : World} {a : Option Addr} {n : Nat} {M : List GC} (h : CellsAt V a n M) (hk : LowK V.heap.size V W) : CellsAt W a n M :=
  ⟨h.len, fun i c hi => by
    obtain ⟨b, off, e1, e2, e3⟩ := h.at_ i c hi
    exact ⟨b, off, e1, Nat.lt_of_lt_of_le e2 hk.size, fun j v hv => (cellLow (hk.b b e2)).trans (e3 j v hv)⟩⟩
theorem RowsAt.low {V W : World} {a : Option Addr} {n : Nat} {R : List (List GC)} (h : RowsAt V a n R) (hk : LowK V.heap.size V W) : RowsAt W a n R :=
  ⟨h.len, fun i M hi => by
    obtain ⟨b, off, a2, c2, e1, e2, e3, e4, e5⟩ := h.at_ i M hi
    exact ⟨b, off, a2, c2, e1, Nat.lt_of_lt_of_le e2 hk.size, (cellLow (hk.b b e2)).trans e3, e4, e5.low hk⟩⟩
theorem call09_any (v : Value) (r c : Int) (s : Bool) (w : World) : Calls Try.prog 71 #[.agg #[v, .int .i64 r, .int .i64 c, .bool s]] w fun e w' => e = .returned (.func (.func 95) #[] #[.pointer (some ⟨w.heap.size, 0, none⟩)]) ∧ w.alloc (.cells #[v, .int .i64 r, .int .i64 c, .bool s] 51) = w' := by
  go_enter Try.func71, Try.ntmps71
  go_wp2
  go_ret
  exact ⟨rfl, rfl⟩
def encT (R : List (List GC)) (i : Nat) : Array Value := #[.int .i64 (i : Nat), .string (S (lineT (nth [] R i)))]
set_option maxRecDepth 100000 in
set_option maxHeartbeats 8000000 in
theorem texts_seq {V w0 : World} {a : Option Addr} {n cap : Nat} {R : List (List GC)} (hR : RowsAt V a n R) (hV : LowK V.heap.size V w0) (hn : n ≤ 1000) (hs : ∀ M ∈ R, M.length ≤ 1000 ∧ (lineT M).length ≤ 2000000) (r c : Int) (s : Bool)
    {p : Nat} (z : FBI w0 p (.slice a n cap) r c s) (mm : Nat) (hm : 1 ≤ mm) :
    SeqX Fence.wide mm Try.prog 95 #[.pointer (some ⟨p, 0, none⟩)] (encT R) (LowK V.heap.size) (fun pre x _ => x = pre.length ∧ x < n) (fun ys => ys = List.range n) (fun pre => pre <+: List.range n) n w0 := by
  intro L J Jx W hW0 hJ hJx hY h0
  have hl := hR.len
  have zW := z.below hW0
  have hVW := hV.trans (LowK.of_below hW0 hV.size)
  have HR := Lib.hid hR
  have HS := Lib.hid hs
  obtain ⟨u0, u1, u2, u3⟩ := zW.cells
  clear hW0 hR hs z
  refine callsIn_of_wp Try.func95 rfl trivial ?_ rfl
  simp only [Try.ntmps95, List.size_toArray, List.length_cons, List.length_nil, Nat.reduceAdd, Nat.reduceSub, Array.replicate_succ, Array.replicate_zero, List.push_toArray, List.append_toArray, List.nil_append, List.cons_append]
  gi_wp2
  gi_loopw [11] (fun i wr => ∃ k : Nat, k ≤ n ∧ i = .int .i64 k ∧ J (List.range k) wr ∧ LowK V.heap.size V wr) (fun i _ => n - (intOf i).toNat)
  case atStart => exact ⟨0, Nat.zero_le _, rfl, h0, hVW⟩
  case round =>
    obtain ⟨k, hk, rfl, hJs, hlow⟩ := hrel
    by_cases hlt : k < n
    · obtain ⟨M, hM⟩ : ∃ M, M = nth [] R k := ⟨_, rfl⟩
      have hM' : R[k]? = some M := by rw [hM, nth_eq _ _ _ (by omega)]; exact List.getElem?_eq_getElem (by omega)
      obtain ⟨b, off, a2, c2, rfl, hbl, hc0, _, hcell⟩ := (HR.out.low hlow).at_ k M hM'
      obtain ⟨hm1, hm2⟩ := HS.out M (List.mem_of_getElem? hM')
      obtain ⟨m, hmm⟩ : ∃ m, m = M.length := ⟨_, rfl⟩
      rw [← hmm] at hc0 hcell hm1
      obtain ⟨wo, hwo⟩ : ∃ x, x = wr := ⟨_, rfl⟩
      subst hwo
      have hki : (k : Int) < (n : Int) := by omega
      have HC := Lib.hid hcell
      have HMM := Lib.hid hmm
      have HM := Lib.hid hM
      have hVo := hlow.size
      clear hM hM' hcell hmm
      have bX : Below wo.heap.size wo (wo.alloc (.cells #[.pointer none, .slice none 0 0] 146)) := (Below.refl _ _).alloc (Nat.le_refl _) _
      have sb : SBx (wo.heap.size + 1) wo.heap.size (wo.alloc (.cells #[.pointer none, .slice none 0 0] 146)) [] := SBx.new (World.alloc_heap_new wo _) (by omega) (by simp)
      obtain ⟨X, hX⟩ : ∃ X, wo.alloc (.cells #[.pointer none, .slice none 0 0] 146) = X := ⟨_, rfl⟩
      rw [hX] at bX sb
      have HX := Lib.hid hX
      clear hX
      gi_wp2
      rw [HX.out]
      gi_loopw [18] (fun q wx => ∃ t : Nat, t ≤ m ∧ q = .int .i64 t ∧ SBx (wo.heap.size + 1) wo.heap.size wx (lineT (M.take t)) ∧ Below wo.heap.size wo wx) (fun q _ => m - (intOf q).toNat)
      case atStart => exact ⟨0, Nat.zero_le _, rfl, sb, bX⟩
      case round =>
        obtain ⟨t, ht, rfl, sx, hbx⟩ := hrel
        by_cases hlt2 : t < m
        · obtain ⟨C, hC⟩ : ∃ C, C = nth GC.zero M t := ⟨_, rfl⟩
          have hMl := HMM.out
          have hC' : M[t]? = some C := by rw [hC, nth_eq _ _ _ (by omega)]; exact List.getElem?_eq_getElem (by omega)
          obtain ⟨b1, o1, rfl, hb1, r1⟩ := (HC.out.below hbx).at_ t C hC'
          have HT := Lib.hid (lineT_take M t (by omega))
          rw [← hC] at HT
          have hsz := Nat.le_trans (lineT_mem (List.mem_of_getElem? hC')) hm2
          have hLt := Nat.le_trans (lineT_le M t) hm2
          obtain ⟨x0, x1, x2, x3, x4, x5, x6⟩ := vals_at r1
          obtain ⟨⟨cs⟩, cw, cy⟩ := C
          dsimp only at x0 x1 x2 x3 x4 x5 x6 HT hsz
          have g1 : GBlk (wr.alloc (.cells #[.string ⟨cs⟩, .int .i64 cw, .bool cy.b, .bool cy.u, .bool cy.i, .int .i64 cy.f, .int .i64 cy.g] 70)) wr.heap.size [⟨⟨cs⟩, cw, cy⟩] := GBlk.made wr [⟨⟨cs⟩, cw, cy⟩]
          have hb1x : Below wr.heap.size wr (wr.alloc (.cells #[.string ⟨cs⟩, .int .i64 cw, .bool cy.b, .bool cy.u, .bool cy.i, .int .i64 cy.f, .int .i64 cy.g] 70)) := (Below.refl _ _).alloc (Nat.le_refl _) _
          obtain ⟨X1, hX1⟩ : ∃ X, wr.alloc (.cells #[.string ⟨cs⟩, .int .i64 cw, .bool cy.b, .bool cy.u, .bool cy.i, .int .i64 cy.f, .int .i64 cy.g] 70) = X := ⟨_, rfl⟩
          rw [hX1] at g1 hb1x
          have HX1 := Lib.hid hX1
          have gr := g1.range1 (i := 0) (c := ⟨⟨cs⟩, cw, cy⟩) rfl
          rw [Nat.mul_zero] at gr
          obtain ⟨y0, _⟩ := vals_at gr
          have CW := (sx.below hb1x).write cs.toList (by
            have : cs.toList.length = (ByteArray.mk cs).size := by rw [Array.length_toList]; rfl
            omega)
          rw [show S cs.toList = (⟨cs⟩ : ByteArray) from S_list ⟨cs⟩] at CW
          have CW := Lib.hid CW
          have hti : (t : Int) < (m : Int) := by omega
          have hwx := hbx.size
          clear hX1 hC hC' r1 gr g1 hMl
          gi_wp2_with (first
            | (rw [HX1.out])
            | (refine ⟨trivial, ?_⟩; gi_at_call 96; refine (callsIn_wide.2 (CW.out)).mono ?_; rintro e w3 ⟨rfl, sb3, but3, _⟩))
          go_roundw
          case rel => exact ⟨t + 1, hlt2, by go_num, by rw [HT.out]; exact sb3, (hbx.trans (hb1x.mono hwx)).trans (but3.below (by omega) (Nat.le_refl _))⟩
          case measure => simp [intOf]; omega
        · obtain rfl : t = m := by omega
          have hML : M.take t = M := List.take_of_length_le (by rw [← HMM.out]; exact Nat.le_refl _)
          rw [hML] at sx
          have CS := Lib.hid sx.string
          have hwx := hbx.size
          clear hML
          gi_wp2_with (refine ⟨trivial, ?_⟩; gi_at_call 97; refine (callsIn_wide.2 (CS.out)).mono ?_; rintro e w4 ⟨rfl, hb4, _⟩; have hb5 : Below wo.heap.size wo w4 := hbx.trans (hb4.mono (by omega)); obtain ⟨fn, tmps, assign, body, hy, hR4⟩ := hY (List.range k) k w4 (hJ _ _ _ none hJs (grown_of_below hb5) (fun r e => by cases e)) ⟨by simp, hlt⟩ (by rw [List.length_range]; exact hlt); dsimp only [encT] at hy; rw [← HM.out] at hy)
          refine hR4.mono ?_
          have hlow4 := hlow.trans (LowK.of_below hb5 hVo)
          rintro e W3 (⟨rfl, hJ3, hk3⟩ | ⟨rfl, hJx3⟩)
          · gi_wp2
            go_roundw
            case rel => exact ⟨k + 1, by omega, by go_num, by rw [List.range_succ]; exact hJ3, hlow4.trans hk3⟩
            case measure => simp [intOf]; omega
          · gi_wp2
            refine bodyPost_ret (results_none rfl _ _ _) rfl ?_
            exact ⟨⟨_, rfl⟩, .inr ⟨List.range (k + 1), range_prefix (by omega), by rw [List.range_succ]; exact hJx3⟩⟩
    · obtain rfl : k = n := by omega
      gi_wp2
      go_end0
      exact ⟨⟨_, rfl⟩, .inl ⟨_, rfl, hJs⟩⟩
end Go.Proofs.Ytekodpcedjpnjaa
