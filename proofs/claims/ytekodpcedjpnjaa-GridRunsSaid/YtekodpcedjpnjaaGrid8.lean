/- Scroll. -/
import Derived.Test.YtekodpcedjpnjaaGridE
import Derived.Deep.RegionHeldLaw
import Derived.Deep.DeepCutAuto
namespace Go.Proofs.Ytekodpcedjpnjaa
set_option linter.unusedVariables false
set_option linter.unusedSimpArgs false
open Go.RowKit
/-- copy(dst, src) of cells, as one step of a region that draws its order. -/
theorem step_gcopy {ops : Array Oper} {o : Oper} {a : Act} {w : World} {K : Act → World → Prop} {Q : Exit → Act → World → Prop} {E : Prop} (hgd : o.guard = none) (d s : Operand)
    (ho : o.op = .call { callee := .builtin .copy, args := #[d, s], argTypes := #[46, 46] })
    (dp sp : Option Addr) (dLen dCap sLen sCap : Nat) (hd : a.eval d = .slice dp dLen dCap) (hs : a.eval s = .slice sp sLen sCap)
    (g : Nat) (cur M : List GC) (i : Nat) (hg : GBlk w g cur) (hn : M.length = Nat.min sLen dLen)
    (hpos : 0 < M.length → (∃ off, dp = some ⟨g, off, none⟩ ∧ off = 7 * i) ∧ ∃ b so, sp = some ⟨b, so, none⟩ ∧ w.rangeAt b so (flatV M)) (hfit : i + M.length ≤ cur.length)
    (h : ∀ w', GBlk w' g (splice cur i M) → Only [g] w w' → K (a.put o.dst (goInt M.length)) w') : if Region.wanted o (yielded ops a.tmps) = true then Oper.wp Try.prog o a w K Q else E := by
  have hw : Region.wanted o (yielded ops a.tmps) = true := by simp [Region.wanted, hgd]
  rw [if_pos hw]
  by_cases h0 : M.length = 0
  · obtain rfl : M = [] := List.eq_nil_of_length_eq_zero h0
    have hrun := run_gcopy_none w o.type dp sp dLen dCap sLen sCap (by simpa using hn.symm)
    unfold Oper.wp
    simp [execOp, ho, resolve, invoke, builtin, hd, hs, hrun, Result.andThen]
    have hh := h w (by simpa [splice] using hg) (Only.refl _ _)
    exact hh
  · obtain ⟨⟨off, rfl, hoff⟩, b, so, rfl, hsrc⟩ := hpos (by omega)
    have hrun := run_gcopy w o.type g off dLen dCap b so sLen sCap cur M i hg hoff hn hsrc hfit
    unfold Oper.wp
    simp [execOp, ho, resolve, invoke, builtin, hd, hs, hrun, Result.andThen]
    exact h _ (hg.set _) ((Only.refl [g] w).setRow (.inl (by simp)) _)
def scrollL (L : List GC) (w m : Nat) : List GC := L.drop (w * m) ++ List.replicate (w * m) GC.blank
theorem scrollL_length (L : List GC) (w m : Nat) (h : w * m ≤ L.length) : (scrollL L w m).length = L.length := by simp [scrollL]; omega
theorem splice_length (L M : List GC) (i : Nat) (h : i + M.length ≤ L.length) : (splice L i M).length = L.length := by simp [splice]; omega
theorem scroll_eq (L : List GC) (x z n : Nat) (hn : L.length = n) (hx : x + z = n) : splice (splice L 0 (L.drop x)) z (List.replicate x GC.blank) = L.drop x ++ List.replicate x GC.blank := by
  have hd : (L.drop x).length = z := by simp; omega
  have h1 : splice L 0 (L.drop x) = L.drop x ++ L.drop z := by unfold splice; rw [hd]; simp
  rw [h1]
  have hB : (L.drop z).length = x := by simp; omega
  revert hd hB
  generalize L.drop x = A
  generalize L.drop z = B
  intro hd hB
  subst hd hB
  simp [splice]
theorem Only.same {W W' : World} {S : List Nat} (h1 : W'.os = W.os) (h2 : W'.tape = W.tape) (h3 : W'.output = W.output) (h4 : W'.heap = W.heap) : Only S W W' := ⟨h1, h2, h3, by rw [h4]; exact Nat.le_refl _, fun _ _ _ => by rw [h4]⟩
theorem Only.undrew {W W0 W' : World} {S : List Nat} (o : Only S W0 W') (h1 : W0.os = W.os) (h2 : W0.tape = W.tape) (h3 : W0.output = W.output) (h4 : W0.heap = W.heap) : Only S W W' := (Only.same h1 h2 h3 h4).trans o
theorem GBlk.drew {W W0 : World} {q : Nat} {L : List GC} (b : GBlk W q L) (h4 : W0.heap = W.heap) : GBlk W0 q L := by unfold GBlk at b ⊢; rw [h4]; exact b
theorem rangeAt_rest {W : World} {q : Nat} {L : List GC} (hb : GBlk W q L) (o off : Nat) (ho : off = 7 * o) : W.rangeAt q off (flatV (L.drop o)) := by
  subst ho
  have := hb.range o L.length
  rwa [List.take_of_length_le (by simp)] at this
theorem GBlk.range_all {W : World} {q : Nat} {L : List GC} (hb : GBlk W q L) : W.rangeAt q 0 (flatV L) := by
  have := rangeAt_rest hb 0 0 rfl
  simpa using this
theorem GridAt.cellsN {W W' : World} {p q w h N : Nat} {L : List GC} {S : List Nat} (g : GridAt W p q w h L) (hN : N = w * h) (ho : Only S W W') (hp : p ∉ S) :
    W'.cell? ⟨p, 0, none⟩ = some (.int .i64 w) ∧ W'.cell? ⟨p, 1, none⟩ = some (.int .i64 h) ∧ W'.cell? ⟨p, 2, none⟩ = some (.slice (some ⟨q, 0, none⟩) N N) := by
  subst hN
  have := ho.heap g.head hp
  refine ⟨?_, ?_, ?_⟩ <;> rw [cell_of_row W' p _ _ _ _ this] <;> rfl
set_option maxRecDepth 100000 in
set_option maxHeartbeats 2000000 in
theorem scroll_any {W : World} {p q w t : Nat} {L : List GC} (g : GridAt W p q w t L) (n : Int) (m : Nat) (hm : (m : Int) = max 0 (min n t)) :
    Calls Try.prog 14 #[.pointer (some ⟨p, 0, none⟩), .int .i64 n] W fun e w' => e = .returned (.int .i64 m) ∧ GridAt w' p q w t (scrollL L w m) ∧ Only [q] W w' := by
  obtain ⟨c0, c1, c2⟩ := g.cells
  have hlen := g.len
  have hmh : m ≤ t := by omega
  obtain ⟨N, hN⟩ : ∃ N, N = w * t := ⟨_, rfl⟩
  obtain ⟨x, hx⟩ : ∃ x, x = w * m := ⟨_, rfl⟩
  obtain ⟨z, hz⟩ : ∃ z, z = w * (t - m) := ⟨_, rfl⟩
  have hxz : x + z = N := by rw [hx, hz, hN, ← Nat.mul_add]; congr 1; omega
  have hNb : N ≤ 250000 := by rw [hN]; exact Nat.mul_le_mul g.w2 g.h2
  have hh := g.h2
  have i1 : (m : Int) * (w : Int) = (x : Int) := by rw [hx, Int.natCast_mul, Int.mul_comm]
  have i2 : ((t : Int) - (m : Int)) * (w : Int) = (z : Int) := by rw [hz, Int.natCast_mul, Int.mul_comm]; congr 1; omega
  have m1 : IntKind.i64.wrap ((m : Int) * (w : Int)) = (x : Int) := by rw [i1, IntKind.wrap_i64]; omega
  have m2 : IntKind.i64.wrap ((t : Int) - (m : Int)) = (t : Int) - (m : Int) := by rw [IntKind.wrap_i64]; omega
  have m3 : IntKind.i64.wrap (((t : Int) - (m : Int)) * (w : Int)) = (z : Int) := by rw [i2, IntKind.wrap_i64]; omega
  have hS : scrollL L w m = L.drop x ++ List.replicate x GC.blank := by unfold scrollL; rw [← hx]
  rw [← hN] at c2 hlen
  rw [hS]
  have hxN : x ≤ N := by omega
  have hzN : z ≤ N := by omega
  have HX := Lib.hid hx
  have HN := Lib.hid hN
  have HM := Lib.hid hm
  have CM := Lib.hid (made_any g)
  have CB := Lib.hid (fun W => blanks_any (x : Int) (by omega) (by omega) W)
  have hpq := g.ne
  clear hx hz hN i1 i2 hS hm
  go_enter Try.func14, Try.ntmps14
  go_upto_region 3 with (go_at_call 53; refine (CM.out).mono ?_; rintro e w1 ⟨rfl, rfl⟩)
  go_cut [1] (fun v wx => v = .int .i64 m ∧ wx = W)
  case first =>
    have hm := HM.out
    go_wp2
    all_goals (go_meet; exact ⟨congrArg (Value.int _) (by omega), rfl⟩)
  case rest =>
    obtain ⟨rfl, rfl⟩ := hcut
    have hN1 : 1 ≤ N := by rw [HN.out]; exact Nat.mul_le_mul g.w1 g.h1
    by_cases hxe : x = N
    · obtain rfl := hxe
      have hze : ¬ x = z := by omega
      go_wp2
      have b0 := g.blk
      have hd : (L.drop x).length = x - x := by simp; omega
      go_region_held_law (fun w' => w'.cell? ⟨p, 0, none⟩ = some (.int .i64 w) ∧ w'.cell? ⟨p, 1, none⟩ = some (.int .i64 t) ∧ w'.cell? ⟨p, 2, none⟩ = some (.slice (some ⟨q, 0, none⟩) x x)) (first | assumption | go_keep)
        ((refine step_gcopy rfl _ _ rfl _ _ _ _ _ _ rfl rfl q L (L.drop x) 0 ?_ ?_ ?_ ?_ ?_; exact b0.drew rfl; (rw [hd]; show _ = min _ _; omega); exact (fun hp => ⟨⟨_, rfl, by omega⟩, q, x * 7, by first | rfl | (exfalso; omega) | rw [if_neg (by omega)], rangeAt_rest (b0.drew rfl) x (x * 7) (by omega)⟩); omega; (intro w3 b3 o3; have hS3 := g.cellsN HN.out (o3.undrew rfl rfl rfl rfl) (by simp; exact hpq))))
      have o3' : Only [q] wc w3 := o3.undrew rfl rfl rfl rfl
      have l3 : (splice L 0 (L.drop x)).length = x := by rw [splice_length _ _ _ (by omega)]; exact hlen
      obtain ⟨L3, hL3⟩ : ∃ L3, L3 = splice L 0 (L.drop x) := ⟨_, rfl⟩
      rw [← hL3] at b3 l3
      have HL3 := Lib.hid hL3
      have lr : (List.replicate x GC.blank).length = x := by simp
      obtain ⟨R, hR⟩ : ∃ R, R = List.replicate x GC.blank := ⟨_, rfl⟩
      have HR := Lib.hid hR
      rw [← hR] at lr
      clear hL3 hR c0 c1 c2 o3
      go_wp2
      go_region_held_law (fun w' => w'.cell? ⟨p, 0, none⟩ = some (.int .i64 w) ∧ w'.cell? ⟨p, 1, none⟩ = some (.int .i64 t) ∧ w'.cell? ⟨p, 2, none⟩ = some (.slice (some ⟨q, 0, none⟩) x x)) (first | assumption | go_keep)
        (first
          | (go_at_call 48; refine (CB.out _).mono ?_; rintro e w4 ⟨rfl, hb4, hl4⟩; simp only [Int.toNat_natCast] at hb4; have o4 := o3'.trans ((Only.of_below (S := [q]) hl4).undrew rfl rfl rfl rfl); have hS4 := g.cellsN HN.out o4 (by simp; exact hpq))
          | (refine step_gcopy rfl _ _ rfl _ _ _ _ _ _ rfl rfl q L3 R z ?_ ?_ ?_ ?_ ?_; exact b3.only ((Only.of_below (S := []) hl4).undrew rfl rfl rfl rfl) (by simp); (rw [lr]; show _ = min _ _; omega); exact (fun hp => ⟨⟨z * 7, by first | rfl | (exfalso; omega) | rw [if_neg (by omega)], by omega⟩, _, 0, rfl, by rw [HR.out]; exact hb4.range_all⟩); omega; (intro w5 b5 o5; have hS5 := g.cellsN HN.out (o4.trans o5) (by simp; exact hpq))))
      go_wp2
      go_ret
      rw [HL3.out, HR.out, scroll_eq L x z x hlen hxz] at b5
      have o6 := o4.trans o5
      exact ⟨rfl, g.step o6 b5 (by simp; omega), o6⟩
    · have hxe2 : ¬ N = x := fun h => hxe h.symm
      by_cases hze : z = N
      · obtain rfl := hze
        go_wp2
        have b0 := g.blk
        have hd : (L.drop x).length = z - x := by simp; omega
        go_region_held_law (fun w' => w'.cell? ⟨p, 0, none⟩ = some (.int .i64 w) ∧ w'.cell? ⟨p, 1, none⟩ = some (.int .i64 t) ∧ w'.cell? ⟨p, 2, none⟩ = some (.slice (some ⟨q, 0, none⟩) z z)) (first | assumption | go_keep)
          ((refine step_gcopy rfl _ _ rfl _ _ _ _ _ _ rfl rfl q L (L.drop x) 0 ?_ ?_ ?_ ?_ ?_; exact b0.drew rfl; (rw [hd]; show _ = min _ _; omega); exact (fun hp => ⟨⟨_, rfl, by omega⟩, q, x * 7, by first | rfl | (exfalso; omega) | rw [if_neg (by omega)], rangeAt_rest (b0.drew rfl) x (x * 7) (by omega)⟩); omega; (intro w3 b3 o3; have hS3 := g.cellsN HN.out (o3.undrew rfl rfl rfl rfl) (by simp; exact hpq))))
        have o3' : Only [q] wc w3 := o3.undrew rfl rfl rfl rfl
        have l3 : (splice L 0 (L.drop x)).length = z := by rw [splice_length _ _ _ (by omega)]; exact hlen
        obtain ⟨L3, hL3⟩ : ∃ L3, L3 = splice L 0 (L.drop x) := ⟨_, rfl⟩
        rw [← hL3] at b3 l3
        have HL3 := Lib.hid hL3
        have lr : (List.replicate x GC.blank).length = x := by simp
        obtain ⟨R, hR⟩ : ∃ R, R = List.replicate x GC.blank := ⟨_, rfl⟩
        have HR := Lib.hid hR
        rw [← hR] at lr
        clear hL3 hR c0 c1 c2 o3
        go_wp2
        go_region_held_law (fun w' => w'.cell? ⟨p, 0, none⟩ = some (.int .i64 w) ∧ w'.cell? ⟨p, 1, none⟩ = some (.int .i64 t) ∧ w'.cell? ⟨p, 2, none⟩ = some (.slice (some ⟨q, 0, none⟩) z z)) (first | assumption | go_keep)
          (first
            | (go_at_call 48; refine (CB.out _).mono ?_; rintro e w4 ⟨rfl, hb4, hl4⟩; simp only [Int.toNat_natCast] at hb4; have o4 := o3'.trans ((Only.of_below (S := [q]) hl4).undrew rfl rfl rfl rfl); have hS4 := g.cellsN HN.out o4 (by simp; exact hpq))
            | (refine step_gcopy rfl _ _ rfl _ _ _ _ _ _ rfl rfl q L3 R z ?_ ?_ ?_ ?_ ?_; exact b3.only ((Only.of_below (S := []) hl4).undrew rfl rfl rfl rfl) (by simp); (rw [lr]; show _ = min _ _; omega); exact (fun hp => ⟨⟨z * 7, by first | rfl | (exfalso; omega) | rw [if_neg (by omega)], by omega⟩, _, 0, rfl, by rw [HR.out]; exact hb4.range_all⟩); omega; (intro w5 b5 o5; have hS5 := g.cellsN HN.out (o4.trans o5) (by simp; exact hpq))))
        go_wp2
        go_ret
        rw [HL3.out, HR.out, scroll_eq L x z z hlen hxz] at b5
        have o6 := o4.trans o5
        exact ⟨rfl, g.step o6 b5 (by simp; omega), o6⟩
      · have hze2 : ¬ N = z := fun h => hze h.symm
        go_wp2
        have b0 := g.blk
        have hd : (L.drop x).length = N - x := by simp; omega
        go_region_held_law (fun w' => w'.cell? ⟨p, 0, none⟩ = some (.int .i64 w) ∧ w'.cell? ⟨p, 1, none⟩ = some (.int .i64 t) ∧ w'.cell? ⟨p, 2, none⟩ = some (.slice (some ⟨q, 0, none⟩) N N)) (first | assumption | go_keep)
          ((refine step_gcopy rfl _ _ rfl _ _ _ _ _ _ rfl rfl q L (L.drop x) 0 ?_ ?_ ?_ ?_ ?_; exact b0.drew rfl; (rw [hd]; show _ = min _ _; omega); exact (fun hp => ⟨⟨_, rfl, by omega⟩, q, x * 7, by first | rfl | (exfalso; omega) | rw [if_neg (by omega)], rangeAt_rest (b0.drew rfl) x (x * 7) (by omega)⟩); omega; (intro w3 b3 o3; have hS3 := g.cellsN HN.out (o3.undrew rfl rfl rfl rfl) (by simp; exact hpq))))
        have o3' : Only [q] wc w3 := o3.undrew rfl rfl rfl rfl
        have l3 : (splice L 0 (L.drop x)).length = N := by rw [splice_length _ _ _ (by omega)]; exact hlen
        obtain ⟨L3, hL3⟩ : ∃ L3, L3 = splice L 0 (L.drop x) := ⟨_, rfl⟩
        rw [← hL3] at b3 l3
        have HL3 := Lib.hid hL3
        have lr : (List.replicate x GC.blank).length = x := by simp
        obtain ⟨R, hR⟩ : ∃ R, R = List.replicate x GC.blank := ⟨_, rfl⟩
        have HR := Lib.hid hR
        rw [← hR] at lr
        clear hL3 hR c0 c1 c2 o3
        go_wp2
        go_region_held_law (fun w' => w'.cell? ⟨p, 0, none⟩ = some (.int .i64 w) ∧ w'.cell? ⟨p, 1, none⟩ = some (.int .i64 t) ∧ w'.cell? ⟨p, 2, none⟩ = some (.slice (some ⟨q, 0, none⟩) N N)) (first | assumption | go_keep)
          (first
            | (go_at_call 48; refine (CB.out _).mono ?_; rintro e w4 ⟨rfl, hb4, hl4⟩; simp only [Int.toNat_natCast] at hb4; have o4 := o3'.trans ((Only.of_below (S := [q]) hl4).undrew rfl rfl rfl rfl); have hS4 := g.cellsN HN.out o4 (by simp; exact hpq))
            | (refine step_gcopy rfl _ _ rfl _ _ _ _ _ _ rfl rfl q L3 R z ?_ ?_ ?_ ?_ ?_; exact b3.only ((Only.of_below (S := []) hl4).undrew rfl rfl rfl rfl) (by simp); (rw [lr]; show _ = min _ _; omega); exact (fun hp => ⟨⟨z * 7, by first | rfl | (exfalso; omega) | rw [if_neg (by omega)], by omega⟩, _, 0, rfl, by rw [HR.out]; exact hb4.range_all⟩); omega; (intro w5 b5 o5; have hS5 := g.cellsN HN.out (o4.trans o5) (by simp; exact hpq))))
        go_wp2
        go_ret
        rw [HL3.out, HR.out, scroll_eq L x z N hlen hxz] at b5
        have o6 := o4.trans o5
        exact ⟨rfl, g.step o6 b5 (by simp; omega), o6⟩
end Go.Proofs.Ytekodpcedjpnjaa
