/- A frame handed in: its rows of cells, and that none of its strings is longer than what is read is great. No condition. The last step of a law's row, once for all: a call that hands back true and leaves all that was there as it was meets the row's post. No condition. The law RegionCosts, as its statement hands it what it reads. No condition but on the lengths of strings. -/
import Derived.Test.YtekodpcedjpnjaaGreatRows
import Derived.WalkKit
import Derived.ProofKit
import Derived.OpenShut
import Derived.Test.YtekodpcedjpnjaaGreatRC23
import Derived.Test.YtekodpcedjpnjaaGreatRC51
set_option linter.unusedVariables false
set_option linter.unusedSimpArgs false
namespace Go.Proofs.YtekodpcedjpnjaaGreat
open Go.ChangeShapes Go.WideShapes Go.Deep Go.RowKit Go.Maps
theorem bulk_mem {H : Type} {d : DataW H} : ∀ {ds : List (DataW H)}, d ∈ ds → Rows.uptoBulk d ≤ Rows.uptoBulkAll ds
  | x :: r, h => by
    simp only [Rows.uptoBulkAll]
    rcases List.mem_cons.1 h with rfl | h
    · omega
    · have := bulk_mem h; omega
section
variable {H : Type} {enc : TypeId × Value → H} {P : Program} {w : World} {base : Nat} {spare : Nat → Bool} {held : Bool}
theorem first_small {t : TypeId} {f0 : Field} {fs : Array Field} {fuel : Nat} {cs : List Value} {x : DataW H × List MemPlace} (ht : P.underlying t = some (.struct fs)) (hf : fs[0]? = some f0) (ho : f0.offset = 0) (hk : P.cellsOf f0.type = 1) (hu : P.underlying f0.type = some .string)
    (h : DataW.trod enc P w base spare held fuel t cs = some x) : ∀ s : ByteArray, cs[0]? = some (.string s) → s.size ≤ Rows.uptoBulk x.1 := by
  intro s hs
  obtain ⟨xs, m, _, rfl, _, hlen, hx⟩ := DataW.trod_struct ht h
  have h1 := hx 0 f0 hf
  have h2 : 0 < xs.length := by
    have := (Array.getElem?_eq_some_iff.1 hf).1
    omega
  rw [ho, hk, List.drop_zero, List.getElem?_eq_getElem h2] at h1
  obtain ⟨v, hv, hy, _⟩ := DataW.trod_string hu h1
  cases cs with
  | nil => simp at hs
  | cons c r =>
    simp only [List.getElem?_cons_zero, Option.some.injEq] at hs
    subst hs
    simp only [List.take_succ_cons, List.take_zero, List.cons.injEq, and_true, Value.string.injEq] at hv
    subst hv
    have h3 : xs[0].1 ∈ xs.map (·.1) := List.mem_map_of_mem (List.getElem_mem _)
    have h4 := bulk_mem h3
    rw [hy] at h4
    simp only [Rows.uptoBulk] at h4 ⊢
    rw [Array.length_toList, ByteArray.size_data] at h4
    omega
theorem elem_small {t e : TypeId} {fuel : Nat} {a : Addr} {len cap : Nat} {x : DataW H × List MemPlace} (ht : P.underlying t = some (.slice e))
    (h : DataW.trod enc P w base spare held fuel t [.slice (some a) len cap] = some x) : ∀ i, i < len → ∃ n cs y, w.cells? base (a.add (i * P.cellsOf e)) (P.cellsOf e) = some cs ∧ DataW.trod enc P w base spare held n e cs = some y ∧ Rows.uptoBulk y.1 ≤ Rows.uptoBulk x.1 := by
  intro i hi
  rcases DataW.trod_slice ht h with ⟨h0, _⟩ | ⟨a', len', cap', elems, rest, n, _, hc, rfl, _, _, _, hel, hx, _, _⟩
  · simp at h0
  · simp only [List.cons.injEq, Value.slice.injEq, Option.some.injEq, and_true] at hc
    obtain ⟨rfl, rfl, rfl⟩ := hc
    have h1 := hx i hi
    have hi' : i < elems.length := by omega
    rw [List.getElem?_eq_getElem hi'] at h1
    obtain ⟨cs, h2, h3⟩ := Option.bind_eq_some_iff.1 h1
    refine ⟨n, cs, _, h2, h3, ?_⟩
    have h4 : elems[i].1 ∈ elems.map (·.1) := List.mem_map_of_mem (List.getElem_mem _)
    have := bulk_mem h4
    simp only [Rows.uptoBulk]
    omega
theorem rows_small {t e c : TypeId} {f0 : Field} {fs : Array Field} {fuel : Nat} {a : Option Addr} {len cap : Nat} {x : DataW H × List MemPlace} {R : List (List GC)} (ht : P.underlying t = some (.slice e)) (he : P.underlying e = some (.slice c)) (hce : P.cellsOf e = 1) (hcc : P.cellsOf c = 7)
    (hc : P.underlying c = some (.struct fs)) (hf : fs[0]? = some f0) (ho : f0.offset = 0) (hk : P.cellsOf f0.type = 1) (hu : P.underlying f0.type = some .string)
    (h : DataW.trod enc P w base spare held fuel t [.slice a len cap] = some x) (hR : RowsAt w a len R) : ∀ M ∈ R, ∀ c ∈ M, c.s.size ≤ Rows.uptoBulk x.1 := by
  intro M hM k hk'
  obtain ⟨hl, hp⟩ := hR
  obtain ⟨i, hi, rfl⟩ := List.mem_iff_getElem.1 hM
  obtain ⟨b, off, a2, c2, rfl, _, h1, _, h2⟩ := hp i _ (List.getElem?_eq_getElem hi)
  obtain ⟨n, cs, y, h3, h4, h5⟩ := elem_small ht h i (by omega)
  rw [hce, Nat.mul_one, add_plain] at h3
  have h6 : cs = [.slice a2 R[i].length c2] := by
    obtain ⟨_, hlen, hcell⟩ := World.cells?_some h3
    match cs, hlen with
    | [v], _ =>
      have := cell_of_cells?_one h3
      rw [h1] at this
      simp only [Option.some.injEq] at this
      rw [this]
  subst h6
  obtain ⟨j, hj, rfl⟩ := List.mem_iff_getElem.1 hk'
  obtain ⟨_, hq⟩ := h2
  obtain ⟨b2, off2, rfl, _, h7⟩ := hq j _ (List.getElem?_eq_getElem hj)
  obtain ⟨n2, cs2, y2, h8, h9, h10⟩ := elem_small he h4 j (by omega)
  rw [hcc, add_plain] at h8
  have h11 : cs2[0]? = some (.string R[i][j].s) := by
    obtain ⟨_, hlen, hcell⟩ := World.cells?_some h8
    rw [← hcell 0 (by omega), add_plain]
    exact h7 0 _ rfl
  have := first_small hc hf ho hk hu h9 _ h11
  omega
theorem open_frameS {t e c : TypeId} {f0 f1 f2 f3 g0 : Field} {n : Nat} {fs : Array Field} {cs : Array Value} {d : DataW H} {ps : List MemPlace} (ht : P.underlying t = some (.struct #[f0, f1, f2, f3])) (hct : P.cellsOf t = 4)
    (o0 : f0.offset = 0) (o1 : f1.offset = 1) (o2 : f2.offset = 2) (o3 : f3.offset = 3) (u0 : P.underlying f0.type = some (.slice e)) (u1 : P.underlying f1.type = some (.int .i64)) (u2 : P.underlying f2.type = some (.int .i64)) (u3 : P.underlying f3.type = some .bool)
    (k0 : P.cellsOf f0.type = 1) (k1 : P.cellsOf f1.type = 1) (k2 : P.cellsOf f2.type = 1) (k3 : P.cellsOf f3.type = 1)
    (he : P.underlying e = some (.slice c)) (hce : P.cellsOf e = 1) (hf : flatOf P n c = some cellFlat) (hc : P.cellsOf c = 7)
    (hcu : P.underlying c = some (.struct fs)) (hg : fs[0]? = some g0) (hgo : g0.offset = 0) (hgk : P.cellsOf g0.type = 1) (hgu : P.underlying g0.type = some .string)
    (h : DataW.Trod enc P w base spare held t (.agg cs) d ps) : ∃ a len cap r c s R, cs = #[.slice a len cap, .int .i64 r, .int .i64 c, .bool s] ∧ RowsAt w a len R ∧ len ≤ maxLen ∧ len ≤ cap ∧ cap ≤ maxLen ∧ (∀ M ∈ R, ∀ c ∈ M, c.s.size ≤ Rows.uptoBulk d) := by
  obtain ⟨fuel, h⟩ := h
  obtain ⟨a, len, cap, r, c', s, hcs, hr, _, _⟩ := open_frame (ti := t) (tb := t) (d := d) (ps := ps) ht hct o0 o1 o2 o3 u0 u1 u2 u3 k0 k1 k2 k3 he hce hf hc (by decide) h
  obtain ⟨R, hR⟩ := rowsAt_of hr
  obtain ⟨l⟩ := cs
  simp only [Value.cells] at hcs
  have hl : l = [.slice a len cap, .int .i64 r, .int .i64 c', .bool s] := hcs
  subst hl
  refine ⟨a, len, cap, r, c', s, R, rfl, hR, Nat.le_trans hr.1 hr.2.1, hr.1, hr.2.1, ?_⟩
  obtain ⟨xs, m, _, hxe, _, hlen, hx⟩ := DataW.trod_struct ht h
  have h1 := hx 0 f0 rfl
  have h2 : 0 < xs.length := by
    simp only [List.size_toArray, List.length_cons, List.length_nil] at hlen
    omega
  rw [o0, k0, List.drop_zero, List.getElem?_eq_getElem h2] at h1
  have h3 := rows_small u0 he hce hc hcu hg hgo hgk hgu (h1 : DataW.trod enc P w base spare held m f0.type [.slice a len cap] = some xs[0]) hR
  intro M hM k hk
  have h4 := h3 M hM k hk
  have h5 : xs[0].1 ∈ xs.map (·.1) := List.mem_map_of_mem (List.getElem_mem _)
  have h6 := bulk_mem h5
  simp only [Prod.mk.injEq] at hxe
  rw [hxe.1]
  simp only [Rows.uptoBulk]
  omega
end
end Go.Proofs.YtekodpcedjpnjaaGreat
namespace Go.Proofs.YtekodpcedjpnjaaGreat
open Go.ChangeShapes Go.WideShapes Go.ChangeAt Go.RowKit
section
variable {H : Type} {enc : TypeId × Value → H} {P : Program}
theorem post_of_below {f : Func} {s : ChangeSpec} {apart fresh handsOn again : Bool} {W W' : World} {args : Array Value} {v : Value} {ds gs : List (DataW H)} {before pa pv : List MemPlace}
    (hW : DataW.Whole enc P f.params.toList s.vars apart W args.toList ds gs before)
    (hres : ∀ (b : Nat) (sp : Nat → Bool) (hd : Bool), DataW.TrodAll enc P W' b sp hd f.resultTypes.toList (v.resultList f.resultTypes.size) (s.fn H (ds ++ gs)).results [])
    (hargs : ∀ sp : Nat → Bool, (∀ p ∈ before, sp p.block = true) → DataW.TrodAll enc P W' 0 sp true f.params.toList args.toList (s.fn H (ds ++ gs)).args pa)
    (hvars : ∀ sp : Nat → Bool, (∀ p ∈ before, sp p.block = true) → DataW.TrodVars enc P W' sp s.vars (s.fn H (ds ++ gs)).vars pv)
    (hps : before = pa ++ pv) (hb : Below W.heap.size W W')
    (hok : ∀ (j : Nat) (t : TypeId) (r : Value), f.resultTypes[j]? = some t → (v.resultList f.resultTypes.size)[j]? = some r → Value.okWide P W' .any 0 t r) :
    s.post enc P f apart fresh handsOn again W args v W' := by
  have hlt : ∀ p ∈ before, p.block < W.heap.size := fun p hp => hW.lt p hp
  have hold : ∀ p ∈ before, (fun b => decide (b < W.heap.size)) p.block = true := fun p hp => by simpa using hlt p hp
  refine ⟨ds, gs, before, [], pa, pv, hW, hres _ _ _, hargs _ hold, hvars _ hold, World.keptBut_mono (fun p hp => ⟨hp, ?_⟩) (hb.frame (· ∈ before)), fun _ => ?_⟩
  · rw [hps, List.mem_append] at hp
    exact Or.inr hp
  · obtain ⟨_, _, _, _, _, hz, hn⟩ := hW
    refine ⟨hok, _, _, ([] ++ pa) ++ pv, ⟨[] ++ pa, pv, trodAll_append (hargs _ (fun _ _ => rfl)) (hres _ _ _), hvars _ (fun _ _ => rfl), rfl, ?_, ?_⟩, ?_⟩
    · intro b off hp
      have hin : MemPlace.cell b off ∈ before := by rw [hps]; simpa using hp
      rw [hb.frozen (hlt _ hin)]
      exact hz b off hin
    · intro ha
      have := hn ha
      rw [hps] at this
      simpa using this
    · intro p hp _
      rw [hps]
      simpa using hp
theorem trodAll_stays (hl : laidOutB P = true) {W W' : World} {sp' : Nat → Bool} : ∀ {ts : List TypeId} {vs : List Value} {ds : List (DataW H)} {ps : List MemPlace},
    (∀ t ∈ ts, P.readableRec t = true ∧ t < P.types.size) → DataW.TrodAll enc P W 0 (fun _ => true) true ts vs ds ps → (∀ p ∈ ps, W.sameAt W' p) → (∀ p ∈ ps, sp' p.block = true) → DataW.TrodAll enc P W' 0 sp' true ts vs ds ps
  | [], vs, ds, ps, _, h, _, _ => by obtain ⟨rfl, rfl, rfl⟩ := trodAll_nil h; exact trodAll_mk0
  | t :: ts, vs, ds, ps, ht, h, hs, hsp => by
    obtain ⟨v, vs', d, ds', p, q, rfl, rfl, rfl, h1, h2⟩ := trodAll_cons h
    exact trodAll_cons_mk (WideElems.Trod_stays hl (ht t (by simp)).1 (ht t (by simp)).2 h1 (fun x hx => hs x (by simp [hx])) (fun x hx => hsp x (by simp [hx])))
      (trodAll_stays hl (fun t' h' => ht t' (by simp [h'])) h2 (fun x hx => hs x (by simp [hx])) (fun x hx => hsp x (by simp [hx])))
theorem law_end {f : Func} {s : ChangeSpec} {apart fresh handsOn again : Bool} {W W' : World} {args : Array Value} {ds gs : List (DataW H)} {before : List MemPlace} {tb : TypeId}
    (hl : laidOutB P = true) (hr : (f.params.toList.all fun t => P.readableRec t && decide (t < P.types.size)) = true)
    (hW : DataW.Whole enc P f.params.toList s.vars apart W args.toList ds gs before) (hv : s.vars = []) (hres : f.resultTypes = #[tb]) (ht : P.underlying tb = some .bool)
    (hfn : s.fn H (ds ++ gs) = { results := [.lit (.bool true)], args := ds }) (hb : Below W.heap.size W W') :
    s.post enc P f apart fresh handsOn again W args (.bool true) W' := by
  have hW' := hW
  obtain ⟨p, q, hA, hV, rfl, hfz, hnd⟩ := hW
  rw [hv] at hV
  obtain ⟨hg, hq⟩ := trodVars_none hV
  subst hg
  subst hq
  have hlt : ∀ x ∈ p ++ [], x.block < W.heap.size := fun x hx => hW'.lt x hx
  refine post_of_below (pa := p) (pv := []) hW' (fun _ _ _ => ?_) (fun sp hsp => ?_) (fun _ _ => ?_) rfl hb ?_
  · rw [hres, hfn]
    exact trodAll_cons_mk (shut_bool ht _) trodAll_mk0
  · rw [hfn]
    exact trodAll_stays hl (fun t ht' => by simpa using List.all_eq_true.1 hr t ht') hA (fun x hx => hb.same (hlt x (by simp [hx]))) (fun x hx => hsp x (by simp [hx]))
  · rw [hv, hfn]
    rfl
  · exact ok_one hres rfl (okWide_bool_mk ht _)
end
end Go.Proofs.YtekodpcedjpnjaaGreat
namespace Go.Proofs.YtekodpcedjpnjaaGreat
open Go.ChangeShapes Go.WideShapes Go.RowKit Go.Deep
section
variable {H : Type} {enc : TypeId × Value → H} {w : World} {held : Bool}
set_option maxRecDepth 100000 in
theorem strs_of {fuel : Nat} {a : Option Addr} {len cap : Nat} {x : DataW H × List MemPlace} (h : DataW.trod enc Tryz.prog w 0 (fun _ => true) held fuel 112 [.slice a len cap] = some x) : len ≤ cap ∧ cap ≤ maxLen ∧ ∃ L, StrsAt w a len L ∧ ∀ l ∈ L, l.length ≤ Rows.uptoBulk x.1 := by
  have hc : Tryz.prog.cellsOf 9 = 1 := by kernel_rfl
  cases a with
  | none =>
    rcases open_slice Tryz.underlying112 h with ⟨hcs, _⟩ | ⟨ad, len', cap', m, n, D, Pl, hcs, _⟩
    · simp at hcs
      obtain ⟨rfl, rfl⟩ := hcs
      exact ⟨Nat.le_refl _, Nat.zero_le _, [], StrsAt.nil _ _, fun l hl => by cases hl⟩
    · simp at hcs
  | some ad =>
    obtain ⟨b, off, spot⟩ := ad
    have hlc : len ≤ cap ∧ cap ≤ maxLen := by
      rcases open_slice Tryz.underlying112 h with ⟨hcs, _⟩ | ⟨ad, len', cap', m, n, D, Pl, hcs, _, hl, hm, _⟩
      · simp at hcs
      · simp at hcs
        obtain ⟨_, rfl, rfl⟩ := hcs
        exact ⟨hl, hm⟩
    have hsm := elem_small (P := Tryz.prog) Tryz.underlying112 h
    have hspot : 0 < len → spot = none := fun h0 => by
      obtain ⟨n, cs, y, h1, h2, h3⟩ := hsm 0 h0
      rw [hc, Nat.mul_one] at h1
      obtain ⟨v, hv, hy, _⟩ := DataW.trod_string Tryz.underlying9 h2
      subst hv
      simpa [Addr.add] using World.cell?_spot (cell_of_cells?_one h1)
    have hel : ∀ i, i < len → ∃ l : List UInt8, (∃ g o, some (⟨b, off, spot⟩ : Addr) = some ⟨g, o, none⟩ ∧ g < w.heap.size ∧ w.cell? ⟨g, o + i, none⟩ = some (.string (S l))) ∧ l.length ≤ Rows.uptoBulk x.1 := fun i hi => by
      obtain ⟨n, cs, y, h1, h2, h3⟩ := hsm i hi
      rw [hc, Nat.mul_one] at h1
      obtain ⟨v, hv, hy, _⟩ := DataW.trod_string Tryz.underlying9 h2
      subst hv
      have h4 := cell_of_cells?_one h1
      obtain rfl : spot = none := hspot (by omega)
      rw [add_plain] at h4
      obtain ⟨l, rfl⟩ := S_back v
      refine ⟨l, ⟨b, off, rfl, World.block_lt_of_cell? w _ h4, h4⟩, ?_⟩
      rw [hy] at h3
      simp only [Rows.uptoBulk] at h3
      have : (S l).data.toList.length = l.length := by simp [S]
      omega
    obtain ⟨L, hL, hp⟩ := list_forallF len hel
    refine ⟨hlc.1, hlc.2, L, ⟨hL, fun i l hl => (hp i l hl).1⟩, fun l hl => ?_⟩
    obtain ⟨i, hi, rfl⟩ := List.mem_iff_getElem.1 hl
    exact (hp i _ (List.getElem?_eq_getElem hi)).2
set_option maxRecDepth 100000 in
set_option maxHeartbeats 4000000 in
theorem open_opsR {a : Option Addr} {len cap : Nat} {d : DataW H} {ps : List MemPlace} (h : DataW.Trod enc Tryz.prog w 0 (fun _ => true) held 116 (.slice a len cap) d ps) (hb : Rows.uptoBulk d ≤ 1048576) : OpsR w a len cap := by
  obtain ⟨fuel, h⟩ := h
  have h0 : DataW.trod enc Tryz.prog w 0 (fun _ => true) held fuel 116 [.slice a len cap] = some (d, ps) := h
  have hc : Tryz.prog.cellsOf 118 = 8 := by kernel_rfl
  cases a with
  | none =>
    rcases open_slice Tryz.underlying116 h with ⟨hcs, _⟩ | ⟨ad, len', cap', m, n, D, Pl, hcs, _⟩
    · simp [Value.cells] at hcs
      obtain ⟨rfl, rfl⟩ := hcs
      exact ⟨Nat.le_refl _, Nat.zero_le _, fun i hi => absurd hi (Nat.not_lt_zero _)⟩
    · simp [Value.cells] at hcs
  | some ad =>
    have hlc : len ≤ cap ∧ cap ≤ maxLen := by
      rcases open_slice Tryz.underlying116 h with ⟨hcs, _⟩ | ⟨ad', len', cap', m, n, D, Pl, hcs, _, hl, hm, _⟩
      · simp [Value.cells] at hcs
      · simp [Value.cells] at hcs
        obtain ⟨_, rfl, rfl⟩ := hcs
        exact ⟨hl, hm⟩
    have hsm := elem_small (P := Tryz.prog) Tryz.underlying116 h0
    rw [hc] at hsm
    refine ⟨hlc.1, hlc.2, fun i hi => ?_⟩
    obtain ⟨b, off, spot⟩ := ad
    have hspot : spot = none := by
      obtain ⟨n0, cs0, y0, h1, _⟩ := hsm 0 (by omega)
      obtain ⟨_, hlen, hcell⟩ := World.cells?_some h1
      have e0 := hcell 0 (by omega)
      rw [List.getElem?_eq_getElem (by omega)] at e0
      simpa [Addr.add] using World.cell?_spot e0
    subst hspot
    obtain ⟨n, cs, y, h1, h2, h3⟩ := hsm i hi
    obtain ⟨_, hlen, hcell⟩ := World.cells?_some h1
    obtain ⟨xs, k, _, hxy, _, hxl, hf⟩ := DataW.trod_struct Tryz.underlying118 h2
    match cs, hlen with
    | [v0, v1, v2, v3, v4, v5, v6, v7], _ =>
      match xs, hxl with
      | [y0, y1, y2, y3, y4], _ =>
        have cu8 : Tryz.prog.cellsOf 5 = 1 := by kernel_rfl
        have cfr : Tryz.prog.cellsOf 52 = 4 := by kernel_rfl
        have cin : Tryz.prog.cellsOf 3 = 1 := by kernel_rfl
        have css : Tryz.prog.cellsOf 112 = 1 := by kernel_rfl
        have g0 := hf 0 _ rfl
        have g1 := hf 1 _ rfl
        have g2 := hf 2 _ rfl
        have g3 := hf 3 _ rfl
        have g4 := hf 4 _ rfl
        simp [cu8, cfr, cin, css] at g0 g1 g2 g3 g4
        obtain ⟨kd, hk, _, hkw⟩ := DataW.trod_int Tryz.underlying5 g0
        obtain ⟨ow, how, _, _⟩ := DataW.trod_int Tryz.underlying3 g2
        obtain ⟨oh, hoh, _, _⟩ := DataW.trod_int Tryz.underlying3 g3
        have gF : DataW.Trod enc Tryz.prog w 0 (fun _ => true) held 52 (.agg #[v1, v2, v3, v4]) y1.1 y1.2 := ⟨_, g1⟩
        obtain ⟨fa, fn, fc, r, c, s, B, hcsF, hB, hfn, hfc, hfm, hsB⟩ := open_frameS (n := 5) Tryz.underlying52 (by kernel_rfl) rfl rfl rfl rfl Tryz.underlying50 Tryz.underlying3 Tryz.underlying3 Tryz.underlying4 (by kernel_rfl) (by kernel_rfl) (by kernel_rfl) (by kernel_rfl) Tryz.underlying60 (by kernel_rfl) (by kernel_rfl) (by kernel_rfl) Tryz.underlying171 rfl rfl (by kernel_rfl) Tryz.underlying9 gF
        simp only [Array.mk.injEq, List.cons.injEq, and_true] at hcsF
        obtain ⟨rfl, rfl, rfl, rfl⟩ := hcsF
        obtain ⟨la, ln, lc, hv7⟩ : ∃ la ln lc, v7 = .slice la ln lc := by
          rcases open_slice Tryz.underlying112 g4 with ⟨hcs, _⟩ | ⟨ad, len', cap', m, n, D, Pl, hcs, _⟩
          · exact ⟨_, _, _, by simpa using hcs⟩
          · exact ⟨_, _, _, by simpa using hcs⟩
        subst hv7
        obtain ⟨hl1, hl2, L, hL, hLb⟩ := strs_of g4
        simp only [List.cons.injEq, and_true] at hk how hoh
        subst hk how hoh
        have hkb : 0 ≤ kd ∧ kd ≤ 255 := by simpa [Lit.wf, IntKind.min, IntKind.max, IntKind.signed, IntKind.bits] using hkw
        have hyb : Rows.uptoBulk y1.1 ≤ 1048576 ∧ Rows.uptoBulk y4.1 ≤ 1048576 := by
          have e := congrArg Prod.fst hxy
          have e' : Rows.uptoBulk y.1 ≤ 1048576 := Nat.le_trans h3 hb
          simp only at e
          rw [e] at e'
          simp only [List.map_cons, List.map_nil, Rows.uptoBulk, Rows.uptoBulkAll] at e'
          omega
        have e0 := hcell 0 (by omega)
        have hbl : b < w.heap.size := by
          rw [Go.Deep.add_add, add_plain] at e0
          exact World.block_lt_of_cell? w _ e0
        refine ⟨b, off, kd, fa, fn, fc, r, c, s, ow, oh, la, ln, lc, B, L, rfl, hbl, fun j v hv => ?_, hkb, hB, ⟨hfc, hfm⟩, fun M hM x hx => by have := hsB M hM x hx; omega, hL, Nat.le_trans hl1 hl2, fun l hl => by have := hLb l hl; unfold maxLen; omega⟩
        have hj : j < 8 := (List.getElem?_eq_some_iff.1 hv).1
        have e := hcell j (by omega)
        rw [Go.Deep.add_add, add_plain] at e
        rw [show off + i * 8 + j = off + (i * 8 + j) by omega, e]
        exact hv
end
theorem regionCosts_law (w h rows : Int) (a : Option Addr) (len cap : Nat) (W : World) (_ : (Lit.int .i64 w).wf = true) (_ : (Lit.int .i64 h).wf = true) (_ : (Lit.int .i64 rows).wf = true) (hO : OpsR W a len cap) :
    Calls Tryz.prog 12 #[.int .i64 w, .int .i64 h, .int .i64 rows, .slice a len cap] W fun e w' => e = .returned (.bool true) ∧ Below W.heap.size W w' := regionCosts_any w h rows hO
end Go.Proofs.YtekodpcedjpnjaaGreat
