/- The slice of the law's steps, opened: each a kind, bytes, two numbers. No condition. The law TermRuns: the two terminals side by side, and what each step leaves of that. No condition. The law TermRuns: step by step the program's terminal shows what the reference's shows. No condition. -/
import Derived.Test.YtekodpcedjpnjaaGreatClose
import Derived.Test.YtekodpcedjpnjaaGreatFlat
import Derived.Test.YtekodpcedjpnjaaGreatRT17
import Derived.Test.YtekodpcedjpnjaaGreatTPc1
import Derived.Test.YtekodpcedjpnjaaGreatGFk
import Derived.Test.YtekodpcedjpnjaaGreatRTr
namespace Go.Proofs.YtekodpcedjpnjaaGreat
set_option linter.unusedVariables false
set_option linter.unusedSimpArgs false
open Go.ChangeShapes Go.WideShapes Go.RowKit Go.Deep
def OpAt (W : World) (b o : Nat) : Prop := ∃ (kd : Nat) (ba : Option Addr) (bn bc : Nat) (zs : List Int) (x y : Int), kd < 256 ∧ IsRow .u8 W ba bn bc zs ∧ (Lit.int .i64 x).wf = true ∧ (Lit.int .i64 y).wf = true ∧ W.cell? ⟨b, o, none⟩ = some (.int .u8 kd) ∧ W.cell? ⟨b, o + 1, none⟩ = some (.slice ba bn bc) ∧ W.cell? ⟨b, o + 2, none⟩ = some (.int .i64 x) ∧ W.cell? ⟨b, o + 3, none⟩ = some (.int .i64 y)
def OpsAt (W : World) (a : Option Addr) (len cap : Nat) : Prop := len ≤ cap ∧ cap ≤ maxLen ∧ ∀ i, i < len → ∃ b off, a = some ⟨b, off, none⟩ ∧ b < W.heap.size ∧ OpAt W b (off + i * 4)
section
variable {H : Type} {enc : TypeId × Value → H} {w : World} {held : Bool}
theorem isRow_trod {fuel : Nat} {a : Option Addr} {len cap : Nat} {x : DataW H × List MemPlace} (hf : DataW.trod enc Tryz.prog w 0 (fun _ => true) held fuel 61 [.slice a len cap] = some x) : ∃ zs, IsRow .u8 w a len cap zs := by
  rcases open_ints Tryz.underlying61 Tryz.underlying5 (by kernel_rfl) hf with ⟨hcs, _⟩ | ⟨x, l, c, zs, hcs, _, hl, hm, hz, hps, hcell, hwz⟩
  · simp at hcs
    obtain ⟨rfl, rfl, rfl⟩ := hcs
    exact ⟨[], .inl ⟨rfl, rfl, rfl, rfl⟩⟩
  · simp at hcs
    obtain ⟨rfl, rfl, rfl⟩ := hcs
    exact ⟨zs, .inr ⟨_, rfl, hl, hm, by simpa using hz, hcell, hwz⟩⟩
set_option maxRecDepth 100000 in
theorem open_ops {a : Option Addr} {len cap : Nat} {d : DataW H} {ps : List MemPlace} (h : DataW.Trod enc Tryz.prog w 0 (fun _ => true) held 92 (.slice a len cap) d ps) : OpsAt w a len cap := by
  obtain ⟨fuel, h⟩ := h
  have hc : Tryz.prog.cellsOf 94 = 4 := by kernel_rfl
  rcases open_slice Tryz.underlying92 h with ⟨hcs, _⟩ | ⟨ad, len', cap', m, n, D, Pl, hcs, _, hl, hm, hmm, _, hx⟩
  · simp [Value.cells] at hcs
    obtain ⟨rfl, rfl, rfl⟩ := hcs
    exact ⟨Nat.le_refl _, Nat.zero_le _, fun i hi => absurd hi (Nat.not_lt_zero _)⟩
  · simp [Value.cells] at hcs
    obtain ⟨rfl, rfl, rfl⟩ := hcs
    simp only [if_true] at hmm
    subst hmm
    refine ⟨hl, hm, fun i hi => ?_⟩
    obtain ⟨b, off, spot⟩ := ad
    have hspot : spot = none := by
      obtain ⟨cs0, h1, _⟩ := hx 0 (by omega)
      rw [hc] at h1
      obtain ⟨_, hlen, hcell⟩ := World.cells?_some h1
      have h0 := hcell 0 (by omega)
      rw [List.getElem?_eq_getElem (by omega)] at h0
      simpa [Addr.add] using World.cell?_spot h0
    subst hspot
    obtain ⟨cs', h1, h2⟩ := hx i (by omega)
    rw [hc] at h1
    obtain ⟨_, hlen, hcell⟩ := World.cells?_some h1
    obtain ⟨xs, k, _, hxy, _, hxl, hf⟩ := DataW.trod_struct Tryz.underlying94 h2
    match cs', hlen with
    | [v0, v1, v2, v3], _ =>
      have e0 := hcell 0 (by omega)
      have e1 := hcell 1 (by omega)
      have e2 := hcell 2 (by omega)
      have e3 := hcell 3 (by omega)
      rw [Go.Deep.add_add, add_plain] at e0 e1 e2 e3
      have cu8 : Tryz.prog.cellsOf 5 = 1 := by kernel_rfl
      have csl : Tryz.prog.cellsOf 61 = 1 := by kernel_rfl
      have cin : Tryz.prog.cellsOf 3 = 1 := by kernel_rfl
      match xs, hxl with
      | [y0, y1, y2, y3], _ =>
        have g0 := hf 0 _ rfl
        have g1 := hf 1 _ rfl
        have g2 := hf 2 _ rfl
        have g3 := hf 3 _ rfl
        simp [cu8, csl, cin] at g0 g1 g2 g3
        obtain ⟨kd, hk, _, hkw⟩ := DataW.trod_int Tryz.underlying5 g0
        obtain ⟨px, hpx, _, hpw⟩ := DataW.trod_int Tryz.underlying3 g2
        obtain ⟨py, hpy, _, hqw⟩ := DataW.trod_int Tryz.underlying3 g3
        obtain ⟨ba, bn, bc, hv1⟩ : ∃ ba bn bc, v1 = .slice ba bn bc := by
          rcases open_slice Tryz.underlying61 g1 with ⟨hcs, _⟩ | ⟨ad, len', cap', m, n, D, Pl, hcs, _⟩
          · exact ⟨_, _, _, by simpa using hcs⟩
          · exact ⟨_, _, _, by simpa using hcs⟩
        subst hv1
        obtain ⟨zs, hz⟩ := isRow_trod g1
        simp only [List.cons.injEq, and_true] at hk hpx hpy
        subst hk hpx hpy
        have hkb : 0 ≤ kd ∧ kd ≤ 255 := by simpa [Lit.wf, IntKind.min, IntKind.max, IntKind.signed, IntKind.bits] using hkw
        obtain ⟨kn, rfl⟩ := Int.eq_ofNat_of_zero_le hkb.1
        simp only [Nat.add_zero] at e0
        exact ⟨b, off, rfl, World.block_lt_of_cell? w _ e0, kn, ba, bn, bc, zs, px, py, by omega, hz, hpw, hqw, by simpa using e0, by simpa [Nat.add_assoc] using e1, by simpa [Nat.add_assoc] using e2, by simpa [Nat.add_assoc] using e3⟩
end
end Go.Proofs.YtekodpcedjpnjaaGreat
namespace Go.Proofs.YtekodpcedjpnjaaGreat
set_option linter.unusedVariables false
set_option linter.unusedSimpArgs false
open Go.RowKit Go.Shelf Go.Maps
/-- Blocks that are not the program's terminal's, nor the box of the reference's. -/
def Fr (rb b p q : Nat) (hv : Value) (k : Nat) : Prop := k ≠ rb ∧ k ≠ b ∧ k ≠ p ∧ k ≠ q ∧ hv.ownBlock ≠ some k
structure TRS (N rb b p q : Nat) (hv : Value) (ra : Option Addr) (rc : Nat) (bv : Value) (Zp Zr : TS × List UInt8) (X : World) : Prop where
  a : TmAt X b p q hv Zp.1
  h : Held X N hv Zp.2
  fr : rb ≠ b ∧ rb ≠ p ∧ rb ≠ q ∧ hv.ownBlock ≠ some rb
  base : N ≤ b ∧ N ≤ p ∧ N ≤ q ∧ N ≤ rb
  box : TBx X rb (tCells ra rc Zr.1 bv)
  g : RG (Fr rb b p q hv) X ra rc Zr.1.W Zr.1.H Zr.1.R
  hb : HB (Fr rb b p q hv) X bv Zr.2
  okp : TOk Zp.1
  okr : TOk Zr.1
theorem TRS.below {N rb b p q : Nat} {hv : Value} {ra : Option Addr} {rc : Nat} {bv : Value} {Zp Zr : TS × List UInt8} {X Y : World} (s : TRS N rb b p q hv ra rc bv Zp Zr X) (hb : Below X.heap.size X Y) : TRS N rb b p q hv ra rc bv Zp Zr Y :=
  { a := s.a.below hb
    h := s.h.keep (Only.of_below (S := []) hb) (fun _ _ => by simp)
    fr := s.fr
    base := s.base
    box := s.box.below hb
    g := s.g.below hb
    hb := s.hb.below hb
    okp := s.okp
    okr := s.okr }
theorem Fr.next {rb b p q : Nat} {hv hv' : Value} {X : World} (hh : ∀ k, hv'.ownBlock = some k → hv.ownBlock = some k ∨ X.heap.size ≤ k) : ∀ k, Fr rb b p q hv k → k < X.heap.size → Fr rb b p q hv' k := fun k h hk =>
  ⟨h.1, h.2.1, h.2.2.1, h.2.2.2.1, fun e => by rcases hh k e with h1 | h1; exact h.2.2.2.2 h1; omega⟩
theorem own_list {hv : Value} {k : Nat} (h : k ∈ hv.ownBlock.toList) : hv.ownBlock = some k := by
  cases ho : hv.ownBlock with
  | none => rw [ho] at h; simp at h
  | some j => rw [ho] at h; simp at h; rw [h]
theorem RG.pass {F F' : Nat → Prop} {X Y : World} {S : List Nat} {a : Option Addr} {cap w h : Nat} {R : List (List GC)} (g : RG F X a cap w h R) (o : Only S X Y) (hS : ∀ k, F k → k ∉ S) (hF : ∀ k, F k → k < X.heap.size → F' k) : RG F' Y a cap w h R :=
  ((g.mono (F' := fun k => F' k ∧ F k) (fun k hk hk2 => ⟨hF k hk hk2, hk⟩)).keep o.size (fun k hk hk2 => o.block k hk2 (hS k hk.2))).mono (fun _ hk _ => hk.1)
theorem HB.pass {F F' : Nat → Prop} {X Y : World} {S : List Nat} {v : Value} {l : List UInt8} (g : HB F X v l) (o : Only S X Y) (hS : ∀ k, F k → k ∉ S) (hF : ∀ k, F k → k < X.heap.size → F' k) : HB F' Y v l :=
  ((g.mono (F' := fun k => F' k ∧ F k) (fun k hk hk2 => ⟨hF k hk hk2, hk⟩)).keep o.size (fun k hk hk2 => o.block k hk2 (hS k hk.2))).mono (fun _ hk _ => hk.1)
/-- The program's terminal is written. -/
theorem TRS.pwrote {N rb b p q : Nat} {hv : Value} {ra : Option Addr} {rc : Nat} {bv : Value} {Zp Zr y : TS × List UInt8} {X Y : World} (s : TRS N rb b p q hv ra rc bv Zp Zr X) (st : WrSt X b p q N hv y Y) (hy : TOk y.1) (hN : N ≤ X.heap.size) :
    (∃ hv', TRS N rb b p q hv' ra rc bv y Zr Y) ∧ Below N X Y ∧ (∀ k, Fr rb b p q hv k → k < X.heap.size → Y.heap[k]? = X.heap[k]?) := by
  obtain ⟨hv', a', h', o, f⟩ := st
  have hbx := s.box.lt
  have hno : ∀ k, Fr rb b p q hv k → k ∉ b :: q :: hv.ownBlock.toList := fun k hk hm => by
    rcases List.mem_cons.1 hm with e | hm
    · exact hk.2.1 e
    rcases List.mem_cons.1 hm with e | hm
    · exact hk.2.2.2.1 e
    exact hk.2.2.2.2 (own_list hm)
  have hrb : rb ∉ b :: q :: hv.ownBlock.toList := fun hm => by
    rcases List.mem_cons.1 hm with e | hm
    · exact s.fr.1 e
    rcases List.mem_cons.1 hm with e | hm
    · exact s.fr.2.2.1 e
    exact s.fr.2.2.2 (own_list hm)
  refine ⟨⟨hv', ?_⟩, o.below (fun k hm => ?_) hN, fun k hk hk2 => o.block k hk2 (hno k hk)⟩
  · exact {
      a := a'
      h := h'
      fr := ⟨s.fr.1, s.fr.2.1, s.fr.2.2.1, fun e => by rcases f rb e with h1 | h1; exact s.fr.2.2.2 h1; omega⟩
      base := s.base
      box := s.box.only o hrb
      g := s.g.pass o hno (Fr.next f)
      hb := s.hb.pass o hno (Fr.next f)
      okp := hy
      okr := s.okr }
  · rcases List.mem_cons.1 hm with e | hm
    · have := s.base.1; omega
    rcases List.mem_cons.1 hm with e | hm
    · have := s.base.2.2.1; omega
    exact (own_cells s.h k (own_list hm)).1
/-- The program's terminal has another size. -/
theorem TRS.psized {N rb b p q q' : Nat} {hv : Value} {ra : Option Addr} {rc : Nat} {bv : Value} {Zp Zr : TS × List UInt8} {t' : TS} {X Y : World} (s : TRS N rb b p q hv ra rc bv Zp Zr X) (a' : TmAt Y b p q' hv t') (o : Only [b, p] X Y) (hq : X.heap.size ≤ q') (ok : TOk t') (hN : N ≤ X.heap.size) :
    TRS N rb b p q' hv ra rc bv (t', Zp.2) Zr Y ∧ Below N X Y ∧ (∀ k, Fr rb b p q hv k → k < X.heap.size → Y.heap[k]? = X.heap[k]?) := by
  have hbx := s.box.lt
  have hno : ∀ k, Fr rb b p q hv k → k ∉ [b, p] := fun k hk hm => by
    simp only [List.mem_cons, List.not_mem_nil, or_false] at hm
    rcases hm with e | e
    · exact hk.2.1 e
    · exact hk.2.2.1 e
  have hF : ∀ k, Fr rb b p q hv k → k < X.heap.size → Fr rb b p q' hv k := fun k hk hk2 => ⟨hk.1, hk.2.1, hk.2.2.1, by omega, hk.2.2.2.2⟩
  refine ⟨{
    a := a'
    h := s.h.keep o (fun k e hm => ?_)
    fr := ⟨s.fr.1, s.fr.2.1, by omega, s.fr.2.2.2⟩
    base := ⟨s.base.1, s.base.2.1, by omega, s.base.2.2.2⟩
    box := s.box.only o (fun hm => ?_)
    g := s.g.pass o hno hF
    hb := s.hb.pass o hno hF
    okp := ok
    okr := s.okr }, o.below (fun k hm => ?_) hN, fun k hk hk2 => o.block k hk2 (hno k hk)⟩
  · obtain ⟨_, cur, hc⟩ := own_cells s.h k e
    simp only [List.mem_cons, List.not_mem_nil, or_false] at hm
    rcases hm with rfl | rfl
    · have h1 := s.a.blk
      rw [hc] at h1
      simp at h1
    · have h1 := s.a.g.head
      rw [hc] at h1
      simp at h1
  · simp only [List.mem_cons, List.not_mem_nil, or_false] at hm
    rcases hm with e | e
    · exact s.fr.1 e
    · exact s.fr.2.1 e
  · simp only [List.mem_cons, List.not_mem_nil, or_false] at hm
    have := s.base
    omega
/-- The program's terminal is another, all new. -/
theorem TRS.forked {N rb b p q b' p' q' : Nat} {hv hv' : Value} {ra : Option Addr} {rc : Nat} {bv : Value} {Zp Zr : TS × List UInt8} {X Y : World} (s : TRS N rb b p q hv ra rc bv Zp Zr X) (a' : TmAt Y b' p' q' hv' Zp.1) (h' : Held Y N hv' Zp.2) (hn : X.heap.size ≤ b' ∧ X.heap.size ≤ p' ∧ X.heap.size ≤ q') (ho : ∀ k, hv'.ownBlock = some k → X.heap.size ≤ k) (hb : Below X.heap.size X Y) (hN : N ≤ X.heap.size) :
    TRS N rb b' p' q' hv' ra rc bv Zp Zr Y := by
  have hbx := s.box.lt
  have hF : ∀ k, Fr rb b p q hv k → k < X.heap.size → Fr rb b' p' q' hv' k := fun k hk hk2 => ⟨hk.1, by omega, by omega, by omega, fun e => by have := ho k e; omega⟩
  exact {
    a := a'
    h := h'
    fr := ⟨by omega, by omega, by omega, fun e => by have := ho rb e; omega⟩
    base := ⟨by omega, by omega, by omega, s.base.2.2.2⟩
    box := s.box.below hb
    g := (s.g.mono hF).below hb
    hb := (s.hb.mono hF).below hb
    okp := s.okp
    okr := s.okr }
/-- The reference's box holds another. -/
theorem TRS.rput {N rb b p q : Nat} {hv : Value} {ra ra' : Option Addr} {rc rc' : Nat} {bv bv' : Value} {Zp Zr y : TS × List UInt8} {X Y : World} (s : TRS N rb b p q hv ra rc bv Zp Zr X) (bx : TBx Y rb (tCells ra' rc' y.1 bv')) (o : Only [rb] X Y) (g' : RG (Fr rb b p q hv) X ra' rc' y.1.W y.1.H y.1.R) (hb' : HB (Fr rb b p q hv) X bv' y.2) (ok : TOk y.1) (hN : N ≤ X.heap.size) :
    TRS N rb b p q hv ra' rc' bv' Zp y Y ∧ Below N X Y ∧ (∀ k, Fr rb b p q hv k → k < X.heap.size → Y.heap[k]? = X.heap[k]?) := by
  have hno : ∀ k, Fr rb b p q hv k → k ∉ [rb] := fun k hk hm => by
    simp only [List.mem_cons, List.not_mem_nil, or_false] at hm
    exact hk.1 hm
  refine ⟨{
    a := s.a.only o (by simpa using fun e => s.fr.1 e.symm) (by simpa using fun e => s.fr.2.1 e.symm) (by simpa using fun e => s.fr.2.2.1 e.symm)
    h := s.h.keep o (fun k e hm => ?_)
    fr := s.fr
    base := s.base
    box := bx
    g := g'.pass o hno (fun k hk _ => hk)
    hb := hb'.pass o hno (fun k hk _ => hk)
    okp := s.okp
    okr := ok }, o.below (fun k hm => ?_) hN, fun k hk hk2 => o.block k hk2 (hno k hk)⟩
  · simp only [List.mem_cons, List.not_mem_nil, or_false] at hm
    subst hm
    exact s.fr.2.2.2 e
  · simp only [List.mem_cons, List.not_mem_nil, or_false] at hm
    have := s.base
    omega
theorem Fr.new {rb b p q : Nat} {hv : Value} {X : World} {N : Nat} {ra : Option Addr} {rc : Nat} {bv : Value} {Zp Zr : TS × List UInt8} (s : TRS N rb b p q hv ra rc bv Zp Zr X) : ∀ k, X.heap.size ≤ k → Fr rb b p q hv k := fun k hk => by
  have h1 := s.box.lt
  have h2 := s.a.lt
  exact ⟨by omega, by omega, by omega, by omega, fun e => by have := (own_cells s.h k e).2; obtain ⟨cur, hc⟩ := this; have := (Array.getElem?_eq_some_iff.1 hc).1; omega⟩
/-- Write with one piece, at the program's terminal. -/
theorem trs_write {N rb b p q : Nat} {hv : Value} {ra : Option Addr} {rc : Nat} {bv : Value} {Zp Zr : TS × List UInt8} {X : World} (s : TRS N rb b p q hv ra rc bv Zp Zr X) (hN : N ≤ X.heap.size) {pv : Value} {l : List UInt8} (hp : HAF (fun k => k < N) X pv l) (hl : Zp.2.length + l.length ≤ 90000) (hg : Zp.1.gone ≤ 1000000) (hbl : Zp.1.bells ≤ 1000000) :
    Calls Tryz.prog 49 #[.pointer (some ⟨b, 0, none⟩), .slice (some ⟨X.heap.size, 0, none⟩) 1 1] (X.alloc (.cells #[pv] 61)) fun e Y => e = .returned (.tuple #[]) ∧ (∃ hv', TRS N rb b p q hv' ra rc bv (runP Zp l) Zr Y) ∧ Below N X Y ∧ (∀ k, Fr rb b p q hv k → k < X.heap.size → Y.heap[k]? = X.heap[k]?) := by
  have hlt := s.a.lt
  have hbs := s.base
  have hbn : Below X.heap.size X (X.alloc (.cells #[pv] 61)) := (Below.refl _ _).alloc (Nat.le_refl _) _
  have s1 := s.below hbn
  have hown : ∀ k, hv.ownBlock = some k → N ≤ k ∧ k < X.heap.size := fun k e => by
    obtain ⟨h1, cur, h2⟩ := own_cells s.h k e
    exact ⟨h1, (Array.getElem?_eq_some_iff.1 h2).1⟩
  have hP := parts_1 (hv := hv) (part_of hp (b := b) (q := q) (by omega) (by omega) (fun k e => (hown k e).1)) hlt.1 hlt.2.2 (fun k e => (hown k e).2)
  have hs1 := hbn.size
  refine (pwrite_any s1.a s1.h s1.okp (by omega) (pc := 1) (P := [l]) hP (by simp; omega) (by omega) (by omega) (by omega)).mono ?_
  rintro e Y ⟨he, st⟩
  obtain ⟨h1, h2, h3⟩ := s1.pwrote (y := runP Zp l) st (s.okp.run _) (by omega)
  exact ⟨he, h1, (hbn.mono hN).trans h2, fun k hk hk2 => (h3 k hk (by omega)).trans (hbn.block k hk2)⟩
end Go.Proofs.YtekodpcedjpnjaaGreat
namespace Go.Proofs.YtekodpcedjpnjaaGreat
set_option linter.unusedVariables false
set_option linter.unusedSimpArgs false
open Go.RowKit Go.Shelf Go.Maps
set_option maxRecDepth 100000 in
set_option maxHeartbeats 8000000 in
theorem termRuns_bad (w0 h0 : Int) (a2 : Option Addr) (n2 c2 : Nat) (W : World) (hd : ¬ (1 ≤ w0 ∧ w0 ≤ 500 ∧ 1 ≤ h0 ∧ h0 ≤ 500)) (r2 : OpsAt W a2 n2 c2) :
    Calls Tryz.prog 9 #[.int .i64 w0, .int .i64 h0, .slice a2 n2 c2] W fun e w' => e = .returned (.bool true) ∧ Below W.heap.size W w' := by
  have CN := Lib.hid (fun X => tnew_bad w0 h0 hd X)
  have CR := Lib.hid (fun (X : World) => rtnew_bad (W := X) w0 h0 hd)
  clear hd
  go_enter Tryz.func9, Tryz.ntmps9
  go_wp2_with fail
  refine (CN.out _).mono ?_
  rintro e w1 ⟨rfl, rfl⟩
  go_wp2_with fail
  refine (CR.out _).mono ?_
  rintro e w5 ⟨rfl, hb5⟩
  have pn : TBx (w5.alloc (.cells zCells 63)) w5.heap.size zCells := TBx.new _ _
  have bz : Below w5.heap.size w5 (w5.alloc (.cells zCells 63)) := (Below.refl _ _).alloc (Nat.le_refl _) _
  go_upto_region 3 with (refine wpList_tstore rfl _ _ rfl w5.heap.size rfl _ rfl zCells ?_ rfl rfl (by decide) ?_; exact pn; intro V p6 o6)
  have s4 := hb5.size
  have bV : Below W.heap.size W V := bto hb5 (bz.trans (o6.below (by simp) bz.size)) s4
  clear pn bz p6 o6 hb5 s4
  go_wp2_with (go_at_call 51; refine (awake05_any _).mono ?_; rintro e w14 ⟨rfl, hb14⟩)
  have bE := bto bV hb14 bV.size
  clear r2 bV hb14
  go_loopw [7, 11] (fun u i wr => u = .pointer none ∧ i = .int .i64 0 ∧ Below W.heap.size W wr) (fun _ _ _ => 0)
  case atStart => exact ⟨rfl, rfl, bE⟩
  case round =>
    obtain ⟨rfl, rfl, bE⟩ := hrel
    by_cases hz : (0 : Int) < (n2 : Int)
    · go_wp2
      go_ret
      exact ⟨rfl, bE⟩
    · go_wp2
      go_ret
      exact ⟨rfl, bE⟩
/-- The step's box. -/
def OBox (X : World) (o : Nat) (kd : Nat) (ba : Option Addr) (bn bc : Nat) (x y : Int) : Prop := X.heap[o]? = some (.cells #[.int .u8 kd, .slice ba bn bc, .int .i64 x, .int .i64 y] 94 (0, 0))
theorem OBox.cells {X : World} {o kd : Nat} {ba : Option Addr} {bn bc : Nat} {x y : Int} (h : OBox X o kd ba bn bc x y) : X.cell? ⟨o, 0, none⟩ = some (.int .u8 kd) ∧ X.cell? ⟨o, 1, none⟩ = some (.slice ba bn bc) ∧ X.cell? ⟨o, 2, none⟩ = some (.int .i64 x) ∧ X.cell? ⟨o, 3, none⟩ = some (.int .i64 y) := by
  unfold OBox at h
  refine ⟨?_, ?_, ?_, ?_⟩ <;> rw [cell_of_row X o _ _ _ _ h] <;> rfl
theorem OBox.lt {X : World} {o kd : Nat} {ba : Option Addr} {bn bc : Nat} {x y : Int} (h : OBox X o kd ba bn bc x y) : o < X.heap.size := (Array.getElem?_eq_some_iff.1 h).1
theorem OBox.below {X Y : World} {o kd : Nat} {ba : Option Addr} {bn bc : Nat} {x y : Int} (h : OBox X o kd ba bn bc x y) (hb : Below X.heap.size X Y) : OBox Y o kd ba bn bc x y := (hb.block o h.lt).trans h
/-- What holds at each step's head. -/
structure TRI (W : World) (rb : Nat) (k : Nat) (u : Value) (wr : World) (b p q : Nat) (hv : Value) (ra : Option Addr) (rc : Nat) (bv : Value) (Z : TS × List UInt8) : Prop where
  u : u = .pointer (some ⟨b, 0, none⟩)
  s : TRS W.heap.size rb b p q hv ra rc bv Z Z wr
  wb : Below W.heap.size W wr
  len : Z.2.length < 32
  gone : Z.1.gone ≤ 1000 * k
  bells : Z.1.bells ≤ 1000 * k
set_option maxRecDepth 100000 in
set_option maxHeartbeats 16000000 in
theorem termRuns_ok (w h : Nat) (a2 : Option Addr) (n2 c2 : Nat) (W : World) (hd : 1 ≤ w ∧ w ≤ 500 ∧ 1 ≤ h ∧ h ≤ 500) (r2 : OpsAt W a2 n2 c2) :
    Calls Tryz.prog 9 #[.int .i64 w, .int .i64 h, .slice a2 n2 c2] W fun e w' => e = .returned (.bool true) ∧ Below W.heap.size W w' := by
  have CN := Lib.hid (fun X => tnew_ok w h hd X)
  have CR := Lib.hid (fun (X : World) => rtnew_ok (F := fun b => X.heap.size ≤ b) (W := X) (fun b h => h) w h hd)
  have OK0 := Lib.hid (TOk.new hd.1 hd.2.1 hd.2.2.1 hd.2.2.2)
  have R2 := Lib.hid r2
  have hn2 : (n2 : Int) ≤ 9223372036854775807 := by have h1 := r2.1; have h2 := r2.2.1; unfold maxLen at h2; omega
  clear hd r2
  go_enter Tryz.func9, Tryz.ntmps9
  go_wp2_with fail
  refine (CN.out _).mono ?_
  rintro e w1 ⟨b0, p0, q0, rfl, t1, z1, hb1⟩
  go_wp2_with fail
  refine (CR.out _).mono ?_
  rintro e w5 ⟨ra0, rc0, rfl, g5, hb5⟩
  dsimp only at g5
  have pn : TBx (w5.alloc (.cells zCells 63)) w5.heap.size zCells := TBx.new _ _
  have bz : Below w5.heap.size w5 (w5.alloc (.cells zCells 63)) := (Below.refl _ _).alloc (Nat.le_refl _) _
  have hn1 : OneV (.slice none 0 0) := rfl
  go_upto_region 3 with (refine wpList_tstore rfl _ _ rfl w5.heap.size rfl _ rfl zCells ?_ rfl rfl (tCells_one _ _ _ hn1) ?_; exact pn; intro V p6 o6)
  obtain ⟨rb, hrb⟩ : ∃ rb, rb = w5.heap.size := ⟨_, rfl⟩
  have s1 := hb1.size
  have s4 := hb5.size
  have l1 := t1.lt
  have bV : Below w5.heap.size w5 V := bz.trans (o6.below (by simp) bz.size)
  have B1 : Below w1.heap.size w1 V := bto hb5 bV s4
  have BW : Below W.heap.size W V := bto hb1 B1 s1
  have ts : TRS W.heap.size rb b0 p0 q0 (.slice none 0 0) ra0 rc0 (.slice none 0 0) (TS.new w h, []) (TS.new w h, []) V :=
    { a := t1.below B1
      h := World.ownsRow_nil _ _ _ _
      fr := ⟨by omega, by omega, by omega, by simp [Value.ownBlock]⟩
      base := ⟨by omega, by omega, by omega, by omega⟩
      box := by rw [hrb]; exact p6
      g := (g5.mono (F' := Fr rb b0 p0 q0 (.slice none 0 0)) (fun k h1 h2 => ⟨by omega, by omega, by omega, by omega, by simp [Value.ownBlock]⟩)).below bV
      hb := .inl ⟨rfl, rfl⟩
      okp := OK0.out
      okr := OK0.out }
  rw [← hrb]
  have TI : Hid (TRI W rb 0 (.pointer (some ⟨b0, 0, none⟩)) V b0 p0 q0 (.slice none 0 0) ra0 rc0 (.slice none 0 0) (TS.new w h, [])) := Lib.hid { u := rfl, s := ts, wb := BW, len := by simp, gone := Nat.zero_le _, bells := Nat.zero_le _ }
  clear ts BW B1 bV l1 s4 s1 hrb p6 o6 pn bz g5 hb5 t1 z1 hb1 CN CR OK0 hn1
  go_wp2_with (go_at_call 51; refine (awake05_any _).mono ?_; rintro e w14 ⟨rfl, hb14⟩)
  have TI1 : Hid (TRI W rb 0 (.pointer (some ⟨b0, 0, none⟩)) w14 b0 p0 q0 (.slice none 0 0) ra0 rc0 (.slice none 0 0) (TS.new w h, [])) := Lib.hid { u := rfl, s := TI.out.s.below hb14, wb := bto TI.out.wb hb14 TI.out.wb.size, len := by simp, gone := Nat.zero_le _, bells := Nat.zero_le _ }
  clear TI hb14
  go_loopw [7, 11] (fun u i wr => ∃ (k b p q : Nat) (hv : Value) (ra : Option Addr) (rc : Nat) (bv : Value) (Z : TS × List UInt8), k ≤ n2 ∧ k ≤ 30 ∧ i = .int .i64 k ∧ u = .pointer (some ⟨b, 0, none⟩) ∧ Hid (TRI W rb k u wr b p q hv ra rc bv Z)) (fun _ i _ => n2 - (intOf i).toNat)
  case atStart => exact ⟨0, b0, p0, q0, _, ra0, rc0, _, _, Nat.zero_le _, Nat.zero_le _, rfl, rfl, TI1⟩
  case round =>
    obtain ⟨k, b, p, q, hv, ra, rc, bv, Z, hk, hk30, rfl, rfl, ti⟩ := hrel
    by_cases hlt : k < n2 ∧ k < 30
    · obtain ⟨hl1, hl2⟩ := hlt
      have hli : (k : Int) < (n2 : Int) := by omega
      have hli2 : (k : Int) < 30 := by omega
      obtain ⟨ob, oo, rfl, hob, kd, ba, bn, bc, zs, x, y, hkd, hrow, hx, hy, e0, e1, e2, e3⟩ := R2.out.2.2 k hl1
      have wb := ti.out.wb
      have f0 : wr.cell? ⟨ob, oo + k * 4, none⟩ = some (.int .u8 kd) := (wb.cell (p := ⟨ob, oo + k * 4, none⟩) hob).trans e0
      have f1 : wr.cell? ⟨ob, oo + k * 4 + 1, none⟩ = some (.slice ba bn bc) := (wb.cell (p := ⟨ob, oo + k * 4 + 1, none⟩) hob).trans e1
      have f2 : wr.cell? ⟨ob, oo + k * 4 + 2, none⟩ = some (.int .i64 x) := (wb.cell (p := ⟨ob, oo + k * 4 + 2, none⟩) hob).trans e2
      have f3 : wr.cell? ⟨ob, oo + k * 4 + 3, none⟩ = some (.int .i64 y) := (wb.cell (p := ⟨ob, oo + k * 4 + 3, none⟩) hob).trans e3
      have HROW := Lib.hid hrow
      have HX := Lib.hid hx
      have HY := Lib.hid hy
      clear e0 e1 e2 e3 hrow hx hy wb
      go_upto_region 9 with (fail)
      have hbx : OBox (wr.alloc (.cells #[.int .u8 kd, .slice ba bn bc, .int .i64 x, .int .i64 y] 94)) wr.heap.size kd ba bn bc x y := World.alloc_heap_new wr _
      have bX : Below wr.heap.size wr (wr.alloc (.cells #[.int .u8 kd, .slice ba bn bc, .int .i64 x, .int .i64 y] 94)) := (Below.refl _ _).alloc (Nat.le_refl _) _
      obtain ⟨X, hX⟩ : ∃ X, wr.alloc (.cells #[.int .u8 kd, .slice ba bn bc, .int .i64 x, .int .i64 y] 94) = X := ⟨_, rfl⟩
      obtain ⟨o, ho⟩ : ∃ o, o = wr.heap.size := ⟨_, rfl⟩
      have hoN : W.heap.size ≤ o := by rw [ho]; exact ti.out.wb.size
      rw [hX, ← ho] at hbx ⊢
      rw [hX] at bX
      have tX := ti.out.s.below bX
      have hof : Fr rb b p q hv o := Fr.new ti.out.s o (by omega)
      have wX := bto ti.out.wb bX ti.out.wb.size
      obtain ⟨c0, c1, c2', c3⟩ := hbx.cells
      obtain ⟨m, hm⟩ : ∃ m, m = kd % 5 := ⟨_, rfl⟩
      have HM := Lib.hid hm
      have hm5 : m < 5 := by omega
      have TX := Lib.hid tX
      have TZ : Hid (Z.2.length < 32 ∧ Z.1.gone ≤ 1000 * k ∧ Z.1.bells ≤ 1000 * k) := Lib.hid ⟨ti.out.len, ti.out.gone, ti.out.bells⟩
      clear f0 f1 f2 f3 hX ho bX ti tX hm
      go_cut [65] (fun v wx => v = .int .u8 m ∧ wx = X)
      case first =>
        go_wp2
        go_meet
        exact ⟨congrArg (Value.int _) (by have := HM.out; omega), rfl⟩
      case rest =>
      obtain ⟨rfl, rfl⟩ := hcut
      refine (‹∀ (a : Act) (w : World), Code.wp Tryz.prog _ _ a w → _›) _ _ ?_
      go_cut [7] (fun u wx => ∃ (b p q : Nat) (hv : Value) (ra : Option Addr) (rc : Nat) (bv : Value) (Z : TS × List UInt8), TRI W rb (k + 1) u wx b p q hv ra rc bv Z)
      case first =>
        go_upto_if 70 with (fail)
        go_cut [70] (fun v wx => v = .bool (decide (m ≤ 2)) ∧ wx = wc)
        case first =>
          rcases (by omega : m = 0 ∨ m = 1 ∨ m = 2 ∨ m = 3 ∨ m = 4) with rfl | rfl | rfl | rfl | rfl <;> (go_wp2; go_meet; exact ⟨rfl, rfl⟩)
        case rest =>
        obtain ⟨rfl, rfl⟩ := hcut
        refine (‹∀ (a : Act) (w : World), Code.wp Tryz.prog _ _ a w → _›) _ _ ?_
        by_cases hm2 : m ≤ 2
        · rw [show decide (m ≤ 2) = true by simpa using hm2]
          obtain ⟨l, hl, hal⟩ := isRow_bytes HROW.out
          have hbn : l.length ≤ maxLen := by
            rw [hl]
            rcases HROW.out with ⟨_, h, _⟩ | ⟨_, _, h1, h2, _⟩
            · rw [h]; exact Nat.zero_le _
            · exact Nat.le_trans h1 h2
          have CC := Lib.hid (fun (X : World) (hX : Below W.heap.size W X) => cut05_any (hal.below hX) hbn)
          obtain ⟨cl, hcl⟩ : ∃ cl, cl = l.take 300 := ⟨_, rfl⟩
          have hcll : cl.length ≤ 300 := by rw [hcl, List.length_take]; omega
          rw [← hcl] at CC
          clear hal hbn hl hcl c0 c2' c3 hm2
          go_wp2_with fail
          refine (CC.out _ wX).mono ?_
          rintro e w3 ⟨v2, rfl, hv2, rfl⟩
          obtain ⟨va, vc, rfl⟩ := hv2.slice
          have CW := Lib.hid (trs_write TX.out wX.size hv2 (by have := TZ.out; omega) (by have := TZ.out; omega) (by have := TZ.out; omega))
          go_wp2_with fail
          refine (CW.out).mono ?_
          rintro e w4 ⟨rfl, ⟨hv', ts4⟩, hb4, hk4⟩
          have wb4 : Below W.heap.size W w4 := wX.trans hb4
          have bx4 : OBox w4 o kd ba bn bc x y := (hk4 o hof hbx.lt).trans hbx
          have dB : Below w4.heap.size w4 w4.drew := (Below.refl _ _).drew
          have ts5 := ts4.below dB
          have bx5 := bx4.below dB
          have wb5 := bto wb4 dB wb4.size
          clear ts4 bx4 wb4 hbx wX TX hv2
          go_wp2_with fail
          refine wp_region_mix [(true, 0), (true, 1), (true, 2), (false, 3), (false, 4), (false, 5)] (fun X => TBx X rb (tCells ra rc Z.1 bv) ∧ X.cell? ⟨o, 1, none⟩ = some (.slice ba bn bc)) (by kernel_rfl) (by kernel_rfl) (by rfl) (by kernel_rfl) (by kernel_rfl) (fun _ _ d _ _ h => by cases d <;> exact h) ⟨ts5.box, bx5.cells.2.1⟩ ?_
          simp only [mixL, List.getElem?_cons_succ, List.getElem?_cons_zero]
          refine' wpMix_read (v := .agg (tCells ra rc Z.1 bv)) rfl ?_ ?_; (intro w' hw1; exact run_tload _ rfl rb rfl _ hw1.1 rfl)
          try simp only [Act.put, List.setIfInBounds_toArray, List.set_cons_zero, List.set_cons_succ]
          repeat (refine' wpMix_read (v := _) rfl ?_ ?_; rotate_left 1; (intro w' hw1; have hy1 := hw1.2; go_simp; try with_reducible rfl); try simp only [Act.put, List.setIfInBounds_toArray, List.set_cons_zero, List.set_cons_succ])
          refine wpMix_act (fun K hK => ?_)
          go_wp2_with fail
          refine (CC.out _ wb5).mono ?_
          rintro e w6 ⟨v3, rfl, hv3, rfl⟩
          obtain ⟨va3, vc3, rfl⟩ := hv3.slice
          have CW3 := Lib.hid (rwrite_any (F := Fr rb b p q hv') (v := .slice va3 cl.length vc3) (Fr.new ts5) ts5.hb (hv3.mono (fun _ _ _ => trivial)) ts5.okr (by have := TZ.out; omega) (by have := TZ.out; omega) (by have := TZ.out; omega) ts5.g)
          go_wp2_with fail
          refine hK _ _ (fun _ => ⟨ts5.box, bx5.cells.2.1⟩) ?_
          clear hK K
          refine wpMix_act (fun K hK => ?_)
          go_wp2_with fail
          refine (CW3.out).mono ?_
          rintro e w7 ⟨a8, c8, bv8, rfl, g8, hbv8, hb8⟩
          have ts7 := ts5.below hb8
          have bx7 := bx5.below hb8
          have wb7 := bto wb5 hb8 wb5.size
          have hone := hbv8.one
          go_wp2_with fail
          refine hK _ _ (fun _ => ⟨ts7.box, bx7.cells.2.1⟩) ?_
          clear hK K
          refine wpMix_act (fun K hK => ?_)
          have p8 := ts7.box
          go_wp2_with (refine wpList_tstore rfl _ _ rfl rb rfl _ rfl (tCells ra rc Z.1 bv) ?_ rfl rfl (tCells_one _ _ _ hone) ?_; exact p8; intro w9 p9 o9)
          refine hK _ _ (fun h => absurd rfl h) ?_
          clear hK K
          refine wpMix_nil ?_
          obtain ⟨ts9, hb9, _⟩ := ts7.rput p9 o9 g8 hbv8 (ts7.okr.run _) wb7.size
          have FIN : Hid (TRI W rb (k + 1) (.pointer (some ⟨b, 0, none⟩)) w9 b p q hv' a8 c8 bv8 (runT Z.1 (Z.2 ++ cl))) := Lib.hid (by
            have hc := run_cnt _ Z.1 (Z.2 ++ cl) (Nat.le_refl _)
            rw [List.length_append] at hc
            have hz := TZ.out
            exact { u := rfl, s := ts9, wb := wb7.trans hb9, len := run_waits _ _ _ (Nat.le_refl _), gone := by omega, bells := by omega })
          go_wp2
          go_meet
          exact ⟨b, p, q, hv', a8, c8, bv8, _, FIN.out⟩
        · rw [show decide (m ≤ 2) = false by simpa using hm2]
          have hone := TX.out.hb.one
          by_cases hm3 : m = 3
          · subst hm3
            have ts := TX.out
            by_cases hd : 1 ≤ x ∧ x ≤ 500 ∧ 1 ≤ y ∧ y ≤ 500
            · obtain ⟨xn, rfl⟩ := Int.eq_ofNat_of_zero_le (show 0 ≤ x by omega)
              obtain ⟨yn, rfl⟩ := Int.eq_ofNat_of_zero_le (show 0 ≤ y by omega)
              have hdn : 1 ≤ xn ∧ xn ≤ 500 ∧ 1 ≤ yn ∧ yn ≤ 500 := by omega
              have CR1 := Lib.hid (rtresize_ok (F := Fr rb b p q hv) (Fr.new ts) hone ts.okr (by have := TZ.out; omega) ts.g xn yn hdn)
              clear hd
              have p1 := ts.box
              clear hm2 c0 c1
              go_wp2_with (refine wpList_tload rfl _ rfl rb rfl (tCells ra rc Z.1 bv) ?_ rfl ?_; exact p1)
              refine (CR1.out).mono ?_
              rintro e w2 ⟨a2, c2, rfl, g2, hb2⟩
              dsimp only at g2
              have ts2 := ts.below hb2
              have bx2 := hbx.below hb2
              have wb2 := bto wX hb2 wX.size
              have bn : Below w2.heap.size w2 (w2.alloc (.cells zCells 63)) := (Below.refl _ _).alloc (Nat.le_refl _) _
              have pn : TBx (w2.alloc (.cells zCells 63)) w2.heap.size zCells := TBx.new _ _
              clear p1 hbx wX TX ts c2' c3
              go_upto_region 20 with (refine wpList_tstore rfl _ _ rfl w2.heap.size rfl (tCells a2 c2 (Z.1.resize xn yn) bv) rfl zCells ?_ rfl rfl (tCells_one _ _ _ hone) ?_; exact pn; intro w4 p4 o4)
              have b4 : Below w2.heap.size w2 w4 := bn.trans (o4.below (by simp) bn.size)
              have ts4 := ts2.below b4
              have bx4 := bx2.below b4
              have wb4 := bto wb2 b4 wb2.size
              have g4 := g2.below b4
              have p4b := ts4.box
              clear ts2 bx2 wb2 g2 bn pn o4 b4 hb2
              go_upto_region 21 with (first
                | (refine wpList_tload rfl _ rfl w2.heap.size rfl (tCells a2 c2 (Z.1.resize xn yn) bv) ?_ rfl ?_; exact p4)
                | (refine wpList_tstore rfl _ _ rfl rb rfl (tCells a2 c2 (Z.1.resize xn yn) bv) rfl (tCells ra rc Z.1 bv) ?_ rfl rfl (tCells_one _ _ _ hone) ?_; exact p4b; intro w5 p5 o5))
              obtain ⟨ts5, hb5, hk5⟩ := ts4.rput (y := (Z.1.resize xn yn, Z.2)) p5 o5 g4 ts4.hb (ts4.okr.resize hdn) wb4.size
              have wb5 := wb4.trans hb5
              have bx5 : OBox w5 o kd ba bn bc xn yn := (hk5 o hof bx4.lt).trans bx4
              obtain ⟨c0, c1, c2', c3⟩ := bx5.cells
              have TS5 := Lib.hid ts5
              have CP1 := Lib.hid (tresize_ok ts5.a ts5.okp (by have := TZ.out; omega) xn yn hdn)
              clear c0 c1 p5 o5 g4 p4 p4b ts4 bx4 wb4 hb5 hk5 ts5 bx5
              go_wp2_with fail
              refine (CP1.out).mono ?_
              rintro e w6 ⟨rfl, q', a6, o6, hq6⟩
              obtain ⟨ts6, hb6, _⟩ := TS5.out.psized a6 o6 hq6 (TS5.out.okp.resize hdn) wb5.size
              have FIN : Hid (TRI W rb (k + 1) (.pointer (some ⟨b, 0, none⟩)) w6 b p q' hv a2 c2 bv (Z.1.resize xn yn, Z.2)) := Lib.hid (by
                have hz := TZ.out
                have hg : goneN Z.1.H yn Z.1.row ≤ 500 := by
                  have := TS5.out.okp.h2
                  unfold goneN lastN
                  omega
                exact { u := rfl, s := ts6, wb := wb5.trans hb6, len := hz.1, gone := by show Z.1.gone + _ ≤ _; omega, bells := by show Z.1.bells ≤ _; omega })
              go_wp2
              go_meet
              exact ⟨b, p, q', hv, a2, c2, bv, _, FIN.out⟩
            · have CR1 := Lib.hid (rtresize_bad (F := Fr rb b p q hv) hone ts.g x y hd)
              have p1 := ts.box
              have HD := Lib.hid hd
              clear hm2 hd c0 c1
              go_wp2_with (refine wpList_tload rfl _ rfl rb rfl (tCells ra rc Z.1 bv) ?_ rfl ?_; exact p1)
              refine (CR1.out).mono ?_
              rintro e w2 ⟨a2, c2, rfl, g2, hb2⟩
              dsimp only at g2
              have ts2 := ts.below hb2
              have bx2 := hbx.below hb2
              have wb2 := bto wX hb2 wX.size
              have bn : Below w2.heap.size w2 (w2.alloc (.cells zCells 63)) := (Below.refl _ _).alloc (Nat.le_refl _) _
              have pn : TBx (w2.alloc (.cells zCells 63)) w2.heap.size zCells := TBx.new _ _
              clear p1 hbx wX TX ts c2' c3
              go_upto_region 20 with (refine wpList_tstore rfl _ _ rfl w2.heap.size rfl (tCells a2 c2 (Z.1) bv) rfl zCells ?_ rfl rfl (tCells_one _ _ _ hone) ?_; exact pn; intro w4 p4 o4)
              have b4 : Below w2.heap.size w2 w4 := bn.trans (o4.below (by simp) bn.size)
              have ts4 := ts2.below b4
              have bx4 := bx2.below b4
              have wb4 := bto wb2 b4 wb2.size
              have g4 := g2.below b4
              have p4b := ts4.box
              clear ts2 bx2 wb2 g2 bn pn o4 b4 hb2
              go_upto_region 21 with (first
                | (refine wpList_tload rfl _ rfl w2.heap.size rfl (tCells a2 c2 (Z.1) bv) ?_ rfl ?_; exact p4)
                | (refine wpList_tstore rfl _ _ rfl rb rfl (tCells a2 c2 (Z.1) bv) rfl (tCells ra rc Z.1 bv) ?_ rfl rfl (tCells_one _ _ _ hone) ?_; exact p4b; intro w5 p5 o5))
              obtain ⟨ts5, hb5, hk5⟩ := ts4.rput (y := Z) p5 o5 g4 ts4.hb (ts4.okr) wb4.size
              have wb5 := wb4.trans hb5
              have bx5 : OBox w5 o kd ba bn bc x y := (hk5 o hof bx4.lt).trans bx4
              obtain ⟨c0, c1, c2', c3⟩ := bx5.cells
              have TS5 := Lib.hid ts5
              have CP1 := Lib.hid (tresize_bad ts5.a ts5.okp.toTO0 x y HD.out)
              clear c0 c1 p5 o5 g4 p4 p4b ts4 bx4 wb4 hb5 hk5 ts5 bx5
              go_wp2_with fail
              refine (CP1.out).mono ?_
              rintro e w6 ⟨rfl, hb6⟩
              have ts6 := TS5.out.below hb6
              have FIN : Hid (TRI W rb (k + 1) (.pointer (some ⟨b, 0, none⟩)) w6 b p q hv a2 c2 bv Z) := Lib.hid (by
                have hz := TZ.out
                exact { u := rfl, s := ts6, wb := bto wb5 hb6 wb5.size, len := hz.1, gone := by omega, bells := by omega })
              go_wp2
              go_meet
              exact ⟨b, p, q, hv, a2, c2, bv, _, FIN.out⟩
          · obtain rfl : m = 4 := by omega
            have ts := TX.out
            have CF := Lib.hid (tfork_any ts.a ts.h wX.size (by have := TZ.out; omega))
            clear hm2 hm3 c0 c1 c2' c3 ts
            go_wp2_with fail
            refine (CF.out).mono ?_
            rintro e w2 ⟨b', p', q', hv', rfl, a', h', hn', ho', hb'⟩
            have ts2 := TX.out.forked a' h' hn' ho' hb' wX.size
            have FIN : Hid (TRI W rb (k + 1) (.pointer (some ⟨b', 0, none⟩)) w2 b' p' q' hv' ra rc bv Z) := Lib.hid (by
              have hz := TZ.out
              exact { u := rfl, s := ts2, wb := bto wX hb' wX.size, len := hz.1, gone := by omega, bells := by omega })
            clear ts2 a' h' hn' ho' hb'
            go_wp2
            go_meet
            exact ⟨b', p', q', hv', ra, rc, bv, _, FIN.out⟩
      case rest =>
        obtain ⟨b', p', q', hv', ra', rc', bv', Z', ti⟩ := hcut
        obtain ⟨rfl, ts, wb, zl, zg, zb⟩ := ti
        clear hbx wX TX TZ c0 c1 c2' c3 hof
        have CC := Lib.hid (tcursor_any ts.a)
        have TS1 := Lib.hid ts
        clear ts
        go_wp2_with fail
        refine (CC.out).mono ?_
        rintro e w2 ⟨rfl, hb2⟩
        have CZ := Lib.hid (tsize_any (TS1.out.below hb2).a)
        go_wp2_with fail
        refine (CZ.out).mono ?_
        rintro e w3 ⟨rfl, hb3⟩
        have ts3 := (TS1.out.below hb2).below hb3
        have wb3 := bto (bto wb hb2 wb.size) hb3 (by have := wb.size; have := hb2.size; omega)
        have p3 := ts3.box
        have CS := Lib.hid (shows_any ts3.a ts3.h ts3.okp.toTO0 ts3.g ts3.hb)
        have hrow : (Z'.1.row : Int) < (Z'.1.H : Int) := by have := ts3.okp.row; omega
        have hcol : (Z'.1.col : Int) < (Z'.1.W : Int) := by have := ts3.okp.col; omega
        have hpe := ts3.okp.pe
        have TS3 := Lib.hid ts3
        obtain ⟨pd, hpd⟩ : ∃ pd, pd = Z'.1.pend := ⟨_, rfl⟩
        have hpw : pd = true → (Z'.1.col : Int) = (Z'.1.W : Int) - 1 := fun h => by have := hpe (by rw [← hpd]; exact h); omega
        have HPD := Lib.hid hpd
        have hw5 := ts3.okp.w2
        have hw1 := ts3.okp.w1
        clear hb2 hb3 wb ts3 hpe CC CZ hpd
        go_wp2_with (refine wpList_tload rfl _ rfl rb rfl (tCells ra' rc' Z'.1 bv') ?_ rfl ?_; exact p3)
        refine (CS.out).mono ?_
        rintro e w4 ⟨rfl, hb4⟩
        have ts4 := TS3.out.below hb4
        have wb4 := bto wb3 hb4 wb3.size
        have CP := Lib.hid (tpending_any ts4.a)
        have CWt := Lib.hid (twaits_any ts4.a ts4.h)
        rw [← HPD.out] at CP
        have TS4 := Lib.hid ts4
        have FIN : Hid (TRI W rb (k + 1) (.pointer (some ⟨b', 0, none⟩)) w4 b' p' q' hv' ra' rc' bv' Z') := Lib.hid { u := rfl, s := ts4, wb := wb4, len := zl, gone := zg, bells := zb }
        clear ts4 wb3 hb4 p3
        have zl2 : ¬ (32 : Int) ≤ (Z'.2.length : Nat) := by omega
        cases pd with
        | false =>
          clear hpw HPD
          go_wp2_with (first
            | (go_at_call 57; refine (CP.out).mono ?_; rintro e z ⟨rfl, rfl⟩)
            | (go_at_call 58; refine (CWt.out).mono ?_; rintro e z ⟨rfl, rfl⟩))
          go_roundw
          case rel => exact ⟨k + 1, b', p', q', hv', ra', rc', bv', Z', hl1, hl2, by go_num, rfl, FIN⟩
          case measure => simp [intOf]; omega
        | true =>
          have hpw := hpw rfl
          clear HPD
          go_wp2_with (first
            | (go_at_call 57; refine (CP.out).mono ?_; rintro e z ⟨rfl, rfl⟩)
            | (go_at_call 58; refine (CWt.out).mono ?_; rintro e z ⟨rfl, rfl⟩))
          go_roundw
          case rel => exact ⟨k + 1, b', p', q', hv', ra', rc', bv', Z', hl1, hl2, by go_num, rfl, FIN⟩
          case measure => simp [intOf]; omega
    · have BE := ti.out.wb
      clear ti
      by_cases h1 : (k : Int) < (n2 : Int)
      · have h2 : ¬ (k : Int) < 30 := fun h => hlt ⟨by omega, by omega⟩
        clear hlt
        go_wp2
        go_ret
        exact ⟨rfl, BE⟩
      · clear hlt
        go_wp2
        go_ret
        exact ⟨rfl, BE⟩
theorem termRuns_law (w0 h0 : Int) (a2 : Option Addr) (n2 c2 : Nat) (W : World) (_hw : (Lit.int .i64 w0).wf = true) (_hh : (Lit.int .i64 h0).wf = true) (r2 : OpsAt W a2 n2 c2) :
    Calls Tryz.prog 9 #[.int .i64 w0, .int .i64 h0, .slice a2 n2 c2] W fun e w' => e = .returned (.bool true) ∧ Below W.heap.size W w' := by
  by_cases hd : 1 ≤ w0 ∧ w0 ≤ 500 ∧ 1 ≤ h0 ∧ h0 ≤ 500
  · obtain ⟨w, rfl⟩ := Int.eq_ofNat_of_zero_le (show 0 ≤ w0 by omega)
    obtain ⟨h, rfl⟩ := Int.eq_ofNat_of_zero_le (show 0 ≤ h0 by omega)
    exact termRuns_ok w h a2 n2 c2 W (by omega) r2
  · exact termRuns_bad w0 h0 a2 n2 c2 W hd r2
end Go.Proofs.YtekodpcedjpnjaaGreat
