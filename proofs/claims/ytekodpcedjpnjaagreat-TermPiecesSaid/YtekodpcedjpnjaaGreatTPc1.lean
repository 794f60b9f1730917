/- Several terminals side by side: a write to one of them leaves the others as they were. The law's cut. No condition but that the bytes are not too many. -/
import Derived.Test.YtekodpcedjpnjaaGreatRT17
import Derived.Test.YtekodpcedjpnjaaGreatClose
namespace Go.Proofs.YtekodpcedjpnjaaGreat
set_option linter.unusedVariables false
set_option linter.unusedSimpArgs false
open Go.RowKit Go.Shelf Go.Maps
theorem isRow_bytes {w : World} {a : Option Addr} {len cap : Nat} {zs : List Int} (h : IsRow .u8 w a len cap zs) : ∃ l : List UInt8, l.length = len ∧ HAF (fun b => b < w.heap.size) w (.slice a len cap) l := by
  rcases h with ⟨rfl, rfl, rfl, rfl⟩ | ⟨⟨b, off, spot⟩, rfl, h1, h2, h3, h4, h5⟩
  · exact ⟨[], rfl, .inl (.inl ⟨rfl, rfl⟩)⟩
  · rcases Nat.eq_zero_or_pos len with h0 | h0
    · subst h0
      exact ⟨[], rfl, .inr ⟨_, _, rfl, rfl⟩⟩
    · have hs : spot = none := by
        have h := h4 0 (by omega)
        simpa [Addr.add] using World.cell?_spot h
      subst hs
      have hlt : b < w.heap.size := by
        have h := h4 0 (by omega)
        rw [Go.WideShapes.add_plain] at h
        exact World.block_lt_of_cell? w _ h
      refine ⟨(zs.take len).map (fun z => UInt8.ofNat z.toNat), by simp; omega, .inl (.inr ⟨b, off, len, cap, rfl, by simp; omega, ⟨h1, h2⟩, ⟨hlt, fun j hj => ?_⟩, hlt⟩)⟩
      have hj2 : j < len ∧ j < zs.length := by simp only [List.length_map, List.length_take] at hj; omega
      have hc := h4 j hj2.2
      rw [Go.WideShapes.add_plain] at hc
      rw [hc]
      have hw := h5 (zs.getD j 0) (by
        rw [List.getD_eq_getElem?_getD, List.getElem?_eq_getElem hj2.2]
        exact List.getElem_mem hj2.2)
      have hb : 0 ≤ zs.getD j 0 ∧ zs.getD j 0 ≤ 255 := by simpa [Lit.wf, IntKind.min, IntKind.max, IntKind.signed, IntKind.bits] using hw
      congr 2
      have e : nth 0 ((zs.take len).map (fun z => UInt8.ofNat z.toNat)) j = UInt8.ofNat (zs.getD j 0).toNat := by
        unfold nth
        rw [List.getD_eq_getElem?_getD, List.getElem?_map, List.getElem?_take_of_lt hj2.1, List.getD_eq_getElem?_getD, List.getElem?_eq_getElem hj2.2]
        rfl
      rw [e]
      obtain ⟨z, hz⟩ : ∃ z, z = zs.getD j 0 := ⟨_, rfl⟩
      rw [← hz] at hb ⊢
      have : (UInt8.ofNat z.toNat).toNat = z.toNat % 256 := by simp
      rw [this]
      omega
set_option maxRecDepth 100000 in
set_option maxHeartbeats 4000000 in
theorem cut05_any {F : Nat → Prop} {W : World} {v : Value} {l : List UInt8} (h : HAF F W v l) (hl : l.length ≤ maxLen) : Calls Tryz.prog 46 #[v] W fun e w' => ∃ v2, e = .returned v2 ∧ HAF F W v2 (l.take 300) ∧ W = w' := by
  unfold maxLen at hl
  rcases h with (⟨rfl, rfl⟩ | ⟨g, off, n, c, rfl, hn, ⟨h1, h2⟩, hB, hFg⟩) | ⟨ad, c, rfl, rfl⟩
  · go_enter Tryz.func46, Tryz.ntmps46
    go_wp2
    go_ret
    exact ⟨_, rfl, .inl (.inl ⟨rfl, rfl⟩), rfl⟩
  · obtain ⟨k, hk⟩ : ∃ k, k = min n 300 := ⟨_, rfl⟩
    have hmin : min (n : Int) 300 = (k : Int) := by omega
    have hkn : k ≤ n := by omega
    have hkc : (k : Int) ≤ (c : Int) := by omega
    have FIN : Hid (HAF F W (.slice (some ⟨g, off, none⟩) k c) (l.take 300)) := Lib.hid (.inl (.inr ⟨g, off, k, c, rfl, by rw [List.length_take, hn, hk]; omega, ⟨by omega, h2⟩, hB.take 300, hFg⟩))
    have hn64 : (n : Int) ≤ 9223372036854775807 := by omega
    clear hk hB hn h2 hl hFg
    go_enter Tryz.func46, Tryz.ntmps46
    go_wp2
    go_ret
    exact ⟨_, rfl, FIN.out, rfl⟩
  · go_enter Tryz.func46, Tryz.ntmps46
    go_wp2
    go_ret
    exact ⟨_, rfl, .inr ⟨_, _, rfl, rfl⟩, rfl⟩
/-- A load of the struct behind a guard that holds. -/
theorem wpList_tloadG {ops : Array Oper} {rest : List Oper} {op : Oper} {a : Act} {w : World} {Q : Exit → Act → World → Prop} (hgd : Region.wanted op (yielded ops a.tmps) = true) (x : Operand) (ho : op.op = .load 63 x)
    (b : Nat) (hx : a.eval x = .pointer (some ⟨b, 0, none⟩)) (cs : Array Value) (hb : TBx w b cs) (hs : cs.size = 19)
    (h : wpList Tryz.prog ops Q rest (a.put op.dst (.agg cs)) w) : wpList Tryz.prog ops Q (op :: rest) a w :=
  wpList_step fun K hK => by
    rw [if_pos hgd]
    have hl := hb.load hs
    unfold Oper.wp execOp
    simp only [ho, hx, Sem.run_bind, Sem.run_pure, Result.andThen_ok, Instr.loadAt, Instr.sureAddr, asAddr, hl]
    exact hK _ _ h
/-! ### three terminals -/
structure Ad where
  b : Nat
  p : Nat
  q : Nat
/-- Where the terminals' blocks are, apart from one another. -/
structure Apt (A : Nat → Ad) (m : Nat) (N : Nat) : Prop where
  lt : ∀ i, i < m → (A i).b < N ∧ (A i).p < N ∧ (A i).q < N
  ne : ∀ i j, i < m → j < m → i ≠ j → ((A i).b ≠ (A j).b ∧ (A i).p ≠ (A j).b ∧ (A i).q ≠ (A j).b) ∧ ((A i).b ≠ (A j).q ∧ (A i).p ≠ (A j).q ∧ (A i).q ≠ (A j).q)
def blks (A : Nat → Ad) (m : Nat) : List Nat := (List.range m).flatMap fun i => [(A i).b, (A i).q]
theorem blks_mem {A : Nat → Ad} {m i : Nat} (h : i < m) : (A i).b ∈ blks A m ∧ (A i).q ∈ blks A m := by
  constructor <;> exact List.mem_flatMap.2 ⟨i, List.mem_range.2 h, by simp⟩
/-- m terminals stand as m states; the world V is as it was but for their blocks. -/
structure Tms (V : World) (n₀ : Nat) (A : Nat → Ad) (m : Nat) (x : Nat → TS × List UInt8) (hv : Nat → Value) (X : World) : Prop where
  at_ : ∀ i, i < m → TmAt X (A i).b (A i).p (A i).q (hv i) (x i).1 ∧ Held X n₀ (hv i) (x i).2
  new : ∀ i, i < m → ∀ k, (hv i).ownBlock = some k → V.heap.size ≤ k
  ne : ∀ i j, i < m → j < m → i ≠ j → ∀ k, (hv i).ownBlock = some k → (hv j).ownBlock ≠ some k
  only : Only (blks A m) V X
theorem Tms.below {V X Y : World} {n₀ m : Nat} {A : Nat → Ad} {x : Nat → TS × List UInt8} {hv : Nat → Value} (s : Tms V n₀ A m x hv X) (hb : Below X.heap.size X Y) : Tms V n₀ A m x hv Y :=
  { at_ := fun i hi => ⟨(s.at_ i hi).1.below hb, (s.at_ i hi).2.keep (Only.of_below hb : Only [] X Y) (fun k _ => by simp)⟩, new := s.new, ne := s.ne, only := only_chain s.only (Only.of_below hb : Only [] X Y) (fun k hk => by simp at hk) }
def upd {α : Type} (f : Nat → α) (j : Nat) (v : α) : Nat → α := fun i => if i = j then v else f i
theorem upd_self {α : Type} (f : Nat → α) (j : Nat) (v : α) : upd f j v j = v := if_pos rfl
theorem upd_ne {α : Type} (f : Nat → α) {i j : Nat} (v : α) (h : i ≠ j) : upd f j v i = f i := if_neg h
/-- One of them is written. -/
theorem Tms.write {V X Y : World} {n₀ m : Nat} {A : Nat → Ad} {x : Nat → TS × List UInt8} {hv : Nat → Value} (s : Tms V n₀ A m x hv X) (ap : Apt A m V.heap.size) {j : Nat} (hj : j < m) {y : TS × List UInt8} (st : WrSt X (A j).b (A j).p (A j).q n₀ (hv j) y Y) :
    ∃ hv', Tms V n₀ A m (upd x j y) hv' Y := by
  obtain ⟨w, a, h, o, f⟩ := st
  have hVX := s.only.size
  refine ⟨upd hv j w, { at_ := fun i hi => ?_, new := fun i hi k e => ?_, ne := fun i i' hi hi' hne k e => ?_, only := ?_ }⟩
  · by_cases e : i = j
    · subst e; rw [upd_self, upd_self]; exact ⟨a, h⟩
    · rw [upd_ne _ _ e, upd_ne _ _ e]
      obtain ⟨a1, h1⟩ := s.at_ i hi
      obtain ⟨n1, n2⟩ := ap.ne i j hi hj e
      have ho : ∀ k, (hv j).ownBlock = some k → V.heap.size ≤ k := s.new j hj
      have hl := ap.lt i hi
      refine ⟨a1.only o ?_ ?_ ?_, h1.keep o (fun k e1 hk => ?_)⟩
      · simp only [List.mem_cons, not_or]
        exact ⟨n1.1, n2.1, fun hk => by have := own_in (hv' := hv j) (hv := hv j) (W := V) (S := []) (fun k e => .inl e) (fun k e => .inr (ho k e)) _ hk; simp at this; omega⟩
      · simp only [List.mem_cons, not_or]
        exact ⟨n1.2.1, n2.2.1, fun hk => by have := own_in (hv' := hv j) (hv := hv j) (W := V) (S := []) (fun k e => .inl e) (fun k e => .inr (ho k e)) _ hk; simp at this; omega⟩
      · simp only [List.mem_cons, not_or]
        exact ⟨n1.2.2, n2.2.2, fun hk => by have := own_in (hv' := hv j) (hv := hv j) (W := V) (S := []) (fun k e => .inl e) (fun k e => .inr (ho k e)) _ hk; simp at this; omega⟩
      · obtain ⟨aj, _⟩ := s.at_ j hj
        obtain ⟨f1, f2, f3⟩ := aj.far h1
        rcases List.mem_cons.1 hk with h2 | h2
        · exact f1 (by rw [e1, h2])
        rcases List.mem_cons.1 h2 with h3 | h3
        · exact f3 (by rw [e1, h3])
        · have : (hv j).ownBlock = some k := by
            cases h4 : (hv j).ownBlock with
            | none => rw [h4] at h3; simp at h3
            | some z => rw [h4] at h3; simp at h3; rw [h3]
          exact s.ne i j hi hj e k e1 this
  · by_cases e1 : i = j
    · subst e1; rw [upd_self] at e
      rcases f k e with h1 | h1
      · exact s.new i hi k h1
      · omega
    · rw [upd_ne _ _ e1] at e; exact s.new i hi k e
  · have hold : ∀ i, i < m → ∀ k, (hv i).ownBlock = some k → k < X.heap.size := fun i hi k e => by
      obtain ⟨_, h1⟩ := s.at_ i hi
      obtain ⟨_, cur, hc⟩ := h1.type k e
      exact (Array.getElem?_eq_some_iff.1 hc).1
    by_cases e1 : i = j
    · subst e1
      rw [upd_self] at e
      rw [upd_ne _ _ (Ne.symm hne)]
      rcases f k e with h1 | h1
      · exact s.ne i i' hi hi' hne k h1
      · intro h2; have := hold i' hi' k h2; omega
    · rw [upd_ne _ _ e1] at e
      by_cases e2 : i' = j
      · subst e2
        rw [upd_self]
        intro h2
        rcases f k h2 with h1 | h1
        · exact s.ne i i' hi hi' hne k e h1
        · have := hold i hi k e; omega
      · rw [upd_ne _ _ e2]; exact s.ne i i' hi hi' hne k e
  · refine only_chain s.only o (fun k hk => ?_)
    rcases List.mem_cons.1 hk with h2 | h2
    · exact .inl (by rw [h2]; exact (blks_mem hj).1)
    rcases List.mem_cons.1 h2 with h3 | h3
    · exact .inl (by rw [h3]; exact (blks_mem hj).2)
    · exact own_in (hv' := hv j) (hv := hv j) (W := V) (S := blks A m) (fun k e => .inl e) (fun k e => .inr (s.new j hj k e)) k h3
theorem part_of {N : Nat} {X : World} {v : Value} {s : List UInt8} (h : HAF (fun k => k < N) X v s) {b q : Nat} {hv : Value} (hb : N ≤ b) (hq : N ≤ q) (hh : ∀ k, hv.ownBlock = some k → N ≤ k) : PartV X b q hv v s := by
  rcases h with (h | ⟨g, off, n, c, h1, h2, h3, h4, h5⟩) | ⟨ad, c, h1, h2⟩
  · exact .inl h
  · exact .inr (.inr ⟨g, off, n, c, h1, h2, h4, ⟨by omega, by omega, fun e => by have := hh _ e; omega⟩⟩)
  · exact .inr (.inl ⟨ad, c, h1, h2⟩)
theorem part_below {W W' : World} {b q : Nat} {hv v : Value} {s : List UInt8} (h : PartV W b q hv v s) (hb : Below W.heap.size W W') : PartV W' b q hv v s := by
  rcases h with h | h | ⟨g, off, n, c, h1, h2, h3, h4⟩
  · exact .inl h
  · exact .inr (.inl h)
  · exact .inr (.inr ⟨g, off, n, c, h1, h2, h3.below hb, h4⟩)
/-- One part, two parts, in a slice just made. -/
theorem parts_1 {X : World} {b q : Nat} {hv v : Value} {s : List UInt8} (h : PartV X b q hv v s) (hb : b < X.heap.size) (hq : q < X.heap.size) (hh : ∀ k, hv.ownBlock = some k → k < X.heap.size) :
    PartsAt (X.alloc (.cells #[v] 61)) b q hv (some ⟨X.heap.size, 0, none⟩) 1 [s] := by
  have b1 : Below X.heap.size X (X.alloc (.cells #[v] 61)) := (Below.refl _ _).alloc (Nat.le_refl _) _
  refine ⟨rfl, fun i z hz => ?_⟩
  match i, hz with
  | 0, hz =>
    simp only [List.getElem?_cons_zero, Option.some.injEq] at hz
    subst hz
    exact ⟨_, _, _, rfl, by simp, ⟨by omega, by omega, fun e => by have := hh _ e; omega⟩, (cell_new_l X _ _).1, part_below h b1⟩
  | i + 1, hz => simp at hz
theorem parts_2 {X : World} {b q : Nat} {hv v u : Value} {s r : List UInt8} (h : PartV X b q hv v s) (h' : PartV X b q hv u r) (hb : b < X.heap.size) (hq : q < X.heap.size) (hh : ∀ k, hv.ownBlock = some k → k < X.heap.size) :
    PartsAt (X.alloc (.cells #[v, u] 61)) b q hv (some ⟨X.heap.size, 0, none⟩) 2 [s, r] := by
  have b1 : Below X.heap.size X (X.alloc (.cells #[v, u] 61)) := (Below.refl _ _).alloc (Nat.le_refl _) _
  have hc := World.alloc_heap_new X (.cells #[v, u] 61)
  refine ⟨rfl, fun i z hz => ?_⟩
  match i, hz with
  | 0, hz =>
    simp only [List.getElem?_cons_zero, Option.some.injEq] at hz
    subst hz
    exact ⟨_, _, _, rfl, by simp, ⟨by omega, by omega, fun e => by have := hh _ e; omega⟩, by rw [cell_of_row _ _ _ _ _ _ hc]; rfl, part_below h b1⟩
  | 1, hz =>
    simp only [List.getElem?_cons_succ, List.getElem?_cons_zero, Option.some.injEq] at hz
    subst hz
    exact ⟨_, _, _, rfl, by simp, ⟨by omega, by omega, fun e => by have := hh _ e; omega⟩, by rw [cell_of_row _ _ _ _ _ _ hc]; rfl, part_below h' b1⟩
  | i + 2, hz => simp at hz
/-- Write at one of several terminals. -/
theorem tms_write {V X : World} {n₀ m : Nat} {A : Nat → Ad} {x : Nat → TS × List UInt8} {hv : Nat → Value} (s : Tms V n₀ A m x hv X) (ap : Apt A m V.heap.size) (hn₀ : n₀ ≤ V.heap.size) {j : Nat} (hj : j < m) {pa : Option Addr} {np pc : Nat} {P : List (List UInt8)}
    (hP : PartsAt X (A j).b (A j).q (hv j) pa np P) (ok : TOk (x j).1) (hlen : (x j).2.length + P.flatten.length ≤ 100000) (hg : (x j).1.gone + 100000 < 4611686018427387904) (hbl : (x j).1.bells + 100000 < 4611686018427387904) (hnp : np ≤ 1000000) :
    Calls Tryz.prog 49 #[.pointer (some ⟨(A j).b, 0, none⟩), .slice pa np pc] X fun e Y => e = .returned (.tuple #[]) ∧ ∃ hv', Tms V n₀ A m (upd x j (P.foldl runP (x j))) hv' Y := by
  obtain ⟨a, h⟩ := s.at_ j hj
  refine (pwrite_any a h ok (Nat.le_trans hn₀ s.only.size) hP hlen hg hbl hnp).mono ?_
  rintro e Y ⟨he, st⟩
  exact ⟨he, s.write ap hj st⟩
theorem Tms.hv_lt {V X : World} {n₀ m : Nat} {A : Nat → Ad} {x : Nat → TS × List UInt8} {hv : Nat → Value} (s : Tms V n₀ A m x hv X) {i : Nat} (hi : i < m) : ∀ k, (hv i).ownBlock = some k → k < X.heap.size := fun k e => by
  obtain ⟨_, h1⟩ := s.at_ i hi
  obtain ⟨_, cur, hc⟩ := h1.type k e
  exact (Array.getElem?_eq_some_iff.1 hc).1
def tri {α : Type} (a b c : α) : Nat → α := fun i => if i = 0 then a else if i = 1 then b else c
theorem tri_0 {α : Type} (a b c a' : α) : upd (tri a b c) 0 a' = tri a' b c := by
  funext i; unfold upd tri; by_cases h : i = 0
  · rw [if_pos h, if_pos h]
  · rw [if_neg h, if_neg h, if_neg h]
theorem tri_1 {α : Type} (a b c b' : α) : upd (tri a b c) 1 b' = tri a b' c := by
  funext i; unfold upd tri
  by_cases h : i = 1
  · subst h; rfl
  · rw [if_neg h, if_neg h, if_neg h]
theorem Tms.congr {V X : World} {n₀ m : Nat} {A : Nat → Ad} {x y : Nat → TS × List UInt8} {hv : Nat → Value} (s : Tms V n₀ A m x hv X) (h : ∀ i, i < m → x i = y i) : Tms V n₀ A m y hv X :=
  { at_ := fun i hi => by rw [← h i hi]; exact s.at_ i hi, new := s.new, ne := s.ne, only := s.only }
theorem tri_2 {α : Type} (a b c c' : α) {i : Nat} (h : i < 3) : upd (tri a b c) 2 c' i = tri a b c' i := by
  unfold upd tri
  match i, h with
  | 0, _ => rfl
  | 1, _ => rfl
  | 2, _ => rfl
/-- Bytes that came again behind none: nothing more is made of what waits. -/
theorem run_idem (t : TS) (b : List UInt8) : runT (runT t b).1 (runT t b).2 = runT t b := by
  have := run_pieces t b []
  rw [List.append_nil, List.append_nil] at this
  exact this.symm
theorem runP_run (t : TS) (b s : List UInt8) : runP (runT t b) s = runT t (b ++ s) := (run_pieces t b s).symm
end Go.Proofs.YtekodpcedjpnjaaGreat
