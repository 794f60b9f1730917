/- A loop over an iterator that reads, behind each round, a block that it has made itself: the block goes by a ghost number, and the body keeps it; the iterator may go over to a block that it makes anew. No condition. Wrap: the iterator Lines; program. No condition. -/
import Derived.Test.YtmdpmjabjijjiaaBase
import Derived.RangeFuncNested
import Derived.RangeFuncFrom
import Derived.Test.YtmdpmjabjijjiaaWrapR5
namespace Go.Proofs.Ytmdpmjabjijjiaa
set_option linter.unusedVariables false
set_option linter.unusedSimpArgs false
open Go.RowKit
/-- What an iterator promises: as SeqStopsK; it makes a block g, which each round must leave as it is; of each element x that comes behind the elements pre in the world W: X g pre x W. -/
def SeqS {α : Type} (F : Fence) (n : Nat) (P : Program) (gf : Nat) (lb : Array Value) (encs : α → Array Value) (Kp : World → World → Prop) (X : Nat → List α → α → World → Prop) (S Sp : List α → Prop) (N : Nat) (w : World) : Prop :=
  ∀ (l : Nat) (J Jx : Nat → List α → World → Prop) (W : World), Below w.heap.size w W → (∀ g, AbidesFrom W.heap.size (J g)) → (∀ g, AbidesFrom W.heap.size (Jx g)) →
    (∀ g pre x W1, W.heap.size ≤ g → J g pre W1 → X g pre x W1 → pre.length < N → YieldAt F (n - 1) P l (encs x) W1 fun e W' =>
      (e = .returned (.bool true) ∧ J g (pre ++ [x]) W' ∧ (Kp W1 W' ∧ W'.heap[g]? = W1.heap[g]?)) ∨ (e = .returned (.bool false) ∧ Jx g (pre ++ [x]) W')) →
    (∀ g g' pre W1, J g pre W1 → W1.heap.size ≤ g' → J g' pre W1) →
    (∀ g, W.heap.size ≤ g → J g [] W) →
    CallsIn F n P gf (#[.func (.yield l) #[] #[]] ++ lb) W fun e W' => (∃ v, e = .returned v) ∧ ∃ g, ((∃ xs, S xs ∧ J g xs W') ∨ (∃ pre, Sp pre ∧ Jx g pre W'))
section
variable {F : Fence} {n : Nat} {P : Program}
theorem wpIn_rangeFunc_GS {α : Type} {g : Operand} {ps : Array Tmp} {assign body : Code} {Q : Exit → Act → World → Prop} {a : Act} {w : World}
    (hro : F.round = none) (h1 : 1 ≤ n) {gf : Nat} {lb : Array Value} (hg : a.eval g = .func (.func gf) #[] lb) (hFg : F.fn gf) (eg : ∀ args w, (callFunc gf args).run P w = .ok (.enter gf args) w)
    {encs : α → Array Value} {Kp : World → World → Prop} {X : Nat → List α → α → World → Prop} {S Sp : List α → Prop} {N : Nat} {w0 : World} (hseq : SeqS F (n - 1) P gf lb encs Kp X S Sp N w0)
    (hKt : ∀ {A B C : World}, Kp A B → Kp B C → Kp A C) (hKb : ∀ (W : World) (l : Nat) (o o' : Obj), w.heap.size ≤ l → W.heap[l]? = some o → o.isCells = false → o.isWalk = false → Kp W (W.putObj l o')) (hb0 : Below w0.heap.size w0 w) (hps : ∀ x, (encs x).size = ps.size)
    (I : Nat → List α → World → Prop) (Ix : Nat → Code → List α → World → Prop) (hI : ∀ g, OwnFrom w.heap.size (I g)) (hIx : ∀ g c, OwnFrom w.heap.size (Ix g c)) (hsw : ∀ g g' pre W, I g pre W → W.heap.size ≤ g' → I g' pre W) (hX : ∀ g x, OwnFrom w.heap.size (fun pre W => X g pre x W)) (h0 : ∀ g, w.heap.size + 2 ≤ g → I g [] w) (a₁ : α → Act)
    (hassign : ∀ (l : Nat) (x : α) (W : World) (K : Act → World → Prop), K (a₁ x) W →
      assign.wpIn (F.inRound l) (n - 1 - 1) P (Exit.then K (fun _ _ _ => False)) { tmps := (ps.zip (encs x)).foldl (fun t (p, v) => t.setIfInBounds p v) a.tmps, defers := [] } W)
    (hbody : ∀ (l g : Nat) (pre : List α) (x : α) (W : World), w.heap.size ≤ l → l < W.heap.size → w.heap.size + 2 ≤ g → I g pre W → X g pre x W → pre.length < N → body.wpIn (F.inRound l) (n - 1 - 1) P (ownPostG w.heap.size (fun A B => Kp A B ∧ B.heap[g]? = A.heap[g]?) (I g) (Ix g) (pre ++ [x]) W) (a₁ x) W)
    (hdone : ∀ (D g : Nat) (xs : List α) (W : World), w.heap.size ≤ D → S xs → I g xs W → W.heap[D]? = some (.deferred (some [])) → Q .normal { a with defers := { target := .collected D, args := #[] } :: a.defers } W)
    (hstop : ∀ (D g : Nat) (c : Code) (pre : List α) (W : World), w.heap.size ≤ D → Sp pre → Ix g c pre W → W.heap[D]? = some (.deferred (some [])) → c.wpIn F n P Q { a with defers := { target := .collected D, args := #[] } :: a.defers } W) :
    (Code.rangeFunc g ps assign body).wpIn F n P Q a w := by
  refine wpIn_rangeFunc ?_
  intro fn hfn
  rw [hro]
  -- the loop's record, and the block for the rounds' deferred calls
  obtain ⟨R, hR⟩ : ∃ R : LoopState → Option Code → Loop, R = fun st pe => { state := st, pending := pe, fn, tmps := a.tmps, params := ps, assign, body, defers := w.heap.size } := ⟨_, rfl⟩
  obtain ⟨V, hV⟩ : ∃ V, (w.alloc (.deferred (some []))).alloc (.loop (R .ready none)) = V := ⟨_, rfl⟩
  have rec0 : V.heap[w.heap.size + 1]? = some (.loop (R .ready none)) := by
    have := World.alloc_heap_new (w.alloc (.deferred (some []))) (.loop (R .ready none))
    rw [World.size_alloc] at this
    rw [← hV]; exact this
  have def0 : V.heap[w.heap.size]? = some (.deferred (some [])) := by
    rw [← hV, Below.heap_alloc _ _ _ (by simp)]; exact World.alloc_heap_new w _
  have size0 : V.heap.size = w.heap.size + 1 + 1 := by rw [← hV]; simp
  have inv0 : ∀ g, V.heap.size ≤ g → I g [] V := fun g hg => by rw [← hV]; exact (hI g).alloc _ ((hI g).alloc _ (h0 g (by omega)))
  have below0 : Below w0.heap.size w0 V := by
    rw [← hV]; exact hb0.trans ((((Below.refl _ w).alloc (Nat.le_refl _) _).alloc (by simp) _).mono hb0.size)
  refine ⟨w.heap.size + 1, [{ target := .collected w.heap.size, args := #[] }], V, { target := .fn (.func gf) lb, args := #[.func (.yield (w.heap.size + 1)) #[] #[]] }, V, gf,
    #[.func (.yield (w.heap.size + 1)) #[] #[]] ++ lb, V, ?_, ?_, ?_, ?_, fun _ => h1, ?_⟩
  · rw [← hV, hR]; exact run_enterLoop_outer _ _ _ _ _
  · simp only [resolve, hg]
    simp [go_sem]
  · intro f' hf'; simp [Target.leads] at hf'; subst hf'; exact hFg
  · simp [invoke, go_sem, eg]
  · have far : ∀ {A : World} {row : Option Nat}, (∀ r, row = some r → V.heap.size ≤ r ∧ ∃ o : Obj, A.heap[r]? = some o ∧ o.isWalk = true) → ∀ r, row = some r → w.heap.size ≤ r ∧ ∃ o : Obj, A.heap[r]? = some o ∧ o.isCells = false := by
      intro A row hr r e
      obtain ⟨hB, o, ho, hw⟩ := hr r e
      exact ⟨by omega, o, ho, Obj.not_cells_of_walk hw⟩
    have stay : ∀ {A B : World} {row : Option Nat} {k : Nat} {o : Obj}, A.grownBy B row → (∀ r, row = some r → V.heap.size ≤ r ∧ ∃ o : Obj, A.heap[r]? = some o ∧ o.isWalk = true) → A.heap[k]? = some o → o.isWalk = false → B.heap[k]? = some o :=
      fun hg' hr hk ho => (grownBy_keeps hg' (fun r e => (hr r e).2) hk ho).trans hk
    refine (hseq (w.heap.size + 1)
      (fun g pre W => I g pre W ∧ W.heap[w.heap.size + 1]? = some (.loop (R .ready none)) ∧ W.heap[w.heap.size]? = some (.deferred (some [])))
      (fun g pre W => ∃ c, Ix g c pre W ∧ W.heap[w.heap.size + 1]? = some (.loop (R .done (some c))) ∧ W.heap[w.heap.size]? = some (.deferred (some [])))
      V below0
      (fun g s A B row hs hg' hr => ⟨hI g s A B row hs.1 hg' (far hr), stay hg' hr hs.2.1 rfl, stay hg' hr hs.2.2 rfl⟩)
      (fun g s A B row ⟨c, hc, hl, hk⟩ hg' hr => ⟨c, hIx g c s A B row hc hg' (far hr), stay hg' hr hl rfl, stay hg' hr hk rfl⟩)
      ?_ (fun g g' pre W1 hs hg => ⟨hsw g g' pre W1 hs.1 hg, hs.2⟩) (fun g hg => ⟨inv0 g hg, rec0, def0⟩)).mono ?_
    · rintro gh pre x W hgh ⟨hi, hl, hk⟩ hx hlen
      have hgh2 : w.heap.size + 2 ≤ gh := by omega
      have hlt : w.heap.size + 1 < W.heap.size := (Array.getElem?_eq_some_iff.1 hl).1
      have hy := run_yield (P := P) (args := encs x) hl (by rw [hR]; exact hps x)
      rw [hR] at hy
      refine ⟨fn, _, assign, body, hy, roundIn_of_wpIn hfn (hassign _ x W _ ⟨_, run_beginRound hl (by rw [hR]), ?_⟩)⟩
      obtain ⟨W2, hW2⟩ : ∃ W2, W.putObj (w.heap.size + 1) (.loop { R .ready none with state := .busy }) = W2 := ⟨_, rfl⟩
      have hl2 : W2.heap[w.heap.size + 1]? = some (.loop { R .ready none with state := .busy }) := by rw [← hW2]; exact World.putObj_heap_same hlt
      have hk2 : W2.heap[w.heap.size]? = some (.deferred (some [])) := by rw [← hW2]; exact (World.putObj_heap_other (by omega)).trans hk
      have kp2 : Kp W W2 := by rw [← hW2]; exact hKb _ _ _ _ (by omega) hl rfl rfl
      have hg2 : W2.heap[gh]? = W.heap[gh]? := by rw [← hW2]; exact World.putObj_heap_other (by omega)
      have hi2 : I gh pre W2 := by rw [← hW2]; exact (hI gh).putObj _ hi (by omega) hl rfl
      have hx2 : X gh pre x W2 := by rw [← hW2]; exact (hX gh x).putObj _ hx (by omega) hl rfl
      rw [hW2]
      refine wpIn_mono (hbody _ gh pre x _ (by omega) (Array.getElem?_eq_some_iff.1 hl2).1 hgh2 hi2 hx2 hlen) ?_
      -- the round's end: what it turns in the record
      have fin : ∀ (jump : Option Code) (W3 : World), KeepsFrom w.heap.size W2 W3 →
          ∃ st, st = (if jump.isNone then LoopState.ready else LoopState.done) ∧
          (Instr.endRound (w.heap.size + 1) jump).run P W3 = .ok (.bool jump.isNone) (W3.putObj (w.heap.size + 1) (.loop (R st jump))) ∧
          W3.heap[w.heap.size + 1]? = some (.loop { R .ready none with state := .busy }) ∧
          (W3.putObj (w.heap.size + 1) (.loop (R st jump))).heap[w.heap.size + 1]? = some (.loop (R st jump)) ∧
          (W3.putObj (w.heap.size + 1) (.loop (R st jump))).heap[w.heap.size]? = some (.deferred (some [])) := by
        intro jump W3 hk3
        have hl3 := hk3.same _ _ (by omega) hl2 rfl
        have hrun := run_endRound (P := P) jump hl3
        rw [hR] at hrun hl3 ⊢
        exact ⟨_, rfl, hrun, hl3, World.putObj_heap_same (Array.getElem?_eq_some_iff.1 hl3).1, (World.putObj_heap_other (by omega)).trans (hk3.same _ _ (Nat.le_refl _) hk2 rfl)⟩
      intro e a3 W3 hp
      cases e with
      | normal =>
        obtain ⟨hk3, ⟨kp3, hg3⟩, hi3⟩ := hp
        obtain ⟨_, rfl, hr, hl3, hl4, hk4⟩ := fin none W3 hk3
        exact ⟨_, _, hr, .inl ⟨rfl, ⟨(hI gh).putObj _ hi3 (by omega) hl3 rfl, hl4, hk4⟩, hKt (hKt kp2 kp3) (hKb _ _ _ _ (by omega) hl3 rfl rfl), (World.putObj_heap_other (by omega)).trans (hg3.trans hg2)⟩⟩
      | ret =>
        obtain ⟨hk3, hi3⟩ := hp
        obtain ⟨_, rfl, hr, hl3, hl4, hk4⟩ := fin (some .ret) W3 hk3
        exact ⟨_, _, hr, .inr ⟨rfl, .ret, (hIx gh _).putObj _ hi3 (by omega) hl3 rfl, hl4, hk4⟩⟩
      | exit id =>
        obtain ⟨hk3, hi3⟩ := hp
        obtain ⟨_, rfl, hr, hl3, hl4, hk4⟩ := fin (some (.exit id)) W3 hk3
        exact ⟨_, _, hr, .inr ⟨rfl, .exit id, (hIx gh _).putObj _ hi3 (by omega) hl3 rfl, hl4, hk4⟩⟩
      | goto t =>
        obtain ⟨hk3, hi3⟩ := hp
        obtain ⟨_, rfl, hr, hl3, hl4, hk4⟩ := fin (some (.goto t)) W3 hk3
        exact ⟨_, _, hr, .inr ⟨rfl, .goto t, (hIx gh _).putObj _ hi3 (by omega) hl3 rfl, hl4, hk4⟩⟩
      | panic ch => exact hp.elim
      | outgrown => exact hp.elim
    · rintro e W2 ⟨⟨v, rfl⟩, gh, (⟨xs, hS, hi, hl, hk⟩ | ⟨pre, hSp, c, hi, hl, hk⟩)⟩
      · have hrun := run_endLoop (P := P) hl (by rw [hR]; simp)
        rw [hR] at hrun
        exact ⟨none, _, hrun, hdone _ gh xs _ (Nat.le_refl _) hS ((hI gh).putObj _ hi (by omega) hl rfl) ((World.putObj_heap_other (by omega)).trans hk)⟩
      · have hrun := run_endLoop (P := P) hl (by rw [hR]; simp)
        rw [hR] at hrun
        exact ⟨some c, _, hrun, hstop _ gh c pre _ (Nat.le_refl _) hSp ((hIx gh c).putObj _ hi (by omega) hl rfl) ((World.putObj_heap_other (by omega)).trans hk)⟩
end
end Go.Proofs.Ytmdpmjabjijjiaa
namespace Go.Proofs.Ytmdpmjabjijjiaa
set_option linter.unusedVariables false
set_option linter.unusedSimpArgs false
open Go.RowKit Go.Shelf Go.Maps
attribute [local go_sem] Oper.semAt_some
/-- What Lines yields of the first n texts. -/
def linesP (few : CL) (m : Int) (n : Nat) : List (Nat × List UInt8) := (List.range n).flatMap fun i => (wrapL (nth [] few i) m).map fun l => (i, l)
theorem linesP_succ (few : CL) (m : Int) (n : Nat) : linesP few m (n + 1) = linesP few m n ++ (wrapL (nth [] few n) m).map fun l => (n, l) := by
  unfold linesP; rw [List.range_succ, List.flatMap_append]; simp
theorem linesP_le (few : CL) (m : Int) {n k : Nat} (h : n ≤ k) : linesP few m n <+: linesP few m k := by
  obtain ⟨d, rfl⟩ := Nat.exists_eq_add_of_le h
  clear h
  induction d with
  | zero => exact List.prefix_refl _
  | succ d ih => rw [← Nat.add_assoc, linesP_succ]; exact ih.trans (List.prefix_append _ _)
/-- Three blocks abide. -/
structure K3 (A B C : Nat) (W W' : World) : Prop where
  a : W'.heap[A]? = W.heap[A]?
  b : W'.heap[B]? = W.heap[B]?
  c : W'.heap[C]? = W.heap[C]?
  size : W.heap.size ≤ W'.heap.size
theorem K3.refl (A B C : Nat) (W : World) : K3 A B C W W := ⟨rfl, rfl, rfl, Nat.le_refl _⟩
theorem K3.trans {A B C : Nat} {u v w : World} (h : K3 A B C u v) (k : K3 A B C v w) : K3 A B C u w := ⟨k.a.trans h.a, k.b.trans h.b, k.c.trans h.c, Nat.le_trans h.size k.size⟩
theorem K3.of_below {A B C n : Nat} {W W' : World} (h : Below n W W') (ha : A < n) (hb : B < n) (hc : C < n) : K3 A B C W W' := ⟨h.block A ha, h.block B hb, h.block C hc, h.size⟩
theorem K3.put {A B C : Nat} {w : World} (ha : A < w.heap.size) (hb : B < w.heap.size) (hc : C < w.heap.size) (W : World) (l : Nat) (o o' : Obj) (hl : w.heap.size ≤ l) (h : W.heap[l]? = some o) (h1 : o.isCells = false) (h2 : o.isWalk = false) : K3 A B C W (W.putObj l o') :=
  K3.of_below (belowK_b (Nat.le_refl _) W l o o' hl h h1 h2) ha hb hc
theorem wlines_any (m : Int) (a : Option Addr) (n c : Nat) (W : World) : Calls Try.prog 111 #[.int .i64 m, .slice a n c] W fun e w' =>
    e = .returned (.func (.func 134) #[] #[.pointer (some ⟨W.heap.size + 1, 0, none⟩), .pointer (some ⟨W.heap.size, 0, none⟩)]) ∧ (W.alloc (.cells #[.int .i64 m] 3)).alloc (.cells #[.slice a n c] 23) = w' := by
  go_enter Try.func111, Try.ntmps111
  go_wp2
  go_ret
  exact ⟨rfl, rfl⟩
def encN (x : Nat × List UInt8) : Array Value := #[.int .i64 (x.1 : Nat), .string (S x.2)]
theorem take_pairsN (L : CL) (i k : Nat) (h : k < L.length) : (L.take (k + 1)).map (fun l => (i, l)) = (L.take k).map (fun l => (i, l)) ++ [(i, nth [] L k)] := by
  rw [List.take_succ_eq_append_getElem h, List.map_append, nth_eq _ _ _ h]; rfl
theorem wrapL_len (s : List UInt8) (m : Int) (hs : s.length ≤ 400) : (wrapL s m).length ≤ 60001 := by
  by_cases h1 : m < 1
  · unfold wrapL; rw [if_pos h1]; simp
  · have hfl := flat_len64 s
    have hcl := cutL_len (flatL s)
    have hfacts := words_facts (cutL (flatL s)) (fun c hc => clu_mem hc)
    have hbulk := wordS_bulk (cutL (flatL s)) ([], false)
    change bulkW (wordsL (cutL (flatL s))) ≤ _ ∧ (wordsL (cutL (flatL s))).length ≤ _ at hbulk
    have hb : bulkW (wordsL (cutL (flatL s))) ≤ 30000 ∧ (wordsL (cutL (flatL s))).length ≤ 30000 := by simp [bulkW] at hbulk; unfold bulkW; omega
    unfold wrapL
    rw [if_neg h1]
    obtain ⟨⟨d, l, u⟩, hq⟩ : ∃ q, q = (wordsL (cutL (flatL s))).foldl (addG m) ([], [], 0) := ⟨_, rfl⟩
    have := page_facts (m := m) (by omega) (wordsL (cutL (flatL s))) (fun x hx => ⟨(hfacts x hx).1, (hfacts x hx).2.1⟩) (wordsL (cutL (flatL s))).length d l u (by rw [List.take_length]; exact hq.symm)
    rw [← hq]
    unfold endG
    split
    · show (d ++ [l]).length ≤ _
      rw [List.length_append]; simp; omega
    · show d.length ≤ _
      omega
theorem linesP_len (few : CL) (m : Int) (h : ∀ s ∈ few, s.length ≤ 400) : ∀ n, n ≤ few.length → (linesP few m n).length ≤ n * 60001
  | 0, _ => by simp [linesP]
  | n + 1, hn => by
    have h1 := linesP_len few m h n (by omega)
    have h2 := wrapL_len (nth [] few n) m (h _ (by rw [nth_eq _ _ _ (by omega)]; exact List.getElem_mem (by omega)))
    rw [linesP_succ, List.length_append, List.length_map]
    omega
set_option maxRecDepth 100000 in
set_option maxHeartbeats 8000000 in
theorem lines1_seq (few : CL) (m : Int) (hf : few.length ≤ 6) (hfs : ∀ s ∈ few, s.length ≤ 400) (hm : -9223372036854775808 ≤ m ∧ m ≤ 1000) (Bw Bt Bf off c : Nat) (a : Option Addr) (hcn : few.length ≤ c) (hcm : c ≤ 9223372036854775807) (w : World) (hBw : Bw < w.heap.size) (hBt : Bt < w.heap.size) (hBf : Bf < w.heap.size)
    (hcw : w.cell? ⟨Bw, 0, none⟩ = some (.int .i64 m)) (hct : w.cell? ⟨Bt, 0, none⟩ = some (.slice a few.length c)) (hca : ∀ k, k < few.length → a = some ⟨Bf, off, none⟩ ∧ w.cell? ⟨Bf, off + k, none⟩ = some (.string (S (nth [] few k)))) (mm : Nat) (hmm : 1 ≤ mm) :
    SeqS Fence.wide mm Try.prog 134 #[.pointer (some ⟨Bt, 0, none⟩), .pointer (some ⟨Bw, 0, none⟩)] encN (K3 Bw Bt Bf) (fun g pre x W => pre ++ [x] <+: linesP few m few.length ∧ ∃ cur, W.heap[g]? = some (.cells cur 9 (0, 0))) (fun ys => ys = linesP few m few.length) (fun pre => pre <+: linesP few m few.length) 400000 w := by
  intro L J Jx W hW0 hJ hJx hY hsw h0
  have hW := K3.of_below hW0 hBw hBt hBf
  have hsW := hW.size
  have hctW := (cell_block hW.b).trans hct
  clear hW0
  have HCA := Lib.hid hca
  have HFS := Lib.hid hfs
  clear hca hfs
  refine callsIn_of_wp Try.func134 rfl trivial ?_ rfl
  simp only [Try.ntmps134, List.size_toArray, List.length_cons, List.length_nil, Nat.reduceAdd, Nat.reduceSub, Array.replicate_succ, Array.replicate_zero, List.push_toArray, List.append_toArray, List.nil_append, List.cons_append]
  gi_wp2
  gi_loopw [10] (fun i wr => ∃ (k : Nat) (g : Nat), k ≤ few.length ∧ i = .int .i64 (k : Int) ∧ W.heap.size ≤ g ∧ J g (linesP few m k) wr ∧ K3 Bw Bt Bf W wr) (fun i _ => few.length - (intOf i).toNat)
  case atStart => exact ⟨0, W.heap.size, Nat.zero_le _, rfl, Nat.le_refl _, h0 _ (Nat.le_refl _), K3.refl _ _ _ _⟩
  case round =>
    obtain ⟨k, g, hk, rfl, hg, hJs, hnx⟩ := hrel
    by_cases hlt : k < few.length
    · obtain ⟨rfl, hc0⟩ := HCA.out k hlt
      have hd0 := (cell_block (hW.trans hnx).c).trans hc0
      have hdw := (cell_block (hW.trans hnx).a).trans hcw
      have hsl := HFS.out (nth [] few k) (by rw [nth_eq _ _ _ hlt]; exact List.getElem_mem hlt)
      have hsc := linesP_succ few m k
      have hle := linesP_le few m (n := k + 1) (k := few.length) hlt
      have hlen := linesP_len few m HFS.out few.length (Nat.le_refl _)
      obtain ⟨s, hs⟩ : ∃ s, s = nth [] few k := ⟨_, rfl⟩
      rw [← hs] at hd0 hsl hsc
      have CW := (fun W => wrap_own s m hsl hm W)
      obtain ⟨D, hD⟩ : ∃ D, D = wrapL s m := ⟨_, rfl⟩
      rw [← hD] at CW hsc
      obtain ⟨pre, hpre⟩ : ∃ pre, pre = linesP few m k := ⟨_, rfl⟩
      rw [← hpre] at hsc hJs
      have hszr := hnx.size
      have hsz2 := hW.size
      have HSC := Lib.hid hsc
      have HLE := Lib.hid hle
      have HLEN := Lib.hid hlen
      have CW := Lib.hid CW
      have hkc : k < c := by omega
      have HLT := Lib.hid hlt
      clear hs hD hpre hc0 hsc hle hlen hsl
      gi_wp2_with (refine ⟨trivial, ?_⟩; gi_at_call 59; refine (callsIn_wide.2 (CW.out _)).mono ?_; rintro e w3 ⟨v3, rfl, ho3, hb3⟩; obtain ⟨a3, c3, rfl⟩ := own_slice ho3)
      obtain ⟨hrow3, hnc3, hcm3⟩ := own_row_at ho3
      have hcm39 : c3 ≤ 9223372036854775807 := by unfold maxLen at hcm3; omega
      obtain ⟨gb, hgb, ha3, hcur⟩ : ∃ gb, wr.heap.size ≤ gb ∧ (∀ b o, a3 = some ⟨b, o, none⟩ → b = gb) ∧ (0 < D.length → ∃ cur, w3.heap[gb]? = some (.cells cur 9 (0, 0))) := by
        rcases ho3.2 with ⟨h1, h10⟩ | ⟨g', c', cur, h1, h2, h3, _⟩
        · simp only [Value.slice.injEq] at h1
          obtain ⟨rfl, _⟩ := h1
          exact ⟨wr.heap.size, Nat.le_refl _, (fun b o e => by cases e), (fun hp => by omega)⟩
        · simp only [Value.slice.injEq] at h1
          obtain ⟨rfl, _⟩ := h1
          exact ⟨g', h2, fun b o e => by simp only [Option.some.injEq, Addr.mk.injEq] at e; exact e.1.symm, fun _ => ⟨cur, h3⟩⟩
      have hJ3 : J gb pre w3 := hJ gb pre wr w3 none (hsw g gb pre wr hJs hgb) (grown_of_below hb3) (fun r e => by cases e)
      have hb3s := hb3.size
      have hK3 : K3 Bw Bt Bf W w3 := hnx.trans (K3.of_below hb3 (by omega) (by omega) (by omega))
      have HCUR := Lib.hid hcur
      clear ho3 hJs hcur
      gi_loopw [19] (fun j wr' => ∃ q : Nat, q ≤ D.length ∧ j = .int .i64 (q : Int) ∧ J gb (pre ++ (D.take q).map (fun l => (k, l))) wr' ∧ K3 Bw Bt Bf W wr' ∧ w3.heap.size ≤ wr'.heap.size ∧ wr'.heap[gb]? = w3.heap[gb]?) (fun j _ => D.length - (intOf j).toNat)
      case atStart => exact ⟨0, Nat.zero_le _, rfl, by simpa using hJ3, hK3, Nat.le_refl _, rfl⟩
      case round =>
        obtain ⟨q, hq, rfl, hJq, hKq, hsq, hgq⟩ := hrel
        by_cases hql : q < D.length
        · obtain ⟨b4, o4, rfl, hb4, hc4⟩ := strs_at hrow3 q hql
          obtain rfl := ha3 b4 o4 rfl
          have hd4 := (cell_block hgq).trans hc4
          have htp := take_pairsN D k q hql
          have hpx : (pre ++ (D.take q).map (fun l => (k, l))) ++ [(k, nth [] D q)] <+: linesP few m few.length := by
            refine List.IsPrefix.trans ?_ HLE.out
            rw [HSC.out, List.append_assoc, ← htp]
            exact (List.prefix_append_right_inj pre).2 (List.IsPrefix.map _ (List.take_prefix _ _))
          have hpl : (pre ++ (D.take q).map (fun l => (k, l))).length < 400000 := by
            have h1 := hpx.length_le
            rw [List.length_append] at h1
            have := HLEN.out
            simp only [List.length_cons, List.length_nil] at h1
            omega
          obtain ⟨fn, tmps, assign, body, hy, hR⟩ := hY b4 (pre ++ (D.take q).map (fun l => (k, l))) (k, nth [] D q) wr (by omega) hJq ⟨hpx, by obtain ⟨cur, hc⟩ := HCUR.out (by omega); exact ⟨cur, hgq.trans hc⟩⟩ hpl
          dsimp only [encN] at hy
          obtain ⟨C, hC⟩ : ∃ C, C = nth [] D q := ⟨_, rfl⟩
          rw [← hC] at hd4 hy
          have HPX := Lib.hid hpx
          have HTP := Lib.hid htp
          have hqc : q < c3 := by omega
          have HQL := Lib.hid hql
          clear hC hpx hpl htp hc4
          gi_wp2
          refine hR.mono ?_
          rintro e W5 (⟨rfl, hJ5, hk5, hg5⟩ | ⟨rfl, hJx5⟩)
          · have hs5 := hk5.size
            gi_wp2
            go_roundw
            case rel => exact ⟨q + 1, HQL.out, by go_num, by rw [HTP.out, ← List.append_assoc]; exact hJ5, hKq.trans hk5, by omega, hg5.trans hgq⟩
            case measure => simp [intOf]; omega
          · gi_wp2
            refine bodyPost_ret (results_none rfl _ _ _) rfl ?_
            exact ⟨⟨_, rfl⟩, b4, .inr ⟨_, HPX.out, hJx5⟩⟩
        · obtain rfl : q = D.length := by omega
          rw [List.take_length] at hJq
          gi_wp2
          go_roundw
          case rel => exact ⟨k + 1, gb, HLT.out, by go_num, by omega, by rw [HSC.out]; exact hJq, hKq⟩
          case measure => simp [intOf]; omega
    · obtain rfl : k = few.length := by omega
      gi_wp2
      go_end0
      exact ⟨⟨_, rfl⟩, g, .inl ⟨_, rfl, hJs⟩⟩
end Go.Proofs.Ytmdpmjabjijjiaa
