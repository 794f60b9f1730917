/- A loop over an iterator with a ghost block, whose rounds begin with a new variable. No condition. diff.All: the iterator over the spans between two frames. No condition but that the strings are not too long for a cut. diff.Changed, of any two frames. No condition but that the strings are not too long for a cut. -/
import Derived.Test.YtekodpcedjpnjaaGreatBs01
import Derived.Test.YtekodpcedjpnjaaGreatBs07
import Derived.Test.YtekodpcedjpnjaaGreatBs45
import Derived.Test.YtekodpcedjpnjaaGreatBs47
set_option linter.unusedVariables false
set_option linter.unusedSimpArgs false
namespace Go.Proofs.YtekodpcedjpnjaaGreat
open Go.RowKit
section
variable {F : Fence} {n : Nat} {P : Program}
theorem wpIn_rangeFunc_GA {α : Type} {g : Operand} {ps : Array Tmp} {assign body : Code} {Q : Exit → Act → World → Prop} {a : Act} {w : World}
    (hro : F.round = none) (h1 : 1 ≤ n) {gf : Nat} {lb : Array Value} (hg : a.eval g = .func (.func gf) #[] lb) (hFg : F.fn gf) (eg : ∀ args w, (callFunc gf args).run P w = .ok (.enter gf args) w)
    {encs : α → Array Value} {Kp : World → World → Prop} {X : Nat → List α → α → World → Prop} {S Sp : List α → Prop} {N : Nat} {w0 : World} (hseq : SeqG F (n - 1) P gf lb encs Kp X S Sp N w0)
    (hKt : ∀ {A B C : World}, Kp A B → Kp B C → Kp A C) (hKb : ∀ (W : World) (l : Nat) (o o' : Obj), w.heap.size ≤ l → W.heap[l]? = some o → o.isCells = false → o.isWalk = false → Kp W (W.putObj l o')) (hb0 : Below w0.heap.size w0 w) (hps : ∀ x, (encs x).size = ps.size)
    (I : Nat → List α → World → Prop) (Ix : Nat → Code → List α → World → Prop) (hI : ∀ g, OwnFrom w.heap.size (I g)) (hIx : ∀ g c, OwnFrom w.heap.size (Ix g c)) (hX : ∀ g x, OwnFrom w.heap.size (fun pre W => X g pre x W)) (h0 : ∀ g, w.heap.size + 2 ≤ g → I g [] w) (a₁ : α → Nat → Act) (oα : α → Obj) (hKa : ∀ (W Wα : World), w.heap.size ≤ W.heap.size → Below W.heap.size W Wα → Kp W Wα) (hXg : ∀ g pre x W, X g pre x W → g < W.heap.size)
    (hassign : ∀ (l : Nat) (x : α) (W : World) (k : Nat) (K : Act → World → Prop), k = W.heap.size → (∀ Wα : World, Below W.heap.size W Wα → Wα.heap[k]? = some (oα x) → K (a₁ x k) Wα) →
      assign.wpIn (F.inRound l) (n - 1 - 1) P (Exit.then K (fun _ _ _ => False)) { tmps := (ps.zip (encs x)).foldl (fun t (p, v) => t.setIfInBounds p v) a.tmps, defers := [] } W)
    (hbody : ∀ (l g : Nat) (pre : List α) (x : α) (k : Nat) (W : World), w.heap.size ≤ l → l < W.heap.size → w.heap.size + 2 ≤ g → w.heap.size + 2 ≤ k → W.heap[k]? = some (oα x) → k ≠ g → I g pre W → X g pre x W → pre.length < N → body.wpIn (F.inRound l) (n - 1 - 1) P (ownPostG w.heap.size (fun A B => Kp A B ∧ B.heap[g]? = A.heap[g]?) (I g) (Ix g) (pre ++ [x]) W) (a₁ x k) W)
    (hdone : ∀ (D g : Nat) (xs : List α) (W : World), w.heap.size ≤ D → S xs → I g xs W → W.heap[D]? = some (.deferred (some [])) → Q .normal { a with defers := { target := .collected D, args := #[] } :: a.defers } W)
    (hstop : ∀ (D g : Nat) (c : Code) (pre : List α) (W : World), w.heap.size ≤ D → Sp pre → Ix g c pre W → W.heap[D]? = some (.deferred (some [])) → c.wpIn F n P Q { a with defers := { target := .collected D, args := #[] } :: a.defers } W) :
    (Code.rangeFunc g ps assign body).wpIn F n P Q a w := by
  refine wpIn_rangeFunc ?_
  intro fn hfn
  rw [hro]
  -- the loop's record, and the block for the rounds' deferred calls
  obtain ⟨R, hR⟩ : ∃ R : LoopState → Option Code → Loop, R = fun st pe => { state := st, pending := pe, fn, tmps := a.tmps, params := ps, assign, body, defers := w.heap.size } := ⟨_, rfl⟩
  obtain ⟨V, hV⟩ : ∃ V, (w.alloc (.deferred (some []))).alloc (.loop (R .ready none)) = V := ⟨_, rfl⟩
  have rec0 : V.heap[w.heap.size + 1]? = some (.loop (R .ready none)) := by
    have := World.alloc_heap_new (w.alloc (.deferred (some []))) (.loop (R .ready none))
    rw [World.size_alloc] at this
    rw [← hV]; exact this
  have def0 : V.heap[w.heap.size]? = some (.deferred (some [])) := by
    rw [← hV, Below.heap_alloc _ _ _ (by simp)]; exact World.alloc_heap_new w _
  have size0 : V.heap.size = w.heap.size + 1 + 1 := by rw [← hV]; simp
  have inv0 : ∀ g, V.heap.size ≤ g → I g [] V := fun g hg => by rw [← hV]; exact (hI g).alloc _ ((hI g).alloc _ (h0 g (by omega)))
  have below0 : Below w0.heap.size w0 V := by
    rw [← hV]; exact hb0.trans ((((Below.refl _ w).alloc (Nat.le_refl _) _).alloc (by simp) _).mono hb0.size)
  refine ⟨w.heap.size + 1, [{ target := .collected w.heap.size, args := #[] }], V, { target := .fn (.func gf) lb, args := #[.func (.yield (w.heap.size + 1)) #[] #[]] }, V, gf,
    #[.func (.yield (w.heap.size + 1)) #[] #[]] ++ lb, V, ?_, ?_, ?_, ?_, fun _ => h1, ?_⟩
  · rw [← hV, hR]; exact run_enterLoop_outer _ _ _ _ _
  · simp only [resolve, hg]
    simp [go_sem]
  · intro f' hf'; simp [Target.leads] at hf'; subst hf'; exact hFg
  · simp [invoke, go_sem, eg]
  · have far : ∀ {A : World} {row : Option Nat}, (∀ r, row = some r → V.heap.size ≤ r ∧ ∃ o : Obj, A.heap[r]? = some o ∧ o.isWalk = true) → ∀ r, row = some r → w.heap.size ≤ r ∧ ∃ o : Obj, A.heap[r]? = some o ∧ o.isCells = false := by
      intro A row hr r e
      obtain ⟨hB, o, ho, hw⟩ := hr r e
      exact ⟨by omega, o, ho, Obj.not_cells_of_walk hw⟩
    have stay : ∀ {A B : World} {row : Option Nat} {k : Nat} {o : Obj}, A.grownBy B row → (∀ r, row = some r → V.heap.size ≤ r ∧ ∃ o : Obj, A.heap[r]? = some o ∧ o.isWalk = true) → A.heap[k]? = some o → o.isWalk = false → B.heap[k]? = some o :=
      fun hg' hr hk ho => (grownBy_keeps hg' (fun r e => (hr r e).2) hk ho).trans hk
    refine (hseq (w.heap.size + 1)
      (fun g pre W => I g pre W ∧ W.heap[w.heap.size + 1]? = some (.loop (R .ready none)) ∧ W.heap[w.heap.size]? = some (.deferred (some [])))
      (fun g pre W => ∃ c, Ix g c pre W ∧ W.heap[w.heap.size + 1]? = some (.loop (R .done (some c))) ∧ W.heap[w.heap.size]? = some (.deferred (some [])))
      V below0
      (fun g s A B row hs hg' hr => ⟨hI g s A B row hs.1 hg' (far hr), stay hg' hr hs.2.1 rfl, stay hg' hr hs.2.2 rfl⟩)
      (fun g s A B row ⟨c, hc, hl, hk⟩ hg' hr => ⟨c, hIx g c s A B row hc hg' (far hr), stay hg' hr hl rfl, stay hg' hr hk rfl⟩)
      ?_ (fun g hg => ⟨inv0 g hg, rec0, def0⟩)).mono ?_
    · rintro gh pre x W hgh ⟨hi, hl, hk⟩ hx hlen
      have hgh2 : w.heap.size + 2 ≤ gh := by omega
      have hlt : w.heap.size + 1 < W.heap.size := (Array.getElem?_eq_some_iff.1 hl).1
      have hy := run_yield (P := P) (args := encs x) hl (by rw [hR]; exact hps x)
      rw [hR] at hy
      refine ⟨fn, _, assign, body, hy, roundIn_of_wpIn hfn (hassign _ x W _ _ rfl (fun Wα hbel hoα => ⟨_, run_beginRound ((hbel.block _ hlt).trans hl) (by rw [hR]), ?_⟩))⟩
      have hlα : Wα.heap[w.heap.size + 1]? = some (.loop (R .ready none)) := (hbel.block _ hlt).trans hl
      have hltα : w.heap.size + 1 < Wα.heap.size := (Array.getElem?_eq_some_iff.1 hlα).1
      have hkα : Wα.heap[w.heap.size]? = some (.deferred (some [])) := (hbel.block _ (by omega)).trans hk
      have hiα : I gh pre Wα := hI gh pre W Wα none hi (grown_of_below hbel) (fun r e => by cases e)
      have hxα : X gh pre x Wα := hX gh x pre W Wα none hx (grown_of_below hbel) (fun r e => by cases e)
      have kpα : Kp W Wα := hKa W Wα (by omega) hbel
      have hglt := hXg gh pre x W hx
      have hgα : Wα.heap[gh]? = W.heap[gh]? := hbel.block gh hglt
      obtain ⟨W2, hW2⟩ : ∃ W2, Wα.putObj (w.heap.size + 1) (.loop { R .ready none with state := .busy }) = W2 := ⟨_, rfl⟩
      have hl2 : W2.heap[w.heap.size + 1]? = some (.loop { R .ready none with state := .busy }) := by rw [← hW2]; exact World.putObj_heap_same hltα
      have hk2 : W2.heap[w.heap.size]? = some (.deferred (some [])) := by rw [← hW2]; exact (World.putObj_heap_other (by omega)).trans hkα
      have kp2 : Kp Wα W2 := by rw [← hW2]; exact hKb _ _ _ _ (by omega) hlα rfl rfl
      have ho2 : W2.heap[W.heap.size]? = some (oα x) := by rw [← hW2]; exact (World.putObj_heap_other (by omega)).trans hoα
      have hg2 : W2.heap[gh]? = W.heap[gh]? := by rw [← hW2]; exact (World.putObj_heap_other (by omega)).trans hgα
      have hi2 : I gh pre W2 := by rw [← hW2]; exact (hI gh).putObj _ hiα (by omega) hlα rfl
      have hx2 : X gh pre x W2 := by rw [← hW2]; exact (hX gh x).putObj _ hxα (by omega) hlα rfl
      rw [hW2]
      refine wpIn_mono (hbody _ gh pre x _ _ (by omega) (Array.getElem?_eq_some_iff.1 hl2).1 hgh2 (by omega) ho2 (by omega) hi2 hx2 hlen) ?_
      -- the round's end: what it turns in the record
      have fin : ∀ (jump : Option Code) (W3 : World), KeepsFrom w.heap.size W2 W3 →
          ∃ st, st = (if jump.isNone then LoopState.ready else LoopState.done) ∧
          (Instr.endRound (w.heap.size + 1) jump).run P W3 = .ok (.bool jump.isNone) (W3.putObj (w.heap.size + 1) (.loop (R st jump))) ∧
          W3.heap[w.heap.size + 1]? = some (.loop { R .ready none with state := .busy }) ∧
          (W3.putObj (w.heap.size + 1) (.loop (R st jump))).heap[w.heap.size + 1]? = some (.loop (R st jump)) ∧
          (W3.putObj (w.heap.size + 1) (.loop (R st jump))).heap[w.heap.size]? = some (.deferred (some [])) := by
        intro jump W3 hk3
        have hl3 := hk3.same _ _ (by omega) hl2 rfl
        have hrun := run_endRound (P := P) jump hl3
        rw [hR] at hrun hl3 ⊢
        exact ⟨_, rfl, hrun, hl3, World.putObj_heap_same (Array.getElem?_eq_some_iff.1 hl3).1, (World.putObj_heap_other (by omega)).trans (hk3.same _ _ (Nat.le_refl _) hk2 rfl)⟩
      intro e a3 W3 hp
      cases e with
      | normal =>
        obtain ⟨hk3, ⟨kp3, hg3⟩, hi3⟩ := hp
        obtain ⟨_, rfl, hr, hl3, hl4, hk4⟩ := fin none W3 hk3
        exact ⟨_, _, hr, .inl ⟨rfl, ⟨(hI gh).putObj _ hi3 (by omega) hl3 rfl, hl4, hk4⟩, hKt (hKt (hKt kpα kp2) kp3) (hKb _ _ _ _ (by omega) hl3 rfl rfl), (World.putObj_heap_other (by omega)).trans (hg3.trans hg2)⟩⟩
      | ret =>
        obtain ⟨hk3, hi3⟩ := hp
        obtain ⟨_, rfl, hr, hl3, hl4, hk4⟩ := fin (some .ret) W3 hk3
        exact ⟨_, _, hr, .inr ⟨rfl, .ret, (hIx gh _).putObj _ hi3 (by omega) hl3 rfl, hl4, hk4⟩⟩
      | exit id =>
        obtain ⟨hk3, hi3⟩ := hp
        obtain ⟨_, rfl, hr, hl3, hl4, hk4⟩ := fin (some (.exit id)) W3 hk3
        exact ⟨_, _, hr, .inr ⟨rfl, .exit id, (hIx gh _).putObj _ hi3 (by omega) hl3 rfl, hl4, hk4⟩⟩
      | goto t =>
        obtain ⟨hk3, hi3⟩ := hp
        obtain ⟨_, rfl, hr, hl3, hl4, hk4⟩ := fin (some (.goto t)) W3 hk3
        exact ⟨_, _, hr, .inr ⟨rfl, .goto t, (hIx gh _).putObj _ hi3 (by omega) hl3 rfl, hl4, hk4⟩⟩
      | panic ch => exact hp.elim
      | outgrown => exact hp.elim
    · rintro e W2 ⟨⟨v, rfl⟩, gh, (⟨xs, hS, hi, hl, hk⟩ | ⟨pre, hSp, c, hi, hl, hk⟩)⟩
      · have hrun := run_endLoop (P := P) hl (by rw [hR]; simp)
        rw [hR] at hrun
        exact ⟨none, _, hrun, hdone _ gh xs _ (Nat.le_refl _) hS ((hI gh).putObj _ hi (by omega) hl rfl) ((World.putObj_heap_other (by omega)).trans hk)⟩
      · have hrun := run_endLoop (P := P) hl (by rw [hR]; simp)
        rw [hR] at hrun
        exact ⟨some c, _, hrun, hstop _ gh c pre _ (Nat.le_refl _) hSp ((hIx gh c).putObj _ hi (by omega) hl rfl) ((World.putObj_heap_other (by omega)).trans hk)⟩
end
end Go.Proofs.YtekodpcedjpnjaaGreat
namespace Go.Proofs.YtekodpcedjpnjaaGreat
open Go.RowKit Go.Shelf Go.Maps
attribute [local go_sem] Oper.semAt_some
theorem call10_any (v1 v2 : Value) (r1 k1 r2 k2 : Int) (s1 s2 : Bool) (w : World) : Calls Tryz.prog 109 #[.agg #[v1, .int .i64 r1, .int .i64 k1, .bool s1], .agg #[v2, .int .i64 r2, .int .i64 k2, .bool s2]] w fun e w' => e = .returned (.func (.func 182) #[] #[.pointer (some ⟨w.heap.size, 0, none⟩), .pointer (some ⟨w.heap.size + 1, 0, none⟩)]) ∧ (w.alloc (.cells #[v1, .int .i64 r1, .int .i64 k1, .bool s1] 52)).alloc (.cells #[v2, .int .i64 r2, .int .i64 k2, .bool s2] 52) = w' := by
  go_enter Tryz.func109, Tryz.ntmps109
  go_wp2
  go_ret
  exact ⟨rfl, rfl⟩
def spA (s : Nat × Nat × Nat) : Value := .agg #[.int .i64 (s.1 : Nat), .int .i64 (s.2.1 : Nat), .int .i64 (s.2.2 : Nat)]
def encSp (l : List (Nat × Nat × Nat)) (i : Nat) : Array Value := #[.int .i64 (i : Nat), spA (nth (0, 0, 0) l i)]
def XSp (l : List (Nat × Nat × Nat)) (g : Nat) (pre : List Nat) (x : Nat) (W : World) : Prop := (x = pre.length ∧ x < l.length) ∧ ∃ cur, W.heap[g]? = some (.cells cur 166 (0, 0))
theorem XSp.own {B : Nat} (l : List (Nat × Nat × Nat)) (g x : Nat) : OwnFrom B (fun pre W => XSp l g pre x W) := fun s W W' row hs hg hr => ⟨hs.1, by
  obtain ⟨cur, h⟩ := hs.2
  exact ⟨cur, (grownBy_keeps_cells hg (fun r e => (hr r e).2) h rfl).trans h⟩⟩
set_option maxRecDepth 100000 in
set_option maxHeartbeats 8000000 in
theorem all10_seq {w : World} {a1 a2 : Option Addr} {n1 n2 c1 c2 : Nat} {A B : List (List GC)} (hA : RowsAt w a1 n1 A) (hB : RowsAt w a2 n2 B) (hn1 : n1 ≤ maxLen) (hn2 : n2 ≤ maxLen) (sA : ∀ M ∈ A, ∀ c ∈ M, c.s.size ≤ 1100000) (sB : ∀ M ∈ B, ∀ c ∈ M, c.s.size ≤ 1100000) (r1 k1 r2 k2 : Int) (s1 s2 : Bool)
    {p q : Nat} (z1 : FBI w p (.slice a1 n1 c1) r1 k1 s1) (z2 : FBI w q (.slice a2 n2 c2) r2 k2 s2) (mm : Nat) (hm : 1 ≤ mm) :
    SeqG Fence.wide mm Tryz.prog 182 #[.pointer (some ⟨p, 0, none⟩), .pointer (some ⟨q, 0, none⟩)] (encSp (spansE A r1 k1 B r2 k2)) (KB p q) (XSp (spansE A r1 k1 B r2 k2)) (fun ys => ys = List.range (spansE A r1 k1 B r2 k2).length) (fun pre => pre <+: List.range (spansE A r1 k1 B r2 k2).length) (spansE A r1 k1 B r2 k2).length w := by
  intro L J Jx W hW0 hJ hJx hY h0
  have hp := z1.lt
  have hq := z2.lt
  have CS := pspans_any (c1 := c1) (c2 := c2) (hA.below hW0) (hB.below hW0) hn1 hn2 sA sB r1 k1 r2 k2 s1 s2
  have hbd := (spansE_ok A B r1 k1 r2 k2)
  obtain ⟨l, hl⟩ : ∃ l, l = spansE A r1 k1 B r2 k2 := ⟨_, rfl⟩
  obtain ⟨zz, hzz⟩ : ∃ zz, zz = errD (fitF A r1 k1 B r2 k2) := ⟨_, rfl⟩
  rw [← hl, ← hzz] at CS
  rw [← hl] at hY hbd ⊢
  have CS := Lib.hid CS
  obtain ⟨hb1, hb2, hb3⟩ := hbd
  have y1 := z1.below hW0
  have y2 := z2.below hW0
  have hpW := y1.lt
  have hqW := y2.lt
  obtain ⟨u0, u1, u2, u3⟩ := y1.cells
  obtain ⟨v0, v1, v2, v3⟩ := y2.cells
  have HBD := Lib.hid hb1
  clear hl hzz hA hB sA sB hb1 hb2 z1 z2 hW0
  refine callsIn_of_wp Tryz.func182 rfl trivial ?_ rfl
  simp only [Tryz.ntmps182, List.size_toArray, List.length_cons, List.length_nil, Nat.reduceAdd, Nat.reduceSub, Array.replicate_succ, Array.replicate_zero, List.push_toArray, List.append_toArray, List.nil_append, List.cons_append]
  gi_wp2_with (refine ⟨trivial, ?_⟩; gi_at_call 40; refine (callsIn_wide.2 (CS.out)).mono ?_; rintro e w1 ⟨v, rfl, hown, hb1⟩; obtain ⟨av, cv, rfl⟩ := own_sliceF hown)
  obtain ⟨g, hg, hga⟩ : ∃ g, W.heap.size ≤ g ∧ (0 < l.length → av = some ⟨g, 0, none⟩ ∧ ∃ cur, w1.heap[g]? = some (.cells cur 166 (0, 0))) := by
    by_cases h : 0 < l.length
    · obtain ⟨g, c, hv0, _, _, _⟩ := own_neS hown (by omega)
      simp only [Value.slice.injEq, true_and] at hv0
      obtain ⟨rfl, rfl⟩ := hv0
      obtain ⟨h1, cur, h2⟩ := own_cells hown g rfl
      exact ⟨g, h1, fun _ => ⟨rfl, cur, h2⟩⟩
    · exact ⟨W.heap.size, Nat.le_refl _, fun h2 => absurd h2 h⟩
  have hb1k : KB p q W w1 := KB.of_below hb1 hpW hqW
  have hJ0 := hJ g [] W w1 none (h0 g hg) (grown_of_below hb1) (fun r e => by cases e)
  have HOW := Lib.hid hown
  clear h0 hown CS u0 u1 u2 u3 v0 v1 v2 v3 y1 y2
  gi_loopw [16] (fun i wr => ∃ k : Nat, k ≤ l.length ∧ i = .int .i64 (k : Int) ∧ J g (List.range k) wr ∧ KB p q W wr ∧ w1.heap.size ≤ wr.heap.size ∧ (0 < l.length → wr.heap[g]? = w1.heap[g]?))
    (fun i _ => l.length - (intOf i).toNat)
  case atStart => exact ⟨0, Nat.zero_le _, rfl, hJ0, hb1k, Nat.le_refl _, fun _ => rfl⟩
  case round =>
    obtain ⟨k, hk, rfl, hJs, hnx, hsz, hgb⟩ := hrel
    by_cases hlt : k < l.length
    · have hgb := hgb (by omega)
      obtain ⟨ha, cur, hcur⟩ := hga (by omega)
      subst ha
      obtain ⟨sp, hsp⟩ : ∃ s, l[k]? = some s := ⟨_, List.getElem?_eq_getElem hlt⟩
      have hnth : nth (0, 0, 0) l k = sp := by rw [nth_eq _ _ _ hlt]; exact (List.getElem?_eq_some_iff.1 hsp).2
      have hbs := HBD.out sp (List.mem_of_getElem? hsp)
      obtain ⟨sr, sa, se⟩ := sp
      obtain ⟨g0, g1, g2⟩ := spV_get l k (sr, sa, se) hsp
      have x0 := (cell_block hgb).trans (own_get HOW.out g0).1
      have x1 := (cell_block hgb).trans (own_get HOW.out g1).1
      have x2 := (cell_block hgb).trans (own_get HOW.out g2).1
      dsimp only at x0 x1 x2
      have hglt := (Array.getElem?_eq_some_iff.1 hcur).1
      have hbx : Below wr.heap.size wr (wr.alloc (.cells #[.int .i64 sr, .int .i64 sa, .int .i64 se] 166)) := (Below.refl _ _).alloc (Nat.le_refl _) _
      have sx : SpanBx (wr.alloc (.cells #[.int .i64 sr, .int .i64 sa, .int .i64 se] 166)) wr.heap.size sr sa se := World.alloc_heap_new wr _
      obtain ⟨X1, hX1⟩ : ∃ X1, wr.alloc (.cells #[.int .i64 sr, .int .i64 sa, .int .i64 se] 166) = X1 := ⟨_, rfl⟩
      rw [hX1] at hbx sx
      have HX1 := Lib.hid hX1
      have hgX : X1.heap[g]? = w1.heap[g]? := (hbx.block g (by omega)).trans hgb
      obtain ⟨fn, tmps, assign, body, hy, hR⟩ := hY g (List.range k) k X1 hg (hJ g _ _ _ none hJs (grown_of_below hbx) (fun r e => by cases e)) ⟨⟨by simp, hlt⟩, cur, hgX.trans hcur⟩ (by rw [List.length_range]; exact hlt)
      dsimp only [encSp] at hy
      rw [hnth] at hy
      dsimp only [spA] at hy
      obtain ⟨f0, f1, f2⟩ := sx.cells
      have hpw : p < wr.heap.size := by have := hnx.size; omega
      have hqw : q < wr.heap.size := by have := hnx.size; omega
      clear hX1 hnth hsp g0 g1 g2 hbs
      gi_wp2_with (rw [HX1.out])
      refine hR.mono ?_
      rintro e W3 (⟨rfl, hJ3, hk3, hg3⟩ | ⟨rfl, hJx3⟩)
      · gi_wp2
        have hs3 := hk3.size
        go_roundw
        case rel => exact ⟨k + 1, by omega, by go_num, by rw [List.range_succ]; exact hJ3, (hnx.trans (KB.of_below hbx hpw hqw)).trans hk3, by have := hbx.size; omega, fun _ => hg3.trans hgX⟩
        case measure => simp [intOf]; omega
      · gi_wp2
        refine bodyPost_ret (results_none rfl _ _ _) rfl ?_
        exact ⟨⟨_, rfl⟩, g, .inr ⟨List.range (k + 1), range_prefix (by omega), by rw [List.range_succ]; exact hJx3⟩⟩
    · obtain rfl : k = l.length := by omega
      gi_wp2
      go_end0
      exact ⟨⟨_, rfl⟩, g, .inl ⟨_, rfl, hJs⟩⟩
end Go.Proofs.YtekodpcedjpnjaaGreat
namespace Go.Proofs.YtekodpcedjpnjaaGreat
open Go.RowKit Go.Shelf Go.Maps
attribute [local go_sem] Oper.semAt_some
theorem sumS_bd (A B : List (List GC)) (r1 k1 r2 k2 : Int) (j : Nat) : sumS ((spansE A r1 k1 B r2 k2).take j) ≤ 30000 := by
  have h1 := sumS_take (spansE A r1 k1 B r2 k2) j
  have h2 := (spansE_ok A B r1 k1 r2 k2).2.1
  omega
theorem frames2 (Y : World) (v1 v2 : Value) (r1 k1 r2 k2 : Int) (s1 s2 : Bool) (W : World) (hW : (Y.alloc (.cells #[v1, .int .i64 r1, .int .i64 k1, .bool s1] 52)).alloc (.cells #[v2, .int .i64 r2, .int .i64 k2, .bool s2] 52) = W) :
    FBI W Y.heap.size v1 r1 k1 s1 ∧ FBI W (Y.heap.size + 1) v2 r2 k2 s2 ∧ Below Y.heap.size Y W ∧ W.heap.size = Y.heap.size + 1 + 1 := by
  subst hW
  refine ⟨(show FBI (Y.alloc (.cells #[v1, .int .i64 r1, .int .i64 k1, .bool s1] 52)) Y.heap.size v1 r1 k1 s1 from World.alloc_heap_new Y _).below ((Below.refl _ _).alloc (Nat.le_refl _) _), ?_, ((Below.refl _ _).alloc (Nat.le_refl _) _).alloc (by simp) _, by simp⟩
  have : (Y.alloc (.cells #[v1, .int .i64 r1, .int .i64 k1, .bool s1] 52)).heap.size = Y.heap.size + 1 := by simp
  rw [← this]
  exact World.alloc_heap_new _ _
def spO (l : List (Nat × Nat × Nat)) (x : Nat) : Obj := .cells #[.int .i64 (nth (0, 0, 0) l x).1, .int .i64 (nth (0, 0, 0) l x).2.1, .int .i64 (nth (0, 0, 0) l x).2.2] 166
set_option maxRecDepth 100000 in
set_option maxHeartbeats 8000000 in
theorem pchanged_any {W : World} {a1 a2 : Option Addr} {n1 n2 c1 c2 : Nat} {A B : List (List GC)} (hA : RowsAt W a1 n1 A) (hB : RowsAt W a2 n2 B) (hn1 : n1 ≤ maxLen) (hn2 : n2 ≤ maxLen) (sA : ∀ M ∈ A, ∀ c ∈ M, c.s.size ≤ 1100000) (sB : ∀ M ∈ B, ∀ c ∈ M, c.s.size ≤ 1100000) (r1 k1 r2 k2 : Int) (s1 s2 : Bool) :
    Calls Tryz.prog 45 #[(.agg #[.slice a1 n1 c1, .int .i64 r1, .int .i64 k1, .bool s1]), (.agg #[.slice a2 n2 c2, .int .i64 r2, .int .i64 k2, .bool s2])] W fun e w' => e = .returned (.int .i64 (sumS (spansE A r1 k1 B r2 k2))) ∧ Below W.heap.size W w' := by
  have RA := Lib.hid hA
  have RB := Lib.hid hB
  have SA := Lib.hid sA
  have SB := Lib.hid sB
  have HBD := Lib.hid (spansE_ok A B r1 k1 r2 k2)
  have HSB := Lib.hid (sumS_bd A B r1 k1 r2 k2)
  have CA := Lib.hid (fun X => call10_any (.slice a1 n1 c1) (.slice a2 n2 c2) r1 k1 r2 k2 s1 s2 X)
  clear hA hB sA sB
  obtain ⟨z, hz⟩ : ∃ z, z = sumS (spansE A r1 k1 B r2 k2) := ⟨_, rfl⟩
  rw [← hz]
  have HZ := Lib.hid hz
  clear hz
  refine (callsIn_wide (n := 9)).1 ?_
  have h1 : 1 ≤ 9 := by omega
  refine callsIn_of_wp_marks Tryz.func45 rfl trivial ?_ rfl
  simp only [Tryz.ntmps45, List.size_toArray, List.length_cons, List.length_nil, Nat.reduceAdd, Nat.reduceSub, Array.replicate_succ, Array.replicate_zero, List.push_toArray, List.append_toArray, List.nil_append, List.cons_append]
  gi_wp2_with (refine ⟨trivial, ?_⟩; gi_at_call 109; refine (callsIn_wide.2 (CA.out _)).mono ?_; rintro e w2 ⟨rfl, hw2⟩)
  obtain ⟨X, hX⟩ : ∃ X, (W.alloc (.cells #[.slice a1 n1 c1, .int .i64 r1, .int .i64 k1, .bool s1] 52)).alloc (.cells #[.slice a2 n2 c2, .int .i64 r2, .int .i64 k2, .bool s2] 52) = X := ⟨_, rfl⟩
  rw [hX] at hw2
  obtain ⟨_, _, bX, sX⟩ := frames2 W _ _ _ _ _ _ _ _ X hX
  obtain ⟨cY, fY⟩ := cell_new_l X (.int .i64 0) 3
  rw [sX] at cY fY
  have bY0 : Below X.heap.size X (X.alloc (.cells #[.int .i64 0] 3)) := (Below.refl _ _).alloc (Nat.le_refl _) _
  obtain ⟨Y, hY⟩ : ∃ Y, X.alloc (.cells #[.int .i64 0] 3) = Y := ⟨_, rfl⟩
  have sY : Y.heap.size = W.heap.size + 1 + 1 + 1 := by rw [← hY]; simp [sX]
  rw [hY] at hw2 cY fY bY0
  obtain ⟨y1, y2, b2, s2'⟩ := frames2 Y _ _ _ _ _ _ _ _ w2 hw2
  rw [sY] at y1 y2 s2'
  have bY := bto bX bY0 bX.size
  have hb2 := bto bY b2 bY.size
  have c0 := (b2.cell (p := ⟨W.heap.size + 1 + 1, 0, none⟩) (World.block_lt_of_cell? _ _ cY)).trans cY
  have f0 := (b2.frozen (p := ⟨W.heap.size + 1 + 1, 0, none⟩) (World.block_lt_of_cell? _ _ cY)).trans fY
  clear hX hY hw2 cY fY bX bY0 bY b2 sX sY
  refine wpIn_rangeFunc_GA rfl h1 (gf := 182) (lb := #[.pointer (some ⟨W.heap.size + 1 + 1 + 1, 0, none⟩), .pointer (some ⟨W.heap.size + 1 + 1 + 1 + 1, 0, none⟩)]) rfl trivial (enters_of Tryz.func182 (by kernel_rfl) rfl)
    (all10_seq (RA.out.below hb2) (RB.out.below hb2) hn1 hn2 SA.out SB.out r1 k1 r2 k2 s1 s2 y1 y2 _ (by omega)) KB.trans (KB.put (by omega) (by omega)) (Below.refl _ _) (fun _ => rfl)
    (fun _ pre V => (V.cell? ⟨W.heap.size + 1 + 1, 0, none⟩ = some (.int .i64 (sumS ((spansE A r1 k1 B r2 k2).take pre.length))) ∧ V.frozen? ⟨W.heap.size + 1 + 1, 0, none⟩ = false) ∧ Below W.heap.size W V)
    (fun _ c pre V => False)
    (fun g => OwnFrom.and (Own.from (fun s A B row hs hg hr => ⟨cell_kept hs.1 hg hr, (frozen_kept hs.1 hg hr).trans hs.2⟩) _) (ownFrom_below (Nat.le_refl _) (by omega)))
    (fun g c _ _ _ _ hs _ _ => hs.elim)
    (fun g x => XSp.own _ g x)
    (fun g hg => ⟨⟨by simpa [sumS] using c0, f0⟩, hb2⟩)
    ?_ (spO (spansE A r1 k1 B r2 k2)) (fun V Vα hV hb => KB.of_below hb (by omega) (by omega)) (fun g pre x V hx => by obtain ⟨_, cur, h⟩ := hx; exact (Array.getElem?_eq_some_iff.1 h).1) ?_ ?_ ?_ ?_
  rotate_left 1
  · intro L x V k K hk hK
    dsimp only [encSp, spA]
    have hb : Below V.heap.size V (V.alloc (spO (spansE A r1 k1 B r2 k2) x)) := (Below.refl _ _).alloc (Nat.le_refl _) _
    have ho := World.alloc_heap_new V (spO (spansE A r1 k1 B r2 k2) x)
    rw [← hk] at ho
    have HKK := Lib.hid (hK _ hb ho)
    clear hK hb ho
    gi_wp2
    rw [← hk]
    exact HKK.out
  · rintro L g pre x k V hL1 hL2 hg hk ho hkg ⟨⟨hcw, hfw⟩, hB⟩ ⟨⟨rfl, hxl⟩, cur, hcur⟩ hpl
    obtain ⟨sp, hsp⟩ : ∃ s, (spansE A r1 k1 B r2 k2)[pre.length]? = some s := ⟨_, List.getElem?_eq_getElem hxl⟩
    have hnth : nth (0, 0, 0) (spansE A r1 k1 B r2 k2) pre.length = sp := by rw [nth_eq _ _ _ hxl]; exact (List.getElem?_eq_some_iff.1 hsp).2
    have hbs := HBD.out.1 sp (List.mem_of_getElem? hsp)
    have hnx := sumS_next hsp
    have hsb := HSB.out pre.length
    unfold spO at ho
    rw [hnth] at ho
    obtain ⟨sr, sa, se⟩ := sp
    dsimp only at hbs hnx ho
    obtain ⟨f0, f1, f2⟩ := (show SpanBx V k sr sa se from ho).cells
    obtain ⟨q, hq⟩ : ∃ q, q = sumS ((spansE A r1 k1 B r2 k2).take pre.length) := ⟨_, rfl⟩
    rw [← hq] at hnx hsb hcw
    have HNX := Lib.hid hnx
    have HW1 : IntKind.i64.wrap ((se : Int) - (sa : Int)) = ((se - sa : Nat) : Int) := by rw [IntKind.wrap_i64]; omega
    have HW2 : Hid (wrap64 ((q : Int) + ((se - sa : Nat) : Int)) = ((q + (se - sa) : Nat) : Int)) := Lib.hid (by unfold wrap64; omega)
    have HW1 := Lib.hid HW1
    have hg0 : g ≠ W.heap.size + 1 + 1 := by omega
    clear hq hnx hbs hnth hsp hpl hxl hsb
    gi_wp2
    rw [HW2.out, ← HNX.out]
    refine ⟨(KeepsOthers.setCell _ _ _).from _, ⟨KB.setCell _ _ _ _ (by omega) (by omega), Below.heap_setCell _ _ _ _ (by exact hg0)⟩, ⟨?_, ?_⟩, hB.setCell (p := ⟨W.heap.size + 1 + 1, 0, none⟩) (by show W.heap.size ≤ W.heap.size + 1 + 1; omega) _⟩
    · rw [List.length_append]
      exact World.cell?_setCell_same' _ _ _ (by rw [hcw]; rfl)
    · rw [World.frozen?_setCell]; exact hfw
  · rintro D g ys V hD hys ⟨⟨hcw, hfw⟩, hB⟩ hK
    have hyl : ys.length = (spansE A r1 k1 B r2 k2).length := by rw [hys, List.length_range]
    rw [hyl, List.take_length, ← HZ.out] at hcw
    clear hys hyl
    gi_wp2
    refine ⟨by simp, .inl ⟨_, _, rfl, run_takeDeferred hK, ?_⟩⟩
    refine ⟨_, results_tmp rfl _ _ _, rfl, hB.trans (belowK_b (w := W) (Nat.le_refl _) _ D _ _ (by omega) hK rfl rfl)⟩
  · rintro D g c pre V hD hpre hf hK
    exact hf.elim
end Go.Proofs.YtekodpcedjpnjaaGreat
