/- Wrap: Wrap; program. No condition. -/
import Derived.Test.YtmdpmjabjijjiaaWrapA
import Derived.Test.YtmdpmjabjijjiaaWrap6
namespace Go.Proofs.Ytmdpmjabjijjiaa
set_option linter.unusedVariables false
set_option linter.unusedSimpArgs false
open Go.RowKit Go.Shelf Go.Maps
/-- A slice of these strings. -/
def StrsW (l : List (List UInt8)) (w : World) (e : Ending) (w' : World) : Prop :=
  ∃ a n c, n = l.length ∧ n ≤ c ∧ c ≤ maxLen ∧ e = .returned (.slice a n c) ∧ RowAt w'.heap.size w' a (strV l) ∧ Below w.heap.size w w'
/-- The like, of the call's own. -/
def StrsO (l : List (List UInt8)) (w : World) (e : Ending) (w' : World) : Prop := ∃ v, e = .returned v ∧ w'.ownsRow w.heap.size 9 1 v l.length (strV l) ∧ Below w.heap.size w w'
theorem StrsO.strs {l : List (List UInt8)} {w : World} {e : Ending} {w' : World} (h : StrsO l w e w') : StrsW l w e w' := by
  obtain ⟨v, rfl, ho, hb⟩ := h
  obtain ⟨a, c, rfl⟩ := own_slice ho
  obtain ⟨hr, hnc, hcm⟩ := own_row_at ho
  exact ⟨a, _, c, rfl, hnc, hcm, rfl, hr, hb⟩
theorem own_base {W : World} {n₀ n₁ : Nat} {e : TypeId} {size : Nat} {v : Value} {n : Nat} {xs : List Value} (h : W.ownsRow n₁ e size v n xs) (hb : n₀ ≤ n₁) : W.ownsRow n₀ e size v n xs := by
  refine ⟨h.1, ?_⟩
  rcases h.2 with h1 | ⟨g, cap, cur, hv, hg, rest⟩
  · exact .inl h1
  · exact .inr ⟨g, cap, cur, hv, by omega, rest⟩
theorem wordS_clu : ∀ (l : List (List UInt8)) (st : Ws × Bool), (∀ c ∈ l, Clu c) → (∀ x ∈ st.1, ∀ c ∈ x, Clu c) → ∀ x ∈ (l.foldl wordS st).1, ∀ c ∈ x, Clu c
  | [], _, _, h => h
  | c :: l, st, hl, h => by
    rw [List.foldl_cons]
    refine wordS_clu l _ (fun x hx => hl x (List.mem_cons_of_mem _ hx)) ?_
    have hc := hl c (List.mem_cons_self ..)
    unfold wordS
    split
    · exact h
    split
    · intro x hx
      unfold snocW at hx
      split at hx
      · rename_i y hy
        rcases List.mem_append.1 hx with h1 | h1
        · exact h x ((List.dropLast_sublist _).subset h1)
        · rw [List.mem_singleton] at h1
          subst h1
          intro d hd
          rcases List.mem_append.1 hd with h2 | h2
          · exact h y (List.mem_of_getLast? hy) d h2
          · rw [List.mem_singleton.1 h2]; exact hc
      · cases hx
    · intro x hx
      rcases List.mem_append.1 hx with h1 | h1
      · exact h x h1
      · rw [List.mem_singleton] at h1
        subst h1
        intro d hd
        rw [List.mem_singleton.1 hd]; exact hc
def bulkW (ws : Ws) : Nat := (ws.map List.length).sum
theorem bulk_append (a b : Ws) : bulkW (a ++ b) = bulkW a + bulkW b := by simp [bulkW]
theorem wordS_bulk : ∀ (l : List (List UInt8)) (st : Ws × Bool), bulkW (l.foldl wordS st).1 ≤ bulkW st.1 + l.length ∧ (l.foldl wordS st).1.length ≤ st.1.length + l.length
  | [], st => ⟨Nat.le_refl _, Nat.le_refl _⟩
  | c :: l, st => by
    rw [List.foldl_cons, List.length_cons]
    have h := wordS_bulk l (wordS st c)
    have h2 : bulkW (wordS st c).1 ≤ bulkW st.1 + 1 ∧ (wordS st c).1.length ≤ st.1.length + 1 := by
      unfold wordS
      split
      · exact ⟨by dsimp only; omega, by dsimp only; omega⟩
      split
      · dsimp only
        unfold snocW
        split
        · rename_i y hy
          obtain ⟨A, hA⟩ : ∃ A, st.1 = A ++ [y] := List.getLast?_eq_some_iff.1 hy
          rw [hA, List.dropLast_concat]
          refine ⟨?_, by simp⟩
          rw [bulk_append, bulk_append]; simp [bulkW]; omega
        · exact ⟨by simp [bulkW], by simp⟩
      · dsimp only
        refine ⟨?_, by simp⟩
        rw [bulk_append]; simp [bulkW]
    omega
theorem foldAdd_I {w : Int} : ∀ (ws : Ws) (m : Nat) (st : Pg), PgI w m st → (∀ x ∈ ws, ∀ c ∈ x, Clu c) → PgI w (m + ws.length + bulkW ws) (ws.foldl (addG w) st)
  | [], m, st, h, _ => by simpa [bulkW] using h
  | x :: ws, m, st, h, hx => by
    have h1 := foldAdd_I ws (m + 1 + x.length) _ (addG_I h (hx x (List.mem_cons_self ..))) (fun y hy => hx y (List.mem_cons_of_mem _ hy))
    rw [List.length_cons, show bulkW (x :: ws) = x.length + bulkW ws by simp [bulkW], show m + (ws.length + 1) + (x.length + bulkW ws) = m + 1 + x.length + ws.length + bulkW ws by omega]
    exact h1
theorem bulk_take (ws : Ws) (k : Nat) : bulkW (ws.take k) ≤ bulkW ws := by
  conv => rhs; rw [← List.take_append_drop k ws, bulk_append]
  omega
theorem bulk_mem {ws : Ws} {x : List (List UInt8)} (h : x ∈ ws) : x.length ≤ bulkW ws := by
  obtain ⟨a, b, rfl⟩ := List.append_of_mem h
  rw [bulk_append]
  simp [bulkW]; omega
def we0 : WE := (.slice none 0 0, 0, [])
theorem WV_nth : ∀ (T : List WE) (k : Nat), k < T.length → (WV T)[k * 2]? = some (nth we0 T k).1 ∧ (WV T)[k * 2 + 1]? = some (.int .i64 (nth we0 T k).2.1)
  | [], k, h => by simp at h
  | e :: T, 0, _ => ⟨rfl, rfl⟩
  | e :: T, k + 1, h => by
    have hh := WV_nth T k (by simpa using h)
    have e1 : WV (e :: T) = [e.1, .int .i64 e.2.1] ++ WV T := by simp [WV]
    rw [e1]
    refine ⟨?_, ?_⟩
    · rw [show (k + 1) * 2 = k * 2 + 2 by omega]; exact hh.1
    · rw [show (k + 1) * 2 + 1 = k * 2 + 1 + 2 by omega]; exact hh.2
set_option maxRecDepth 100000 in
set_option maxHeartbeats 8000000 in
theorem wrap_own (s : List UInt8) (m : Int) (hs : s.length ≤ 400) (hm : -9223372036854775808 ≤ m ∧ m ≤ 1000) (w : World) : Calls Try.prog 59 #[.string (S s), .int .i64 m] w (StrsO (wrapL s m) w) := by
  by_cases h1 : m < 1
  · have hz : wrapL s m = [] := by unfold wrapL; rw [if_pos h1]
    rw [hz]
    clear hz
    go_enter Try.func59, Try.ntmps59
    go_wp2
    go_ret
    exact ⟨_, rfl, World.ownsRow_nil _ _ _ _, Below.refl _ _⟩
  · have h1' : 1 ≤ m := by omega
    have hfl := flat_len64 s
    have hcl := cutL_len (flatL s)
    have CW := Lib.hid (fun W => words_any s (by omega) W)
    have hclu := wordS_clu (cutL (flatL s)) ([], false) (fun c hc => clu_mem hc) (by simp)
    have hbulk := wordS_bulk (cutL (flatL s)) ([], false)
    obtain ⟨Z, hZ⟩ : ∃ Z, Z = wrapL s m := ⟨_, rfl⟩
    rw [← hZ]
    unfold wrapL at hZ
    rw [if_neg h1] at hZ
    change ∀ x ∈ wordsL (cutL (flatL s)), _ at hclu
    change bulkW (wordsL (cutL (flatL s))) ≤ _ ∧ (wordsL (cutL (flatL s))).length ≤ _ at hbulk
    obtain ⟨ws, hws⟩ : ∃ ws, ws = wordsL (cutL (flatL s)) := ⟨_, rfl⟩
    rw [← hws] at CW hZ hclu hbulk
    have hb : bulkW ws ≤ 30000 ∧ ws.length ≤ 30000 := by simp [bulkW] at hbulk; unfold bulkW; omega
    have HCLU := Lib.hid hclu
    have HZ := Lib.hid hZ
    clear hZ hws hclu hbulk hcl hfl h1
    obtain ⟨W1, hW1⟩ : ∃ W1, w.alloc (.cells #[.int .i64 m, .slice none 0 0, .pointer none, .slice none 0 0, .int .i64 0] 125) = W1 := ⟨_, rfl⟩
    have hs1 : W1.heap.size = w.heap.size + 1 := by rw [← hW1]; simp
    have hb1 : Below w.heap.size w W1 := by rw [← hW1]; exact (Below.refl _ _).alloc (Nat.le_refl _) _
    have hx1 : W1.heap[w.heap.size]? = some (.cells #[.int .i64 m, .slice none 0 0, .pointer none, .slice none 0 0, .int .i64 0] 125 (0, 0)) := by rw [← hW1]; exact World.alloc_heap_new w _
    have HW1 := Lib.hid hW1
    clear hW1
    go_enter Try.func59, Try.ntmps59
    go_wp2_with fail
    refine (CW.out _).mono ?_
    rintro e w2 ⟨v, T, n₁, rfl, hT, hTs, hn1, hWR, hb2⟩
    rw [HW1.out] at hb2 hn1
    have hle2 := hb2.size
    have hx2 := (hb2.block w.heap.size (by omega)).trans hx1
    have hPg : PgAt w2.heap.size w.heap.size w2 m ([], [], 0) _ _ _ _ := PgAt.make hx2 (.inl rfl) (by omega) (Nat.le_refl _) (World.ownsRow_nil _ _ _ _) (World.ownsRow_nil _ _ _ _)
    have hTl : T.length = ws.length := by rw [← hT, List.length_map]
    obtain ⟨a0, c0, rfl⟩ := own_slice2w hWR.out
    have HT := Lib.hid hT
    have HTS := Lib.hid hTs
    have HOUT := Lib.hid hWR
    have hnc := (hWR.out)
    clear hT hTs hWR hnc hx2 hx1
    go_wp2
    go_loopw [15] (fun i wr => ∃ k : Nat, k ≤ ws.length ∧ i = .int .i64 (k : Int) ∧ (∃ cs' lines' p' v', PgAt w2.heap.size w.heap.size wr m ((ws.take k).foldl (addG m) ([], [], 0)) cs' lines' p' v') ∧ But w2.heap.size w.heap.size w2 wr) (fun i _ => ws.length - (intOf i).toNat)
    case atStart => exact ⟨0, Nat.zero_le _, rfl, ⟨_, _, _, _, hPg⟩, But.refl _ _ _⟩
    case round =>
      obtain ⟨k, hk, rfl, ⟨cs', lines', p', v', hpg⟩, hbr⟩ := hrel
      have hsr := hbr.size
      by_cases hlt : k < ws.length
      · have hkT : k < T.length := by omega
        obtain ⟨g0, hg0a, hg0b, rfl, hc0, hc1⟩ : ∃ g0, n₁ ≤ g0 ∧ g0 < w2.heap.size ∧ a0 = some ⟨g0, 0, none⟩ ∧ w2.cell? ⟨g0, k * 2, none⟩ = some (nth we0 T k).1 ∧ w2.cell? ⟨g0, k * 2 + 1, none⟩ = some (.int .i64 (nth we0 T k).2.1) := by
          have ho := HOUT.out.out
          rcases ho.2 with ⟨h0, h00⟩ | ⟨g', c', cur', h0, h00⟩
          · omega
          · simp only [Value.slice.injEq] at h0
            obtain ⟨rfl, _, rfl⟩ := h0
            have hl := ho.lt g' rfl
            have hv := WV_nth T k hkT
            exact ⟨g', hl.1, hl.2, rfl, by rw [ho.cellAt _ (by omega)]; exact hv.1, by rw [ho.cellAt _ (by omega)]; exact hv.2⟩
        have hd0 := (cell_block (hbr.block g0 hg0b (by omega)) (o := k * 2)).trans hc0
        have hd1 := (cell_block (hbr.block g0 hg0b (by omega)) (o := k * 2 + 1)).trans hc1
        have hmemT : nth we0 T k ∈ T := by rw [nth_eq _ _ _ hkT]; exact List.getElem_mem hkT
        have hrow := HOUT.out.rows _ hmemT
        have hsum := HTS.out _ hmemT
        have hxk : nth [] ws k = (nth we0 T k).2.2 := by
          rw [nth_eq _ _ _ hlt, nth_eq _ _ _ hkT]
          simp only [← HT.out, List.getElem_map]
        have hmem : nth [] ws k ∈ ws := by rw [nth_eq _ _ _ hlt]; exact List.getElem_mem hlt
        have hclx := HCLU.out _ hmem
        have hbx := bulk_mem hmem
        have HF := Lib.hid (fold_take34 (addG m) [] ws k hlt ([], [], 0))
        have hIk := foldAdd_I (ws.take k) 0 (([], [], 0) : Pg) ⟨⟨⟨Int.le_refl _, by show (0 : Int) ≤ m; omega⟩, fun _ => rfl⟩, fun e1 => absurd e1 (by simp), by simp, Nat.le_refl _⟩ (fun y hy => HCLU.out y (List.mem_of_mem_take hy))
        have hbt := bulk_take ws k
        rw [List.length_take, Nat.min_eq_left hk] at hIk
        obtain ⟨⟨vk, ik, xk⟩, hE⟩ : ∃ E, E = nth we0 T k := ⟨_, rfl⟩
        rw [← hE] at hd0 hd1 hrow hsum hxk
        dsimp only at hd0 hd1 hrow hsum hxk
        rw [hxk] at hclx hbx HF
        obtain ⟨ak, ck, rfl⟩ := own_slice2w hrow
        have hrowB : RowB w2.heap.size w.heap.size w2 ak (strV xk) := fun j hj => by
          rw [strV_len] at hj
          rcases hrow.2 with ⟨h0, h00⟩ | ⟨g', c', cur', h0, h00⟩
          · omega
          · simp only [Value.slice.injEq] at h0
            obtain ⟨rfl, _, rfl⟩ := h0
            have hl := hrow.lt g' rfl
            refine ⟨g', 0, rfl, ⟨hl.2, by omega⟩, ?_⟩
            rw [Nat.zero_add, hrow.cellAt _ (by omega)]
            unfold nth
            rw [List.getD_eq_getElem?_getD]
            rw [List.getElem?_eq_getElem (by rw [strV_len]; exact hj)]
            rfl
        have hnck : xk.length ≤ ck := (own_row_at hrow).2.1
        subst hsum
        obtain ⟨Q, hQ⟩ : ∃ Q, Q = (ws.take k).foldl (addG m) ([], [], 0) := ⟨_, rfl⟩
        rw [← hQ] at hpg HF hIk
        obtain ⟨W3, hW3⟩ : ∃ W3, wr.alloc (.cells #[.slice ak xk.length ck, .int .i64 (sumC xk)] 129) = W3 := ⟨_, rfl⟩
        have hb3 : Below wr.heap.size wr W3 := by rw [← hW3]; exact (Below.refl _ _).alloc (Nat.le_refl _) _
        have hx3 : W3.heap[wr.heap.size]? = some (.cells #[.slice ak xk.length ck, .int .i64 (sumC xk)] 129 (0, 0)) := by rw [← hW3]; exact World.alloc_heap_new wr _
        obtain ⟨y0, _⟩ := blk_at (o := 0) (x := .slice ak xk.length ck) hx3 rfl
        obtain ⟨y1, _⟩ := blk_at (o := 1) (x := .int .i64 (sumC xk)) hx3 rfl
        have hbut3 := But.of_below (n₀ := w2.heap.size) (B := w.heap.size) hsr hb3
        have CA := Lib.hid (pgadd_any (hpg.below hb3) xk hclx hIk (by omega) ⟨by omega, hm.2⟩ ak ck hnck ((hrowB.but hbr).but hbut3))
        have hkI : (k : Int) < (T.length : Int) := by omega
        clear hE hQ hmemT hmem hclx hIk hpg hrow hrowB hc0 hc1 hxk hx3
        go_wp2_with (go_at_call 106; refine (CA.out).mono ?_; rintro e w5 ⟨rfl, hpg5, hbut5, _⟩)
        go_roundw
        case rel => exact ⟨k + 1, hlt, by go_num, by rw [HF.out]; exact hpg5, (hbr.trans hbut3).trans hbut5⟩
        case measure => simp [intOf]; omega
      · obtain rfl : k = ws.length := by omega
        rw [List.take_length] at hpg
        have hI := foldAdd_I ws 0 (([], [], 0) : Pg) ⟨⟨⟨Int.le_refl _, by show (0 : Int) ≤ m; omega⟩, fun _ => rfl⟩, fun e1 => absurd e1 (by simp), by simp, Nat.le_refl _⟩ HCLU.out
        obtain ⟨Q, hQ⟩ : ∃ Q, Q = ws.foldl (addG m) ([], [], 0) := ⟨_, rfl⟩
        rw [← hQ] at hpg hI
        have hZQ : Z = (endG Q).1 := by rw [HZ.out, hQ]
        have HZQ := Lib.hid hZQ
        have hdb := hI.db
        have CE := Lib.hid (pgend_any hpg hI.ok.used.1 hI.ln (by omega))
        have hkI : ¬ ((ws.length : Int) < (T.length : Int)) := by omega
        clear hQ hI hZQ hpg
        go_wp2_with (go_at_call 107; refine (CE.out).mono ?_; rintro e w5 ⟨rfl, ⟨cs5, lines5, p5, v5, hpg5⟩, hbut5, _⟩; obtain ⟨⟨d0, d1, d2, d3, d4⟩, _⟩ := hpg5.cells; obtain ⟨a5, c5, rfl⟩ := own_slice2w hpg5.own)
        go_ret
        rw [HZQ.out]
        exact ⟨_, rfl, own_base hpg5.own (by omega), (bnext hb1 hb2).trans ((hbr.trans hbut5).below (by omega) (Nat.le_refl _))⟩
theorem wrap_any (s : List UInt8) (m : Int) (hs : s.length ≤ 400) (hm : -9223372036854775808 ≤ m ∧ m ≤ 1000) (w : World) : Calls Try.prog 59 #[.string (S s), .int .i64 m] w (StrsW (wrapL s m) w) :=
  (wrap_own s m hs hm w).mono fun _ _ h => h.strs
end Go.Proofs.Ytmdpmjabjijjiaa
