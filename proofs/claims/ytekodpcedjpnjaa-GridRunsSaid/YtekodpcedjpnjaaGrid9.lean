/- Text. -/
import Derived.Test.YtekodpcedjpnjaaGrid8
import Derived.Test.YtekodpcedjpnjaaU8S
import Derived.Lib.AppendStr
namespace Go.Proofs.Ytekodpcedjpnjaa
set_option linter.unusedVariables false
set_option linter.unusedSimpArgs false
open Go.RowKit
def textL (M : List GC) : List UInt8 := M.flatMap fun c => c.s.data.toList
theorem textL_take (M : List GC) (k : Nat) (h : k < M.length) : textL (M.take (k + 1)) = textL (M.take k) ++ (nth GC.zero M k).s.data.toList := by
  rw [nth_eq _ _ _ h, List.take_add_one, List.getElem?_eq_getElem h]
  simp only [textL, List.flatMap_append, Option.toList, List.flatMap_cons, List.flatMap_nil, List.append_nil]
/-- How much stays of the first n bytes without the blanks at their end. -/
def trimN (l : List UInt8) : Nat → Nat
  | 0 => 0
  | n + 1 => if nth 0 l n = 32 then trimN l n else n + 1
theorem trimN_le (l : List UInt8) : ∀ n, trimN l n ≤ n
  | 0 => Nat.le_refl _
  | n + 1 => by unfold trimN; split; exact Nat.le_succ_of_le (trimN_le l n); exact Nat.le_refl _
def trimL (l : List UInt8) : List UInt8 := l.take (trimN l l.length)
theorem strCells_u8s (s : ByteArray) : Lib.strCells s = u8s s.data.toList := rfl
theorem u8s_append (a b : List UInt8) : u8s (a ++ b) = u8s a ++ u8s b := by simp [u8s]
theorem ownsRow_take {W : World} {base : Nat} {g cap : Nat} {l : List UInt8} (h : W.ownsRow base 5 1 (.slice (some ⟨g, 0, none⟩) l.length cap) l.length (u8s l)) (n : Nat) (hn : n ≤ l.length) :
    W.ownsRow base 5 1 (.slice (some ⟨g, 0, none⟩) (l.take n).length cap) (l.take n).length (u8s (l.take n)) := by
  have hl : (l.take n).length = n := by simp; omega
  refine ⟨by simp [u8s], .inr ?_⟩
  rcases h.2 with ⟨e, _⟩ | ⟨g', cap', cur, e, h1, h2, h3, h4, h5, h6⟩
  · cases e
  · simp only [Value.slice.injEq, Option.some.injEq, Addr.mk.injEq, true_and, and_true] at e
    obtain ⟨rfl, rfl⟩ := e
    refine ⟨_, _, cur, rfl, h1, h2, by omega, h4, h5, ?_⟩
    rw [hl]
    have : u8s (l.take n) = (u8s l).take n := by simp [u8s]
    rw [this, ← h6, List.take_take]
    congr 1
    omega
theorem own_cell {W : World} {base : Nat} {g cap : Nat} {l : List UInt8} (h : W.ownsRow base 5 1 (.slice (some ⟨g, 0, none⟩) l.length cap) l.length (u8s l)) (j : Nat) (hj : j < l.length) :
    W.cell? ⟨g, j, none⟩ = some (.int .u8 (nth 0 l j).toNat) := by
  have := h.cells (g := g) rfl j (.int .u8 (nth 0 l j).toNat) (by rw [nth_eq _ _ _ hj]; simp [u8s, hj])
  rw [Addr.add_mid] at this
  simpa using this
theorem ownsRow_only {W W' : World} {base : Nat} {e : TypeId} {size : Nat} {v : Value} {n : Nat} {xs : List Value} {T : List Nat} (h : W.ownsRow base e size v n xs) (ho : Only T W W') (hT : ∀ s ∈ T, W.heap.size ≤ s) : W'.ownsRow base e size v n xs := by
  refine ⟨h.1, ?_⟩
  rcases h.2 with h1 | ⟨g, cap, cur, rfl, h1, h2, h3⟩
  · exact .inl h1
  · exact .inr ⟨g, cap, cur, rfl, h1, ho.heap h2 (fun hs => by have := hT g hs; have := (Array.getElem?_eq_some_iff.1 h2).1; omega), h3⟩
theorem own_ge {W : World} {base : Nat} {e : TypeId} {size : Nat} {v : Value} {n : Nat} {xs : List Value} (h : W.ownsRow base e size v n xs) : ∀ k, v.ownBlock = some k → base ≤ k := by
  intro k hk
  rcases h.2 with ⟨rfl, _⟩ | ⟨g, cap, cur, rfl, h1, _⟩
  · simp [Value.ownBlock] at hk
  · obtain rfl : g = k := by simpa [Value.ownBlock] using hk
    exact h1
set_option maxRecDepth 100000 in
set_option maxHeartbeats 1000000 in
theorem gtext_out {W : World} {p q w h : Nat} {L : List GC} (g : GridAt W p q w h L) (r : Int) (hr : ¬ (0 ≤ r ∧ r < h)) :
    Calls Try.prog 52 #[.pointer (some ⟨p, 0, none⟩), .int .i64 r] W fun e w' => e = .returned (.string (S [])) ∧ Below W.heap.size W w' := by
  have CR := Lib.hid (row_out g r hr)
  have hcv := run_convert_bytes_nil (P := Try.prog) W 67 5 Try.underlying67 Try.underlying5 0 0 9 Try.underlying9
  go_enter Try.func52, Try.ntmps52
  go_wp2_with (go_at_call 18; refine (CR.out).mono ?_; rintro e w1 ⟨rfl, rfl⟩)
  go_loop [13, 5] (fun i v => i = .int .i64 0 ∧ v = .slice none 0 0) (fun _ _ => 0)
  case atStart => exact ⟨rfl, rfl⟩
  case round =>
    obtain ⟨rfl, rfl⟩ := hrel
    go_wp2
    go_loop [8] (fun i => i = .int .i64 0) (fun _ => 0)
    case atStart => rfl
    case round =>
      subst hrel
      go_wp2
      go_ret
      exact ⟨rfl, Below.refl _ _⟩
set_option maxRecDepth 100000 in
set_option maxHeartbeats 4000000 in
theorem gtext_ok {W : World} {p q w h : Nat} {L : List GC} (g : GridAt W p q w h L) (hS : ∀ c ∈ L, c.s.size ≤ 64) (r : Int) (hr0 : 0 ≤ r) (hr1 : r < h) :
    Calls Try.prog 52 #[.pointer (some ⟨p, 0, none⟩), .int .i64 r] W fun e w' => e = .returned (.string (S (trimL (textL (lineL L w r.toNat))))) ∧ Below W.heap.size W w' := by
  obtain ⟨i0, hi, hz0, hz1, hz2⟩ := info_parts infoU8
  obtain ⟨M, hM⟩ : ∃ M, M = lineL L w r.toNat := ⟨_, rfl⟩
  have hMl : M.length = w := by rw [hM]; exact lineL_length g.len (by omega)
  have hML : ∀ c ∈ M, c ∈ L := by
    rw [hM]
    intro c hc
    exact List.mem_of_mem_drop (List.mem_of_mem_take hc)
  have hMS : ∀ k, k < M.length → (nth GC.zero M k).s.size ≤ 64 := by
    intro k hk
    rw [nth_eq _ _ _ hk]
    exact hS _ (hML _ (List.getElem_mem hk))
  have CR := row_ok g r hr0 hr1
  rw [← hM] at CR ⊢
  have CR := Lib.hid CR
  have hw5 := g.w2
  have HMS := Lib.hid hMS
  clear hM hS hML hMS
  go_enter Try.func52, Try.ntmps52
  go_wp2_with (go_at_call 18; refine (CR.out).mono ?_; rintro e w1 ⟨rfl, b1, l1⟩)
  have hq1 := b1.lt
  go_loopw [13, 5] (fun i v wr => ∃ (k : Nat) (out : List UInt8), k ≤ w ∧ i = .int .i64 k ∧ Hid (out = textL (M.take k)) ∧ out.length ≤ 64 * k ∧ wr.ownsRow w1.heap.size 5 1 v out.length (u8s out) ∧ Below w1.heap.size w1 wr) (fun i _ _ => w - (intOf i).toNat)
  case atStart => exact ⟨0, [], by omega, rfl, rfl, by simp, World.ownsRow_nil _ _ _ _, Below.refl _ _⟩
  case round =>
    obtain ⟨k, out, hk, rfl, hout, hol, hown, hb⟩ := hrel
    by_cases hlt : k < w
    · obtain ⟨a, c, rfl⟩ : ∃ a c, u5 = .slice a out.length c := ownsRow_slice hown
      obtain ⟨C, hC⟩ : ∃ C, C = nth GC.zero M k := ⟨_, rfl⟩
      have hCi : M[k]? = some C := by rw [hC, nth_eq _ _ _ (by omega), List.getElem?_eq_getElem (by omega)]
      have hC64 : C.s.size ≤ 64 := by rw [hC]; exact HMS.out k (by omega)
      have hone := textL_take M k (by omega)
      rw [← hC] at hone
      have HONE := Lib.hid hone
      have br : GBlk wr W.heap.size M := b1.only (Only.of_below (S := []) hb) (by simp)
      have hr := br.range1 hCi
      have HCI := Lib.hid hCi
      clear hone hCi hC
      obtain ⟨sc, hsc⟩ : ∃ s, s = C.s := ⟨_, rfl⟩
      have HSC := Lib.hid hsc
      rw [← hsc] at hC64
      clear hsc
      go_wp2_with (first
        | (refine wpList_gload rfl _ rfl W.heap.size _ rfl C (by rw [show k * 7 = 7 * k by omega]; exact hr) ?_)
        | (refine wpList_gstore rfl _ _ rfl wr.heap.size _ rfl C rfl [GC.zero] (GBlk.made wr [GC.zero]) 0 (by omega) (by simp) ?_; intro w2 b2 o2; have oo : Only [wr.heap.size] wr w2 := ((Only.refl _ _).alloc _).trans o2; have hown2 := ownsRow_only hown oo (by simp); have hc2 : w2.cell? ⟨wr.heap.size, 0, none⟩ = some (.string sc) := (by have := b2.range1 (i := 0) (c := C) rfl 0 _ rfl; rw [HSC.out]; exact this))
        | (at_builtin; go_loud (refine Lib.wpList_append_own_string _ rfl _ _ 67 9 rfl w1.heap.size 5 i0 Try.underlying67 Try.underlying9 hi hz0 hz1 hz2 _ _ _ rfl hown2 sc rfl (by unfold maxLen; omega) (by omega) (by have := oo.size; have := hb.size; omega) ?_; intro v' w3 hown3 hgrow _; obtain ⟨a', c', rfl⟩ := ownsRow_slice hown3)))
      have hb2 : Below w1.heap.size w1 w2 := hb.trans (oo.below (by simp; exact hb.size) hb.size)
      have hb3 : Below w1.heap.size w1 w3 := hb2.grown hgrow hb2.size (own_ge hown)
      have hlen : (out ++ C.s.data.toList).length = out.length + sc.size := by rw [List.length_append, HSC.out, Array.length_toList]; rfl
      refine ⟨⟨k + 1, out ++ C.s.data.toList, by omega, by go_num, Lib.hid (by rw [HONE.out, ← hout.out]), by rw [hlen]; omega, ?_, hb3⟩, by simp [intOf]; omega⟩
      rw [hlen, u8s_append, ← strCells_u8s, ← HSC.out]
      exact hown3
    · obtain rfl : k = w := by omega
      have hout2 : out = textL M := by rw [hout.out, List.take_of_length_le (by omega)]
      have HO := Lib.hid hout2
      clear hout hout2
      rcases hown.2 with ⟨rfl, h0⟩ | ⟨gb, cap, cur, rfl, hge, hcur, hcap, hcm, hcs, hct⟩
      · have hnil : out = [] := List.eq_nil_of_length_eq_zero h0
        subst hnil
        have hcv := run_convert_bytes_nil (P := Try.prog) wr 67 5 Try.underlying67 Try.underlying5 0 0 9 Try.underlying9
        go_wp2
        go_loop [8] (fun i => i = .int .i64 0) (fun _ => 0)
        case atStart => rfl
        case round =>
          subst hrel
          go_wp2
          go_ret
          exact ⟨ret_str (by rw [← HO.out]; rfl), bnext l1 hb⟩
      · have hcell : Hid (∀ j, j < out.length → wr.cell? ⟨gb, j, none⟩ = some (.int .u8 (nth 0 out j).toNat)) := Lib.hid (fun j hj => own_cell hown j hj)
        have htake : Hid (∀ n, n ≤ out.length → (convert 67 9 (.slice (some ⟨gb, 0, none⟩) n cap)).run Try.prog wr = .ok (.string (S (out.take n))) wr) := Lib.hid (fun n hn => by
          have := conv_own (ownsRow_take hown n hn)
          rw [show (out.take n).length = n by simp; omega] at this
          exact this)
        obtain ⟨len, hlen⟩ : ∃ n, n = out.length := ⟨_, rfl⟩
        rw [← hlen] at hcell htake hcap hol ⊢
        have HL := Lib.hid hlen
        have HTL : Hid (trimL (textL M) = out.take (trimN out len)) := Lib.hid (by rw [← HO.out, HL.out]; rfl)
        clear hlen hown hcur hcs hct
        go_wp2
        go_loop [8] (fun i => ∃ n : Nat, n ≤ len ∧ i = .int .i64 n ∧ Hid (trimN out len = trimN out n)) (fun i => (intOf i).toNat)
        case atStart => exact ⟨len, Nat.le_refl _, rfl, rfl⟩
        case round =>
          obtain ⟨n, hn, rfl, ht⟩ := hrel
          cases n with
          | zero =>
            have hcv := htake.out 0 (by omega)
            have hz : trimN out len = 0 := by rw [ht.out]; rfl
            have HZ := Lib.hid hz
            clear hz
            go_wp2
            go_ret
            exact ⟨ret_str (by rw [HTL.out, HZ.out]; rfl), bnext l1 hb⟩
          | succ n =>
            have hc := hcell.out n (by omega)
            by_cases h32 : nth 0 out n = 32
            · have hs : trimN out (n + 1) = trimN out n := by rw [trimN, if_pos h32]
              have HS := Lib.hid hs
              rw [h32] at hc
              clear hs h32
              go_wp2
              go_round
              case rel => exact ⟨n, by omega, by go_num, Lib.hid (ht.out.trans HS.out)⟩
              case measure => simp [intOf]
            · have HZ : Hid (trimN out len = n + 1) := Lib.hid (by rw [ht.out, trimN, if_neg h32])
              have hcv := htake.out (n + 1) (by omega)
              have hne : (((nth 0 out n).toNat : Int) == 32) = false := by
                have : (nth 0 out n).toNat ≠ 32 := fun h => h32 (UInt8.toNat_inj.1 h)
                simp; omega
              go_wp2
              go_ret
              exact ⟨ret_str (by rw [HTL.out, HZ.out]), bnext l1 hb⟩
end Go.Proofs.Ytekodpcedjpnjaa
