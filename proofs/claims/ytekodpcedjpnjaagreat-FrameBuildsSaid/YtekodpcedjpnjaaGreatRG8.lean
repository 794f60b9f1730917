/- The reference's grid: Put. No condition. The reference's grid: Put where it puts. No condition. The reference's grid: New. No condition. -/
import Derived.Test.YtekodpcedjpnjaaGreatRG5
import Derived.Test.YtekodpcedjpnjaaGreatRegT
namespace Go.Proofs.YtekodpcedjpnjaaGreat
set_option linter.unusedVariables false
set_option linter.unusedSimpArgs false
open Go.RowKit Go.Shelf Go.Maps
/-- A struct in a result variable, and one or two more results. -/
theorem results_row2 {fn : Func} {p u : Tmp} {T : TypeId} (h : fn.results = #[.cell p T, .tmp u]) (tmps : Array Value) (w : World) (g : Nat) (cs : Array Value)
    (hp : tmps.getD p undef = .pointer (some ⟨g, 0, none⟩)) (hl : (loadVar T ⟨g, 0, none⟩).run Tryz.prog w = .ok (.agg cs) w) :
    (results fn tmps).run Tryz.prog w = .ok (.tuple #[.agg cs, tmps.getD u undef]) w := by
  rw [results_cell_tmp h, hp]
  simp [asAddr, hl, Result.andThen]
theorem results_row3 {fn : Func} {p u v : Tmp} {T : TypeId} (h : fn.results = #[.cell p T, .tmp u, .tmp v]) (tmps : Array Value) (w : World) (g : Nat) (cs : Array Value)
    (hp : tmps.getD p undef = .pointer (some ⟨g, 0, none⟩)) (hl : (loadVar T ⟨g, 0, none⟩).run Tryz.prog w = .ok (.agg cs) w) :
    (results fn tmps).run Tryz.prog w = .ok (.tuple #[.agg cs, tmps.getD u undef, tmps.getD v undef]) w := by
  have hp' : tmps[p]?.getD undef = .pointer (some ⟨g, 0, none⟩) := by simpa using hp
  simp only [results, h]
  simp [Sem.run_bind, Result.andThen, hp', asAddr, hl]
theorem GBox.load {W : World} {b w h n cap : Nat} {a : Option Addr} (g : GBox W b w h a n cap) : (loadVar 29 ⟨b, 0, none⟩).run Tryz.prog W = .ok (.agg #[.int .i64 w, .int .i64 h, .slice a n cap]) W :=
  run_loadVar_row (P := Tryz.prog) W b _ 29 _ (0, 0) _ g Tryz.underlying29 rfl (by kernel_rfl)
/-- A grid and a number that a call gives. -/
def GPost2 (F : Nat → Prop) (w h : Nat) (R : List (List GC)) (err : Int) (W : World) (e : Ending) (w' : World) : Prop := ∃ a c, e = .returned (.tuple #[.agg #[.int .i64 w, .int .i64 h, .slice a h c], .int .i64 err]) ∧ RG F w' a c w h R ∧ Below W.heap.size W w'
theorem rput_world (W : World) (w h n cap : Nat) (a : Option Addr) (y : Sy) (X : World) (hX : ((W.alloc (.cells #[.int .i64 w, .int .i64 h, .slice a n cap] 29)).alloc (.cells #[.bool y.b, .bool y.u, .bool y.i, .int .i64 y.f, .int .i64 y.g] 36)).alloc (.cells #[.int .i64 0, .int .i64 0, .slice none 0 0] 29) = X) :
    GBox X W.heap.size w h a n cap ∧ SyBox X (W.heap.size + 1) y ∧ GBox X (W.heap.size + 1 + 1) 0 0 none 0 0 ∧ Below W.heap.size W X ∧ X.heap.size = W.heap.size + 1 + 1 + 1 := by
  obtain ⟨X1, h1⟩ : ∃ X1, W.alloc (.cells #[.int .i64 w, .int .i64 h, .slice a n cap] 29) = X1 := ⟨_, rfl⟩
  obtain ⟨X2, h2⟩ : ∃ X2, X1.alloc (.cells #[.bool y.b, .bool y.u, .bool y.i, .int .i64 y.f, .int .i64 y.g] 36) = X2 := ⟨_, rfl⟩
  rw [h1, h2] at hX
  have s1 : X1.heap.size = W.heap.size + 1 := by rw [← h1]; simp
  have s2 : X2.heap.size = W.heap.size + 1 + 1 := by rw [← h2]; simp [s1]
  have b1 := GBox.new W w h n cap a
  have b2 : SyBox X2 X1.heap.size y := by rw [← h2]; exact styBox_new X1 _ _ _ _ _
  have b3 := GBox.new X2 0 0 0 0 none
  have e1 : Below X1.heap.size X1 X2 := by rw [← h2]; exact (Below.refl _ _).alloc (Nat.le_refl _) _
  have e2 : Below X2.heap.size X2 X := by rw [← hX]; exact (Below.refl _ _).alloc (Nat.le_refl _) _
  have e0 : Below W.heap.size W X1 := by rw [← h1]; exact (Below.refl _ _).alloc (Nat.le_refl _) _
  rw [h1] at b1
  rw [show X2.alloc (.cells #[.int .i64 (0 : Nat), .int .i64 (0 : Nat), .slice none 0 0] 29) = X from hX, s2] at b3
  rw [s1] at b2
  exact ⟨(b1.below e1).below e2, b2.only (Only.of_below (S := []) e2) (by simp), b3, bnext (bnext e0 e1) e2, by rw [← hX]; simp [s2]⟩
set_option maxRecDepth 100000 in
set_option maxHeartbeats 8000000 in
theorem rput_arg {F : Nat → Prop} {W : World} {a : Option Addr} {cap w h : Nat} {R : List (List GC)} (g : RG F W a cap w h R) (r c : Int) (s : ByteArray) (wd : Int) (y : Sy) (hs : s = ⟨#[]⟩ ∨ 64 < s.size ∨ (wd ≠ 1 ∧ wd ≠ 2)) :
    Calls Tryz.prog 96 #[.agg #[.int .i64 w, .int .i64 h, .slice a h cap], .int .i64 r, .int .i64 c, .string s, .int .i64 wd, .agg #[.bool y.b, .bool y.u, .bool y.i, .int .i64 y.f, .int .i64 y.g]] W (GPost2 F w h R 1 W) := by
  obtain ⟨X, hX⟩ : ∃ X, ((W.alloc (.cells #[.int .i64 w, .int .i64 h, .slice a h cap] 29)).alloc (.cells #[.bool y.b, .bool y.u, .bool y.i, .int .i64 y.f, .int .i64 y.g] 36)).alloc (.cells #[.int .i64 0, .int .i64 0, .slice none 0 0] 29) = X := ⟨_, rfl⟩
  obtain ⟨p1, _, p3, bX, sX⟩ := rput_world W w h h cap a y X hX
  have fin : ∀ Y, ((X.setCell ⟨W.heap.size + 1 + 1, 0, none⟩ (.int .i64 w)).setCell ⟨W.heap.size + 1 + 1, 1, none⟩ (.int .i64 h)).setCell ⟨W.heap.size + 1 + 1, 2, none⟩ (.slice a h cap) = Y → GBox Y (W.heap.size + 1 + 1) w h a h cap ∧ RG F Y a cap w h R ∧ Below W.heap.size W Y := fun Y hY => by
    obtain ⟨p4, o4⟩ := p3.fill w h h cap a Y hY
    have b4 := bX.trans (o4.below (by simp; omega) bX.size)
    exact ⟨p4, g.below b4, b4⟩
  have hX' : ∀ Y, (((((W.alloc (.cells #[.int .i64 w, .int .i64 h, .slice a h cap] 29)).alloc (.cells #[.bool y.b, .bool y.u, .bool y.i, .int .i64 y.f, .int .i64 y.g] 36)).alloc (.cells #[.int .i64 w, .int .i64 h, .slice a h cap] 29))) = Y) → GBox Y (W.heap.size + 1 + 1) w h a h cap ∧ RG F Y a cap w h R ∧ Below W.heap.size W Y := fun Y hY => by
    have e3 : Below W.heap.size W Y := by rw [← hY]; exact (((Below.refl _ _).alloc (Nat.le_refl _) _).alloc (by simp) _).alloc (by simp; omega) _
    refine ⟨?_, g.below e3, e3⟩
    have := GBox.new ((W.alloc (.cells #[.int .i64 w, .int .i64 h, .slice a h cap] 29)).alloc (.cells #[.bool y.b, .bool y.u, .bool y.i, .int .i64 y.f, .int .i64 y.g] 36)) w h h cap a
    rw [hY] at this
    simpa using this
  have FIN := Lib.hid hX'
  clear hX' fin g p1 p3 bX sX hX
  by_cases h0 : s = ⟨#[]⟩
  · subst h0
    have h1 := is_empty
    clear hs
    go_enter Tryz.func96, Tryz.ntmps96
    go_wp2
    obtain ⟨f1, f2, f3⟩ := FIN.out _ rfl
    refine bodyPost_ret (results_row2 rfl _ _ (W.heap.size + 1 + 1) _ rfl f1.load) rfl ?_
    exact ⟨a, cap, rfl, f2, f3⟩
  · have h1 := not_empty h0
    by_cases h2 : 64 < s.size
    · have h3 : (64 : Int) < s.size := by omega
      clear hs h0
      go_enter Tryz.func96, Tryz.ntmps96
      go_wp2
      obtain ⟨f1, f2, f3⟩ := FIN.out _ rfl
      refine bodyPost_ret (results_row2 rfl _ _ (W.heap.size + 1 + 1) _ rfl f1.load) rfl ?_
      exact ⟨a, cap, rfl, f2, f3⟩
    · have h3 : ¬ (64 : Int) < s.size := by omega
      have h4 : wd ≠ 1 ∧ wd ≠ 2 := by rcases hs with h | h | h; exact absurd h h0; exact absurd h h2; exact h
      obtain ⟨h5, h6⟩ := h4
      have h7 : (wd != 1) = true := by simp [h5]
      have h8 : (wd != 2) = true := by simp [h6]
      clear hs h0 h2
      go_enter Tryz.func96, Tryz.ntmps96
      go_wp2
      obtain ⟨f1, f2, f3⟩ := FIN.out _ rfl
      refine bodyPost_ret (results_row2 rfl _ _ (W.heap.size + 1 + 1) _ rfl f1.load) rfl ?_
      exact ⟨a, cap, rfl, f2, f3⟩
set_option maxRecDepth 100000 in
set_option maxHeartbeats 8000000 in
theorem rput_range {F : Nat → Prop} {W : World} {a : Option Addr} {cap w h : Nat} {R : List (List GC)} (g : RG F W a cap w h R) (hw5 : w ≤ 1000) (r c : Int) (s : ByteArray) (wd : Int) (y : Sy) (hs0 : s ≠ ⟨#[]⟩) (hs1 : s.size ≤ 64) (hwd : wd = 1 ∨ wd = 2)
    (hrc : ¬ (0 ≤ r ∧ r < h ∧ 0 ≤ c ∧ c < w) ∨ (wd = 2 ∧ ¬ c + 1 < w)) :
    Calls Tryz.prog 96 #[.agg #[.int .i64 w, .int .i64 h, .slice a h cap], .int .i64 r, .int .i64 c, .string s, .int .i64 wd, .agg #[.bool y.b, .bool y.u, .bool y.i, .int .i64 y.f, .int .i64 y.g]] W (GPost2 F w h R 5 W) := by
  obtain ⟨X, hX⟩ : ∃ X, ((W.alloc (.cells #[.int .i64 w, .int .i64 h, .slice a h cap] 29)).alloc (.cells #[.bool y.b, .bool y.u, .bool y.i, .int .i64 y.f, .int .i64 y.g] 36)).alloc (.cells #[.int .i64 0, .int .i64 0, .slice none 0 0] 29) = X := ⟨_, rfl⟩
  obtain ⟨p1, _, p3, bX, sX⟩ := rput_world W w h h cap a y X hX
  have fin : ∀ Z, Below X.heap.size X Z → ∀ Y, ((Z.setCell ⟨W.heap.size + 1 + 1, 0, none⟩ (.int .i64 w)).setCell ⟨W.heap.size + 1 + 1, 1, none⟩ (.int .i64 h)).setCell ⟨W.heap.size + 1 + 1, 2, none⟩ (.slice a h cap) = Y → GBox Y (W.heap.size + 1 + 1) w h a h cap ∧ RG F Y a cap w h R ∧ Below W.heap.size W Y := fun Z hZ Y hY => by
    obtain ⟨p4, o4⟩ := (p3.below hZ).fill w h h cap a Y hY
    have b4 := (bto bX hZ bX.size).trans (o4.below (by simp; omega) (bto bX hZ bX.size).size)
    exact ⟨p4, g.below b4, b4⟩
  have FIN := Lib.hid fin
  have HX := Lib.hid hX
  have P1 := Lib.hid p1
  have P3 := Lib.hid p3
  have CT := Lib.hid (fun c X => rthere_any w h a h cap r c X)
  obtain ⟨q0, q1, q2, q3⟩ := p1.cells
  obtain ⟨t0, t1, t2, t3⟩ := p3.cells
  have h1 := not_empty hs0
  have h3 : ¬ (64 : Int) < s.size := by omega
  clear fin g p1 p3 bX sX hX
  by_cases hin : 0 ≤ r ∧ r < h ∧ 0 ≤ c ∧ c < w
  · have h5 : wd = 2 ∧ ¬ c + 1 < w := by rcases hrc with h | h; exact absurd hin h; exact h
    obtain ⟨rfl, h6⟩ := h5
    have e1 : inG w h r c = true := by simpa [inG] using hin
    have e2 : inG w h r (c + 1) = false := by simp [inG]; omega
    have C1 := Lib.hid (fun X => (CT.out c X))
    have C2 := Lib.hid (fun X => (CT.out (c + 1) X))
    rw [e1] at C1
    rw [e2] at C2
    obtain ⟨h7, h8, h9, h10⟩ := hin
    clear hrc hwd e1 e2 CT
    go_enter Tryz.func96, Tryz.ntmps96
    go_wp2_with fail
    rw [HX.out]
    refine (C1.out _).mono ?_
    rintro e w1 ⟨rfl, hb1⟩
    obtain ⟨u0, u1, u2, u3⟩ := (P1.out.below hb1).cells
    clear q0 q1 q2 q3 t0 t1 t2 t3
    go_wp2_with fail
    refine (C2.out _).mono ?_
    rintro e w2 ⟨rfl, hb2⟩
    obtain ⟨q0, q1, q2, q3⟩ := ((P1.out.below hb1).below hb2).cells
    obtain ⟨t0, t1, t2, t3⟩ := ((P3.out.below hb1).below hb2).cells
    clear u0 u1 u2 u3
    go_wp2_with fail
    obtain ⟨f1, f2, f3⟩ := FIN.out _ (bnext hb1 hb2) _ rfl
    refine bodyPost_ret (results_row2 rfl _ _ (W.heap.size + 1 + 1) _ rfl f1.load) rfl ?_
    exact ⟨a, cap, rfl, f2, f3⟩
  · have e1 : inG w h r c = false := by simpa [inG] using hin
    have C1 := Lib.hid (fun X => (CT.out c X))
    rw [e1] at C1
    clear hrc hin e1 CT
    rcases hwd with rfl | rfl
    all_goals
      go_enter Tryz.func96, Tryz.ntmps96
      go_wp2_with fail
      rw [HX.out]
      refine (C1.out _).mono ?_
      rintro e w1 ⟨rfl, hb1⟩
      obtain ⟨u0, u1, u2, u3⟩ := (P1.out.below hb1).cells
      obtain ⟨v0, v1, v2, v3⟩ := (P3.out.below hb1).cells
      clear q0 q1 q2 q3 t0 t1 t2 t3
      go_wp2_with fail
      obtain ⟨f1, f2, f3⟩ := FIN.out _ hb1 _ rfl
      refine bodyPost_ret (results_row2 rfl _ _ (W.heap.size + 1 + 1) _ rfl f1.load) rfl ?_
      exact ⟨a, cap, rfl, f2, f3⟩
end Go.Proofs.YtekodpcedjpnjaaGreat
namespace Go.Proofs.YtekodpcedjpnjaaGreat
set_option linter.unusedVariables false
set_option linter.unusedSimpArgs false
open Go.RowKit Go.Shelf Go.Maps
theorem putL_1 (M : List GC) (w c : Nat) (s : ByteArray) (y : Sy) : putL M w 0 c s 1 y = (wipeL M 0 w c).set c ⟨s, 1, y⟩ := by
  unfold putL; rw [if_neg (by decide), Nat.zero_add]
theorem putL_2 (M : List GC) (w c : Nat) (s : ByteArray) (y : Sy) : putL M w 0 c s 2 y = ((wipeL (wipeL M 0 w c) 0 w (c + 1)).set (c + 1) ⟨⟨#[]⟩, 0, y⟩).set c ⟨s, 2, y⟩ := by
  unfold putL; rw [if_pos rfl, Nat.zero_add, Nat.zero_add]
set_option maxRecDepth 100000 in
set_option maxHeartbeats 8000000 in
theorem rput_ok1 {F : Nat → Prop} {W : World} (hF : ∀ b, W.heap.size ≤ b → F b) {a : Option Addr} {cap w h : Nat} {R : List (List GC)} (g : RG F W a cap w h R) (hw5 : w ≤ 1000) (hh5 : h ≤ 1000) (r c : Int) (s : ByteArray) (y : Sy) (hs0 : s ≠ ⟨#[]⟩) (hs1 : s.size ≤ 64)
    (hr0 : 0 ≤ r) (hr1 : r < h) (hc0 : 0 ≤ c) (hc1 : c < w) :
    Calls Tryz.prog 96 #[.agg #[.int .i64 w, .int .i64 h, .slice a h cap], .int .i64 r, .int .i64 c, .string s, .int .i64 1, .agg #[.bool y.b, .bool y.u, .bool y.i, .int .i64 y.f, .int .i64 y.g]] W (GPost2 F w h (R.set r.toNat (putL (nth [] R r.toNat) w 0 c.toNat s 1 y)) 0 W) := by
  obtain ⟨k, rfl⟩ := Int.eq_ofNat_of_zero_le hr0
  simp only [Int.toNat_natCast]
  have hk : k < h := by omega
  have hRl := g.rows.len
  have hM : R[k]? = some (nth [] R k) := by rw [nth_eq _ _ _ (by omega)]; exact List.getElem?_eq_getElem _
  have hMl := g.ok.at hk
  rw [putL_1]
  obtain ⟨M, hMe⟩ : ∃ M, M = nth [] R k := ⟨_, rfl⟩
  rw [← hMe] at hM hMl ⊢
  obtain ⟨N, hN⟩ : ∃ N, N = wipeL M 0 w c.toNat := ⟨_, rfl⟩
  rw [← hN]
  have HN := Lib.hid hN
  clear hN
  obtain ⟨X, hX⟩ : ∃ X, ((W.alloc (.cells #[.int .i64 w, .int .i64 h, .slice a h cap] 29)).alloc (.cells #[.bool y.b, .bool y.u, .bool y.i, .int .i64 y.f, .int .i64 y.g] 36)).alloc (.cells #[.int .i64 0, .int .i64 0, .slice none 0 0] 29) = X := ⟨_, rfl⟩
  obtain ⟨p1, p2, p3, bX, sX⟩ := rput_world W w h h cap a y X hX
  obtain ⟨b, o, a2, c2, rfl, ⟨hb, _⟩, hcell, hc2, hcl, _⟩ := g.rows.at_ k _ hM
  rw [hMl] at hcell hc2 hcl
  have hm := g.mx
  have hle := g.le
  have C1 := Lib.hid (fun X => rthere_any w h (some ⟨b, o, none⟩) h cap (k : Int) c X)
  have e1 : inG w h (k : Int) c = true := by simp [inG]; omega
  rw [e1] at C1
  have HX := Lib.hid hX
  have P1 := Lib.hid p1
  have P2 := Lib.hid p2
  have P3 := Lib.hid p3
  have G := Lib.hid (g.mono (F' := fun b => F b ∧ b ≠ W.heap.size + 1 + 1) (fun b h1 h2 => ⟨h1, by omega⟩))
  have HCL := Lib.hid hcl
  have HCE := Lib.hid hcell
  have CB := Lib.hid (fun (X : World) a cap N (h : CellsAt X a w N) => rblank_any (cap := cap) h (by omega) c hc0 hc1)
  have CS := Lib.hid (fun (X : World) a cap N (h : CellsAt X a w N) => rset_any (cap := cap) h (by omega) c hc0 hc1 ⟨s, 1, y⟩)
  have hs2 : ¬ (64 : Int) < s.size := by omega
  have hs3 := not_empty hs0
  clear hX p1 p2 p3 g hcl hcell hM hMe hMl e1 hRl
  go_enter Tryz.func96, Tryz.ntmps96
  go_wp2_with fail
  rw [HX.out]
  obtain ⟨q0, q1, q2, q3⟩ := P1.out.cells
  go_wp2_with fail
  refine (C1.out _).mono ?_
  rintro e w1 ⟨rfl, hb1⟩
  clear q0 q1 q2 q3
  obtain ⟨q0, q1, q2, q3⟩ := (P1.out.below hb1).cells
  have bw1 : Below W.heap.size W w1 := bto bX hb1 bX.size
  have hce1 := (bw1.cell (p := ⟨b, o + k, none⟩) hb).trans HCE.out
  go_wp2_with fail
  refine (CB.out _ _ _ _ (HCL.out.below bw1)).mono ?_
  rintro e w2 ⟨a3, c3, rfl, hM3, _, hb2⟩
  have bw2 : Below W.heap.size W w2 := bto bw1 hb2 bw1.size
  have p1w := (P1.out.below hb1).below hb2
  have p2w := ((P2.out.only (Only.of_below (S := []) hb1) (by simp)).only (Only.of_below (S := []) hb2) (by simp))
  have p3w := (P3.out.below hb1).below hb2
  clear q0 q1 q2 q3 hce1
  rw [← HN.out] at hM3
  have hz2 := bw2.size
  go_wp2
  refine wp_region_mix [(true, 0), (true, 1), (true, 2), (true, 3), (true, 4), (true, 5), (true, 6), (true, 7), (false, 8), (false, 9), (false, 10), (false, 11)] (fun w' => GBox w' W.heap.size w h (some ⟨b, o, none⟩) h cap ∧ SyBox w' (W.heap.size + 1) y) (by kernel_rfl) (by kernel_rfl) (by rfl) (by kernel_rfl) (by kernel_rfl) (fun _ _ d _ _ h => by cases d <;> exact h) ⟨p1w, p2w⟩ ?_
  simp only [mixL, List.getElem?_cons_succ, List.getElem?_cons_zero]
  repeat (refine' wpMix_read (v := _) rfl ?_ ?_; rotate_left 1; (intro w' hw'; obtain ⟨x0, x1, x2, x3⟩ := hw'.1.cells; obtain ⟨y0, y1, y2, y3, y4, y5⟩ := StyBox.cells hw'.2; go_simp; try with_reducible rfl); try simp only [Act.put, List.setIfInBounds_toArray, List.set_cons_zero, List.set_cons_succ])
  refine wpMix_act (fun K hK => ?_)
  go_wp2_with fail
  refine (CS.out _ _ _ _ (hM3.below (Below.refl _ _).drew)).mono ?_
  rintro e w4 ⟨a4, c4, rfl, hM4, hc4, hb4⟩
  have hb4' : Below w2.heap.size w2 w4 := (Below.refl _ _).drew.trans hb4
  have bw4 : Below W.heap.size W w4 := bto bw2 hb4' bw2.size
  go_wp2
  refine hK _ _ (fun _ => ⟨p1w.below hb4', p2w.only (Only.of_below (S := []) hb4') (by simp)⟩) ?_
  clear hK K
  refine wpMix_act (fun K hK => ?_)
  have hs2' := hb4'.size
  have hs1' := hb1.size
  have hs0' := hb2.size
  have hF4 : ∀ b, w2.heap.size ≤ b → F b ∧ b ≠ W.heap.size + 1 + 1 := fun b hb => ⟨hF b (by omega), by omega⟩
  have CW := Lib.hid (rwith_any (F := fun b => F b ∧ b ≠ W.heap.size + 1 + 1) (fun b hb => hF4 b (by omega)) (G.out.below bw4) (by omega) (k : Int) (by omega) (by omega) hM4 hc4.1 (fun b o e => ⟨(hc4.2 b o e).2, hF4 b (hc4.2 b o e).1⟩))
  go_wp2_with fail
  refine (CW.out).mono ?_
  rintro e w5 ⟨a5, c5, rfl, g5, hb5⟩
  have b25 : Below w2.heap.size w2 w5 := bto hb4' hb5 hb4'.size
  have bw5 : Below W.heap.size W w5 := bto bw2 b25 bw2.size
  have p1x := p1w.below b25
  have p2x := p2w.only (Only.of_below (S := []) b25) (by simp)
  have p3x := p3w.below b25
  go_wp2
  refine hK _ _ (fun _ => ⟨p1x, p2x⟩) ?_
  clear hK K
  refine wpMix_act (fun K hK => ?_)
  obtain ⟨t0, t1, t2, t3⟩ := p3x.cells
  go_wp2
  obtain ⟨Y, hY⟩ : ∃ Y, ((w5.setCell ⟨W.heap.size + 1 + 1, 0, none⟩ (.int .i64 w)).setCell ⟨W.heap.size + 1 + 1, 1, none⟩ (.int .i64 h)).setCell ⟨W.heap.size + 1 + 1, 2, none⟩ (.slice a5 h c5) = Y := ⟨_, rfl⟩
  obtain ⟨pY, oY⟩ := p3x.fill w h h c5 a5 Y hY
  rw [hY]
  have b5Y : Below W.heap.size w5 Y := oY.below (by simp; omega) bw5.size
  refine hK _ _ (fun _ => ⟨p1x.only oY (by simp; omega), p2x.only oY (by simp)⟩) ?_
  clear hK K t0 t1 t2 t3
  refine wpMix_act (fun K hK => ?_)
  go_wp2
  refine hK _ _ (fun h => absurd rfl h) ?_
  clear hK K
  refine wpMix_nil ?_
  go_wp2
  refine bodyPost_ret (results_row2 rfl _ _ (W.heap.size + 1 + 1) _ rfl pY.load) rfl ?_
  have g6 := (g5.keep oY.size (fun b hb hlt => oY.block b hlt (by simpa using hb.2))).mono (F' := F) (fun b hb _ => hb.1)
  simp only [Int.toNat_natCast] at g6
  exact ⟨a5, c5, rfl, g6, bw5.trans b5Y⟩
set_option maxRecDepth 100000 in
set_option maxHeartbeats 8000000 in
theorem rput_ok2 {F : Nat → Prop} {W : World} (hF : ∀ b, W.heap.size ≤ b → F b) {a : Option Addr} {cap w h : Nat} {R : List (List GC)} (g : RG F W a cap w h R) (hw5 : w ≤ 1000) (hh5 : h ≤ 1000) (r c : Int) (s : ByteArray) (y : Sy) (hs0 : s ≠ ⟨#[]⟩) (hs1 : s.size ≤ 64)
    (hr0 : 0 ≤ r) (hr1 : r < h) (hc0 : 0 ≤ c) (hc1 : c + 1 < w) :
    Calls Tryz.prog 96 #[.agg #[.int .i64 w, .int .i64 h, .slice a h cap], .int .i64 r, .int .i64 c, .string s, .int .i64 2, .agg #[.bool y.b, .bool y.u, .bool y.i, .int .i64 y.f, .int .i64 y.g]] W (GPost2 F w h (R.set r.toNat (putL (nth [] R r.toNat) w 0 c.toNat s 2 y)) 0 W) := by
  obtain ⟨k, rfl⟩ := Int.eq_ofNat_of_zero_le hr0
  simp only [Int.toNat_natCast]
  have hk : k < h := by omega
  have hRl := g.rows.len
  have hM : R[k]? = some (nth [] R k) := by rw [nth_eq _ _ _ (by omega)]; exact List.getElem?_eq_getElem _
  have hMl := g.ok.at hk
  rw [putL_2]
  obtain ⟨M, hMe⟩ : ∃ M, M = nth [] R k := ⟨_, rfl⟩
  rw [← hMe] at hM hMl ⊢
  obtain ⟨N, hN⟩ : ∃ N, N = (wipeL (wipeL M 0 w c.toNat) 0 w (c.toNat + 1)).set (c.toNat + 1) ⟨⟨#[]⟩, 0, y⟩ := ⟨_, rfl⟩
  rw [← hN]
  have HN := Lib.hid hN
  clear hN
  obtain ⟨X, hX⟩ : ∃ X, ((W.alloc (.cells #[.int .i64 w, .int .i64 h, .slice a h cap] 29)).alloc (.cells #[.bool y.b, .bool y.u, .bool y.i, .int .i64 y.f, .int .i64 y.g] 36)).alloc (.cells #[.int .i64 0, .int .i64 0, .slice none 0 0] 29) = X := ⟨_, rfl⟩
  obtain ⟨p1, p2, p3, bX, sX⟩ := rput_world W w h h cap a y X hX
  obtain ⟨b, o, a2, c2, rfl, ⟨hb, _⟩, hcell, hc2, hcl, _⟩ := g.rows.at_ k _ hM
  rw [hMl] at hcell hc2 hcl
  have hm := g.mx
  have hle := g.le
  have C1 := Lib.hid (fun X => rthere_any w h (some ⟨b, o, none⟩) h cap (k : Int) c X)
  have e1 : inG w h (k : Int) c = true := by simp [inG]; omega
  have hc2' : c < w := by omega
  rw [e1] at C1
  have C2 := Lib.hid (fun X => rthere_any w h (some ⟨b, o, none⟩) h cap (k : Int) (c + 1) X)
  have e2 : inG w h (k : Int) (c + 1) = true := by simp [inG]; omega
  rw [e2] at C2
  have htn : (c + 1).toNat = c.toNat + 1 := by omega
  have HTN := Lib.hid htn
  have HX := Lib.hid hX
  have P1 := Lib.hid p1
  have P2 := Lib.hid p2
  have P3 := Lib.hid p3
  have G := Lib.hid (g.mono (F' := fun b => F b ∧ b ≠ W.heap.size + 1 + 1) (fun b h1 h2 => ⟨h1, by omega⟩))
  have HCL := Lib.hid hcl
  have HCE := Lib.hid hcell
  have CB := Lib.hid (fun (X : World) a cap N (h : CellsAt X a w N) => rblank_any (cap := cap) h (by omega) c hc0 hc2')
  have CB2 := Lib.hid (fun (X : World) a cap N (h : CellsAt X a w N) => rblank_any (cap := cap) h (by omega) (c + 1) (by omega) hc1)
  have CT2 := Lib.hid (fun (X : World) a cap N (h : CellsAt X a w N) => rset_any (cap := cap) h (by omega) (c + 1) (by omega) hc1 ⟨⟨#[]⟩, 0, y⟩)
  have CS := Lib.hid (fun (X : World) a cap N (h : CellsAt X a w N) => rset_any (cap := cap) h (by omega) c hc0 hc2' ⟨s, 2, y⟩)
  have hs2 : ¬ (64 : Int) < s.size := by omega
  have hs3 := not_empty hs0
  clear hX p1 p2 p3 g hcl hcell hM hMe hMl e1 e2 hRl htn
  go_enter Tryz.func96, Tryz.ntmps96
  go_wp2_with fail
  rw [HX.out]
  obtain ⟨q0, q1, q2, q3⟩ := P1.out.cells
  go_wp2_with fail
  refine (C1.out _).mono ?_
  rintro e w1 ⟨rfl, hb1⟩
  clear q0 q1 q2 q3
  obtain ⟨q0, q1, q2, q3⟩ := (P1.out.below hb1).cells
  go_wp2_with fail
  refine (C2.out _).mono ?_
  rintro e w1' ⟨rfl, hb1'⟩
  replace hb1 := bnext hb1 hb1'
  clear q0 q1 q2 q3 hb1'
  obtain ⟨q0, q1, q2, q3⟩ := (P1.out.below hb1).cells
  have bw1 : Below W.heap.size W w1' := bto bX hb1 bX.size
  have hce1 := (bw1.cell (p := ⟨b, o + k, none⟩) hb).trans HCE.out
  go_wp2_with fail
  refine (CB.out _ _ _ _ (HCL.out.below bw1)).mono ?_
  rintro e v2 ⟨b3, d3, rfl, hN3, _, hc2b⟩
  clear q0 q1 q2 q3 hce1
  have bv2 : Below W.heap.size W v2 := bto bw1 hc2b bw1.size
  have p2v := ((P2.out.only (Only.of_below (S := []) hb1) (by simp)).only (Only.of_below (S := []) hc2b) (by simp))
  go_wp2_with fail
  refine (CB2.out _ _ _ _ hN3).mono ?_
  rintro e v3 ⟨b4, d4, rfl, hN4, _, hc3b⟩
  have p2v3 := p2v.only (Only.of_below (S := []) hc3b) (by simp)
  obtain ⟨y0, y1, y2, y3, y4, y5⟩ := StyBox.cells p2v3
  go_wp2_with fail
  refine (CT2.out _ _ _ _ hN4).mono ?_
  rintro e w2 ⟨a3, c3, rfl, hM3, _, hd2b⟩
  have hb2 : Below w1'.heap.size w1' w2 := bnext (bnext hc2b hc3b) hd2b
  rw [HTN.out] at hM3
  clear y0 y1 y2 y3 y4 y5
  have bw2 : Below W.heap.size W w2 := bto bw1 hb2 bw1.size
  have p1w := (P1.out.below hb1).below hb2
  have p2w := ((P2.out.only (Only.of_below (S := []) hb1) (by simp)).only (Only.of_below (S := []) hb2) (by simp))
  have p3w := (P3.out.below hb1).below hb2
  rw [← HN.out] at hM3
  have hz2 := bw2.size
  go_wp2
  refine wp_region_mix [(true, 0), (true, 1), (true, 2), (true, 3), (true, 4), (true, 5), (true, 6), (true, 7), (false, 8), (false, 9), (false, 10), (false, 11)] (fun w' => GBox w' W.heap.size w h (some ⟨b, o, none⟩) h cap ∧ SyBox w' (W.heap.size + 1) y) (by kernel_rfl) (by kernel_rfl) (by rfl) (by kernel_rfl) (by kernel_rfl) (fun _ _ d _ _ h => by cases d <;> exact h) ⟨p1w, p2w⟩ ?_
  simp only [mixL, List.getElem?_cons_succ, List.getElem?_cons_zero]
  repeat (refine' wpMix_read (v := _) rfl ?_ ?_; rotate_left 1; (intro w' hw'; obtain ⟨x0, x1, x2, x3⟩ := hw'.1.cells; obtain ⟨y0, y1, y2, y3, y4, y5⟩ := StyBox.cells hw'.2; go_simp; try with_reducible rfl); try simp only [Act.put, List.setIfInBounds_toArray, List.set_cons_zero, List.set_cons_succ])
  refine wpMix_act (fun K hK => ?_)
  go_wp2_with fail
  refine (CS.out _ _ _ _ (hM3.below (Below.refl _ _).drew)).mono ?_
  rintro e w4 ⟨a4, c4, rfl, hM4, hc4, hb4⟩
  have hb4' : Below w2.heap.size w2 w4 := (Below.refl _ _).drew.trans hb4
  have bw4 : Below W.heap.size W w4 := bto bw2 hb4' bw2.size
  go_wp2
  refine hK _ _ (fun _ => ⟨p1w.below hb4', p2w.only (Only.of_below (S := []) hb4') (by simp)⟩) ?_
  clear hK K
  refine wpMix_act (fun K hK => ?_)
  have hs2' := hb4'.size
  have hs1' := hb1.size
  have hs0' := hb2.size
  have hF4 : ∀ b, w2.heap.size ≤ b → F b ∧ b ≠ W.heap.size + 1 + 1 := fun b hb => ⟨hF b (by omega), by omega⟩
  have CW := Lib.hid (rwith_any (F := fun b => F b ∧ b ≠ W.heap.size + 1 + 1) (fun b hb => hF4 b (by omega)) (G.out.below bw4) (by omega) (k : Int) (by omega) (by omega) hM4 hc4.1 (fun b o e => ⟨(hc4.2 b o e).2, hF4 b (hc4.2 b o e).1⟩))
  go_wp2_with fail
  refine (CW.out).mono ?_
  rintro e w5 ⟨a5, c5, rfl, g5, hb5⟩
  have b25 : Below w2.heap.size w2 w5 := bto hb4' hb5 hb4'.size
  have bw5 : Below W.heap.size W w5 := bto bw2 b25 bw2.size
  have p1x := p1w.below b25
  have p2x := p2w.only (Only.of_below (S := []) b25) (by simp)
  have p3x := p3w.below b25
  go_wp2
  refine hK _ _ (fun _ => ⟨p1x, p2x⟩) ?_
  clear hK K
  refine wpMix_act (fun K hK => ?_)
  obtain ⟨t0, t1, t2, t3⟩ := p3x.cells
  go_wp2
  obtain ⟨Y, hY⟩ : ∃ Y, ((w5.setCell ⟨W.heap.size + 1 + 1, 0, none⟩ (.int .i64 w)).setCell ⟨W.heap.size + 1 + 1, 1, none⟩ (.int .i64 h)).setCell ⟨W.heap.size + 1 + 1, 2, none⟩ (.slice a5 h c5) = Y := ⟨_, rfl⟩
  obtain ⟨pY, oY⟩ := p3x.fill w h h c5 a5 Y hY
  rw [hY]
  have b5Y : Below W.heap.size w5 Y := oY.below (by simp; omega) bw5.size
  refine hK _ _ (fun _ => ⟨p1x.only oY (by simp; omega), p2x.only oY (by simp)⟩) ?_
  clear hK K t0 t1 t2 t3
  refine wpMix_act (fun K hK => ?_)
  go_wp2
  refine hK _ _ (fun h => absurd rfl h) ?_
  clear hK K
  refine wpMix_nil ?_
  go_wp2
  refine bodyPost_ret (results_row2 rfl _ _ (W.heap.size + 1 + 1) _ rfl pY.load) rfl ?_
  have g6 := (g5.keep oY.size (fun b hb hlt => oY.block b hlt (by simpa using hb.2))).mono (F' := F) (fun b hb _ => hb.1)
  simp only [Int.toNat_natCast] at g6
  exact ⟨a5, c5, rfl, g6, bw5.trans b5Y⟩
theorem rput_any {F : Nat → Prop} {W : World} (hF : ∀ b, W.heap.size ≤ b → F b) {a : Option Addr} {cap w h : Nat} {R : List (List GC)} (g : RG F W a cap w h R) (hw5 : w ≤ 1000) (hh5 : h ≤ 1000) (r c : Int) (s : ByteArray) (wd : Int) (y : Sy) :
    Calls Tryz.prog 96 #[.agg #[.int .i64 w, .int .i64 h, .slice a h cap], .int .i64 r, .int .i64 c, .string s, .int .i64 wd, .agg #[.bool y.b, .bool y.u, .bool y.i, .int .i64 y.f, .int .i64 y.g]] W (GPost2 F w h (putR w h R r c s wd y) (putErr w h r c s wd) W) := by
  unfold putR
  by_cases h1 : s = ⟨#[]⟩ ∨ 64 < s.size ∨ (wd ≠ 1 ∧ wd ≠ 2)
  · have e1 : putErr w h r c s wd = 1 := by unfold putErr; rw [if_pos h1]
    rw [e1, if_neg (by decide)]
    exact rput_arg g r c s wd y h1
  · have h2 : s ≠ ⟨#[]⟩ ∧ s.size ≤ 64 ∧ (wd = 1 ∨ wd = 2) := by
      refine ⟨fun h => h1 (.inl h), ?_, ?_⟩
      · exact Nat.le_of_not_lt (fun h => h1 (.inr (.inl h)))
      · by_cases a : wd = 1; exact .inl a; by_cases b : wd = 2; exact .inr b; exact absurd (.inr (.inr ⟨a, b⟩)) h1
    obtain ⟨hs0, hs1, hwd⟩ := h2
    by_cases h3 : ¬ (0 ≤ r ∧ r < h ∧ 0 ≤ c ∧ c < w) ∨ (wd = 2 ∧ ¬ c + 1 < w)
    · have e1 : putErr w h r c s wd = 5 := by unfold putErr; rw [if_neg h1, if_pos h3]
      rw [e1, if_neg (by decide)]
      exact rput_range g hw5 r c s wd y hs0 hs1 hwd h3
    · have e1 : putErr w h r c s wd = 0 := by unfold putErr; rw [if_neg h1, if_neg h3]
      rw [e1, if_pos rfl]
      have h4 : 0 ≤ r ∧ r < h ∧ 0 ≤ c ∧ c < w := Classical.byContradiction fun h => h3 (.inl h)
      rcases hwd with rfl | rfl
      · exact rput_ok1 hF g hw5 hh5 r c s y hs0 hs1 h4.1 h4.2.1 h4.2.2.1 h4.2.2.2
      · exact rput_ok2 hF g hw5 hh5 r c s y hs0 hs1 h4.1 h4.2.1 h4.2.2.1 (Classical.byContradiction fun h => h3 (.inr ⟨rfl, h⟩))
end Go.Proofs.YtekodpcedjpnjaaGreat
namespace Go.Proofs.YtekodpcedjpnjaaGreat
set_option linter.unusedVariables false
set_option linter.unusedSimpArgs false
open Go.RowKit Go.Shelf Go.Maps
/-- Rows that stand in an array that the call owns; the blocks of the rows are of F, and none of them is the array's. -/
def ROwn (F : Nat → Prop) (n₀ : Nat) (W : World) (v : Value) (k : Nat) (R : List (List GC)) : Prop :=
  ∃ vs G, W.ownsRow n₀ 169 1 v k vs ∧ VRows G W vs R ∧ (∀ b, G b → F b) ∧ ∀ g, v.ownBlock = some g → ¬ G g
theorem VRows.keep {F : Nat → Prop} {W Y : World} {vs : List Value} {R : List (List GC)} (h : VRows F W vs R) (hs : W.heap.size ≤ Y.heap.size) (hk : ∀ b, F b → b < W.heap.size → Y.heap[b]? = W.heap[b]?) : VRows F Y vs R :=
  ⟨h.len, fun i M hi => by
    obtain ⟨a2, c2, h1, h2, h3, h4⟩ := h.at_ i M hi
    exact ⟨a2, c2, h1, h2, h3.keep hs (fun b o e hb => hk b (h4 b o e).2 hb), fun b o e => ⟨Nat.lt_of_lt_of_le (h4 b o e).1 hs, (h4 b o e).2⟩⟩⟩
theorem VRows.mono {F F' : Nat → Prop} {W : World} {vs : List Value} {R : List (List GC)} (h : VRows F W vs R) (hF : ∀ b, F b → b < W.heap.size → F' b) : VRows F' W vs R :=
  ⟨h.len, fun i M hi => by
    obtain ⟨a2, c2, h1, h2, h3, h4⟩ := h.at_ i M hi
    exact ⟨a2, c2, h1, h2, h3, fun b o e => ⟨(h4 b o e).1, hF b (h4 b o e).2 (h4 b o e).1⟩⟩⟩
theorem ROwn.nil (F : Nat → Prop) (n₀ : Nat) (W : World) : ROwn F n₀ W (.slice none 0 0) 0 [] :=
  ⟨[], fun _ => False, World.ownsRow_nil _ _ _ _, VRows.nil _ _, fun _ h => h.elim, fun _ _ h => h⟩
theorem ROwn.slice {F : Nat → Prop} {n₀ : Nat} {W : World} {v : Value} {k : Nat} {R : List (List GC)} (h : ROwn F n₀ W v k R) : ∃ a c, v = .slice a k c := by
  obtain ⟨vs, _, ho, _⟩ := h
  exact own_sliceF ho
theorem ROwn.below {F : Nat → Prop} {n₀ : Nat} {W Y : World} {v : Value} {k : Nat} {R : List (List GC)} (h : ROwn F n₀ W v k R) (hb : Below W.heap.size W Y) : ROwn F n₀ Y v k R := by
  obtain ⟨vs, G, ho, hv, hG, hn⟩ := h
  exact ⟨vs, G, own_belowF ho hb, hv.below hb, hG, hn⟩
/-- A box below the owned ones is written. -/
theorem ROwn.setCell {F : Nat → Prop} {n₀ : Nat} {W : World} {v : Value} {k : Nat} {R : List (List GC)} (h : ROwn F n₀ W v k R) {b : Nat} (hb : b < n₀) (hF : ¬ F b) (o : Nat) (u : Value) : ROwn F n₀ (W.setCell ⟨b, o, none⟩ u) v k R := by
  obtain ⟨vs, G, ho, hv, hG, hn⟩ := h
  exact ⟨vs, G, ownsRow_setCell_below ho hb u, hv.keep (by simp [World.setCell]) (fun b' hb' _ => Below.heap_setCell _ _ _ _ (fun e => hF (by subst e; exact hG _ hb'))), hG, hn⟩
/-- A row is put behind them: the world W is that of the append. -/
theorem ROwn.app {F : Nat → Prop} {n₀ : Nat} {W W' : World} {v v' : Value} {k : Nat} {R : List (List GC)} {vs : List Value} {G : Nat → Prop} {a : Option Addr} {n c : Nat} {M : List GC}
    (hv : VRows G W vs R) (hG : ∀ b, G b → F b) (hn : ∀ g, v.ownBlock = some g → ¬ G g) (hlt : ∀ g, v.ownBlock = some g → g < W.heap.size)
    (hM : CellsAt W a n M) (hnM : M.length = n) (hc : n ≤ c ∧ c ≤ maxLen) (ha : ∀ b o, a = some ⟨b, o, none⟩ → b < W.heap.size ∧ F b ∧ v.ownBlock ≠ some b)
    (hgr : W.grownBy W' v.ownBlock) (ho : W'.ownsRow n₀ 169 1 v' (k + 1) (vs ++ [.slice a n c])) (hob : v'.ownBlock = v.ownBlock ∨ v'.ownBlock = some W.heap.size) : ROwn F n₀ W' v' (k + 1) (R ++ [M]) := by
  have hkeep : ∀ b, b < W.heap.size → v.ownBlock ≠ some b → W'.heap[b]? = W.heap[b]? := fun b hb hne => hgr.block b hb (fun e => hne e.symm)
  have hv1 := hv.mono (F' := fun b => G b ∧ b < W.heap.size) (fun b h1 h2 => ⟨h1, h2⟩)
  have hv2 := (hv1.keep hgr.size (fun b hb hlt' => hkeep b hlt' (fun e => hn b e hb.1)))
  have hv3 := hv2.mono (F' := fun b => G b ∧ b < W.heap.size ∨ ∃ o, a = some ⟨b, o, none⟩) (fun b h1 _ => .inl h1)
  have hM2 := hM.keep hgr.size (fun b o e hb => hkeep b hb (ha b o e).2.2)
  refine ⟨vs ++ [.slice a n c], _, ho, hv3.snoc hnM hc hM2 (fun b o e => ⟨Nat.lt_of_lt_of_le (ha b o e).1 hgr.size, .inr ⟨o, e⟩⟩), ?_, ?_⟩
  · rintro b (h1 | ⟨o, e⟩)
    · exact hG b h1.1
    · exact (ha b o e).2.1
  · rintro g hg (h1 | ⟨o, e⟩)
    · rcases hob with h2 | h2
      · exact hn g (h2 ▸ hg) h1.1
      · rw [h2] at hg; cases hg; exact absurd h1.2 (Nat.lt_irrefl _)
    · rcases hob with h2 | h2
      · exact (ha g o e).2.2 (h2 ▸ hg)
      · rw [h2] at hg; cases hg; exact absurd (ha _ o e).1 (Nat.lt_irrefl _)
/-- At the end. -/
theorem ROwn.rows {F : Nat → Prop} {n₀ : Nat} {W : World} {a : Option Addr} {k c : Nat} {R : List (List GC)} (h : ROwn F n₀ W (.slice a k c) k R) (hR : R.length = k) (hF : ∀ b, n₀ ≤ b → F b) : RowsF F W a k R ∧ k ≤ c ∧ c ≤ maxLen := by
  obtain ⟨vs, G, ho, hv, hG, hn⟩ := h
  obtain ⟨h1, h2, h3⟩ := own_row_at ho
  exact ⟨RowsF.of_vals hR (hv.mono (fun b hb _ => hG b hb)) h1 (fun b o e => by subst e; exact hF b (own_cells ho b rfl).1), h2, h3⟩
theorem row_one (W : World) (v : Value) (t : TypeId) : ∀ (j : Nat) (u : Value), [v][j]? = some u → (W.alloc (.cells #[v] t)).cell? ((⟨W.heap.size, 0, none⟩ : Addr).add j) = some u := fun j u h => by
  have h0 := (cell_new_l W v t).1
  cases j with
  | zero =>
    simp only [List.getElem?_cons_zero, Option.some.injEq] at h
    subst h
    rw [Go.WideShapes.add_plain]; exact h0
  | succ j => simp at h
/-- The append of one row, as the walk meets it. -/
theorem wpList_append_row {ops : Array Oper} {rest : List Oper} {o : Oper} {a : Act} {w : World} {Q : Exit → Act → World → Prop} (hgd : o.guard = none) (s x : Operand)
    (ho : o.op = .call { callee := .builtin .append, args := #[s, x], argTypes := #[27, 27] }) (F : Nat → Prop) (n₀ : Nat) (v : Value) (k : Nat) (R : List (List GC)) (hs : a.eval s = v) (hR : ROwn F n₀ w v k R)
    (b : Nat) (hx : a.eval x = .slice (some ⟨b, 0, none⟩) 1 1) (a3 : Option Addr) (n c : Nat) (M : List GC) (hcell : ∀ j u, [Value.slice a3 n c][j]? = some u → w.cell? ((⟨b, 0, none⟩ : Addr).add j) = some u) (hM : CellsAt w a3 n M) (hnM : M.length = n) (hc : n ≤ c ∧ c ≤ maxLen)
    (ha : ∀ b o, a3 = some ⟨b, o, none⟩ → b < w.heap.size ∧ F b ∧ v.ownBlock ≠ some b) (hk : k + 1 ≤ 1000000) (hbase : n₀ ≤ w.heap.size)
    (h : ∀ g c' w', ROwn F n₀ w' (.slice (some ⟨g, 0, none⟩) (k + 1) c') (k + 1) (R ++ [M]) → w.grownBy w' v.ownBlock → Below n₀ w w' → wpList Tryz.prog ops Q rest (a.put o.dst (.slice (some ⟨g, 0, none⟩) (k + 1) c')) w') :
    wpList Tryz.prog ops Q (o :: rest) a w := by
  obtain ⟨i0, hi, hz0, hz1, hz2⟩ := info_parts infoRow
  obtain ⟨vs, G, hown, hv, hG, hn⟩ := hR
  refine wpList_append_own_at _ hgd s x 27 ho n₀ 169 i0 (.agg #[.slice none 0 0]) 1 24 Tryz.underlying27 hi hz0 hz1 hz2 rfl (by decide) v k vs hs hown ⟨b, 0, none⟩ 1 1 [.slice a3 n c] hx rfl hcell (by intro u hu; rw [List.mem_singleton.1 hu]; rfl) (by unfold maxLen; omega) (by omega) hbase ?_
  intro v' w1 ho' hg' _ hob
  obtain ⟨g, c', rfl⟩ := ownsRow_succ ho'
  exact h _ _ _ (ROwn.app hv hG hn (fun g e => by obtain ⟨_, cur, h2⟩ := own_cells hown g e; exact (Array.getElem?_eq_some_iff.1 h2).1) hM hnM hc ha hg' ho' hob) hg' ((Below.refl n₀ w).grown hg' hbase (fun k e => (own_cells hown k e).1))
theorem ROwn.own {F : Nat → Prop} {n₀ : Nat} {W : World} {v : Value} {k : Nat} {R : List (List GC)} (h : ROwn F n₀ W v k R) : ∀ g, v.ownBlock = some g → n₀ ≤ g ∧ g < W.heap.size := fun g e => by
  obtain ⟨vs, G, hown, _⟩ := h
  obtain ⟨h1, cur, h2⟩ := own_cells hown g e
  exact ⟨h1, (Array.getElem?_eq_some_iff.1 h2).1⟩
set_option maxRecDepth 100000 in
set_option maxHeartbeats 8000000 in
theorem rnew_ok {F : Nat → Prop} {W : World} (hF : ∀ b, W.heap.size ≤ b → F b) (w h : Nat) (hd : 1 ≤ w ∧ w ≤ 500 ∧ 1 ≤ h ∧ h ≤ 500) :
    Calls Tryz.prog 83 #[.int .i64 w, .int .i64 h] W (GPost2 F w h (List.replicate h (List.replicate w GC.blank)) 0 W) := by
  obtain ⟨i0, hi, hz0, hz1, hz2⟩ := info_parts infoRow
  have cs := rsize_any (w : Int) (h : Int)
  rw [show decide (1 ≤ (w : Int) ∧ (w : Int) ≤ 500 ∧ 1 ≤ (h : Int) ∧ (h : Int) ≤ 500) = true by simp; omega] at cs
  have CS := Lib.hid cs
  have CB := Lib.hid (fun X => rblanks_any w (by omega) X)
  clear cs
  obtain ⟨X1, hX1⟩ : ∃ X1, W.alloc (.cells #[.int .i64 0, .int .i64 0, .slice none 0 0] 29) = X1 := ⟨_, rfl⟩
  obtain ⟨X2, hX2⟩ : ∃ X2, X1.alloc (.cells #[.int .i64 w, .int .i64 h, .slice none 0 0] 29) = X2 := ⟨_, rfl⟩
  have s1 : X1.heap.size = W.heap.size + 1 := by rw [← hX1]; simp
  have s2 : X2.heap.size = W.heap.size + 1 + 1 := by rw [← hX2]; simp [s1]
  have b1 : Below W.heap.size W X1 := by rw [← hX1]; exact (Below.refl _ _).alloc (Nat.le_refl _) _
  have b2 : Below W.heap.size W X2 := by rw [← hX2]; exact b1.alloc (by omega) _
  have p1 : GBox X2 W.heap.size 0 0 none 0 0 := by
    have : GBox X1 W.heap.size 0 0 none 0 0 := by rw [← hX1]; exact GBox.new W _ _ _ _ _
    rw [← hX2]; exact this.below ((Below.refl _ _).alloc (Nat.le_refl _) _)
  have p2 : GBox X2 (W.heap.size + 1) w h none 0 0 := by rw [← hX2, ← s1]; exact GBox.new X1 _ _ _ _ _
  have HX1 := Lib.hid hX1
  have HX2 := Lib.hid hX2
  have S2 := Lib.hid s2
  clear hX1 hX2 s1 s2 b1
  obtain ⟨hd1, hd2, hd3, hd4⟩ := hd
  go_enter Tryz.func83, Tryz.ntmps83
  go_wp2_with (go_at_call 148; refine (CS.out _).mono ?_; rintro e w1 ⟨rfl, rfl⟩)
  rw [HX1.out, HX2.out]
  go_loopw [7] (fun i wr => ∃ (k : Nat) (av : Option Addr) (cv : Nat), k ≤ h ∧ i = .int .i64 k ∧ GBox wr (W.heap.size + 1) w h av k cv ∧ GBox wr W.heap.size 0 0 none 0 0 ∧ ROwn (fun b => F b ∧ W.heap.size + 1 < b) (W.heap.size + 1 + 1) wr (.slice av k cv) k (List.replicate k (List.replicate w GC.blank)) ∧ Below W.heap.size W wr) (fun i _ => h - (intOf i).toNat)
  case atStart => exact ⟨0, none, 0, Nat.zero_le _, rfl, p2, p1, ROwn.nil _ _ _, b2⟩
  case round =>
    obtain ⟨k, av, cv, hk, rfl, pg, pr, hR, hb⟩ := hrel
    have hlt2 := pg.lt
    obtain ⟨q0, q1, q2, q3⟩ := pg.cells
    by_cases hlt : k < h
    · have HSN : Hid (List.replicate (k + 1) (List.replicate w GC.blank) = List.replicate k (List.replicate w GC.blank) ++ [List.replicate w GC.blank]) := Lib.hid List.replicate_succ'
      obtain ⟨M, hM⟩ : ∃ M, M = List.replicate w GC.blank := ⟨_, rfl⟩
      have hMl : M.length = w := by rw [hM]; simp
      rw [← hM] at CB hR HSN
      obtain ⟨R, hRR⟩ : ∃ R, R = List.replicate k M := ⟨_, rfl⟩
      rw [← hRR] at hR HSN
      have HML := Lib.hid hMl
      have HMM := Lib.hid hM
      clear hRR hM hMl
      go_wp2
      refine wp_region_mix [(true, 0), (true, 1), (true, 2), (false, 3), (false, 4), (false, 5), (true, 6), (false, 7)] (fun w' => w'.cell? ⟨W.heap.size + 1, 2, none⟩ = some (.slice av k cv)) (by kernel_rfl) (by kernel_rfl) (by rfl) (by kernel_rfl) (by kernel_rfl) (fun _ _ d _ _ h => by cases d <;> exact h) q2 ?_
      simp only [mixL, List.getElem?_cons_succ, List.getElem?_cons_zero]
      repeat (refine' wpMix_read (v := _) rfl ?_ ?_; rotate_left 1; (intro w' hw'; go_simp; try with_reducible rfl); try simp only [Act.put, List.setIfInBounds_toArray, List.set_cons_zero, List.set_cons_succ])
      refine wpMix_act (fun K hK => ?_)
      go_wp2_with fail
      refine (CB.out _).mono ?_
      rintro e w3 ⟨a3, c3, rfl, hM3, hc3, hb3⟩
      have hbw3 : Below wr.heap.size wr w3 := (Below.refl _ _).drew.trans hb3
      have pg3 := pg.below hbw3
      go_wp2
      refine hK _ _ (fun _ => pg3.cells.2.2.1) ?_
      clear hK K
      refine wpMix_act (fun K hK => ?_)
      go_wp2
      refine hK _ _ (fun _ => (pg3.below ((Below.refl _ _).alloc (Nat.le_refl _) _)).cells.2.2.1) ?_
      clear hK K
      refine wpMix_act (fun K hK => ?_)
      have ha3 : ∀ b o, a3 = some ⟨b, o, none⟩ → b < w3.heap.size ∧ (F b ∧ W.heap.size + 1 < b) ∧ (Value.slice av k cv).ownBlock ≠ some b := fun b o e => by
        obtain ⟨h1, h2⟩ := hc3.2 b o e
        have h3 : wr.heap.size ≤ b := h1
        exact ⟨h2, ⟨hF b (by have := hb.size; omega), by omega⟩, fun e2 => by have := (hR.own b e2).2; omega⟩
      have hs3 := hbw3.size
      refine wpList_append_row rfl _ _ rfl (fun b => F b ∧ W.heap.size + 1 < b) (W.heap.size + 1 + 1) (.slice av k cv) k R rfl ((hR.below hbw3).below ((Below.refl _ _).alloc (Nat.le_refl _) _)) w3.heap.size rfl a3 w c3 M (row_one w3 _ _) (hM3.below ((Below.refl _ _).alloc (Nat.le_refl _) _)) HML.out hc3.1 (fun b o e => by obtain ⟨h1, h2⟩ := ha3 b o e; exact ⟨by simp; omega, h2⟩) (by omega) (by simp; omega) ?_
      intro g c' w5 hR5 hg5 hb5
      have hb35 : Below (W.heap.size + 1 + 1) w3 w5 := ((Below.refl _ _).alloc (by omega) _).trans hb5
      have pg5 : GBox w5 (W.heap.size + 1) w h av k cv := (hb35.block _ (by omega)).trans pg3
      have pr5 : GBox w5 W.heap.size 0 0 none 0 0 := (hb35.block _ (by omega)).trans (pr.below hbw3)
      refine hK _ _ (fun _ => pg5.cells.2.2.1) ?_
      clear hK K hg5
      repeat (refine' wpMix_read (v := _) rfl ?_ ?_; rotate_left 1; (intro w' hw'; go_simp; try with_reducible rfl); try simp only [Act.put, List.setIfInBounds_toArray, List.set_cons_zero, List.set_cons_succ])
      refine wpMix_act (fun K hK => ?_)
      obtain ⟨t0, t1, t2, t3⟩ := pg5.cells
      go_wp2
      refine hK _ _ (fun h => absurd rfl h) ?_
      clear hK K
      refine wpMix_nil ?_
      obtain ⟨pY, oY⟩ := pg5.set2 (k + 1) c' (some ⟨g, 0, none⟩)
      have hRY := hR5.setCell (b := W.heap.size + 1) (by omega) (fun h => by omega) 2 (.slice (some ⟨g, 0, none⟩) (k + 1) c')
      have prY := pr5.only oY (by simp)
      have hbw5 : Below W.heap.size W w5 := (bto hb hbw3 hb.size).trans (hb35.mono (by omega))
      go_wp2
      go_roundw
      case rel => exact ⟨k + 1, some ⟨g, 0, none⟩, c', hlt, by go_num, pY, prY, by rw [← HMM.out, HSN.out]; exact hRY, hbw5.trans (oY.below (by simp) hbw5.size)⟩
      case measure => simp [intOf]; omega
    · obtain rfl : k = h := by omega
      obtain ⟨Y, hY⟩ : ∃ Y, ((wr.setCell ⟨W.heap.size, 0, none⟩ (.int .i64 w)).setCell ⟨W.heap.size, 1, none⟩ (.int .i64 k)).setCell ⟨W.heap.size, 2, none⟩ (.slice av k cv) = Y := ⟨_, rfl⟩
      obtain ⟨pY, oY⟩ := pr.fill w k k cv av Y hY
      obtain ⟨t0, t1, t2, t3⟩ := pr.cells
      have hRY : ROwn (fun b => F b ∧ W.heap.size + 1 < b) (W.heap.size + 1 + 1) Y (.slice av k cv) k (List.replicate k (List.replicate w GC.blank)) := by
        rw [← hY]
        exact ((hR.setCell (b := W.heap.size) (by omega) (fun h => by omega) 0 _).setCell (b := W.heap.size) (by omega) (fun h => by omega) 1 _).setCell (b := W.heap.size) (by omega) (fun h => by omega) 2 _
      obtain ⟨h1, h2, h3⟩ := hRY.rows (by simp) (fun b hb => ⟨hF b (by omega), by omega⟩)
      have HY := Lib.hid hY
      have hbY := hb.trans (oY.below (by simp) hb.size)
      clear hY hR hRY
      go_wp2
      rw [HY.out]
      refine bodyPost_ret (results_row2 rfl _ _ W.heap.size _ rfl pY.load) rfl ?_
      exact ⟨av, cv, rfl, ⟨h1.mono (fun b hb _ => hb.1), RowsOk.blank w k, h2, h3⟩, hbY⟩
theorem rnew_bad {W : World} (a b : Int) (hd : ¬ (1 ≤ a ∧ a ≤ 500 ∧ 1 ≤ b ∧ b ≤ 500)) :
    Calls Tryz.prog 83 #[.int .i64 a, .int .i64 b] W fun e w' => e = .returned (.tuple #[.agg #[.int .i64 0, .int .i64 0, .slice none 0 0], .int .i64 40]) ∧ Below W.heap.size W w' := by
  have cs := rsize_any a b
  rw [show decide (1 ≤ a ∧ a ≤ 500 ∧ 1 ≤ b ∧ b ≤ 500) = false by simpa using hd] at cs
  have CS := Lib.hid cs
  clear cs hd
  have p1 := GBox.new W 0 0 0 0 none
  obtain ⟨q0, q1, q2, q3⟩ := p1.cells
  have P1 := Lib.hid p1
  clear p1
  go_enter Tryz.func83, Tryz.ntmps83
  go_wp2_with (go_at_call 148; refine (CS.out _).mono ?_; rintro e w1 ⟨rfl, rfl⟩)
  refine bodyPost_ret (results_row2 rfl _ _ W.heap.size _ rfl P1.out.load) rfl ?_
  exact ⟨rfl, (Below.refl _ _).alloc (Nat.le_refl _) _⟩
end Go.Proofs.YtekodpcedjpnjaaGreat
