/- The law GridRuns: after any steps the program's grid agrees with the reference's, and wide cells and tails are paired. No condition. -/
import Derived.Test.YtekodpcedjpnjaaGRun1
import Derived.Test.YtekodpcedjpnjaaGRun4
import Derived.Test.YtekodpcedjpnjaaGrid14
import Derived.Test.YtekodpcedjpnjaaGPut2
import Derived.Test.YtekodpcedjpnjaaGFg
namespace Go.Proofs.Ytekodpcedjpnjaa
set_option linter.unusedVariables false
set_option linter.unusedSimpArgs false
open Go.RowKit Go.Shelf Go.Maps
/-- What holds at each step's head. -/
structure GRI (W : World) (rb : Nat) (wr : World) (p q w h : Nat) (R : List (List GC)) (ra : Option Addr) (rc : Nat) : Prop where
  g : GridAt wr p q w h R.flatten
  ok : RowsOk w h R
  ro : ROk R
  gr : GRws R
  box : GBox wr rb w h ra h rc
  rg : RG (fun k => k ≠ rb ∧ k ≠ p ∧ k ≠ q) wr ra rc w h R
  base : W.heap.size ≤ p ∧ W.heap.size ≤ q ∧ W.heap.size ≤ rb
  ne : rb ≠ p ∧ rb ≠ q
  wb : Below W.heap.size W wr
theorem GRI.below {W : World} {rb : Nat} {X Y : World} {p q w h : Nat} {R : List (List GC)} {ra : Option Addr} {rc : Nat} (s : GRI W rb X p q w h R ra rc) (hb : Below X.heap.size X Y) : GRI W rb Y p q w h R ra rc :=
  { g := s.g.only (Only.of_below (S := []) hb) (by simp) (by simp), ok := s.ok, ro := s.ro, gr := s.gr, box := s.box.below hb, rg := s.rg.below hb, base := s.base, ne := s.ne, wb := bto s.wb hb s.wb.size }
theorem neq_nil4 (W : World) : (binOp .neq 23 (.pointer none) (.pointer none)).run Try.prog W = .ok (.bool false) W := by
  go_simp
def smallN (n m : Int) : Int := if m < n ∧ n ≤ 500 then 1 + n % m else n
set_option maxRecDepth 100000 in
set_option maxHeartbeats 16000000 in
theorem gridRuns_any (w0 h0 : Int) {W : World} {a : Option Addr} {len cap : Nat} {ops : List OpV} (hops : OpsAt W a len ops) (hlen : len ≤ maxLen) :
    Calls Try.prog 3 #[.int .i64 w0, .int .i64 h0, .slice a len cap] W fun e w' => e = .returned (.bool true) ∧ Below W.heap.size W w' := by
  unfold maxLen at hlen
  obtain ⟨x, hx⟩ : ∃ x, x = smallN w0 40 := ⟨_, rfl⟩
  obtain ⟨y, hy⟩ : ∃ y, y = smallN h0 20 := ⟨_, rfl⟩
  have HX := Lib.hid hx
  have HY := Lib.hid hy
  clear hx hy
  obtain ⟨M, hM⟩ : ∃ M, M = min ops.length 50 := ⟨_, rfl⟩
  have hML : M ≤ len := by rw [hM, hops.len]; omega
  have hM50 : M ≤ 50 := by omega
  have hMe : M = len ∨ M = 50 := by rw [hM, hops.len]; omega
  have HO := Lib.hid hops
  clear hM hops
  go_enter Try.func3, Try.ntmps3
  go_upto_region 1 with (fail)
  go_cut [21] (fun v wx => v = .bool (decide (40 < w0 ∧ w0 ≤ 500)) ∧ wx = W)
  case first =>
    by_cases h1 : 40 < w0 <;> by_cases h2 : w0 ≤ 500 <;> (go_wp2; go_meet; exact ⟨congrArg Value.bool (by simp; omega), rfl⟩)
  case rest =>
  obtain ⟨rfl, e1⟩ := hcut
  rw [e1]
  refine (‹∀ (a : Act) (w : World), Code.wp Try.prog _ _ a w → _›) _ _ ?_
  go_cut [0] (fun v wx => v = .int .i64 x ∧ wx = W)
  case first =>
    by_cases h1 : 40 < w0 ∧ w0 ≤ 500
    · have HX1 : Hid (Value.int .i64 (1 + w0 % 40) = .int .i64 x) := Lib.hid (by rw [HX.out]; unfold smallN; rw [if_pos h1])
      have hd : decide (40 < w0 ∧ w0 ≤ 500) = true := by simpa using h1
      obtain ⟨h1, h2⟩ := h1
      go_wp2
      go_meet
      exact ⟨HX1.out, rfl⟩
    · have HX1 : Hid (Value.int .i64 w0 = .int .i64 x) := Lib.hid (by rw [HX.out]; unfold smallN; rw [if_neg h1])
      have hd : decide (40 < w0 ∧ w0 ≤ 500) = false := by simpa using h1
      go_wp2
      all_goals first
        | (exfalso; omega)
        | (go_meet; exact ⟨HX1.out, rfl⟩)
  case rest =>
  obtain ⟨rfl, e2⟩ := hcut
  rw [e2]
  clear e1 e2
  refine (‹∀ (a : Act) (w : World), Code.wp Try.prog _ _ a w → _›) _ _ ?_
  go_upto_region 3 with (fail)
  go_cut [30] (fun v wx => v = .bool (decide (20 < h0 ∧ h0 ≤ 500)) ∧ wx = W)
  case first =>
    by_cases h1 : 20 < h0 <;> by_cases h2 : h0 ≤ 500 <;> (go_wp2; go_meet; exact ⟨congrArg Value.bool (by simp; omega), rfl⟩)
  case rest =>
  obtain ⟨rfl, e1⟩ := hcut
  rw [e1]
  refine (‹∀ (a : Act) (w : World), Code.wp Try.prog _ _ a w → _›) _ _ ?_
  go_cut [1] (fun v wx => v = .int .i64 y ∧ wx = W)
  case first =>
    by_cases h1 : 20 < h0 ∧ h0 ≤ 500
    · have HX1 : Hid (Value.int .i64 (1 + h0 % 20) = .int .i64 y) := Lib.hid (by rw [HY.out]; unfold smallN; rw [if_pos h1])
      have hd : decide (20 < h0 ∧ h0 ≤ 500) = true := by simpa using h1
      obtain ⟨h1, h2⟩ := h1
      go_wp2
      go_meet
      exact ⟨HX1.out, rfl⟩
    · have HX1 : Hid (Value.int .i64 h0 = .int .i64 y) := Lib.hid (by rw [HY.out]; unfold smallN; rw [if_neg h1])
      have hd : decide (20 < h0 ∧ h0 ≤ 500) = false := by simpa using h1
      go_wp2
      all_goals first
        | (exfalso; omega)
        | (go_meet; exact ⟨HX1.out, rfl⟩)
  case rest =>
  obtain ⟨rfl, e2⟩ := hcut
  rw [e2]
  clear e1 e2
  refine (‹∀ (a : Act) (w : World), Code.wp Try.prog _ _ a w → _›) _ _ ?_
  by_cases hd : 1 ≤ x ∧ x ≤ 500 ∧ 1 ≤ y ∧ y ≤ 500
  · obtain ⟨xn, rfl⟩ := Int.eq_ofNat_of_zero_le (show 0 ≤ x by omega)
    obtain ⟨yn, rfl⟩ := Int.eq_ofNat_of_zero_le (show 0 ≤ y by omega)
    have CN := Lib.hid (new_ok xn yn hd W)
    have CR := Lib.hid (fun X : World => rnew_ok (F := fun k => X.heap.size ≤ k) (W := X) (fun b h => h) xn yn (by omega))
    have hdn : 1 ≤ xn ∧ xn ≤ 500 ∧ 1 ≤ yn ∧ yn ≤ 500 := by omega
    clear hd HX HY
    go_upto_region 9 with (first
      | (go_at_call 7; refine (CN.out).mono ?_; rintro e w1 ⟨p, rfl, hp, g1, hb1⟩)
      | (go_at_call 8; refine (CR.out _).mono ?_; rintro e w2 ⟨a2, c2, rfl, rg2, hb2⟩)
      | (go_at_call 9; refine (awake04_any _).mono ?_; rintro e w3 ⟨rfl, hb3⟩))
    obtain ⟨rb, hrb⟩ : ∃ rb, w2.heap.size = rb := ⟨_, rfl⟩
    obtain ⟨R0, hR0⟩ : ∃ R0, List.replicate yn (List.replicate xn GC.blank) = R0 := ⟨_, rfl⟩
    have G0 : Hid (GRI W rb w3 p W.heap.size xn yn R0 a2 c2) := Lib.hid (by
      rw [← hR0, ← hrb]
      have hpl : p < w1.heap.size := (Array.getElem?_eq_some_iff.1 g1.head).1
      have hql := g1.blk.lt
      have s1 := hb1.size
      have s2 := hb2.size
      have bx := GBox.new w2 xn yn yn c2 a2
      have ba : Below w2.heap.size w2 (w2.alloc (.cells #[.int .i64 xn, .int .i64 yn, .slice a2 yn c2] 29)) := (Below.refl _ _).alloc (Nat.le_refl _) _
      have fl : (List.replicate yn (List.replicate xn GC.blank)).flatten = List.replicate (xn * yn) GC.blank := by rw [List.flatten_replicate_replicate, Nat.mul_comm]
      have b1 : Below W.heap.size W w2 := bto hb1 hb2 hb1.size
      have b2 := bto b1 ba b1.size
      refine { g := ?_, ok := RowsOk.blank _ _, ro := ROk.blank _ _, gr := GRws.blank _ _, box := bx.below hb3, rg := ?_, base := ⟨hp, Nat.le_refl _, by omega⟩, ne := by omega, wb := bto b2 hb3 b2.size }
      · rw [fl]
        exact (((g1.only (Only.of_below (S := []) hb2) (by simp) (by simp)).only (Only.of_below (S := []) ba) (by simp) (by simp)).only (Only.of_below (S := []) hb3) (by simp) (by simp))
      · exact ((rg2.mono (F' := fun k => k ≠ w2.heap.size ∧ k ≠ p ∧ k ≠ W.heap.size) (fun k hk hl => ⟨by omega, by omega, by omega⟩)).below ba).below hb3)
    clear g1 hb1 rg2 hb2 hb3 CN CR hR0
    rw [hrb]
    clear hrb
    go_wp2
    go_loopw [7, 11] (fun u i wr => ∃ (k p q w h : Nat) (R : List (List GC)) (ra : Option Addr) (rc : Nat), k ≤ M ∧ u = .pointer (some ⟨p, 0, none⟩) ∧ i = .int .i64 k ∧ Hid (GRI W rb wr p q w h R ra rc)) (fun _ i _ => M - (intOf i).toNat)
    case atStart => exact ⟨0, p, W.heap.size, xn, yn, R0, a2, c2, Nat.zero_le _, rfl, rfl, G0⟩
    case round =>
      clear G0 hp hdn
      obtain ⟨k, p, q, w, h, R, ra, rc, hk, rfl, rfl, G⟩ := hrel
      by_cases hlt : k < M
      · have hkl : k < ops.length := by rw [HO.out.len]; omega
        have hbr := G.out.wb
        obtain ⟨o, ho⟩ : ∃ o, o = nth ⟨0, 0, 0, ⟨#[]⟩, 0, Sy.zero, 0, 0⟩ ops k := ⟨_, rfl⟩
        have hoi : ops[k]? = some o := by rw [ho, nth_eq _ _ _ hkl, List.getElem?_eq_getElem hkl]
        obtain ⟨hok, b, off, rfl, hbl, hro⟩ := HO.out.at_ k o hoi
        obtain ⟨o', ho'⟩ : ∃ o', o' = fewO o := ⟨_, rfl⟩
        have CF := Lib.hid (fun W => few_any2 o o' hok ho' W)
        have hd0 : 0 ≤ o'.d := by rw [ho']; exact hok.d0
        have hd1 : o'.d ≤ 255 := by rw [ho']; exact hok.d1
        have hror : wr.rangeAt b (off + k * 12) o.vals := fun j v hv => (hbr.cell (p := ⟨b, _, none⟩) hbl).trans (hro j v hv)
        have hkl2 : (k : Int) < (len : Int) := by omega
        have hk50 : (k : Int) < 50 := by omega
        clear ho hoi ho' hkl hro hMe hML
        go_upto_region 12 with (fail)
        go_upto_region 13 with (first
          | (refine wpList_load_mid rfl _ _ rfl b _ rfl o.vals _ hror Try.underlying36 rfl (by kernel_rfl) ?_)
          | (go_at_call 10; refine (CF.out _).mono ?_; rintro e w2 ⟨rfl, hb2⟩))
        have G2 : Hid (GRI W rb (w2.alloc (.cells #[.int .u8 o'.d, .int .i64 o'.r, .int .i64 o'.c, .string o'.s, .int .i64 o'.k, .bool o'.y.b, .bool o'.y.u, .bool o'.y.i, .int .i64 o'.y.f, .int .i64 o'.y.g, .int .i64 o'.t, .int .i64 o'.n] 36)) p q w h R ra rc) := Lib.hid ((G.out.below hb2).below ((Below.refl _ _).alloc (Nat.le_refl _) _))
        have OB : Hid (OpBlk (w2.alloc (.cells #[.int .u8 o'.d, .int .i64 o'.r, .int .i64 o'.c, .string o'.s, .int .i64 o'.k, .bool o'.y.b, .bool o'.y.u, .bool o'.y.i, .int .i64 o'.y.f, .int .i64 o'.y.g, .int .i64 o'.t, .int .i64 o'.n] 36)) w2.heap.size o') := Lib.hid (World.alloc_heap_new w2 _)
        have hX := hb2.alloc hb2.size (.cells #[.int .u8 o'.d, .int .i64 o'.r, .int .i64 o'.c, .string o'.s, .int .i64 o'.k, .bool o'.y.b, .bool o'.y.u, .bool o'.y.i, .int .i64 o'.y.f, .int .i64 o'.y.g, .int .i64 o'.t, .int .i64 o'.n] 36)
        obtain ⟨X, hXX⟩ : ∃ X, w2.alloc (.cells #[.int .u8 o'.d, .int .i64 o'.r, .int .i64 o'.c, .string o'.s, .int .i64 o'.k, .bool o'.y.b, .bool o'.y.u, .bool o'.y.i, .int .i64 o'.y.f, .int .i64 o'.y.g, .int .i64 o'.t, .int .i64 o'.n] 36) = X := ⟨_, rfl⟩
        obtain ⟨bo, hbo⟩ : ∃ bo, w2.heap.size = bo := ⟨_, rfl⟩
        have hor : bo ≠ rb ∧ bo ≠ p ∧ bo ≠ q := by
          have := G.out.box.lt
          have h1 : p < wr.heap.size := (Array.getElem?_eq_some_iff.1 G.out.g.head).1
          have h2 := G.out.g.blk.lt
          have := hb2.size
          omega
        have hs2 := hb2.size
        have RGX : Hid (RG (fun k => k ≠ rb ∧ k ≠ p ∧ k ≠ q ∧ k ≠ bo) (w2.alloc (.cells #[.int .u8 o'.d, .int .i64 o'.r, .int .i64 o'.c, .string o'.s, .int .i64 o'.k, .bool o'.y.b, .bool o'.y.u, .bool o'.y.i, .int .i64 o'.y.f, .int .i64 o'.y.g, .int .i64 o'.t, .int .i64 o'.n] 36)) ra rc w h R) := Lib.hid (((G.out.rg.mono (F' := fun k => k ≠ rb ∧ k ≠ p ∧ k ≠ q ∧ k ≠ bo) (fun k hk hl => ⟨hk.1, hk.2.1, hk.2.2, by omega⟩)).below hb2).below ((Below.refl _ _).alloc (Nat.le_refl _) _))
        have hboX : bo < X.heap.size := by rw [← hXX, ← hbo]; simp
        rw [hXX] at G2 OB RGX
        rw [hbo] at OB
        rw [hXX, hbo]
        clear hX hXX hbo hb2 CF hror hok hbl G hbr
        obtain ⟨k0, k1, k2, k3, k4, k5, k6, k7, k8, k9, k10, k11⟩ := OB.out.cells
        go_upto_if 82 with (fail)
        go_cut [7] (fun u wx => ∃ (p q w h : Nat) (R : List (List GC)) (ra : Option Addr) (rc : Nat), u = .pointer (some ⟨p, 0, none⟩) ∧ bo ≠ rb ∧ Hid (GRI W rb wx p q w h R ra rc) ∧ Hid (OpBlk wx bo o'))
        case first =>
          by_cases h9 : o'.d % 10 = 9
          · have f9 : (o'.d % 10 == 9) = true := by simpa using h9
            clear k0 k1 k2 k3 k4 k5 k6 k7 k8 k9 k10 k11 h9
            have CK := Lib.hid (gfork_any G2.out.g)
            go_upto_region 15 with (go_at_call 11; refine (CK.out).mono ?_; rintro e w3 ⟨p', rfl, g', hp', hb3⟩)
            have hXs := hb3.size
            have hbx := G2.out.box.lt
            have hql := G2.out.g.blk.lt
            have hpl : p < X.heap.size := (Array.getElem?_eq_some_iff.1 G2.out.g.head).1
            have hne := G2.out.ne
            have hbs := G2.out.base
            have gX := G2.out.g.only (Only.of_below (S := []) hb3) (by simp) (by simp)
            have CS := Lib.hid (by have := same_any g' gX; rw [show eqL R.flatten R.flatten = true from (eqL_iff _ _).2 rfl] at this; exact this)
            go_upto_region 17 with (go_at_call 12; refine (CS.out).mono ?_; rintro e w4 ⟨rfl, hb4⟩)
            have gX4 := gX.only (Only.of_below (S := []) hb4) (by simp) (by simp)
            have CP := Lib.hid (put_any gX4 0 0 ⟨#[122, 122]⟩ 1 ⟨false, true, false, 0, 0⟩)
            go_upto_region 18 with (go_at_call 13; refine (CP.out).mono ?_; rintro e w5 ⟨rfl, g5, o5⟩)
            have hh1 := g5.h1
            have CC := Lib.hid (scroll_any g5 1 1 (by omega))
            go_upto_region 19 with (go_at_call 14; refine (CC.out).mono ?_; rintro e w6 ⟨rfl, g6, o6⟩)
            have o46 : Only [q] w4 w6 := o5.trans o6
            have b34 : Below X.heap.size X w4 := bto hb3 hb4 hb3.size
            have FIN : Hid (GRI W rb w6 p' X.heap.size w h R ra rc) := Lib.hid (by
              have r1 := ((G2.out.rg.mono (F' := fun k => k ≠ rb ∧ k ≠ p' ∧ k ≠ X.heap.size ∧ k ≠ q) (fun k hk hl => ⟨hk.1, by omega, by omega, hk.2.2⟩)).below b34).keep o46.size (fun k hk hlt => o46.block k hlt (by simpa using hk.2.2.2))
              refine { g := ?_, ok := G2.out.ok, ro := G2.out.ro, gr := G2.out.gr, box := (G2.out.box.below b34).only o46 (by simp; omega), rg := r1.mono (fun k hk _ => ⟨hk.1, hk.2.1, hk.2.2.1⟩), base := ⟨by omega, by omega, hbs.2.2⟩, ne := by omega, wb := ?_ }
              · exact (g'.only (Only.of_below (S := []) hb4) (by simp) (by simp)).only o46 (by simp; omega) (by simp; omega)
              · have e1 := bto G2.out.wb b34 G2.out.wb.size
                exact e1.trans (o46.below (by simp; omega) e1.size))
            have FO : Hid (OpBlk w6 bo o') := Lib.hid ((OB.out.only (Only.of_below (S := []) b34) (by simp)).only o46 (by simp; omega))
            clear g' gX gX4 g5 g6 o5 o6 hb3 hb4 o46 b34 CK CS CP CC
            go_wp2
            go_meet
            exact ⟨p', X.heap.size, w, h, R, ra, rc, rfl, by omega, FIN, FO⟩
          · have f9 : (o'.d % 10 == 9) = false := by simpa using h9
            have hbx := G2.out.box.lt
            have hql := G2.out.g.blk.lt
            have hpl : p < X.heap.size := (Array.getElem?_eq_some_iff.1 G2.out.g.head).1
            have hne := G2.out.ne
            have hbs := G2.out.base
            obtain ⟨w', h', R', CS0, OK', RO', GR'⟩ := step_all (F := fun k => k ≠ rb ∧ k ≠ p ∧ k ≠ q ∧ k ≠ bo) (X := X) (fun b hb => by omega) G2.out.g G2.out.ok G2.out.ro G2.out.gr RGX.out (fun k hk => ⟨hk.2.1, hk.2.2.1⟩) o' ⟨hd0, hd1⟩
            have CS := Lib.hid CS0
            have OK' := Lib.hid OK'
            have RO' := Lib.hid RO'
            have GR' := Lib.hid GR'
            obtain ⟨c0, c1, c2', c3⟩ := G2.out.box.cells
            clear CS0 h9
            go_upto_region 21 with (go_at_call 15; refine (CS.out).mono ?_; rintro e Y ⟨q', a', c', rfl, gY, rY, oY, hq'⟩)
            clear k0 k1 k2 k3 k4 k5 k6 k7 k8 k9 k10 k11 c0 c1 c2' c3
            have sY := oY.size
            have boxY := G2.out.box.only oY (by simp; omega)
            have opY := OB.out.only oY (by simp; omega)
            have bN : Below Y.heap.size Y (Y.alloc (.cells #[.int .i64 w', .int .i64 h', .slice a' h' c'] 29)) := (Below.refl _ _).alloc (Nat.le_refl _) _
            have gb := GBox.new Y w' h' h' c' a'
            obtain ⟨Y2, hY2⟩ : ∃ Y2, Y.alloc (.cells #[.int .i64 w', .int .i64 h', .slice a' h' c'] 29) = Y2 := ⟨_, rfl⟩
            rw [hY2] at gb bN ⊢
            have boxN := boxY.below bN
            obtain ⟨V, hV⟩ : ∃ V, ((Y2.setCell ⟨rb, 0, none⟩ (.int .i64 w')).setCell ⟨rb, 1, none⟩ (.int .i64 h')).setCell ⟨rb, 2, none⟩ (.slice a' h' c') = V := ⟨_, rfl⟩
            obtain ⟨tV, oV⟩ := boxN.fill w' h' h' c' a' V hV
            have HV := Lib.hid hV
            have sN := bN.size
            have hqr : rb ≠ q' := by omega
            have hbq : bo ≠ q' := by omega
            have FIN : Hid (GRI W rb V p q' w' h' R' a' c') := Lib.hid (by
              have r1 := (rY.below bN).keep oV.size (fun k hk hlt => oV.block k hlt (by simpa using hk.1.1))
              refine { g := (gY.only (Only.of_below (S := []) bN) (by simp) (by simp)).only oV (by simp; omega) (by simp; omega), ok := OK'.out, ro := RO'.out, gr := GR'.out, box := tV, rg := r1.mono (fun k hk _ => ⟨hk.1.1, hk.1.2.1, hk.2⟩), base := ⟨hbs.1, by omega, hbs.2.2⟩, ne := ⟨hne.1, hqr⟩, wb := ?_ }
              have wX := G2.out.wb
              have e1 : Below W.heap.size W Y := wX.trans (oY.below (by simp; omega) wX.size)
              have e2 := bto e1 bN e1.size
              exact e2.trans (oV.below (by simp; omega) e2.size))
            have FO : Hid (OpBlk V bo o') := Lib.hid ((opY.only (Only.of_below (S := []) bN) (by simp)).only oV (by simp; omega))
            obtain ⟨d0, d1, d2, d3⟩ := gb.cells
            obtain ⟨e0, e1, e2, e3⟩ := boxN.cells
            clear gY rY oY tV oV bN gb boxY opY boxN CS hV hY2
            go_wp2
            rw [HV.out]
            go_meet
            exact ⟨p, q', w', h', R', a', c', rfl, by omega, FIN, FO⟩
        case rest =>
          clear G2 OB RGX hboX hor k0 k1 k2 k3 k4 k5 k6 k7 k8 k9 k10 k11
          obtain ⟨p, q, w, h, R, ra, rc, rfl, hbr, G, OB⟩ := hcut
          refine (‹∀ (a : Act) (w : World), Code.wp Try.prog _ _ a w → _›) _ _ ?_
          obtain ⟨k0, k1, k2, k3, k4, k5, k6, k7, k8, k9, k10, k11⟩ := OB.out.cells
          obtain ⟨c0, c1, c2', c3⟩ := G.out.box.cells
          have hh1 : 0 < (h : Int) := by have := G.out.g.h1; omega
          have hw1 := G.out.g.w1
          have hw2 := G.out.g.w2
          have CS := Lib.hid (same04_any G.out.g G.out.ok G.out.ro G.out.rg o'.r o'.c)
          obtain ⟨j, hj⟩ : ∃ j : Nat, j = ((k : Int) % (h : Int)).toNat := ⟨_, rfl⟩
          have hj0 := Int.emod_nonneg (k : Int) (show (h : Int) ≠ 0 by omega)
          have hj1 := Int.emod_lt_of_pos (k : Int) hh1
          have hjh : j < h := by omega
          have CR := Lib.hid (fun (X : World) (hX : Below _ _ X) => (by
            have := row_ok (G.out.g.only (Only.of_below (S := []) hX) (by simp) (by simp)) ((k : Int) % (h : Int)) hj0 hj1
            rw [← hj, G.out.ok.line hjh] at this
            exact this : Calls Try.prog 18 #[.pointer (some ⟨p, 0, none⟩), .int .i64 ((k : Int) % (h : Int))] X fun e w' => e = .returned (.slice (some ⟨X.heap.size, 0, none⟩) w w) ∧ GBlk w' X.heap.size (nth [] R j) ∧ Below X.heap.size X w'))
          have CW := Lib.hid (fun (X : World) (b : Nat) (hb : GBlk X b (nth [] R j)) => whole04_any (cap := w) (CellsAt.of_blk hb w (G.out.ok.at hjh)) (by omega) (G.out.gr _ (by rw [nth_eq _ _ _ (by rw [G.out.ok.n]; exact hjh)]; exact List.getElem_mem _)))
          clear hj hj0 hj1 hjh
          go_wp2_with (first
            | (go_at_call 16; refine (CS.out).mono ?_; rintro e w3 ⟨rfl, hb3⟩; have z1 := (G.out.box.below hb3).cells.2.1)
            | (go_at_call 18; refine (CR.out _ hb3).mono ?_; rintro e w4 ⟨rfl, gb4, hb4⟩)
            | (go_at_call 17; refine (CW.out _ _ gb4).mono ?_; rintro e w5 ⟨rfl, hb5⟩))
          go_roundw
          case rel =>
            have b4 := bto hb3 hb4 hb3.size
            exact ⟨k + 1, p, q, w, h, R, ra, rc, hlt, rfl, by go_num, Lib.hid (G.out.below (bto b4 hb5 b4.size))⟩
          case measure => simp [intOf]; omega
      · obtain rfl : k = M := by omega
        have hbr := G.out.wb
        rcases hMe with rfl | rfl
        · go_wp2
          go_ret
          exact ⟨rfl, hbr⟩
        · go_wp2
          all_goals go_ret
          all_goals exact ⟨rfl, hbr⟩
  · have CN := Lib.hid (fun X => new_bad x y hd X)
    have CR := Lib.hid (fun X : World => rnew_bad (W := X) x y hd)
    clear hd HX HY
    go_upto_region 9 with (first
      | (go_at_call 7; refine (CN.out _).mono ?_; rintro e w1 ⟨rfl, rfl⟩)
      | (go_at_call 8; refine (CR.out _).mono ?_; rintro e w2 ⟨rfl, hb2⟩)
      | (go_at_call 9; refine (awake04_any _).mono ?_; rintro e w3 ⟨rfl, hb3⟩))
    have hB : Below W.heap.size W w3 := by
      have ba : Below W.heap.size W (w2.alloc (.cells #[.int .i64 0, .int .i64 0, .slice none 0 0] 29)) := hb2.alloc hb2.size _
      exact bto ba hb3 ba.size
    clear hb2 hb3
    go_wp2
    go_loopw [7, 11] (fun u i wr => u = .pointer none ∧ i = .int .i64 0 ∧ Below W.heap.size W wr) (fun _ _ _ => 0)
    case atStart => exact ⟨rfl, rfl, hB⟩
    case round =>
      obtain ⟨rfl, rfl, hb⟩ := hrel
      clear hB
      have hnn := neq_nil4 wr
      by_cases hl0 : 0 < (len : Int)
      · go_wp2
        go_ret
        exact ⟨rfl, hb⟩
      · go_wp2
        go_ret
        exact ⟨rfl, hb⟩
end Go.Proofs.Ytekodpcedjpnjaa
