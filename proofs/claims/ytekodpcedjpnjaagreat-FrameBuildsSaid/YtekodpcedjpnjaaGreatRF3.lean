/- The reference's builder of frames in memory: its struct in a box, loads and stores of it; Colours, New, Cursor. No condition. The reference's builder of frames: Fill. No condition. The reference's builder of frames: Text. No condition. -/
import Derived.Test.YtekodpcedjpnjaaGreatRG11
import Derived.Test.YtekodpcedjpnjaaGreatFrame2
import Derived.Test.YtekodpcedjpnjaaGreatRClus3
import Derived.Test.YtekodpcedjpnjaaGreatClus6
import Derived.Test.YtekodpcedjpnjaaGreatRegT
namespace Go.Proofs.YtekodpcedjpnjaaGreat
set_option linter.unusedVariables false
set_option linter.unusedSimpArgs false
open Go.RowKit Go.Shelf Go.Maps
set_option maxRecDepth 100000 in
theorem rcolours_any (y : Sy) (w : World) : Calls Tryz.prog 92 #[.agg #[.bool y.b, .bool y.u, .bool y.i, .int .i64 y.f, .int .i64 y.g]] w fun e w' => e = .returned (.bool (mayF y)) ∧ Below w.heap.size w w' := by
  obtain ⟨b, u, i, f, g⟩ := y
  go_enter Tryz.func92, Tryz.ntmps92
  go_wp2
  all_goals
    go_ret
    refine ⟨ret_bool ?_, (Below.refl _ _).alloc (Nat.le_refl _) _⟩
    rw [Bool.eq_iff_iff]; simp [mayF]; omega
/-- A builder: its grid, the cursor's place, whether it is seen. -/
structure RBd where
  W : Nat
  H : Nat
  R : List (List GC)
  row : Nat
  col : Nat
  seen : Bool
/-- The cells of a builder. -/
def bCells (a : Option Addr) (cap : Nat) (t : RBd) : Array Value :=
  #[.int .i64 t.W, .int .i64 t.H, .slice a t.H cap, .int .i64 t.row, .int .i64 t.col, .bool t.seen]
def zB : Array Value := #[.int .i64 0, .int .i64 0, .slice none 0 0, .int .i64 0, .int .i64 0, .bool false]
theorem bCells_one (a : Option Addr) (cap : Nat) (t : RBd) : ∀ v ∈ (bCells a cap t).toList, v.oneCell' = true := by
  intro v hv
  simp only [bCells, List.mem_cons, List.not_mem_nil, or_false] at hv
  rcases hv with h1 | h1 | h1 | h1 | h1 | h1 <;> subst h1 <;> rfl
/-- The struct in a box. -/
def BBx (W : World) (b : Nat) (cs : Array Value) : Prop := W.heap[b]? = some (.cells cs 31 (0, 0))
theorem BBx.lt {W : World} {b : Nat} {cs : Array Value} (h : BBx W b cs) : b < W.heap.size := (Array.getElem?_eq_some_iff.1 h).1
theorem BBx.below {W W' : World} {b : Nat} {cs : Array Value} (h : BBx W b cs) (hb : Below W.heap.size W W') : BBx W' b cs := (hb.block b h.lt).trans h
theorem BBx.only {W W' : World} {b : Nat} {cs : Array Value} {S : List Nat} (h : BBx W b cs) (ho : Only S W W') (hS : b ∉ S) : BBx W' b cs := ho.heap h hS
theorem BBx.new (W : World) (cs : Array Value) : BBx (W.alloc (.cells cs 31)) W.heap.size cs := World.alloc_heap_new W _
theorem BBx.tc {W : World} {b : Nat} {a : Option Addr} {cap : Nat} {t : RBd} (h : BBx W b (bCells a cap t)) :
    W.cell? ⟨b, 0, none⟩ = some (.int .i64 t.W) ∧ W.cell? ⟨b, 1, none⟩ = some (.int .i64 t.H) ∧ W.cell? ⟨b, 2, none⟩ = some (.slice a t.H cap) ∧ W.cell? ⟨b, 3, none⟩ = some (.int .i64 t.row) ∧ W.cell? ⟨b, 4, none⟩ = some (.int .i64 t.col) ∧ W.cell? ⟨b, 5, none⟩ = some (.bool t.seen) ∧ ∀ j, W.frozen? ⟨b, j, none⟩ = false := by
  refine ⟨?_, ?_, ?_, ?_, ?_, ?_, ?_⟩
  case refine_7 => intro j; unfold BBx at h; simp [World.frozen?, h]
  all_goals rw [cell_of_row W b _ _ _ _ h]; rfl
theorem BBx.free {W : World} {b : Nat} {cs : Array Value} (h : BBx W b cs) : ∀ j, W.frozen? ⟨b, j, none⟩ = false := fun j => by
  unfold BBx at h; simp [World.frozen?, h]
theorem BBx.set {W : World} {b : Nat} {cs : Array Value} (h : BBx W b cs) (o : Nat) (v : Value) (cs' : Array Value) (he : cs.setIfInBounds o v = cs') : BBx (W.setCell ⟨b, o, none⟩ v) b cs' ∧ Only [b] W (W.setCell ⟨b, o, none⟩ v) :=
  ⟨by subst he; exact set_at h o v, (Only.refl [b] W).setCell (.inl (by simp)) _⟩
theorem BBx.load {W : World} {b : Nat} {cs : Array Value} (h : BBx W b cs) (hs : cs.size = 6) : (loadVar 31 ⟨b, 0, none⟩).run Tryz.prog W = .ok (.agg cs) W :=
  run_loadVar_row (P := Tryz.prog) W b _ 31 cs (0, 0) _ h Tryz.underlying31 rfl (by rw [hs]; kernel_rfl)
/-- A load of the struct, as the walk meets it. -/
theorem wpList_bload {ops : Array Oper} {rest : List Oper} {op : Oper} {a : Act} {w : World} {Q : Exit → Act → World → Prop} (hgd : op.guard = none) (x : Operand) (ho : op.op = .load 31 x)
    (b : Nat) (hx : a.eval x = .pointer (some ⟨b, 0, none⟩)) (cs : Array Value) (hb : BBx w b cs) (hs : cs.size = 6)
    (h : wpList Tryz.prog ops Q rest (a.put op.dst (.agg cs)) w) : wpList Tryz.prog ops Q (op :: rest) a w :=
  wpList_plain hgd fun K hK => by
    have hl := hb.load hs
    unfold Oper.wp execOp
    simp only [ho, hx, Sem.run_bind, Sem.run_pure, Result.andThen_ok, Instr.loadAt, Instr.sureAddr, asAddr, hl]
    exact hK _ _ h
/-- A store of the struct, as the walk meets it. -/
theorem wpList_bstore {ops : Array Oper} {rest : List Oper} {op : Oper} {a : Act} {w : World} {Q : Exit → Act → World → Prop} (hgd : op.guard = none) (x y : Operand) (ho : op.op = .store 31 x y)
    (b : Nat) (hx : a.eval x = .pointer (some ⟨b, 0, none⟩)) (cs : Array Value) (hy : a.eval y = .agg cs) (cur : Array Value) (hb : BBx w b cur) (hs : cs.size = 6) (hc : cur.size = 6) (h1 : ∀ v ∈ cs.toList, v.oneCell' = true)
    (h : ∀ w', BBx w' b cs → Only [b] w w' → wpList Tryz.prog ops Q rest (a.put op.dst undef) w') : wpList Tryz.prog ops Q (op :: rest) a w :=
  wpList_plain hgd fun K hK => by
    have hst := run_storeCells_at Tryz.prog b 0 31 cs.toList 0 cur w hb (by rw [Array.length_toList, hs, hc]; omega) h1
    simp only [Nat.add_zero, List.take_zero, List.nil_append, Array.length_toList, hs, Nat.zero_add] at hst
    rw [List.drop_eq_nil_of_le (by rw [Array.length_toList, hc]; omega), List.append_nil, Array.toArray_toList] at hst
    have hi : (Tryz.prog.info? 31).map (·.size) = some 6 := by kernel_rfl
    have hrun : (Instr.storeAt 31 (.pointer (some ⟨b, 0, none⟩)) (.agg cs)).run Tryz.prog w = .ok () (w.setRow b cs) := by
      cases hq : Tryz.prog.info? 31 with
      | none => rw [hq] at hi; cases hi
      | some t =>
        have ht : t.size = 6 := by rw [hq] at hi; simpa using hi
        simp [Instr.storeAt, Instr.sureAddr, storeVar, sizeOf, typeInfo, hq, Value.cells, ht, hs, hst]
    unfold Oper.wp execOp
    simp only [ho, hx, hy, Sem.run_bind, Sem.run_pure, Result.andThen_ok, hrun]
    exact hK _ _ (h _ (setRow_heap w b _ _ _ _ hb) ((Only.refl [b] w).setRow (.inl (by simp)) _))
/-- What a function of builders gives. -/
def BPost (F : Nat → Prop) (t : RBd) (err : Int) (W : World) (e : Ending) (w' : World) : Prop := ∃ a c, e = .returned (.tuple #[.agg (bCells a c t), .int .i64 err]) ∧ RG F w' a c t.W t.H t.R ∧ Below W.heap.size W w'
def BPostT (F : Nat → Prop) (t : RBd) (n err : Int) (W : World) (e : Ending) (w' : World) : Prop := ∃ a c, e = .returned (.tuple #[.agg (bCells a c t), .int .i64 n, .int .i64 err]) ∧ RG F w' a c t.W t.H t.R ∧ Below W.heap.size W w'
/-- The two boxes of Cursor. -/
def BIn (W : World) (cs : Array Value) (X : World) : Prop := BBx X W.heap.size cs ∧ BBx X (W.heap.size + 1) zB ∧ Below W.heap.size W X ∧ X.heap.size = W.heap.size + 1 + 1
theorem bin (W : World) (cs : Array Value) : BIn W cs ((W.alloc (.cells cs 31)).alloc (.cells zB 31)) := by
  obtain ⟨X1, h1⟩ : ∃ X1, W.alloc (.cells cs 31) = X1 := ⟨_, rfl⟩
  have s1 : X1.heap.size = W.heap.size + 1 := by rw [← h1]; simp
  have t1 : BBx X1 W.heap.size cs := by rw [← h1]; exact BBx.new _ _
  have b1 : Below W.heap.size W X1 := by rw [← h1]; exact (Below.refl _ _).alloc (Nat.le_refl _) _
  rw [h1]
  refine ⟨t1.below ((Below.refl _ _).alloc (Nat.le_refl _) _), by rw [← s1]; exact BBx.new _ _, b1.alloc (by omega) _, by simp [s1]⟩
/-- The builder, its box for style and the box of its result: as Fill and Text begin. -/
def BIn3 (W : World) (cs : Array Value) (y : Sy) (X : World) : Prop := BBx X W.heap.size cs ∧ X.heap[W.heap.size + 1]? = some (.cells #[.bool y.b, .bool y.u, .bool y.i, .int .i64 y.f, .int .i64 y.g] 36 (0, 0)) ∧ BBx X (W.heap.size + 1 + 1) zB ∧ Below W.heap.size W X ∧ X.heap.size = W.heap.size + 1 + 1 + 1
theorem bin3 (W : World) (cs : Array Value) (y : Sy) : BIn3 W cs y (((W.alloc (.cells cs 31)).alloc (.cells #[.bool y.b, .bool y.u, .bool y.i, .int .i64 y.f, .int .i64 y.g] 36)).alloc (.cells zB 31)) := by
  obtain ⟨X1, h1⟩ : ∃ X1, W.alloc (.cells cs 31) = X1 := ⟨_, rfl⟩
  have s1 : X1.heap.size = W.heap.size + 1 := by rw [← h1]; simp
  have t1 : BBx X1 W.heap.size cs := by rw [← h1]; exact BBx.new _ _
  have b1 : Below W.heap.size W X1 := by rw [← h1]; exact (Below.refl _ _).alloc (Nat.le_refl _) _
  rw [h1]
  obtain ⟨X2, h2⟩ : ∃ X2, X1.alloc (.cells #[.bool y.b, .bool y.u, .bool y.i, .int .i64 y.f, .int .i64 y.g] 36) = X2 := ⟨_, rfl⟩
  have s2 : X2.heap.size = W.heap.size + 1 + 1 := by rw [← h2]; simp [s1]
  have c2 : Below X1.heap.size X1 X2 := by rw [← h2]; exact (Below.refl _ _).alloc (Nat.le_refl _) _
  have y2 : X2.heap[W.heap.size + 1]? = some (.cells #[.bool y.b, .bool y.u, .bool y.i, .int .i64 y.f, .int .i64 y.g] 36 (0, 0)) := by rw [← h2, ← s1]; exact World.alloc_heap_new X1 _
  rw [h2]
  have b2 := bto b1 c2 b1.size
  refine ⟨(t1.below c2).below ((Below.refl _ _).alloc (Nat.le_refl _) _), ?_, by rw [← s2]; exact BBx.new _ _, b2.alloc (by omega) _, by simp [s2]⟩
  exact (((Below.refl X2.heap.size X2).alloc (Nat.le_refl _) _).block _ (by omega)).trans y2
theorem bret {fn : Func} {p u : Tmp} {R : Ending → World → Prop} {act : Act} {w : World} {b : Nat} {a : Option Addr} {cap : Nat} {t : RBd} (h : fn.results = #[.cell p 31, .tmp u]) (hp : act.tmps.getD p undef = .pointer (some ⟨b, 0, none⟩)) (hb : BBx w b (bCells a cap t)) (hd : act.defers = []) (hR : R (.returned (.tuple #[.agg (bCells a cap t), act.tmps.getD u undef])) w) :
    bodyPost Tryz.prog fn R Exit.ret act w := by
  refine bodyPost_ret (results_row2 h _ _ b _ hp (hb.load rfl)) hd ?_
  exact hR
theorem bret3 {fn : Func} {p u v : Tmp} {R : Ending → World → Prop} {act : Act} {w : World} {b : Nat} {a : Option Addr} {cap : Nat} {t : RBd} (h : fn.results = #[.cell p 31, .tmp u, .tmp v]) (hp : act.tmps.getD p undef = .pointer (some ⟨b, 0, none⟩)) (hb : BBx w b (bCells a cap t)) (hd : act.defers = []) (hR : R (.returned (.tuple #[.agg (bCells a cap t), act.tmps.getD u undef, act.tmps.getD v undef])) w) :
    bodyPost Tryz.prog fn R Exit.ret act w := by
  refine bodyPost_ret (results_row3 h _ _ b _ hp (hb.load rfl)) hd ?_
  exact hR
/-- Cursor on a builder. -/
def RBd.cursor (t : RBd) (r c : Int) (s : Bool) : RBd × Int := if 0 ≤ r ∧ r < t.H ∧ 0 ≤ c ∧ c < t.W then ({ t with row := r.toNat, col := c.toNat, seen := s }, 0) else (t, 5)
set_option maxRecDepth 100000 in
set_option maxHeartbeats 8000000 in
theorem rcursor_any {F : Nat → Prop} {W : World} {a : Option Addr} {cap : Nat} {t : RBd} (g : RG F W a cap t.W t.H t.R) (r c : Int) (s : Bool) :
    Calls Tryz.prog 23 #[.agg (bCells a cap t), .int .i64 r, .int .i64 c, .bool s] W (BPost F (t.cursor r c s).1 (t.cursor r c s).2 W) := by
  by_cases hin : 0 ≤ r ∧ r < t.H ∧ 0 ≤ c ∧ c < t.W
  · unfold RBd.cursor
    rw [if_pos hin]
    obtain ⟨h0, h1, h2, h3⟩ := hin
    obtain ⟨rn, rfl⟩ := Int.eq_ofNat_of_zero_le h0
    obtain ⟨cn, rfl⟩ := Int.eq_ofNat_of_zero_le h2
    simp only [Int.toNat_natCast]
    have G := Lib.hid g
    clear g
    go_enter Tryz.func23, Tryz.ntmps23
    go_upto_region 0 with (fail)
    go_cut [4, 8] (fun u v wx => u = .pointer (some ⟨W.heap.size, 0, none⟩) ∧ v = .pointer (some ⟨W.heap.size + 1, 0, none⟩) ∧ BIn W (bCells a cap t) wx)
    case first =>
      go_wp2
      go_meet
      exact ⟨rfl, rfl, bin W _⟩
    case rest =>
      obtain ⟨rfl, rfl, p1, p2, bX, sX⟩ := hcut
      obtain ⟨c0, c1, c2, c3, c4, c5, fz⟩ := p1.tc
      obtain ⟨pa, oa⟩ := p1.set 3 (.int .i64 rn) (bCells a cap { t with row := rn }) rfl
      obtain ⟨pb, ob⟩ := pa.set 4 (.int .i64 cn) (bCells a cap { t with row := rn, col := cn }) rfl
      obtain ⟨pc, oc⟩ := pb.set 5 (.bool s) (bCells a cap { t with row := rn, col := cn, seen := s }) rfl
      have o3 := (oa.trans ob).trans oc
      have q3 := p2.only o3 (by simp)
      clear pa pb oa ob oc
      go_wp2_with (first
        | (refine wpList_bload rfl _ rfl W.heap.size rfl (bCells a cap { t with row := rn, col := cn, seen := s }) ?_ rfl ?_; exact pc)
        | (refine wpList_bstore rfl _ _ rfl (W.heap.size + 1) rfl _ rfl zB ?_ rfl rfl (bCells_one _ _ _) ?_; exact q3; intro w5 p5 o5))
      have b3 := bX.trans (o3.below (by simp) bX.size)
      have b5 : Below W.heap.size W w5 := b3.trans (o5.below (by simp) b3.size)
      exact bret rfl rfl p5 rfl ⟨a, cap, rfl, G.out.below b5, b5⟩
  · unfold RBd.cursor
    rw [if_neg hin]
    have G := Lib.hid g
    clear g
    go_enter Tryz.func23, Tryz.ntmps23
    go_upto_region 0 with (fail)
    go_cut [4, 8] (fun u v wx => u = .pointer (some ⟨W.heap.size, 0, none⟩) ∧ v = .pointer (some ⟨W.heap.size + 1, 0, none⟩) ∧ BIn W (bCells a cap t) wx)
    case first =>
      go_wp2
      go_meet
      exact ⟨rfl, rfl, bin W _⟩
    case rest =>
      obtain ⟨rfl, rfl, p1, p2, bX, sX⟩ := hcut
      obtain ⟨c0, c1, c2, c3, c4, c5, fz⟩ := p1.tc
      go_wp2_with (first
        | (refine wpList_bload rfl _ rfl W.heap.size rfl (bCells a cap t) ?_ rfl ?_; exact p1)
        | (refine wpList_bstore rfl _ _ rfl (W.heap.size + 1) rfl _ rfl zB ?_ rfl rfl (bCells_one _ _ _) ?_; exact p2; intro w5 p5 o5))
      all_goals first
        | omega
        | (have b5 : Below W.heap.size W w5 := bX.trans (o5.below (by simp) bX.size)
           exact bret rfl rfl p5 rfl ⟨a, cap, rfl, G.out.below b5, b5⟩)
theorem rfnew_bad {W : World} (x y : Int) (hd : ¬ (1 ≤ x ∧ x ≤ 500 ∧ 1 ≤ y ∧ y ≤ 60)) :
    Calls Tryz.prog 16 #[.int .i64 x, .int .i64 y] W fun e w' => e = .returned (.tuple #[.agg zB, .int .i64 90]) ∧ Below W.heap.size W w' := by
  have p1 := BBx.new W zB
  have P1 := Lib.hid p1
  clear p1
  go_enter Tryz.func16, Tryz.ntmps16
  go_wp2_with (refine wpList_bstore rfl _ _ rfl W.heap.size rfl zB rfl zB ?_ rfl rfl (by decide) ?_; exact P1.out; intro w5 p5 o5)
  all_goals first
    | omega
    | (refine bodyPost_ret (results_row2 rfl _ _ W.heap.size _ rfl (p5.load rfl)) rfl ?_
       exact ⟨rfl, ((Below.refl _ _).alloc (Nat.le_refl _) _).trans (o5.below (by simp) (by simp))⟩)
set_option maxRecDepth 100000 in
set_option maxHeartbeats 8000000 in
theorem rfnew_ok {F : Nat → Prop} {W : World} (hF : ∀ b, W.heap.size ≤ b → F b) (w h : Nat) (hd : 1 ≤ w ∧ w ≤ 500 ∧ 1 ≤ h ∧ h ≤ 60) :
    Calls Tryz.prog 16 #[.int .i64 w, .int .i64 h] W (BPost F { W := w, H := h, R := List.replicate h (List.replicate w GC.blank), row := 0, col := 0, seen := false } 0 W) := by
  have p1 := BBx.new W zB
  have CN := Lib.hid (rnew_ok (F := fun b => F b ∧ b ≠ W.heap.size) (W := W.alloc (.cells zB 31)) (fun b hb => ⟨hF b (by simp at hb; omega), by simp at hb; omega⟩) w h (by omega))
  have P1 := Lib.hid p1
  obtain ⟨hd1, hd2, hd3, hd4⟩ := hd
  clear p1
  go_enter Tryz.func16, Tryz.ntmps16
  go_upto_region 3 with (fail)
  go_wp2_with fail
  refine CN.out.mono ?_
  rintro e w1 ⟨a1, c1, rfl, g1, hb1⟩
  have q1 := P1.out.below hb1
  have b1 : Below W.heap.size W w1 := ((Below.refl _ _).alloc (Nat.le_refl _) _).trans (hb1.mono (by simp))
  have gx := GBox.new w1 w h h c1 a1
  obtain ⟨d0, d1, d2, fz⟩ := gx.cells
  have b2 : Below w1.heap.size w1 (w1.alloc (.cells #[.int .i64 w, .int .i64 h, .slice a1 h c1] 29)) := (Below.refl _ _).alloc (Nat.le_refl _) _
  have q2 := q1.below b2
  have g2 := g1.below b2
  have Q2 := Lib.hid q2
  have G2 := Lib.hid g2
  have B2 := Lib.hid (bto b1 b2 b1.size)
  clear q2 g2 b2 gx
  go_wp2_with (refine wpList_bstore rfl _ _ rfl W.heap.size rfl (bCells a1 c1 { W := w, H := h, R := List.replicate h (List.replicate w GC.blank), row := 0, col := 0, seen := false }) rfl zB ?_ rfl rfl (bCells_one _ _ _) ?_; exact Q2.out; intro w5 p5 o5)
  have b5 : Below W.heap.size W w5 := B2.out.trans (o5.below (by simp) B2.out.size)
  refine bret rfl rfl p5 rfl ⟨a1, c1, rfl, ?_, b5⟩
  exact (G2.out.keep o5.size (fun b hb hlt => o5.block b hlt (by simpa using hb.2))).mono (fun b hb _ => hb.1)
end Go.Proofs.YtekodpcedjpnjaaGreat
namespace Go.Proofs.YtekodpcedjpnjaaGreat
set_option linter.unusedVariables false
set_option linter.unusedSimpArgs false
open Go.RowKit Go.Shelf Go.Maps
/-- Blanks laid from a column on, k rounds. -/
def fillK (w h : Nat) (r from_ : Int) (y : Sy) (R : List (List GC)) : Nat → List (List GC)
  | 0 => R
  | k + 1 => putR w h (fillK w h r from_ y R k) r (from_ + k) ⟨#[32]⟩ 1 y
/-- Fill on a builder. -/
def RBd.fill (t : RBd) (r x z : Int) (y : Sy) : RBd × Int :=
  if 0 ≤ r ∧ r < t.H then if mayF y then ({ t with R := fillK t.W t.H r (max 0 x) y (eraseR t.W t.H t.R r x z) (min z t.W - max 0 x).toNat }, 0) else (t, 1) else (t, 5)
set_option maxRecDepth 100000 in
set_option maxHeartbeats 8000000 in
theorem rfill_out {F : Nat → Prop} {W : World} {a : Option Addr} {cap : Nat} {t : RBd} (g : RG F W a cap t.W t.H t.R) (r x z : Int) (y : Sy) (hin : ¬ (0 ≤ r ∧ r < t.H)) :
    Calls Tryz.prog 21 #[.agg (bCells a cap t), .int .i64 r, .int .i64 x, .int .i64 z, .agg #[.bool y.b, .bool y.u, .bool y.i, .int .i64 y.f, .int .i64 y.g]] W (BPost F t 5 W) := by
  have G := Lib.hid g
  clear g
  go_enter Tryz.func21, Tryz.ntmps21
  go_upto_region 0 with (fail)
  go_cut [5, 9, 10] (fun u v v2 wx => u = .pointer (some ⟨W.heap.size, 0, none⟩) ∧ v = .pointer (some ⟨W.heap.size + 1, 0, none⟩) ∧ v2 = .pointer (some ⟨W.heap.size + 1 + 1, 0, none⟩) ∧ BIn3 W (bCells a cap t) y wx)
  case first =>
    go_wp2
    go_meet
    exact ⟨rfl, rfl, rfl, bin3 W _ y⟩
  case rest =>
    obtain ⟨rfl, rfl, rfl, p1, py, p2, bX, sX⟩ := hcut
    obtain ⟨c0, c1, c2, c3, c4, c5, fz⟩ := p1.tc
    go_wp2_with (first
      | (refine wpList_bload rfl _ rfl W.heap.size rfl (bCells a cap t) ?_ rfl ?_; exact p1)
      | (refine wpList_bstore rfl _ _ rfl (W.heap.size + 1 + 1) rfl _ rfl zB ?_ rfl rfl (bCells_one _ _ _) ?_; exact p2; intro w5 p5 o5))
    all_goals first
      | omega
      | (have b5 : Below W.heap.size W w5 := bX.trans (o5.below (by simp; omega) bX.size)
         exact bret rfl rfl p5 rfl ⟨a, cap, rfl, G.out.below b5, b5⟩)
set_option maxRecDepth 100000 in
set_option maxHeartbeats 8000000 in
theorem rfill_bad {F : Nat → Prop} {W : World} {a : Option Addr} {cap : Nat} {t : RBd} (g : RG F W a cap t.W t.H t.R) (r x z : Int) (y : Sy) (hin : 0 ≤ r ∧ r < t.H) (hy : mayF y = false) :
    Calls Tryz.prog 21 #[.agg (bCells a cap t), .int .i64 r, .int .i64 x, .int .i64 z, .agg #[.bool y.b, .bool y.u, .bool y.i, .int .i64 y.f, .int .i64 y.g]] W (BPost F t 1 W) := by
  have G := Lib.hid g
  have CC := Lib.hid (fun X => rcolours_any y X)
  rw [hy] at CC
  obtain ⟨h0, h1⟩ := hin
  clear g hy
  go_enter Tryz.func21, Tryz.ntmps21
  go_upto_region 0 with (fail)
  go_cut [5, 9, 10] (fun u v v2 wx => u = .pointer (some ⟨W.heap.size, 0, none⟩) ∧ v = .pointer (some ⟨W.heap.size + 1, 0, none⟩) ∧ v2 = .pointer (some ⟨W.heap.size + 1 + 1, 0, none⟩) ∧ BIn3 W (bCells a cap t) y wx)
  case first =>
    go_wp2
    go_meet
    exact ⟨rfl, rfl, rfl, bin3 W _ y⟩
  case rest =>
    obtain ⟨rfl, rfl, rfl, p1, py, p2, bX, sX⟩ := hcut
    obtain ⟨c0, c1, c2, c3, c4, c5, fz⟩ := p1.tc
    obtain ⟨y0, y1, y2, y3, y4, y5⟩ := StyBox.cells py
    go_wp2_with fail
    refine (CC.out _).mono ?_
    rintro e w1 ⟨rfl, hb1⟩
    have q1 := p1.below hb1
    have q2 := p2.below hb1
    have b1 := bto bX hb1 bX.size
    clear c0 c1 c2 c3 c4 c5 fz y0 y1 y2 y3 y4 y5
    go_wp2_with (first
      | (refine wpList_bload rfl _ rfl W.heap.size rfl (bCells a cap t) ?_ rfl ?_; exact q1)
      | (refine wpList_bstore rfl _ _ rfl (W.heap.size + 1 + 1) rfl _ rfl zB ?_ rfl rfl (bCells_one _ _ _) ?_; exact q2; intro w5 p5 o5))
    have b5 : Below W.heap.size W w5 := b1.trans (o5.below (by simp; omega) b1.size)
    exact bret rfl rfl p5 rfl ⟨a, cap, rfl, G.out.below b5, b5⟩
/-- What holds at Fill's rounds. -/
def FiI (F : Nat → Prop) (W : World) (t : RBd) (y : Sy) (R : List (List GC)) (X : World) : Prop :=
  ∃ a c, BBx X W.heap.size (bCells a c { t with R := R }) ∧ StyBox X (W.heap.size + 1) y.b y.u y.i y.f y.g ∧ BBx X (W.heap.size + 1 + 1) zB ∧ RG (fun b => F b ∧ b ≠ W.heap.size ∧ b ≠ W.heap.size + 1 ∧ b ≠ W.heap.size + 1 + 1) X a c t.W t.H R ∧ Below W.heap.size W X
set_option maxRecDepth 100000 in
set_option maxHeartbeats 8000000 in
theorem rfill_in {F : Nat → Prop} {W : World} (hF : ∀ b, W.heap.size ≤ b → F b) {a : Option Addr} {cap : Nat} {t : RBd} (g : RG F W a cap t.W t.H t.R) (hW : 1 ≤ t.W ∧ t.W ≤ 500) (hH : t.H ≤ 60) (r x z : Int) (y : Sy) (hin : 0 ≤ r ∧ r < t.H) (hy : mayF y = true) :
    Calls Tryz.prog 21 #[.agg (bCells a cap t), .int .i64 r, .int .i64 x, .int .i64 z, .agg #[.bool y.b, .bool y.u, .bool y.i, .int .i64 y.f, .int .i64 y.g]] W (BPost F { t with R := fillK t.W t.H r (max 0 x) y (eraseR t.W t.H t.R r x z) (min z t.W - max 0 x).toNat } 0 W) := by
  have CC := Lib.hid (fun X => rcolours_any y X)
  rw [hy] at CC
  obtain ⟨h0, h1⟩ := hin
  obtain ⟨hW1, hW5⟩ := hW
  have gF : RG (fun b => F b ∧ b ≠ W.heap.size ∧ b ≠ W.heap.size + 1 ∧ b ≠ W.heap.size + 1 + 1) W a cap t.W t.H t.R := g.mono (fun b h1 h2 => ⟨h1, by omega, by omega, by omega⟩)
  have G := Lib.hid gF
  have CE := Lib.hid (fun (X : World) (hs : W.heap.size + 1 + 1 + 1 ≤ X.heap.size) (g : RG (fun b => F b ∧ b ≠ W.heap.size ∧ b ≠ W.heap.size + 1 ∧ b ≠ W.heap.size + 1 + 1) X a cap t.W t.H t.R) => rerase_any (F := fun b => F b ∧ b ≠ W.heap.size ∧ b ≠ W.heap.size + 1 ∧ b ≠ W.heap.size + 1 + 1) (fun b hb => ⟨hF b (by omega), by omega, by omega, by omega⟩) g (by omega) (by omega) r x z)
  have CP := Lib.hid (fun (X : World) (a : Option Addr) (cap : Nat) (R : List (List GC)) (c : Int) (hs : W.heap.size + 1 + 1 + 1 ≤ X.heap.size) (g : RG (fun b => F b ∧ b ≠ W.heap.size ∧ b ≠ W.heap.size + 1 ∧ b ≠ W.heap.size + 1 + 1) X a cap t.W t.H R) => rput_any (F := fun b => F b ∧ b ≠ W.heap.size ∧ b ≠ W.heap.size + 1 ∧ b ≠ W.heap.size + 1 + 1) (fun b hb => ⟨hF b (by omega), by omega, by omega, by omega⟩) g (by omega) (by omega) r c ⟨#[32]⟩ 1 y)
  obtain ⟨R1, hR1⟩ : ∃ R1, R1 = eraseR t.W t.H t.R r x z := ⟨_, rfl⟩
  rw [← hR1] at CE ⊢
  obtain ⟨f, hf⟩ : ∃ f : Int, f = max 0 x := ⟨_, rfl⟩
  rw [← hf]
  have hf0 : 0 ≤ f := by omega
  obtain ⟨n, hn⟩ : ∃ n : Nat, n = (min z t.W - f).toNat := ⟨_, rfl⟩
  rw [← hn]
  have HFF := Lib.hid (And.intro hf hn)
  clear g gF hy hR1 hf hn
  go_enter Tryz.func21, Tryz.ntmps21
  go_upto_region 0 with (fail)
  go_cut [5, 9, 10] (fun u v v2 wx => u = .pointer (some ⟨W.heap.size, 0, none⟩) ∧ v = .pointer (some ⟨W.heap.size + 1, 0, none⟩) ∧ v2 = .pointer (some ⟨W.heap.size + 1 + 1, 0, none⟩) ∧ BIn3 W (bCells a cap t) y wx)
  case first =>
    go_wp2
    go_meet
    exact ⟨rfl, rfl, rfl, bin3 W _ y⟩
  case rest =>
    obtain ⟨rfl, rfl, rfl, p1, py, p2, bX, sX⟩ := hcut
    obtain ⟨c0, c1, c2, c3, c4, c5, fz⟩ := p1.tc
    obtain ⟨y0, y1, y2, y3, y4, y5⟩ := StyBox.cells py
    go_wp2_with fail
    refine (CC.out _).mono ?_
    rintro e w1 ⟨rfl, hb1⟩
    have q1 := p1.below hb1
    have q2 := p2.below hb1
    have qy : StyBox w1 (W.heap.size + 1) y.b y.u y.i y.f y.g := styBox_old py hb1 (by omega)
    have b1 := bto bX hb1 bX.size
    have hs1 := hb1.size
    clear c0 c1 c2 c3 c4 c5 fz y0 y1 y2 y3 y4 y5
    obtain ⟨c0, c1, c2, c3, c4, c5, fz⟩ := q1.tc
    go_wp2_with fail
    refine (CE.out _ (by omega) (G.out.below b1)).mono ?_
    rintro e w2 ⟨a2, cap2, rfl, g2, hb2⟩
    have r1 := q1.below hb2
    have r2 := q2.below hb2
    have ry : StyBox w2 (W.heap.size + 1) y.b y.u y.i y.f y.g := styBox_old qy hb2 (by omega)
    have b2 := bto b1 hb2 b1.size
    clear c0 c1 c2 c3 c4 c5 fz
    obtain ⟨w3, hw3⟩ : ∃ w3, ((w2.setCell ⟨W.heap.size, 0, none⟩ (.int .i64 t.W)).setCell ⟨W.heap.size, 1, none⟩ (.int .i64 t.H)).setCell ⟨W.heap.size, 2, none⟩ (.slice a2 t.H cap2) = w3 := ⟨_, rfl⟩
    obtain ⟨x0, v0⟩ := r1.set 0 (.int .i64 t.W) _ rfl
    obtain ⟨x1, v1⟩ := x0.set 1 (.int .i64 t.H) _ rfl
    obtain ⟨x2, v2⟩ := x1.set 2 (.slice a2 t.H cap2) (bCells a2 cap2 { t with R := R1 }) rfl
    have o3 := (v0.trans v1).trans v2
    rw [hw3] at x2 o3
    have HW3 := Lib.hid hw3
    clear x0 x1 v0 v1 v2 hw3
    obtain ⟨c0, c1, c2, c3, c4, c5, fz⟩ := r1.tc
    have I0 : FiI F W t y R1 w3 := ⟨a2, cap2, x2, o3.heap ry (by simp), r2.only o3 (by simp; omega), g2.keep o3.size (fun b hb hlt => o3.block b hlt (by simpa using hb.2.1)), b2.trans (o3.below (by simp) b2.size)⟩
    clear b1 b2 bX hb1 hb2 hs1 p1 p2 py q1 q2 qy ry r2 g2 o3 x2 sX
    go_upto_region 6 with (fail)
    rw [HW3.out]
    clear c0 c1 c2 c3 c4 c5 fz r1 HW3
    go_wp2
    go_loopw [12] (fun i wr => ∃ k : Nat, k ≤ n ∧ i = .int .i64 (f + k) ∧ FiI F W t y (fillK t.W t.H r f y R1 k) wr) (fun i _ => n - (intOf i - f).toNat)
    case atStart => exact ⟨0, Nat.zero_le _, by rw [HFF.out.1]; simp [Int.max_comm], I0⟩
    case round =>
      obtain ⟨k, hk, rfl, a4, c4', p1, py, p2, g4, b4⟩ := hrel
      obtain ⟨c0, c1, c2, c3, c4, c5, fz⟩ := p1.tc
      obtain ⟨y0, y1, y2, y3, y4, y5⟩ := StyBox.cells py
      have hlt := p2.lt
      by_cases hkn : k < n
      · have hc2 : f + k < z ∧ f + k < t.W := by have := HFF.out.2; omega
        have hkz := hc2.1
        have hkw := hc2.2
        clear c3 c4 c5 hc2 hk
        have hmin : f + (k : Int) < min z (t.W : Int) := by omega
        go_upto_region 9 with (fail)
        clear hmin hkz
        go_wp2_with fail
        refine (CP.out _ a4 c4' _ (f + k) (by omega) g4).mono ?_
        rintro e w5 ⟨a5, c5', rfl, g5, hb5⟩
        have q1 := p1.below hb5
        have q2 := p2.below hb5
        have qy : StyBox w5 (W.heap.size + 1) y.b y.u y.i y.f y.g := styBox_old py hb5 (by omega)
        have b5 := bto b4 hb5 b4.size
        clear c0 c1 c2 fz y0 y1 y2 y3 y4 y5
        obtain ⟨w6, hw6⟩ : ∃ w6, ((w5.setCell ⟨W.heap.size, 0, none⟩ (.int .i64 t.W)).setCell ⟨W.heap.size, 1, none⟩ (.int .i64 t.H)).setCell ⟨W.heap.size, 2, none⟩ (.slice a5 t.H c5') = w6 := ⟨_, rfl⟩
        obtain ⟨x0, v0⟩ := q1.set 0 (.int .i64 t.W) _ rfl
        obtain ⟨x1, v1⟩ := x0.set 1 (.int .i64 t.H) _ rfl
        obtain ⟨x2, v2⟩ := x1.set 2 (.slice a5 t.H c5') (bCells a5 c5' { t with R := fillK t.W t.H r f y R1 (k + 1) }) rfl
        have o3 := (v0.trans v1).trans v2
        rw [hw6] at x2 o3
        have HW6 := Lib.hid hw6
        clear x0 x1 v0 v1 v2 hw6
        obtain ⟨c0, c1, c2, c3, c4, c5, fz⟩ := q1.tc
        have I1 : FiI F W t y (fillK t.W t.H r f y R1 (k + 1)) w6 := ⟨a5, c5', x2, o3.heap qy (by simp), q2.only o3 (by simp; omega), g5.keep o3.size (fun b hb hlt => o3.block b hlt (by simpa using hb.2.1)), b5.trans (o3.below (by simp) b5.size)⟩
        have I1' := Lib.hid I1
        clear q1 q2 qy o3 x2 g5 hb5 b5 I1 p1 p2 py g4 b4
        clear I0 CE CC CP
        go_wp2
        rw [HW6.out]
        go_roundw
        case rel => exact ⟨k + 1, hkn, by go_num, I1'.out⟩
        case measure => simp [intOf]; omega
      · obtain rfl : k = n := by omega
        have hc : ¬ f + k < min z t.W := by have := HFF.out; omega
        clear y0 y1 y2 y3 y4 y5
        go_wp2_with (first
          | (refine wpList_bload rfl _ rfl W.heap.size rfl (bCells a4 c4' { t with R := fillK t.W t.H r f y R1 k }) ?_ rfl ?_; exact p1)
          | (refine wpList_bstore rfl _ _ rfl (W.heap.size + 1 + 1) rfl _ rfl zB ?_ rfl rfl (bCells_one _ _ _) ?_; exact p2; intro w5 p5 o5))
        have b5 : Below W.heap.size W w5 := b4.trans (o5.below (by simp; omega) b4.size)
        refine bret rfl rfl p5 rfl ⟨a4, c4', rfl, ?_, b5⟩
        have g5 := (g4.keep o5.size (fun b hb hlt => o5.block b hlt (by simpa using hb.2.2.2))).mono (F' := F) (fun b hb _ => hb.1)
        exact g5
theorem rfill_any {F : Nat → Prop} {W : World} (hF : ∀ b, W.heap.size ≤ b → F b) {a : Option Addr} {cap : Nat} {t : RBd} (g : RG F W a cap t.W t.H t.R) (hW : 1 ≤ t.W ∧ t.W ≤ 500) (hH : t.H ≤ 60) (r x z : Int) (y : Sy) :
    Calls Tryz.prog 21 #[.agg (bCells a cap t), .int .i64 r, .int .i64 x, .int .i64 z, .agg #[.bool y.b, .bool y.u, .bool y.i, .int .i64 y.f, .int .i64 y.g]] W (BPost F (t.fill r x z y).1 (t.fill r x z y).2 W) := by
  unfold RBd.fill
  by_cases hin : 0 ≤ r ∧ r < t.H
  · rw [if_pos hin]
    cases hy : mayF y with
    | true => rw [if_pos rfl]; exact rfill_in hF g hW hH r x z y hin hy
    | false => rw [if_neg (by simp)]; exact rfill_bad g r x z y hin hy
  · rw [if_neg hin]; exact rfill_out g r x z y hin
end Go.Proofs.YtekodpcedjpnjaaGreat
namespace Go.Proofs.YtekodpcedjpnjaaGreat
set_option linter.unusedVariables false
set_option linter.unusedSimpArgs false
open Go.RowKit Go.Shelf Go.Maps
/-- The first k clusters, put behind each other, on rows. -/
def putsR (w h : Nat) (r c : Int) (y : Sy) (C : List (List UInt8)) : Nat → List (List GC) → List (List GC)
  | 0, R => R
  | k + 1, R => putR w h (putsR w h r c y C k R) r (c + sumC (C.take k)) (S (nth [] C k)) (colsL (nth [] C k)) y
/-- Text on a builder. -/
def RBd.text (t : RBd) (r c : Int) (l : List UInt8) (y : Sy) : RBd × Int × Int :=
  if 0 ≤ r ∧ r < t.H ∧ 0 ≤ c ∧ c ≤ t.W then
    if mayF y then ({ t with R := putsR t.W t.H r c y (cutL (flatL l)) (fitK (cutL (flatL l)) ((t.W : Int) - c)) t.R }, c + sumC ((cutL (flatL l)).take (fitK (cutL (flatL l)) ((t.W : Int) - c))), 0)
    else (t, 0, 1)
  else (t, 0, 5)
/-- A row of strings in blocks from lo on. -/
def StrRow (lo : Nat) (W : World) (a : Option Addr) (C : List (List UInt8)) : Prop :=
  ∀ i, i < C.length → ∃ b o, a = some ⟨b, o, none⟩ ∧ lo ≤ b ∧ b < W.heap.size ∧ W.cell? ⟨b, o + i, none⟩ = some (.string (S (nth [] C i)))
theorem StrRow.keep {lo : Nat} {W Y : World} {a : Option Addr} {C : List (List UInt8)} (h : StrRow lo W a C) (hs : W.heap.size ≤ Y.heap.size) (hk : ∀ b, lo ≤ b → b < W.heap.size → Y.heap[b]? = W.heap[b]?) : StrRow lo Y a C := fun i hi => by
  obtain ⟨b, o, e, h1, h2, h3⟩ := h i hi
  refine ⟨b, o, e, h1, Nat.lt_of_lt_of_le h2 hs, ?_⟩
  rw [← h3]
  simp only [World.cell?, hk b h1 h2]
theorem StrRow.below {lo : Nat} {W Y : World} {a : Option Addr} {C : List (List UInt8)} (h : StrRow lo W a C) (hb : Below W.heap.size W Y) : StrRow lo Y a C := h.keep hb.size (fun b _ h2 => hb.block b h2)
set_option maxRecDepth 100000 in
set_option maxHeartbeats 8000000 in
theorem rtext_out {F : Nat → Prop} {W : World} {a : Option Addr} {cap : Nat} {t : RBd} (g : RG F W a cap t.W t.H t.R) (r c : Int) (s : ByteArray) (y : Sy) (hin : ¬ (0 ≤ r ∧ r < t.H ∧ 0 ≤ c ∧ c ≤ t.W)) :
    Calls Tryz.prog 19 #[.agg (bCells a cap t), .int .i64 r, .int .i64 c, .string s, .agg #[.bool y.b, .bool y.u, .bool y.i, .int .i64 y.f, .int .i64 y.g]] W (BPostT F t 0 5 W) := by
  have G := Lib.hid g
  clear g
  go_enter Tryz.func19, Tryz.ntmps19
  go_upto_region 0 with (fail)
  go_cut [5, 9, 10] (fun u v v2 wx => u = .pointer (some ⟨W.heap.size, 0, none⟩) ∧ v = .pointer (some ⟨W.heap.size + 1, 0, none⟩) ∧ v2 = .pointer (some ⟨W.heap.size + 1 + 1, 0, none⟩) ∧ BIn3 W (bCells a cap t) y wx)
  case first =>
    go_wp2
    go_meet
    exact ⟨rfl, rfl, rfl, bin3 W _ y⟩
  case rest =>
    obtain ⟨rfl, rfl, rfl, p1, py, p2, bX, sX⟩ := hcut
    obtain ⟨c0, c1, c2, c3, c4, c5, fz⟩ := p1.tc
    go_wp2_with (first
      | (refine wpList_bload rfl _ rfl W.heap.size rfl (bCells a cap t) ?_ rfl ?_; exact p1)
      | (refine wpList_bstore rfl _ _ rfl (W.heap.size + 1 + 1) rfl _ rfl zB ?_ rfl rfl (bCells_one _ _ _) ?_; exact p2; intro w5 p5 o5))
    all_goals first
      | omega
      | (have b5 : Below W.heap.size W w5 := bX.trans (o5.below (by simp; omega) bX.size)
         exact bret3 rfl rfl p5 rfl ⟨a, cap, rfl, G.out.below b5, b5⟩)
set_option maxRecDepth 100000 in
set_option maxHeartbeats 8000000 in
theorem rtext_bad {F : Nat → Prop} {W : World} {a : Option Addr} {cap : Nat} {t : RBd} (g : RG F W a cap t.W t.H t.R) (r c : Int) (s : ByteArray) (y : Sy) (hin : 0 ≤ r ∧ r < t.H ∧ 0 ≤ c ∧ c ≤ t.W) (hy : mayF y = false) :
    Calls Tryz.prog 19 #[.agg (bCells a cap t), .int .i64 r, .int .i64 c, .string s, .agg #[.bool y.b, .bool y.u, .bool y.i, .int .i64 y.f, .int .i64 y.g]] W (BPostT F t 0 1 W) := by
  have G := Lib.hid g
  have CC := Lib.hid (fun X => rcolours_any y X)
  rw [hy] at CC
  obtain ⟨h0, h1, h2, h3⟩ := hin
  clear g hy
  go_enter Tryz.func19, Tryz.ntmps19
  go_upto_region 0 with (fail)
  go_cut [5, 9, 10] (fun u v v2 wx => u = .pointer (some ⟨W.heap.size, 0, none⟩) ∧ v = .pointer (some ⟨W.heap.size + 1, 0, none⟩) ∧ v2 = .pointer (some ⟨W.heap.size + 1 + 1, 0, none⟩) ∧ BIn3 W (bCells a cap t) y wx)
  case first =>
    go_wp2
    go_meet
    exact ⟨rfl, rfl, rfl, bin3 W _ y⟩
  case rest =>
    obtain ⟨rfl, rfl, rfl, p1, py, p2, bX, sX⟩ := hcut
    obtain ⟨c0, c1, c2, c3, c4, c5, fz⟩ := p1.tc
    obtain ⟨y0, y1, y2, y3, y4, y5⟩ := StyBox.cells py
    go_wp2_with fail
    refine (CC.out _).mono ?_
    rintro e w1 ⟨rfl, hb1⟩
    have q1 := p1.below hb1
    have q2 := p2.below hb1
    have b1 := bto bX hb1 bX.size
    clear c0 c1 c2 c3 c4 c5 fz y0 y1 y2 y3 y4 y5
    go_wp2_with (first
      | (refine wpList_bload rfl _ rfl W.heap.size rfl (bCells a cap t) ?_ rfl ?_; exact q1)
      | (refine wpList_bstore rfl _ _ rfl (W.heap.size + 1 + 1) rfl _ rfl zB ?_ rfl rfl (bCells_one _ _ _) ?_; exact q2; intro w5 p5 o5))
    have b5 : Below W.heap.size W w5 := b1.trans (o5.below (by simp; omega) b1.size)
    exact bret3 rfl rfl p5 rfl ⟨a, cap, rfl, G.out.below b5, b5⟩
/-- What holds at Text's rounds. -/
def TeI (F : Nat → Prop) (W : World) (t : RBd) (y : Sy) (R : List (List GC)) (av : Option Addr) (C : List (List UInt8)) (X : World) : Prop :=
  ∃ a c, BBx X W.heap.size (bCells a c { t with R := R }) ∧ StyBox X (W.heap.size + 1) y.b y.u y.i y.f y.g ∧ BBx X (W.heap.size + 1 + 1) zB ∧ RG (fun b => F b ∧ b ≠ W.heap.size ∧ b ≠ W.heap.size + 1 ∧ b ≠ W.heap.size + 1 + 1) X a c t.W t.H R ∧ StrRow (W.heap.size + 1 + 1 + 1) X av C ∧ Below W.heap.size W X
/-- What the reads of Text's drawn region need. -/
def TeS (W : World) (t : RBd) (y : Sy) (a : Option Addr) (c : Nat) (sx : ByteArray) (b o : Nat) (X : World) : Prop :=
  BBx X W.heap.size (bCells a c t) ∧ StyBox X (W.heap.size + 1) y.b y.u y.i y.f y.g ∧ X.cell? ⟨b, o, none⟩ = some (.string sx)
set_option maxRecDepth 100000 in
set_option maxHeartbeats 8000000 in
theorem rtext_in {F : Nat → Prop} {W : World} (hF : ∀ b, W.heap.size ≤ b → F b) {a : Option Addr} {cap : Nat} {t : RBd} (g : RG F W a cap t.W t.H t.R) (hW : t.W ≤ 500) (hH : t.H ≤ 60) (r c : Int) (l : List UInt8) (hl : l.length ≤ 10000) (y : Sy) (hin : 0 ≤ r ∧ r < t.H ∧ 0 ≤ c ∧ c ≤ t.W) (hy : mayF y = true) :
    Calls Tryz.prog 19 #[.agg (bCells a cap t), .int .i64 r, .int .i64 c, .string (S l), .agg #[.bool y.b, .bool y.u, .bool y.i, .int .i64 y.f, .int .i64 y.g]] W (BPostT F { t with R := putsR t.W t.H r c y (cutL (flatL l)) (fitK (cutL (flatL l)) ((t.W : Int) - c)) t.R } (c + sumC ((cutL (flatL l)).take (fitK (cutL (flatL l)) ((t.W : Int) - c)))) 0 W) := by
  have CC := Lib.hid (fun X => rcolours_any y X)
  rw [hy] at CC
  have hfl := clean_len (blanksL l)
  have hfl : (flatL l).length ≤ 64 * l.length := by unfold flatL; unfold blanksL at hfl ⊢; simpa using hfl
  have CF := Lib.hid (fun X => refFlat_any l (by omega) X)
  have CU := Lib.hid (fun X => refCut_any (flatL l) (by omega) X)
  have hzl := cutL_len (flatL l)
  have hclu : ∀ x, x < (cutL (flatL l)).length → Clu (nth [] (cutL (flatL l)) x) := fun x hx => nth_clu hx
  obtain ⟨C, hC⟩ : ∃ C, C = cutL (flatL l) := ⟨_, rfl⟩
  rw [← hC] at hzl hclu CU ⊢
  have HCLU := Lib.hid hclu
  obtain ⟨h0, h1, h2, h3⟩ := hin
  have gF : RG (fun b => F b ∧ b ≠ W.heap.size ∧ b ≠ W.heap.size + 1 ∧ b ≠ W.heap.size + 1 + 1) W a cap t.W t.H t.R := g.mono (fun b h1 h2 => ⟨h1, by omega, by omega, by omega⟩)
  have G := Lib.hid gF
  have CP := Lib.hid (fun (X : World) (a : Option Addr) (cap : Nat) (R : List (List GC)) (c : Int) (s : ByteArray) (z : Int) (hs : W.heap.size + 1 + 1 + 1 ≤ X.heap.size) (g : RG (fun b => F b ∧ b ≠ W.heap.size ∧ b ≠ W.heap.size + 1 ∧ b ≠ W.heap.size + 1 + 1) X a cap t.W t.H R) => rput_any (F := fun b => F b ∧ b ≠ W.heap.size ∧ b ≠ W.heap.size + 1 ∧ b ≠ W.heap.size + 1 + 1) (fun b hb => ⟨hF b (by omega), by omega, by omega, by omega⟩) g (by omega) (by omega) r c s z y)
  have CW := Lib.hid (fun (k : Nat) (h : k < C.length) X => (by have h1 := hclu k h; have h2 := refWidth_any (nth [] C k) (by have := h1.len; omega) X; rw [widthL_clu h1] at h2; exact h2 : Calls Tryz.prog 95 #[.string (S (nth [] C k))] X fun e w' => e = .returned (.int .i64 (colsL (nth [] C k))) ∧ Below X.heap.size X w'))
  have HFL := Lib.hid hfl
  clear g gF hy hC hclu hfl
  go_enter Tryz.func19, Tryz.ntmps19
  go_upto_region 0 with (fail)
  go_cut [5, 9, 10] (fun u v v2 wx => u = .pointer (some ⟨W.heap.size, 0, none⟩) ∧ v = .pointer (some ⟨W.heap.size + 1, 0, none⟩) ∧ v2 = .pointer (some ⟨W.heap.size + 1 + 1, 0, none⟩) ∧ BIn3 W (bCells a cap t) y wx)
  case first =>
    go_wp2
    go_meet
    exact ⟨rfl, rfl, rfl, bin3 W _ y⟩
  case rest =>
    obtain ⟨rfl, rfl, rfl, p1, py, p2, bX, sX⟩ := hcut
    obtain ⟨c0, c1, c2, c3, c4, c5, fz⟩ := p1.tc
    obtain ⟨y0, y1, y2, y3, y4, y5⟩ := StyBox.cells py
    go_wp2_with fail
    refine (CC.out _).mono ?_
    rintro e w1 ⟨rfl, hb1⟩
    have q1 := p1.below hb1
    have q2 := p2.below hb1
    have qy : StyBox w1 (W.heap.size + 1) y.b y.u y.i y.f y.g := styBox_old py hb1 (by omega)
    have b1 := bto bX hb1 bX.size
    have hs1 := hb1.size
    clear c0 c1 c2 c3 c4 c5 fz y0 y1 y2 y3 y4 y5 p1 p2 py hb1
    go_wp2_with fail
    refine (CF.out _).mono ?_
    rintro e w2 ⟨rfl, hb2⟩
    have hs2 := hb2.size
    go_wp2_with fail
    refine (CU.out _).mono ?_
    rintro e w3 ⟨av, n, cv, hn, hnc, hcm, rfl, hrow, hb3, gq, hgq, hga⟩
    have hb23 := bnext hb2 hb3
    have I0 : TeI F W t y t.R av C w3 := by
      refine ⟨a, cap, q1.below hb23, styBox_old qy hb23 (by omega), q2.below hb23, (G.out.below (bto b1 hb23 b1.size)), fun i hi => ?_, bto b1 hb23 b1.size⟩
      obtain ⟨b, o, e, h1, h2⟩ := strs_at hrow i hi
      refine ⟨b, o, e, ?_, h1, h2⟩
      obtain ⟨e2, _⟩ := hga (by omega)
      rw [e] at e2
      injection e2 with e2
      injection e2 with e2
      omega
    have HN := Lib.hid hn
    clear q1 q2 qy b1 bX sX hs1 hb2 hs2 hrow hb3 hga hgq hb23 hn
    go_wp2
    go_loopw [2, 14] (fun u i wr => ∃ k : Nat, k ≤ n ∧ u = .int .i64 (c + sumC (C.take k)) ∧ i = .int .i64 k ∧ (∀ i, i < k → ¬ ((t.W : Int) - c) - sumC (C.take i) < colsL (nth [] C i)) ∧ c + sumC (C.take k) ≤ t.W ∧ TeI F W t y (putsR t.W t.H r c y C k t.R) av C wr) (fun _ i _ => n - (intOf i).toNat)
    case atStart => exact ⟨0, Nat.zero_le _, by simp [sumC], rfl, fun i hi => by omega, by simpa [sumC] using h3, I0⟩
    case round =>
      obtain ⟨k, hk, rfl, rfl, hall, hsum, a4, c4', p1, py, p2, g4, sr, b4⟩ := hrel
      have hlt := p2.lt
      by_cases hkn : k < n
      · have hkC : k < C.length := by rw [← HN.out]; exact hkn
        obtain ⟨b, o, rfl, hlo, hbl, hcell⟩ := sr k hkC
        have CWk := Lib.hid (CW.out k hkC)
        have hcols := (HCLU.out k hkC).cols
        have HST := Lib.hid (sumC_take C k hkC)
        have hbd := sumC_take_bd C k
        obtain ⟨s, hs⟩ : ∃ s, s = sumC (C.take k) := ⟨_, rfl⟩
        obtain ⟨x, hx⟩ : ∃ x, x = nth [] C k := ⟨_, rfl⟩
        rw [← hs] at HST hbd hsum ⊢
        rw [← hx] at CWk HST hcols hcell
        obtain ⟨v, hv⟩ : ∃ v, v = colsL x := ⟨_, rfl⟩
        rw [← hv] at CWk HST hcols
        have HSX := Lib.hid (And.intro hs (And.intro hx hv))
        have HALL := Lib.hid hall
        have hzl2 : C.length ≤ 640000 := by have := HFL.out; omega
        clear hs hx hv hall hnc hk hfl HFL
        go_wp2_with fail
        refine (CWk.out _).mono ?_
        rintro e w5 ⟨rfl, hb5⟩
        have q1 := p1.below hb5
        have q2 := p2.below hb5
        have qy : StyBox w5 (W.heap.size + 1) y.b y.u y.i y.f y.g := styBox_old py hb5 (by omega)
        have b5 := bto b4 hb5 b4.size
        have g5 := g4.below hb5
        have sr5 := sr.below hb5
        have hs5 := hb5.size
        obtain ⟨b', o', e', _, hbl5, hcell5⟩ := sr5 k hkC
        injection e' with e'
        injection e' with e1 e2
        subst e1 e2
        rw [← HSX.out.2.1] at hcell5
        obtain ⟨c0, c1, c2, c3, c4, c5, fz⟩ := q1.tc
        by_cases hc : (t.W : Int) - (c + s) < v
        · clear hcell
          go_wp2_with (first
            | (refine wpList_bload rfl _ rfl W.heap.size rfl (bCells a4 c4' { t with R := putsR t.W t.H r c y C k t.R }) ?_ rfl ?_; exact q1)
            | (refine wpList_bstore rfl _ _ rfl (W.heap.size + 1 + 1) rfl _ rfl zB ?_ rfl rfl (bCells_one _ _ _) ?_; exact q2; intro w6 p6 o6))
          have hfk : fitK C ((t.W : Int) - c) = k := fitK_stop _ _ _ hkC (fun i hi => by have := HALL.out i hi; omega) (by rw [← HSX.out.1, ← HSX.out.2.1, ← HSX.out.2.2]; omega)
          have b6 : Below W.heap.size W w6 := b5.trans (o6.below (by simp; omega) b5.size)
          refine bret3 rfl rfl p6 rfl ?_
          rw [hfk]
          refine ⟨a4, c4', by rw [← HSX.out.1]; rfl, ?_, b6⟩
          exact (g5.keep o6.size (fun b hb hlt => o6.block b hlt (by simpa using hb.2.2.2))).mono (F' := F) (fun b hb _ => hb.1)
        · clear p1 p2 py g4 sr b4 hcell
          clear c0 c1 c3 c4 c5
          have hc' : v ≤ (t.W : Int) - (c + s) := by omega
          clear hc hbl
          obtain ⟨R4, hR4⟩ : ∃ R4, R4 = putsR t.W t.H r c y C k t.R := ⟨_, rfl⟩
          have HR4 := Lib.hid hR4
          rw [← hR4] at q1 g5
          clear hR4
          obtain ⟨c0, c1, c2, c3, c4, c5, fz⟩ := q1.tc
          clear c1 c2 c3 c4 c5
          go_wp2
          clear c0 fz
          have dB : Below w5.heap.size w5 w5.drew := (Below.refl _ _).drew
          have hSd : TeS W { t with R := R4 } y a4 c4' (S x) b (o + k) w5.drew := ⟨q1.below dB, styBox_old qy dB (by omega), hcell5⟩
          refine wp_region_tree (fun j y1 y2 => j ∉ [15] → TeS W { t with R := R4 } y a4 c4' (S x) b (o + k) y1 → TeS W { t with R := R4 } y a4 c4' (S x) b (o + k) y2) (by kernel_rfl) ?_
          simp only [List.size_toArray, List.length_cons, List.length_nil, Nat.reduceAdd]
          refine' wpAnyY_read 0 (TeS W { t with R := R4 } y a4 c4' (S x) b (o + k)) [15] (v := _) (by kernel_rfl) (fun _ _ d _ _ h => by cases d <;> exact h) (by kernel_rfl) rfl (fun j y y' hj h hs => h hj hs) (fun _ _ h => h) hSd rfl ?_ ?_
          rotate_left 1
          · intro w' hw'; obtain ⟨hb', hy', hl'⟩ := hw'; obtain ⟨c0, c1, c2, c3, c4, c5, fz⟩ := hb'.tc; obtain ⟨y0, y1, y2, y3, y4, y5⟩ := StyBox.cells hy'; go_simp; try with_reducible rfl
          try simp only [Act.put, List.setIfInBounds_toArray, List.set_cons_zero, List.set_cons_succ]
          refine' wpAnyY_read 1 (TeS W { t with R := R4 } y a4 c4' (S x) b (o + k)) [15] (v := _) (by kernel_rfl) (fun _ _ d _ _ h => by cases d <;> exact h) (by kernel_rfl) rfl (fun j y y' hj h hs => h hj hs) (fun _ _ h => h) hSd rfl ?_ ?_
          rotate_left 1
          · intro w' hw'; obtain ⟨hb', hy', hl'⟩ := hw'; obtain ⟨c0, c1, c2, c3, c4, c5, fz⟩ := hb'.tc; obtain ⟨y0, y1, y2, y3, y4, y5⟩ := StyBox.cells hy'; go_simp; try with_reducible rfl
          try simp only [Act.put, List.setIfInBounds_toArray, List.set_cons_zero, List.set_cons_succ]
          refine' wpAnyY_read 2 (TeS W { t with R := R4 } y a4 c4' (S x) b (o + k)) [15] (v := _) (by kernel_rfl) (fun _ _ d _ _ h => by cases d <;> exact h) (by kernel_rfl) rfl (fun j y y' hj h hs => h hj hs) (fun _ _ h => h) hSd rfl ?_ ?_
          rotate_left 1
          · intro w' hw'; obtain ⟨hb', hy', hl'⟩ := hw'; obtain ⟨c0, c1, c2, c3, c4, c5, fz⟩ := hb'.tc; obtain ⟨y0, y1, y2, y3, y4, y5⟩ := StyBox.cells hy'; go_simp; try with_reducible rfl
          try simp only [Act.put, List.setIfInBounds_toArray, List.set_cons_zero, List.set_cons_succ]
          refine' wpAnyY_read 3 (TeS W { t with R := R4 } y a4 c4' (S x) b (o + k)) [15] (v := _) (by kernel_rfl) (fun _ _ d _ _ h => by cases d <;> exact h) (by kernel_rfl) rfl (fun j y y' hj h hs => h hj hs) (fun _ _ h => h) hSd rfl ?_ ?_
          rotate_left 1
          · intro w' hw'; obtain ⟨hb', hy', hl'⟩ := hw'; obtain ⟨c0, c1, c2, c3, c4, c5, fz⟩ := hb'.tc; obtain ⟨y0, y1, y2, y3, y4, y5⟩ := StyBox.cells hy'; go_simp; try with_reducible rfl
          try simp only [Act.put, List.setIfInBounds_toArray, List.set_cons_zero, List.set_cons_succ]
          refine' wpAnyY_read 4 (TeS W { t with R := R4 } y a4 c4' (S x) b (o + k)) [15] (v := _) (by kernel_rfl) (fun _ _ d _ _ h => by cases d <;> exact h) (by kernel_rfl) rfl (fun j y y' hj h hs => h hj hs) (fun _ _ h => h) hSd rfl ?_ ?_
          rotate_left 1
          · intro w' hw'; obtain ⟨hb', hy', hl'⟩ := hw'; obtain ⟨c0, c1, c2, c3, c4, c5, fz⟩ := hb'.tc; obtain ⟨y0, y1, y2, y3, y4, y5⟩ := StyBox.cells hy'; go_simp; try with_reducible rfl
          try simp only [Act.put, List.setIfInBounds_toArray, List.set_cons_zero, List.set_cons_succ]
          refine' wpAnyY_read 5 (TeS W { t with R := R4 } y a4 c4' (S x) b (o + k)) [15] (v := _) (by kernel_rfl) (fun _ _ d _ _ h => by cases d <;> exact h) (by kernel_rfl) rfl (fun j y y' hj h hs => h hj hs) (fun _ _ h => h) hSd rfl ?_ ?_
          rotate_left 1
          · intro w' hw'; obtain ⟨hb', hy', hl'⟩ := hw'; obtain ⟨c0, c1, c2, c3, c4, c5, fz⟩ := hb'.tc; obtain ⟨y0, y1, y2, y3, y4, y5⟩ := StyBox.cells hy'; go_simp; try with_reducible rfl
          try simp only [Act.put, List.setIfInBounds_toArray, List.set_cons_zero, List.set_cons_succ]
          refine' wpAnyY_read 6 (TeS W { t with R := R4 } y a4 c4' (S x) b (o + k)) [15] (v := _) (by kernel_rfl) (fun _ _ d _ _ h => by cases d <;> exact h) (by kernel_rfl) rfl (fun j y y' hj h hs => h hj hs) (fun _ _ h => h) hSd rfl ?_ ?_
          rotate_left 1
          · intro w' hw'; obtain ⟨hb', hy', hl'⟩ := hw'; obtain ⟨c0, c1, c2, c3, c4, c5, fz⟩ := hb'.tc; obtain ⟨y0, y1, y2, y3, y4, y5⟩ := StyBox.cells hy'; go_simp; try with_reducible rfl
          try simp only [Act.put, List.setIfInBounds_toArray, List.set_cons_zero, List.set_cons_succ]
          refine' wpAnyY_read 7 (TeS W { t with R := R4 } y a4 c4' (S x) b (o + k)) [15] (v := _) (by kernel_rfl) (fun _ _ d _ _ h => by cases d <;> exact h) (by kernel_rfl) rfl (fun j y y' hj h hs => h hj hs) (fun _ _ h => h) hSd rfl ?_ ?_
          rotate_left 1
          · intro w' hw'; obtain ⟨hb', hy', hl'⟩ := hw'; obtain ⟨c0, c1, c2, c3, c4, c5, fz⟩ := hb'.tc; obtain ⟨y0, y1, y2, y3, y4, y5⟩ := StyBox.cells hy'; go_simp; try with_reducible rfl
          try simp only [Act.put, List.setIfInBounds_toArray, List.set_cons_zero, List.set_cons_succ]
          refine' wpAnyY_read 8 (TeS W { t with R := R4 } y a4 c4' (S x) b (o + k)) [15] (v := _) (by kernel_rfl) (fun _ _ d _ _ h => by cases d <;> exact h) (by kernel_rfl) rfl (fun j y y' hj h hs => h hj hs) (fun _ _ h => h) hSd rfl ?_ ?_
          rotate_left 1
          · intro w' hw'; obtain ⟨hb', hy', hl'⟩ := hw'; obtain ⟨c0, c1, c2, c3, c4, c5, fz⟩ := hb'.tc; obtain ⟨y0, y1, y2, y3, y4, y5⟩ := StyBox.cells hy'; go_simp; try with_reducible rfl
          try simp only [Act.put, List.setIfInBounds_toArray, List.set_cons_zero, List.set_cons_succ]
          refine' wpAnyY_read 9 (TeS W { t with R := R4 } y a4 c4' (S x) b (o + k)) [15] (v := _) (by kernel_rfl) (fun _ _ d _ _ h => by cases d <;> exact h) (by kernel_rfl) rfl (fun j y y' hj h hs => h hj hs) (fun _ _ h => h) hSd rfl ?_ ?_
          rotate_left 1
          · intro w' hw'; obtain ⟨hb', hy', hl'⟩ := hw'; obtain ⟨c0, c1, c2, c3, c4, c5, fz⟩ := hb'.tc; obtain ⟨y0, y1, y2, y3, y4, y5⟩ := StyBox.cells hy'; go_simp; try with_reducible rfl
          try simp only [Act.put, List.setIfInBounds_toArray, List.set_cons_zero, List.set_cons_succ]
          refine wpAnyY_one (i := 10) (by kernel_rfl) rfl (fun K hK => ?_)
          simp only [List.getElem_toArray, List.getElem_cons_succ, List.getElem_cons_zero]
          go_wp2_with fail
          refine (CP.out _ a4 c4' _ (c + s) (S x) v (by show _ ≤ w5.heap.size; omega) (g5.below dB)).mono ?_
          rintro e w6 ⟨a6, c6', rfl, g6, hb6⟩
          have hb56 := bnext dB hb6
          have r1 := q1.below hb56
          have r2 := q2.below hb56
          have ry : StyBox w6 (W.heap.size + 1) y.b y.u y.i y.f y.g := styBox_old qy hb56 (by omega)
          have sr6 := sr5.below hb56
          have b6 := bto b5 hb56 b5.size
          have hcell6 : w6.cell? ⟨b, o + k, none⟩ = some (.string (S x)) := by rw [← hcell5]; simp only [World.cell?, hb56.block b hbl5]
          go_wp2
          refine hK _ _ (fun _ _ => ⟨r1, ry, hcell6⟩) ?_
          clear hK K hSd hcell5 hcell6 q1 q2 qy g5 hb6 hb56 dB sr5 b5
          refine' wpAnyY_read 11 (fun _ => True) [] (v := _) (by kernel_rfl) (fun _ _ d _ _ h => by cases d <;> exact h) (by kernel_rfl) rfl (fun _ _ _ _ _ _ => trivial) (fun _ _ h => h) trivial rfl ?_ ?_
          rotate_left 1
          · intro w' hw'; go_simp; try with_reducible rfl
          try simp only [Act.put, List.setIfInBounds_toArray, List.set_cons_zero, List.set_cons_succ]
          refine' wpAnyY_read 12 (fun _ => True) [] (v := _) (by kernel_rfl) (fun _ _ d _ _ h => by cases d <;> exact h) (by kernel_rfl) rfl (fun _ _ _ _ _ _ => trivial) (fun _ _ h => h) trivial rfl ?_ ?_
          rotate_left 1
          · intro w' hw'; go_simp; try with_reducible rfl
          try simp only [Act.put, List.setIfInBounds_toArray, List.set_cons_zero, List.set_cons_succ]
          refine' wpAnyY_read 14 (fun _ => True) [] (v := _) (by kernel_rfl) (fun _ _ d _ _ h => by cases d <;> exact h) (by kernel_rfl) rfl (fun _ _ _ _ _ _ => trivial) (fun _ _ h => h) trivial rfl ?_ ?_
          rotate_left 1
          · intro w' hw'; go_simp; try with_reducible rfl
          try simp only [Act.put, List.setIfInBounds_toArray, List.set_cons_zero, List.set_cons_succ]
          refine' wpAnyY_read 13 (fun _ => True) [] (v := _) (by kernel_rfl) (fun _ _ d _ _ h => by cases d <;> exact h) (by kernel_rfl) rfl (fun _ _ _ _ _ _ => trivial) (fun _ _ h => h) trivial rfl ?_ ?_
          rotate_left 1
          · intro w' hw'; go_simp; try with_reducible rfl
          try simp only [Act.put, List.setIfInBounds_toArray, List.set_cons_zero, List.set_cons_succ]
          refine wpAnyY_one (i := 15) (by kernel_rfl) rfl (fun K hK => ?_)
          simp only [List.getElem_toArray, List.getElem_cons_succ, List.getElem_cons_zero]
          obtain ⟨w7, hw7⟩ : ∃ w7, ((w6.setCell ⟨W.heap.size, 0, none⟩ (.int .i64 t.W)).setCell ⟨W.heap.size, 1, none⟩ (.int .i64 t.H)).setCell ⟨W.heap.size, 2, none⟩ (.slice a6 t.H c6') = w7 := ⟨_, rfl⟩
          obtain ⟨x0, v0⟩ := r1.set 0 (.int .i64 t.W) _ rfl
          obtain ⟨x1, v1⟩ := x0.set 1 (.int .i64 t.H) _ rfl
          obtain ⟨x2, v2⟩ := x1.set 2 (.slice a6 t.H c6') (bCells a6 c6' { t with R := putsR t.W t.H r c y C (k + 1) t.R }) rfl
          have o3 := (v0.trans v1).trans v2
          rw [hw7] at x2 o3
          have HW7 := Lib.hid hw7
          clear x0 x1 v0 v1 v2 hw7
          obtain ⟨c0, c1, c2, c3, c4, c5, fz⟩ := r1.tc
          have eR : putR t.W t.H R4 r (c + s) (S x) v y = putsR t.W t.H r c y C (k + 1) t.R := by rw [HR4.out, HSX.out.1, HSX.out.2.2, HSX.out.2.1]; rfl
          rw [eR] at g6
          have I1 : TeI F W t y (putsR t.W t.H r c y C (k + 1) t.R) (some ⟨b, o, none⟩) C w7 := ⟨a6, c6', x2, o3.heap ry (by simp), r2.only o3 (by simp; omega), g6.keep o3.size (fun b hb hlt => o3.block b hlt (by simpa using hb.2.1)), sr6.keep o3.size (fun b hb hlt => o3.block b hlt (by simp; omega)), b6.trans (o3.below (by simp) b6.size)⟩
          have I1' := Lib.hid I1
          clear I1 r2 ry sr6 b6 o3 x2 g6 eR r1
          go_wp2
          rw [HW7.out]
          refine hK _ _ (fun hn => absurd (by decide) hn) (wpAnyY_end (by kernel_rfl) ?_)
          clear hK K c0 c1 c2 c3 c4 c5 fz
          go_wp2
          have hnz : n ≤ 640000 := by rw [HN.out]; omega
          go_roundw
          case rel =>
            refine ⟨k + 1, hkn, by rw [HST.out, Int.add_assoc], by go_num, fun i hi => ?_, by rw [HST.out]; omega, I1'.out⟩
            by_cases hik : i = k
            · rw [hik, ← HSX.out.1, ← HSX.out.2.1, ← HSX.out.2.2]; omega
            · have := HALL.out i (by omega); omega
          case measure => simp [intOf]; omega
      · obtain rfl : k = n := by omega
        have hfk : fitK C ((t.W : Int) - c) = k := by
          have hn := HN.out
          rw [hn] at hall ⊢
          exact fitK_end _ _ hall
        have HFK := Lib.hid hfk
        clear hfk hall hk
        go_wp2_with (first
          | (refine wpList_bload rfl _ rfl W.heap.size rfl (bCells a4 c4' { t with R := putsR t.W t.H r c y C k t.R }) ?_ rfl ?_; exact p1)
          | (refine wpList_bstore rfl _ _ rfl (W.heap.size + 1 + 1) rfl _ rfl zB ?_ rfl rfl (bCells_one _ _ _) ?_; exact p2; intro w6 p6 o6))
        have b6 : Below W.heap.size W w6 := b4.trans (o6.below (by simp; omega) b4.size)
        refine bret3 rfl rfl p6 rfl ?_
        rw [HFK.out]
        refine ⟨a4, c4', rfl, ?_, b6⟩
        exact (g4.keep o6.size (fun b hb hlt => o6.block b hlt (by simpa using hb.2.2.2))).mono (F' := F) (fun b hb _ => hb.1)
theorem rtext_any {F : Nat → Prop} {W : World} (hF : ∀ b, W.heap.size ≤ b → F b) {a : Option Addr} {cap : Nat} {t : RBd} (g : RG F W a cap t.W t.H t.R) (hW : t.W ≤ 500) (hH : t.H ≤ 60) (r c : Int) (l : List UInt8) (hl : l.length ≤ 10000) (y : Sy) :
    Calls Tryz.prog 19 #[.agg (bCells a cap t), .int .i64 r, .int .i64 c, .string (S l), .agg #[.bool y.b, .bool y.u, .bool y.i, .int .i64 y.f, .int .i64 y.g]] W (BPostT F (t.text r c l y).1 (t.text r c l y).2.1 (t.text r c l y).2.2 W) := by
  unfold RBd.text
  by_cases hin : 0 ≤ r ∧ r < t.H ∧ 0 ≤ c ∧ c ≤ t.W
  · rw [if_pos hin]
    cases hy : mayF y with
    | true => rw [if_pos rfl]; exact rtext_in hF g hW hH r c l hl y hin hy
    | false => rw [if_neg (by simp)]; exact rtext_bad g r c _ y hin hy
  · rw [if_neg hin]; exact rtext_out g r c _ y hin
end Go.Proofs.YtekodpcedjpnjaaGreat
