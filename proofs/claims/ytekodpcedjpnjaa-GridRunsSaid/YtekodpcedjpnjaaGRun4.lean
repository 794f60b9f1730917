/- The law GridRuns: what any step leaves. No condition. -/
import Derived.Test.YtekodpcedjpnjaaGRun3
import Derived.Test.YtekodpcedjpnjaaTermP
namespace Go.Proofs.Ytekodpcedjpnjaa
set_option linter.unusedVariables false
set_option linter.unusedSimpArgs false
open Go.RowKit Go.Shelf Go.Maps
theorem GRws.put04 {w h : Nat} {R : List (List GC)} (ok : RowsOk w h R) (g : GRws R) (r c : Int) (s : ByteArray) (wd : Int) (y : Sy) : GRws (putR w h R r c s wd y) := by
  by_cases h0 : putErr w h r c s wd = 0
  · obtain ⟨h1, _, h2, _⟩ := putErr_0 h0
    exact g.put ok r c (hd := ⟨h2, h1⟩)
  · unfold putR
    rw [if_neg h0]
    exact g
theorem step_all {F : Nat → Prop} {X : World} (hF : ∀ b, X.heap.size ≤ b → F b) {p q w h : Nat} {R : List (List GC)} (g : GridAt X p q w h R.flatten) (ok : RowsOk w h R) (ro : ROk R) (gr : GRws R) {ra : Option Addr} {rc : Nat} (rg : RG F X ra rc w h R) (hp : ∀ k, F k → k ≠ p ∧ k ≠ q) (o : OpV) (hok : o.Ok) :
    ∃ w' h' R', Calls Try.prog 15 #[.pointer (some ⟨p, 0, none⟩), .agg #[.int .i64 w, .int .i64 h, .slice ra h rc], .agg #[.int .u8 o.d, .int .i64 o.r, .int .i64 o.c, .string o.s, .int .i64 o.k, .bool o.y.b, .bool o.y.u, .bool o.y.i, .int .i64 o.y.f, .int .i64 o.y.g, .int .i64 o.t, .int .i64 o.n]] X (StPost F X p q w' h' R') ∧ RowsOk w' h' R' ∧ ROk R' ∧ GRws R' := by
  by_cases h5 : o.d % 10 = 5
  · exact ⟨_, _, _, stepg_join hF g ok ro rg hp o hok h5, ok.join _ _ _, ro.join ok _ _ _, gr.join ok _ _ _⟩
  by_cases h6 : o.d % 10 = 6
  · exact ⟨_, _, _, stepg_erase hF g ok ro rg hp o hok h5 h6, ok.erase _ _ _, ro.erase ok _ _ _, gr.erase ok _ _ _⟩
  by_cases h7 : o.d % 10 = 7
  · obtain ⟨m, hm⟩ : ∃ m : Nat, (m : Int) = max 0 (min o.n h) := ⟨(max 0 (min o.n h)).toNat, by omega⟩
    exact ⟨_, _, _, stepg_scroll hF g ok ro rg hp o hok h5 h6 h7 m hm, ok.scroll (by omega), ro.scroll _, gr.scroll _⟩
  by_cases h8 : o.d % 10 = 8
  · by_cases hd : 1 ≤ o.n ∧ o.n ≤ 500 ∧ 1 ≤ o.t ∧ o.t ≤ 500
    · by_cases hr : 0 ≤ o.r ∧ o.r < h
      · exact ⟨_, _, _, stepg_size hF g ok ro rg hp o hok h5 h6 h7 h8 o.n.toNat o.t.toNat o.r.toNat (by omega) (by omega) (by omega) (by omega) (by omega), ok.resize _ _ _, ro.resize _ _ _ _, gr.resize _ _ _⟩
      · exact ⟨_, _, _, stepg_out hF g ok ro rg hp o hok h5 h6 h7 h8 hd hr, ok, ro, gr⟩
    · exact ⟨_, _, _, stepg_bad hF g ok ro rg hp o hok h5 h6 h7 h8 hd, ok, ro, gr⟩
  · exact ⟨_, _, _, stepg_put hF g ok ro rg hp o hok h5 h6 h7 h8, ok.put _ _ _ _ _, ro.put ok _ _ _ _ _, gr.put04 ok _ _ _ _ _⟩
end Go.Proofs.Ytekodpcedjpnjaa
