/- The methods of a grid that nobody made. -/
import Derived.Test.YtcihcjlaamfjfaaGPut2
namespace Go.Proofs.Ytcihcjlaamfjfaa
open Go.RowKit Go.Maps
/-- No grid: nil, or a grid of zeros. -/
def NoG (W : World) (v : Value) : Prop := v = .pointer none ∨ ∃ z, v = .pointer (some ⟨z, 0, none⟩) ∧ W.heap[z]? = some (.cells #[.int .i64 0, .int .i64 0, .slice none 0 0] 95 (0, 0))
theorem NoG.below {W W' : World} {v : Value} {B : Nat} (h : NoG W v) (hb : Below B W W') (hB : ∀ z, v = .pointer (some ⟨z, 0, none⟩) → z < B) : NoG W' v := by
  rcases h with h | ⟨z, rfl, h⟩
  · exact .inl h
  · exact .inr ⟨z, rfl, (hb.block z (hB z rfl)).trans h⟩
theorem NoG.only {W W' : World} {v : Value} (h : NoG W v) (hb : Only [] W W') : NoG W' v := by
  rcases h with h | ⟨z, rfl, h⟩
  · exact .inl h
  · exact .inr ⟨z, rfl, hb.heap h (by simp)⟩
set_option maxRecDepth 100000 in
theorem made_no {W : World} {v : Value} (h : NoG W v) : Calls Try.prog 96 #[v] W fun e w' => e = .returned (.bool false) ∧ W = w' := by
  rcases h with rfl | ⟨z, rfl, h⟩
  · go_enter Try.func96, Try.ntmps96
    go_wp2
    go_ret
    exact ⟨rfl, rfl⟩
  · have c0 : W.cell? ⟨z, 0, none⟩ = some (.int .i64 0) := by rw [cell_of_row W z _ _ _ _ h]; rfl
    clear h
    go_enter Try.func96, Try.ntmps96
    go_wp2
    go_ret
    exact ⟨rfl, rfl⟩
set_option maxRecDepth 100000 in
theorem gsize_no {W : World} {v : Value} (h : NoG W v) : Calls Try.prog 73 #[v] W fun e w' => e = .returned (.tuple #[.int .i64 0, .int .i64 0]) ∧ Below W.heap.size W w' := by
  have CM := Lib.hid (made_no h)
  clear h
  go_enter Try.func73, Try.ntmps73
  go_wp2_with (go_at_call 96; refine (CM.out).mono ?_; rintro e w1 ⟨rfl, rfl⟩)
  go_ret2
  exact ⟨rfl, Below.refl _ _⟩
set_option maxRecDepth 100000 in
set_option maxHeartbeats 1000000 in
theorem cell_no {W : World} {v : Value} (h : NoG W v) (r c : Int) : Calls Try.prog 65 #[v, .int .i64 r, .int .i64 c] W fun e w' => e = .returned (.tuple #[GC.zero.v, .bool false]) ∧ Below W.heap.size W w' := by
  have o1 : Only [] W (W.alloc (.cells #[.string ⟨#[]⟩, .int .i64 0, .bool false, .bool false, .bool false, .int .i64 0, .int .i64 0] 76)) := (Only.refl _ _).alloc _
  have b1 : GBlk (W.alloc (.cells #[.string ⟨#[]⟩, .int .i64 0, .bool false, .bool false, .bool false, .int .i64 0, .int .i64 0] 76)) W.heap.size [GC.zero] := GBlk.made W [GC.zero]
  have CM := Lib.hid (made_no (h.only o1))
  have hs := o1.size
  generalize hW1 : W.alloc (.cells #[.string ⟨#[]⟩, .int .i64 0, .bool false, .bool false, .bool false, .int .i64 0, .int .i64 0] 76) = W1 at o1 b1 CM hs
  clear h
  go_enter Try.func65, Try.ntmps65
  go_wp2_with (first
    | (go_at_call 96; refine (CM.out).mono ?_; rintro e w1 ⟨rfl, rfl⟩)
    | (refine wpList_gstore rfl _ _ rfl W.heap.size _ rfl GC.zero rfl _ b1 0 (by omega) (by simp) ?_; intro w3 b3 o3))
  (try simp only [Exit.inBlock, Exit.then])
  refine bodyPost_ret (results_gcell rfl _ _ W.heap.size 76 _ (0, 0) rfl b3 rfl) rfl ?_
  exact ⟨rfl, ((o1.mono (S' := [W.heap.size]) (by simp)).trans o3).below (by simp) (Nat.le_refl _)⟩
set_option maxRecDepth 100000 in
theorem row_no {W : World} {v : Value} (h : NoG W v) (r : Int) : Calls Try.prog 54 #[v, .int .i64 r] W fun e w' => e = .returned (.slice none 0 0) ∧ W = w' := by
  have CM := Lib.hid (made_no h)
  clear h
  go_enter Try.func54, Try.ntmps54
  go_wp2_with (go_at_call 96; refine (CM.out).mono ?_; rintro e w1 ⟨rfl, rfl⟩)
  go_ret
  exact ⟨rfl, rfl⟩
set_option maxRecDepth 100000 in
set_option maxHeartbeats 1000000 in
theorem text_no {W : World} {v : Value} (h : NoG W v) (r : Int) : Calls Try.prog 76 #[v, .int .i64 r] W fun e w' => e = .returned (.string ⟨#[]⟩) ∧ Below W.heap.size W w' := by
  have CR := Lib.hid (row_no h r)
  have hcv := run_convert_bytes_nil (P := Try.prog) W 110 5 Try.underlying110 Try.underlying5 0 0 9 Try.underlying9
  clear h
  go_enter Try.func76, Try.ntmps76
  go_wp2_with (go_at_call 54; refine (CR.out).mono ?_; rintro e w1 ⟨rfl, rfl⟩)
  go_loop [13, 5] (fun i v => i = .int .i64 0 ∧ v = .slice none 0 0) (fun _ _ => 0)
  case atStart => exact ⟨rfl, rfl⟩
  case round =>
    obtain ⟨rfl, rfl⟩ := hrel
    go_wp2
    go_loop [8] (fun i => i = .int .i64 0) (fun _ => 0)
    case atStart => rfl
    case round =>
      subst hrel
      go_wp2
      go_ret
      exact ⟨rfl, Below.refl _ _⟩
set_option maxRecDepth 100000 in
set_option maxHeartbeats 1000000 in
theorem put_no {W : World} {v : Value} (h : NoG W v) (r c : Int) (s : ByteArray) (k : Int) (y : Sy) : Calls Try.prog 64 #[v, .int .i64 r, .int .i64 c, .string s, .int .i64 k, .agg #[.bool y.b, .bool y.u, .bool y.i, .int .i64 y.f, .int .i64 y.g]] W fun e w' => e = .returned (.int .i64 4) ∧ Below W.heap.size W w' := by
  have o1 : Only [] W (W.alloc (.cells #[.bool y.b, .bool y.u, .bool y.i, .int .i64 y.f, .int .i64 y.g] 50)) := (Only.refl _ _).alloc _
  have CM := Lib.hid (made_no (h.only o1))
  clear h
  go_enter Try.func64, Try.ntmps64
  go_wp2_with (go_at_call 96; refine (CM.out).mono ?_; rintro e w1 ⟨rfl, rfl⟩)
  go_ret
  exact ⟨rfl, o1.nil⟩
set_option maxRecDepth 100000 in
theorem join_no_ {W : World} {v : Value} (h : NoG W v) (r c : Int) (s : ByteArray) : Calls Try.prog 74 #[v, .int .i64 r, .int .i64 c, .string s] W fun e w' => e = .returned (.tuple #[.bool false, .int .i64 4]) ∧ Below W.heap.size W w' := by
  have CM := Lib.hid (made_no h)
  clear h
  go_enter Try.func74, Try.ntmps74
  go_wp2_with (go_at_call 96; refine (CM.out).mono ?_; rintro e w1 ⟨rfl, rfl⟩)
  go_ret2
  exact ⟨rfl, Below.refl _ _⟩
set_option maxRecDepth 100000 in
theorem erase_no {W : World} {v : Value} (h : NoG W v) (r a b : Int) : Calls Try.prog 77 #[v, .int .i64 r, .int .i64 a, .int .i64 b] W fun e w' => e = .returned (.int .i64 4) ∧ Below W.heap.size W w' := by
  have CM := Lib.hid (made_no h)
  clear h
  go_enter Try.func77, Try.ntmps77
  go_wp2_with (go_at_call 96; refine (CM.out).mono ?_; rintro e w1 ⟨rfl, rfl⟩)
  go_ret
  exact ⟨rfl, Below.refl _ _⟩
set_option maxRecDepth 100000 in
theorem scroll_no {W : World} {v : Value} (h : NoG W v) (n : Int) : Calls Try.prog 69 #[v, .int .i64 n] W fun e w' => e = .returned (.int .i64 0) ∧ Below W.heap.size W w' := by
  have CM := Lib.hid (made_no h)
  clear h
  go_enter Try.func69, Try.ntmps69
  go_wp2_with (go_at_call 96; refine (CM.out).mono ?_; rintro e w1 ⟨rfl, rfl⟩)
  go_ret
  exact ⟨rfl, Below.refl _ _⟩
set_option maxRecDepth 100000 in
theorem resize_no {W : World} {v : Value} (h : NoG W v) (a b r : Int) : Calls Try.prog 75 #[v, .int .i64 a, .int .i64 b, .int .i64 r] W fun e w' => e = .returned (.tuple #[.int .i64 0, .int .i64 4]) ∧ Below W.heap.size W w' := by
  have CM := Lib.hid (made_no h)
  clear h
  go_enter Try.func75, Try.ntmps75
  go_wp2_with (go_at_call 96; refine (CM.out).mono ?_; rintro e w1 ⟨rfl, rfl⟩)
  go_ret2
  exact ⟨rfl, Below.refl _ _⟩
set_option maxRecDepth 100000 in
theorem fork_no {W : World} {v : Value} (h : NoG W v) : Calls Try.prog 68 #[v] W fun e w' => e = .returned (.pointer none) ∧ Below W.heap.size W w' := by
  have CM := Lib.hid (made_no h)
  clear h
  go_enter Try.func68, Try.ntmps68
  go_wp2_with (go_at_call 96; refine (CM.out).mono ?_; rintro e w1 ⟨rfl, rfl⟩)
  go_ret
  exact ⟨rfl, Below.refl _ _⟩
end Go.Proofs.Ytcihcjlaamfjfaa
