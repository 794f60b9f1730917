/- Rows of bytes that a call owns, as strings. No condition. -/
import Derived.Test.YtekodpcedjpnjaaSMath
import Derived.Test.YtekodpcedjpnjaaProg
import Derived.Test.YtekodpcedjpnjaaBase
import Derived.KernelRfl
import Derived.Maps.AppendAt
import Derived.Laws.IdiomStrings
namespace Go.Proofs.Ytekodpcedjpnjaa
set_option linter.unusedVariables false
set_option linter.unusedSimpArgs false
open Go.RowKit Go.Maps
theorem strOfNums_U (l : List UInt8) : strOfNums (l.map fun b => (b.toNat : Int)) = S l := by
  unfold strOfNums S
  rw [List.map_map]
  congr 2
  conv => rhs; rw [← List.map_id l]
  apply List.map_congr_left
  intro b _
  simp
theorem infoU8 : (Try.prog.info? 5).map (fun i => (i.zero, i.size, i.bytes)) = some (some (.int .u8 0), 1, 1) := by kernel_rfl
def u8s (l : List UInt8) : List Value := l.map fun b => .int .u8 b.toNat
theorem u8s_length (l : List UInt8) : (u8s l).length = l.length := by simp [u8s]
theorem ownsRow_slice {W : World} {base : Nat} {e : TypeId} {size : Nat} {v : Value} {n : Nat} {xs : List Value} (h : W.ownsRow base e size v n xs) : ∃ a c, v = .slice a n c := by
  rcases h.2 with ⟨rfl, rfl⟩ | ⟨g, cap, _, rfl, _⟩
  · exact ⟨_, _, rfl⟩
  · exact ⟨_, _, rfl⟩
theorem S_get (l : List UInt8) (i : Nat) (h : i < (S l).size) : (S l)[i]'h = nth 0 l i := by
  rw [nth_eq _ _ _ (by rw [S_size] at h; exact h)]; rfl
theorem u8s_snoc (l : List UInt8) (b : UInt8) : u8s (l ++ [b]) = u8s l ++ [Value.int .u8 b.toNat] := by simp [u8s]
/-- A row of bytes that the call owns, as a string. -/
theorem conv_own {W : World} {base : Nat} {a : Option Addr} {c : Nat} {l : List UInt8} (h : W.ownsRow base 5 1 (.slice a l.length c) l.length (u8s l)) :
    (convert 67 9 (.slice a l.length c)).run Try.prog W = .ok (.string (S l)) W := by
  rcases h.2 with ⟨e, h0⟩ | ⟨g, cap, cur, e, _, hg, _, _, hcs, ht⟩
  · have hl := List.length_eq_zero_iff.1 h0
    subst hl
    simp only [Value.slice.injEq] at e
    obtain ⟨rfl, _, rfl⟩ := e
    exact run_convert_bytes_nil (P := Try.prog) W 67 5 Try.underlying67 Try.underlying5 _ _ 9 Try.underlying9
  · simp only [Value.slice.injEq] at e
    obtain ⟨rfl, _, rfl⟩ := e
    have := run_convert_bytes_arg (P := Try.prog) W 67 5 Try.underlying67 Try.underlying5 g 0 l.length c (l.map fun b => (b.toNat : Int)) (by simp)
      (fun i hi => ?_) 9 Try.underlying9
    · rw [strOfNums_U] at this; exact this
    · unfold World.cell?
      dsimp only
      rw [hg]
      have h4 : (cur.toList.take (l.length * 1))[i]? = (u8s l)[i]? := by rw [ht]
      rw [List.getElem?_take_of_lt (by omega), Array.getElem?_toList] at h4
      simp only [Nat.zero_add, Option.isSome_none, Bool.false_eq_true, if_false]
      rw [h4]
      simp [u8s, hi]
end Go.Proofs.Ytekodpcedjpnjaa
