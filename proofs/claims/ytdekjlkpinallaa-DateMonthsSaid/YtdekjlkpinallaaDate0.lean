/- Strings of known bytes: pieces of them; bytes as a string. No condition. -/
import Derived.Test.YtdekjlkpinallaaDMath2
import Derived.Test.YtdekjlkpinallaaQuietBelow
import Derived.Test.YtdekjlkpinallaaProg
import Derived.KernelRfl
import Derived.Deep.RegionWith
import Derived.Maps.AppendAt
namespace Go.Proofs.Ytdekjlkpinallaa
open Go.RowKit Go.Maps
theorem S_back (s : ByteArray) : ∃ l, s = S l := ⟨s.data.toList, by simp [S]⟩
theorem S_extract (l : List UInt8) (a b : Nat) : (S l).extract a b = S ((l.drop a).take (b - a)) := by
  unfold S
  apply ByteArray.ext
  rw [ByteArray.data_extract]
  apply Array.ext'
  simp [List.extract]
theorem S_get (l : List UInt8) (i : Nat) (h : i < (S l).size) : (S l)[i]'h = nth 0 l i := by
  rw [nth_eq _ _ _ (by rw [S_size] at h; exact h)]; rfl
theorem S_eq (a b : List UInt8) : ((S a).toList == (S b).toList) = decide (a = b) := by
  have h : ∀ l, (S l).toList = l := fun l => by rw [ByteArray.toList_eq]; simp [S]
  rw [h, h]
  by_cases e : a = b
  · simp [e]
  · rw [decide_eq_false e]; simpa using e
theorem strOfNums_S (l : List UInt8) : strOfNums (l.map fun b => (b.toNat : Int)) = S l := by
  unfold strOfNums S
  rw [List.map_map]
  congr 2
  conv => rhs; rw [← List.map_id l]
  apply List.map_congr_left
  intro b _
  simp
/-- A new slice of bytes, as a string. -/
theorem conv_new (W : World) (l : List UInt8) (n : Nat) (hn : n = l.length) : (convert 53 9 (.slice (some ⟨W.heap.size, 0, none⟩) n n)).run Try.prog (W.alloc (.cells (l.map fun b => Value.int .u8 b.toNat).toArray 5)) =
    .ok (.string (S l)) (W.alloc (.cells (l.map fun b => Value.int .u8 b.toNat).toArray 5)) := by
  subst hn
  have hb := World.alloc_heap_new W (.cells (l.map fun b => Value.int .u8 b.toNat).toArray 5)
  have := run_convert_bytes_arg (P := Try.prog) (W.alloc (.cells (l.map fun b => Value.int .u8 b.toNat).toArray 5)) 53 5 Try.underlying53 Try.underlying5 W.heap.size 0 l.length l.length (l.map fun b => (b.toNat : Int)) (by simp)
    (fun i hi => ?_) 9 Try.underlying9
  · rw [strOfNums_S] at this; exact this
  · unfold World.cell?
    dsimp only
    rw [hb]
    simp [hi]
theorem conv_one (W : World) (b : UInt8) (c : Int) (hc : c = b.toNat) : (convert 53 9 (.slice (some ⟨W.heap.size, 0, none⟩) 1 1)).run Try.prog (W.alloc (.cells #[.int .u8 c] 5)) = .ok (.string (S [b])) (W.alloc (.cells #[.int .u8 c] 5)) := by
  subst hc; exact conv_new W [b] 1 rfl
end Go.Proofs.Ytdekjlkpinallaa
