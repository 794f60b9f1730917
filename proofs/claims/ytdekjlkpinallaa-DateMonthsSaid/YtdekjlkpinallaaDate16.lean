/- Shown, of the program and of its reference. -/
import Derived.Test.YtdekjlkpinallaaDate14
import Derived.Test.YtdekjlkpinallaaDateShelf
namespace Go.Proofs.Ytdekjlkpinallaa
open Go.RowKit Go.Maps
theorem repeat_us (c : Nat) : Lib.repeatL [95] c = List.replicate c 95 := by
  have := Lib.repeatL_replicate 95 1 c
  simpa using this
set_option maxRecDepth 100000 in
set_option maxHeartbeats 1000000 in
theorem shown20_any (l : List UInt8) (hl : l.length ≤ 1000) (w : World) : Calls Try.prog 23 #[.string (S l)] w fun e w' => e = .returned (.string (S (shownV l))) ∧ Below w.heap.size w w' := by
  have hsz := S_size l
  have hp : shownV l = if beginsB l then shownL l else [] := rfl
  have C := fun W => begins20_any l hl W
  cases hb : beginsB l with
  | false =>
    rw [hb] at hp C
    rw [hp]
    have C := Lib.hid C
    go_enter Try.func23, Try.ntmps23
    go_wp2_with (go_at_call 21; refine (C.out _).mono ?_; rintro e w2 ⟨rfl, hb2⟩)
    go_ret
    exact ⟨rfl, hb2⟩
  | true =>
    have h8 := begins_len hb
    rw [hb, if_pos rfl] at hp
    rw [hb] at C
    rw [hp]
    clear hp hb
    have C := Lib.hid C
    obtain ⟨c, hc⟩ : ∃ c, c = 8 - l.length := ⟨_, rfl⟩
    have hci : (8 : Int) - (l.length : Int) = (c : Int) := by omega
    have CR : ∀ W, Calls Try.prog 44 #[.string ⟨#[95]⟩, .int .i64 c] W fun e w' => e = .returned (.string (S (List.replicate c 95))) ∧ Below W.heap.size W w' := fun W => by
      refine (Try.strings_Repeat ⟨#[95]⟩ c W (by omega) (by show 1 * c ≤ _; omega)).mono fun e w' hh => ⟨?_, hh.2⟩
      rw [hh.1]
      show Ending.returned (.string (S (Lib.repeatL [95] c))) = _
      rw [repeat_us]
    have CR := Lib.hid CR
    have hs2 : (S (List.replicate c 95)).size = c := by rw [S_size]; simp
    have ha : S l ++ S (List.replicate c 95) = S (l ++ List.replicate c 95) := S_append _ _
    have CDa := fun W => dashed_any (l ++ List.replicate c 95) (by simp; omega) (by simp; omega) W
    have hsh : dashL (l ++ List.replicate c 95) = shownL l := by rw [hc]; rfl
    rw [hsh] at CDa
    have CDa := Lib.hid CDa
    clear hc hsh
    go_enter Try.func23, Try.ntmps23
    go_wp2_with (first
      | (go_at_call 21; refine (C.out _).mono ?_; rintro e w2 ⟨rfl, hb2⟩)
      | (go_at_call 44; refine (CR.out _).mono ?_; rintro e w3 ⟨rfl, hb3⟩)
      | (go_at_call 40; refine (CDa.out _).mono ?_; rintro e w4 ⟨rfl, hb4⟩))
    go_ret
    exact ⟨rfl, bnext (bnext hb2 hb3) hb4⟩
set_option maxRecDepth 100000 in
set_option maxHeartbeats 1000000 in
theorem refShown_any (l : List UInt8) (w : World) : Calls Try.prog 24 #[.string (S l)] w fun e w' => e = .returned (.string (S (shownV l))) ∧ Below w.heap.size w w' := by
  have hsz := S_size l
  have hp : shownV l = if beginsB l then shownL l else [] := rfl
  have C := fun W => refBegins_any l W
  cases hb : beginsB l with
  | false =>
    rw [hb] at hp C
    rw [hp]
    have C := Lib.hid C
    go_enter Try.func24, Try.ntmps24
    go_wp2_with (go_at_call 22; refine (C.out _).mono ?_; rintro e w2 ⟨rfl, hb2⟩)
    go_ret
    exact ⟨rfl, hb2⟩
  | true =>
    have h8 := begins_len hb
    rw [hb, if_pos rfl] at hp
    rw [hb] at C
    rw [hp]
    clear hp hb
    have C := Lib.hid C
    have hu : ∀ k, k ≤ 8 → (S (List.replicate 8 95)).extract k 8 = S (List.replicate (8 - k) 95) := fun k hk => by
      rw [S_extract, List.drop_replicate, List.take_of_length_le (by simp)]
    have hx : (⟨#[95, 95, 95, 95, 95, 95, 95, 95]⟩ : ByteArray).extract l.length 8 = S (List.replicate (8 - l.length) 95) := hu l.length h8
    have hs2 : (S (List.replicate (8 - l.length) 95)).size = 8 - l.length := by rw [S_size]; simp
    have h8i : (l.length : Int) ≤ 8 := by omega
    obtain ⟨T, hT⟩ : ∃ T, T = l ++ List.replicate (8 - l.length) 95 := ⟨_, rfl⟩
    have ha : S l ++ S (List.replicate (8 - l.length) 95) = S T := by rw [hT]; exact S_append _ _
    have hTl : T.length = 8 := by rw [hT]; simp; omega
    have hST : (S T).size = 8 := by rw [S_size, hTl]
    have hsh : shownL l = dashL T := by rw [hT]; rfl
    rw [hsh]
    have e1 : (S T).extract 0 4 = S (T.take 4) := by rw [S_extract]; rfl
    have e2 : (S T).extract 4 6 = S ((T.drop 4).take 2) := by rw [S_extract]
    have e3 : (S T).extract 6 8 = S (T.drop 6) := by rw [S_extract, List.take_of_length_le (by simp; omega)]
    have s1 : (S (T.take 4)).size = 4 := by rw [S_size]; simp; omega
    have s2 : (S ((T.drop 4).take 2)).size = 2 := by rw [S_size]; simp; omega
    have s3 : (S (T.drop 6)).size = 2 := by rw [S_size]; simp; omega
    have hs8 : (⟨#[95, 95, 95, 95, 95, 95, 95, 95]⟩ : ByteArray).size = 8 := rfl
    clear hT hsh hu
    go_enter Try.func24, Try.ntmps24
    go_wp2_with (go_at_call 22; refine (C.out _).mono ?_; rintro e w2 ⟨rfl, hb2⟩)
    go_quiet (fail)
    have hb3 : Below w.heap.size w (w2.drewN nq) := ⟨hb2.os, hb2.tape, hb2.output, hb2.size, hb2.block⟩
    go_wp2
    go_ret
    refine ⟨ret_str ?_, hb3⟩
    show S _ ++ S [45] ++ S _ ++ S [45] ++ S _ = _
    rw [S_append, S_append, S_append, S_append]
    unfold dashL
    simp only [List.append_assoc]
end Go.Proofs.Ytdekjlkpinallaa
