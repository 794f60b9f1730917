/- awake of placardlaw20; the laws DateDigits and DateAdds. -/
import Derived.Test.YtdekjlkpinallaaDate15
import Derived.Test.YtdekjlkpinallaaDate16
import Derived.OpenShut
namespace Go.Proofs.Ytdekjlkpinallaa
open Go.RowKit Go.Maps
theorem aw_months (w : World) : Calls Try.prog 29 #[.string ⟨#[50, 48, 50, 52, 45, 48, 49, 45, 51, 49]⟩, .int .i64 1] w fun e w' => e = .returned (.tuple #[.string ⟨#[50, 48, 50, 52, 45, 48, 50, 45, 50, 57]⟩, .int .i64 0]) ∧ Below w.heap.size w w' := by
  have h := months20_any [50, 48, 50, 52, 45, 48, 49, 45, 51, 49] 1 (by simp) (by omega) w
  rwa [show monV [50, 48, 50, 52, 45, 48, 49, 45, 51, 49] 1 = .returned (.tuple #[.string ⟨#[50, 48, 50, 52, 45, 48, 50, 45, 50, 57]⟩, .int .i64 0]) from by kernel_rfl] at h
theorem aw_push1 (w : World) : Calls Try.prog 17 #[.string ⟨#[50, 48, 50, 52, 48, 50, 50]⟩, .int .u8 57] w fun e w' => e = .returned (.tuple #[.string ⟨#[50, 48, 50, 52, 48, 50, 50, 57]⟩, .bool true]) ∧ Below w.heap.size w w' := by
  have h := push_any [50, 48, 50, 52, 48, 50, 50] 57 (by simp) w
  rwa [show S (pushL [50, 48, 50, 52, 48, 50, 50] 57) = ⟨#[50, 48, 50, 52, 48, 50, 50, 57]⟩ from by kernel_rfl, show beginsB ([50, 48, 50, 52, 48, 50, 50] ++ [57]) = true from by kernel_rfl] at h
theorem aw_push2 (w : World) : Calls Try.prog 17 #[.string ⟨#[50, 48, 50, 51, 48, 50, 50]⟩, .int .u8 57] w fun e w' => e = .returned (.tuple #[.string ⟨#[50, 48, 50, 51, 48, 50, 50]⟩, .bool false]) ∧ Below w.heap.size w w' := by
  have h := push_any [50, 48, 50, 51, 48, 50, 50] 57 (by simp) w
  rwa [show S (pushL [50, 48, 50, 51, 48, 50, 50] 57) = ⟨#[50, 48, 50, 51, 48, 50, 50]⟩ from by kernel_rfl, show beginsB ([50, 48, 50, 51, 48, 50, 50] ++ [57]) = false from by kernel_rfl] at h
theorem aw_days (w : World) : Calls Try.prog 12 #[.int .i64 1900, .int .i64 2] w fun e w' => e = .returned (.int .i64 28) ∧ Below w.heap.size w w' := by
  have h := days_any 1900 2 w
  rwa [show daysI 1900 2 = 28 from by decide] at h
theorem aw_shown (w : World) : Calls Try.prog 23 #[.string ⟨#[50, 48, 50, 54, 48]⟩] w fun e w' => e = .returned (.string ⟨#[50, 48, 50, 54, 45, 48, 95, 45, 95, 95]⟩) ∧ Below w.heap.size w w' := by
  have h := shown20_any [50, 48, 50, 54, 48] (by simp) w
  rwa [show S (shownV [50, 48, 50, 54, 48]) = ⟨#[50, 48, 50, 54, 45, 48, 95, 45, 95, 95]⟩ from by kernel_rfl] at h
set_option maxRecDepth 100000 in
set_option maxHeartbeats 1000000 in
theorem awake20_any (w : World) : Calls Try.prog 13 #[] w fun r w' => r = .returned (.bool true) ∧ Below w.heap.size w w' := by
  go_enter Try.func13, Try.ntmps13
  go_wp2_with (first
    | (go_at_call 29; refine (aw_months _).mono ?_; rintro e w1 ⟨rfl, hb1⟩)
    | (go_at_call_of 17 (Value.string ⟨#[50, 48, 50, 52, 48, 50, 50]⟩); refine (aw_push1 _).mono ?_; rintro e w2 ⟨rfl, hb2⟩)
    | (go_at_call_of 17 (Value.string ⟨#[50, 48, 50, 51, 48, 50, 50]⟩); refine (aw_push2 _).mono ?_; rintro e w3 ⟨rfl, hb3⟩)
    | (go_at_call 12; refine (aw_days _).mono ?_; rintro e w4 ⟨rfl, hb4⟩)
    | (go_at_call 23; refine (aw_shown _).mono ?_; rintro e w5 ⟨rfl, hb5⟩))
  go_ret
  exact ⟨rfl, bnext (bnext (bnext (bnext hb1 hb2) hb3) hb4) hb5⟩
theorem u8_of {c : Int} (h : (Lit.int .u8 c).wf = true) : ∃ b : UInt8, c = b.toNat := by
  have := bounds_u8 h
  refine ⟨UInt8.ofNat c.toNat, ?_⟩
  simp
  omega
set_option maxRecDepth 100000 in
set_option maxHeartbeats 2000000 in
theorem dateDigits_law (s : ByteArray) (c : Int) (w : World) (_ : s.size ≤ maxLen) (hc : (Lit.int .u8 c).wf = true) :
    Calls Try.prog 4 #[.string s, .int .u8 c] w fun e w' => e = .returned (.bool true) ∧ Below w.heap.size w w' := by
  obtain ⟨b, rfl⟩ := u8_of hc
  clear hc
  go_enter Try.func4, Try.ntmps4
  go_wp2_with fail
  refine (cut_any s w).mono ?_
  rintro e w' ⟨⟨l, hl, rfl⟩, rfl⟩
  have C1 := Lib.hid (fun W => push_any l b (by omega) W)
  have C2 := Lib.hid (fun W => refPush_any l b (by omega) W)
  have C3 := Lib.hid (fun W => of_any l (by omega) W)
  have C4 := Lib.hid (fun W => refOf_any l (by omega) W)
  have C5 := Lib.hid (fun W => begins20_any l (by omega) W)
  have C6 := Lib.hid (fun W => refBegins_any l W)
  have C7 := Lib.hid (fun W => shown20_any l (by omega) W)
  have C8 := Lib.hid (fun W => refShown_any l W)
  go_wp2_with (first
    | (go_at_call 17; refine (C1.out _).mono ?_; rintro e w1 ⟨rfl, hb1⟩)
    | (go_at_call 18; refine (C2.out _).mono ?_; rintro e w2 ⟨rfl, hb2⟩)
    | (go_at_call 19; refine (C3.out _).mono ?_; rintro e w3 ⟨rfl, hb3⟩)
    | (go_at_call 20; refine (C4.out _).mono ?_; rintro e w4 ⟨rfl, hb4⟩)
    | (go_at_call 21; refine (C5.out _).mono ?_; rintro e w5 ⟨rfl, hb5⟩)
    | (go_at_call 22; refine (C6.out _).mono ?_; rintro e w6 ⟨rfl, hb6⟩)
    | (go_at_call 23; refine (C7.out _).mono ?_; rintro e w7 ⟨rfl, hb7⟩)
    | (go_at_call 24; refine (C8.out _).mono ?_; rintro e w8 ⟨rfl, hb8⟩)
    | (go_at_call 13; refine (awake20_any _).mono ?_; rintro e w9 ⟨rfl, hb9⟩))
  go_ret
  exact ⟨rfl, bnext (bnext (bnext (bnext (bnext (bnext (bnext (bnext hb1 hb2) hb3) hb4) hb5) hb6) hb7) hb8) hb9⟩
end Go.Proofs.Ytdekjlkpinallaa
