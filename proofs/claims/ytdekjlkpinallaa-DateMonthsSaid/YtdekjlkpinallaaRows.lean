/-
  No cell of these rows narrows 'for every input' (looked for: loops, veiled, ifaces, maps, wideKeys, modest, calm, conditions, laid).
  DERIVED. THE GIVEN ROWS OF THIS SEAT. 6 by the template 'for every input the law returns true; each argument reads behind the call as it read before'; 0 by the template 'total and deterministic' (their statements: YtdekjlkpinallaaTotals.lean).
  GIVEN WITH THE SEED: the statements are not yours to turn. If you find one false, say at which input.
  Laid BY PROGRAM, IN A SANDBOX (cutbox-rows.mjs): the forced cells as the released guide's own fill.sh prints them over the translation c112e7f89b93a51c… (all of the seat's roots in one cut). By AI agents, Wed Nov 11 2026. No macro, syntax, notation, axiom, sorry.
-/
import Derived.Test.YtdekjlkpinallaaChecked
import GoSem.Claim
import GoSem.ClaimJoined
import GoSem.ClaimMapViews
import Derived.JoinedTies
import Derived.KernelRfl
namespace Go.Proofs.Ytdekjlkpinallaa
/- THE CELL 'sum', in the pinned program and in every row, IS THE sha256 OF THE DUMP (.gsa) THAT YtdekjlkpinallaaProg.lean LOADS. Nothing in Lean hashes anything: it is a label: what it is worth is what the hold of that sum in a sandbox is worth. -/
noncomputable def Try.pinned : Pinned := { name := "ytdekjlkpinallaa", sum := "c112e7f89b93a51c7782f6d63b10ecd4c4f6cb42a84940eddf23696ee9d381af", checked := Try.checked }
namespace Rows
def none {H : Type} : Left H := { results := [], args := [] }

/-- 'placardlaw20.DateMonths': WHATEVER THE INPUT: true; the input reads as it did. -/
def dateMonthsSpec : ChangeSpec := { name := "dateMonths", fn := fun _ => fun
  | [d1, d2, d3] => { results := [.lit (.bool true)], args := [d1, d2, d3] }
  | _ => none }
def dateMonthsRow : OpenClaim := { program := "ytdekjlkpinallaa", sum := "c112e7f89b93a51c7782f6d63b10ecd4c4f6cb42a84940eddf23696ee9d381af", func := "placard/placardlaw20.DateMonths", spec := "dateMonths", inPlace := ["internal/abi.NoEscape", "internal/bytealg.MakeNoZero"], unfollowed := true, recurses := true, apart := false }
def DateMonthsSaid : Prop := dateMonthsRow.holds Try.pinned (OpenSpec.ofChange dateMonthsSpec)

/-- ITS FALSE NEIGHBOUR: 'it returns false'. Refute it at one input. -/
def dateMonthsWrong : ChangeSpec := { name := "dateMonths", fn := fun _ => fun
  | [d1, d2, d3] => { results := [.lit (.bool false)], args := [d1, d2, d3] }
  | _ => none }
def DateMonthsWrongFalsely : Prop := dateMonthsRow.holds Try.pinned (OpenSpec.ofChange dateMonthsWrong)

/-- 'placardlaw20.DateDigits': WHATEVER THE INPUT: true; the input reads as it did. -/
def dateDigitsSpec : ChangeSpec := { name := "dateDigits", fn := fun _ => fun
  | [d1, d2] => { results := [.lit (.bool true)], args := [d1, d2] }
  | _ => none }
def dateDigitsRow : OpenClaim := { program := "ytdekjlkpinallaa", sum := "c112e7f89b93a51c7782f6d63b10ecd4c4f6cb42a84940eddf23696ee9d381af", func := "placard/placardlaw20.DateDigits", spec := "dateDigits", inPlace := ["internal/abi.NoEscape", "internal/bytealg.MakeNoZero"], unfollowed := true, recurses := true, apart := false }
def DateDigitsSaid : Prop := dateDigitsRow.holds Try.pinned (OpenSpec.ofChange dateDigitsSpec)

/-- ITS FALSE NEIGHBOUR: 'it returns false'. Refute it at one input. -/
def dateDigitsWrong : ChangeSpec := { name := "dateDigits", fn := fun _ => fun
  | [d1, d2] => { results := [.lit (.bool false)], args := [d1, d2] }
  | _ => none }
def DateDigitsWrongFalsely : Prop := dateDigitsRow.holds Try.pinned (OpenSpec.ofChange dateDigitsWrong)

/-- 'placardlaw20.DateTyped': WHATEVER THE INPUT: true; the input reads as it did. -/
def dateTypedSpec : ChangeSpec := { name := "dateTyped", fn := fun _ => fun
  | [d] => { results := [.lit (.bool true)], args := [d] }
  | _ => none }
def dateTypedRow : OpenClaim := { program := "ytdekjlkpinallaa", sum := "c112e7f89b93a51c7782f6d63b10ecd4c4f6cb42a84940eddf23696ee9d381af", func := "placard/placardlaw20.DateTyped", spec := "dateTyped", inPlace := ["internal/abi.NoEscape", "internal/bytealg.MakeNoZero"], unfollowed := true, recurses := true, apart := false }
def DateTypedSaid : Prop := dateTypedRow.holds Try.pinned (OpenSpec.ofChange dateTypedSpec)

/-- ITS FALSE NEIGHBOUR: 'it returns false'. Refute it at one input. -/
def dateTypedWrong : ChangeSpec := { name := "dateTyped", fn := fun _ => fun
  | [d] => { results := [.lit (.bool false)], args := [d] }
  | _ => none }
def DateTypedWrongFalsely : Prop := dateTypedRow.holds Try.pinned (OpenSpec.ofChange dateTypedWrong)

/-- 'placardlaw20.DateAdds': WHATEVER THE INPUT: true; the input reads as it did. -/
def dateAddsSpec : ChangeSpec := { name := "dateAdds", fn := fun _ => fun
  | [d1, d2, d3] => { results := [.lit (.bool true)], args := [d1, d2, d3] }
  | _ => none }
def dateAddsRow : OpenClaim := { program := "ytdekjlkpinallaa", sum := "c112e7f89b93a51c7782f6d63b10ecd4c4f6cb42a84940eddf23696ee9d381af", func := "placard/placardlaw20.DateAdds", spec := "dateAdds", inPlace := ["internal/abi.NoEscape", "internal/bytealg.MakeNoZero"], unfollowed := true, recurses := true, apart := false }
def DateAddsSaid : Prop := dateAddsRow.holds Try.pinned (OpenSpec.ofChange dateAddsSpec)

/-- ITS FALSE NEIGHBOUR: 'it returns false'. Refute it at one input. -/
def dateAddsWrong : ChangeSpec := { name := "dateAdds", fn := fun _ => fun
  | [d1, d2, d3] => { results := [.lit (.bool false)], args := [d1, d2, d3] }
  | _ => none }
def DateAddsWrongFalsely : Prop := dateAddsRow.holds Try.pinned (OpenSpec.ofChange dateAddsWrong)

/-- 'placardlaw20.DateOrder': WHATEVER THE INPUT: true; the input reads as it did. -/
def dateOrderSpec : ChangeSpec := { name := "dateOrder", fn := fun _ => fun
  | [d1, d2] => { results := [.lit (.bool true)], args := [d1, d2] }
  | _ => none }
def dateOrderRow : OpenClaim := { program := "ytdekjlkpinallaa", sum := "c112e7f89b93a51c7782f6d63b10ecd4c4f6cb42a84940eddf23696ee9d381af", func := "placard/placardlaw20.DateOrder", spec := "dateOrder", inPlace := ["internal/abi.NoEscape", "internal/bytealg.MakeNoZero"], unfollowed := true, recurses := true, apart := false }
def DateOrderSaid : Prop := dateOrderRow.holds Try.pinned (OpenSpec.ofChange dateOrderSpec)

/-- ITS FALSE NEIGHBOUR: 'it returns false'. Refute it at one input. -/
def dateOrderWrong : ChangeSpec := { name := "dateOrder", fn := fun _ => fun
  | [d1, d2] => { results := [.lit (.bool false)], args := [d1, d2] }
  | _ => none }
def DateOrderWrongFalsely : Prop := dateOrderRow.holds Try.pinned (OpenSpec.ofChange dateOrderWrong)

/-- 'placardlaw20.DateTexts': WHATEVER THE INPUT: true; the input reads as it did. -/
def dateTextsSpec : ChangeSpec := { name := "dateTexts", fn := fun _ => fun
  | [d1, d2] => { results := [.lit (.bool true)], args := [d1, d2] }
  | _ => none }
def dateTextsRow : OpenClaim := { program := "ytdekjlkpinallaa", sum := "c112e7f89b93a51c7782f6d63b10ecd4c4f6cb42a84940eddf23696ee9d381af", func := "placard/placardlaw20.DateTexts", spec := "dateTexts", inPlace := ["internal/abi.NoEscape", "internal/bytealg.MakeNoZero"], unfollowed := true, recurses := true, apart := false }
def DateTextsSaid : Prop := dateTextsRow.holds Try.pinned (OpenSpec.ofChange dateTextsSpec)

/-- ITS FALSE NEIGHBOUR: 'it returns false'. Refute it at one input. -/
def dateTextsWrong : ChangeSpec := { name := "dateTexts", fn := fun _ => fun
  | [d1, d2] => { results := [.lit (.bool false)], args := [d1, d2] }
  | _ => none }
def DateTextsWrongFalsely : Prop := dateTextsRow.holds Try.pinned (OpenSpec.ofChange dateTextsWrong)

/- THE SECOND FORM. 'bulk': how many values and letters a reading holds, each counted each time it is reached (what is shared counts as often as it is met; a slice's spare places count too). A statement '..UptoSaid' is the law's where the arguments, and the package variables that the reading takes, are together of bulk at most 1048576: NARROWER than '..Said'. Prove '..Said' where nothing that the law and all that it calls make is longer than what came in: it says more and counts as full. Else prove '..UptoSaid'. A law counts once. -/
mutual
def uptoBulk {H : Type} : DataW H → Nat
  | .lit (.string bytes) => bytes.length + 1
  | .lit _ => 1
  | .nil => 1
  | .ptr d => uptoBulk d + 1
  | .slice elems spare => uptoBulkAll elems + uptoBulkAll spare + 1
  | .agg parts => uptoBulkAll parts + 1
  | .iface _ d => uptoBulk d + 1
  | .map entries => uptoBulkEntries entries + 1
  | .held _ => 1
def uptoBulkAll {H : Type} : List (DataW H) → Nat
  | [] => 0
  | d :: r => uptoBulk d + uptoBulkAll r
def uptoBulkEntries {H : Type} : List (Lit × DataW H) → Nat
  | [] => 0
  | x :: r => uptoBulkEntry x + uptoBulkEntries r
def uptoBulkEntry {H : Type} : Lit × DataW H → Nat
  | (.string bytes, d) => bytes.length + uptoBulk d + 1
  | (_, d) => uptoBulk d + 1
 end
def uptoSmall : (H : Type) → List (DataW H) → Bool := fun _ ds => decide (uptoBulkAll ds ≤ 1048576)
def OpenSpec.upto (s : _root_.Go.ChangeSpec) : _root_.Go.OpenSpec := { _root_.Go.OpenSpec.ofChange s with cond := some uptoSmall }

/-- 'placardlaw20.DateMonths', WHERE WHAT IT READS IS OF BULK AT MOST 1048576: true; the input reads as it did. -/
def dateMonthsUptoRow : OpenClaim := { program := "ytdekjlkpinallaa", sum := "c112e7f89b93a51c7782f6d63b10ecd4c4f6cb42a84940eddf23696ee9d381af", func := "placard/placardlaw20.DateMonths", spec := "dateMonths", inPlace := ["internal/abi.NoEscape", "internal/bytealg.MakeNoZero"], unfollowed := true, recurses := true, apart := false, narrowed := true }
def DateMonthsUptoSaid : Prop := dateMonthsUptoRow.holds Try.pinned (OpenSpec.upto dateMonthsSpec)

/-- 'placardlaw20.DateDigits', WHERE WHAT IT READS IS OF BULK AT MOST 1048576: true; the input reads as it did. -/
def dateDigitsUptoRow : OpenClaim := { program := "ytdekjlkpinallaa", sum := "c112e7f89b93a51c7782f6d63b10ecd4c4f6cb42a84940eddf23696ee9d381af", func := "placard/placardlaw20.DateDigits", spec := "dateDigits", inPlace := ["internal/abi.NoEscape", "internal/bytealg.MakeNoZero"], unfollowed := true, recurses := true, apart := false, narrowed := true }
def DateDigitsUptoSaid : Prop := dateDigitsUptoRow.holds Try.pinned (OpenSpec.upto dateDigitsSpec)

/-- 'placardlaw20.DateTyped', WHERE WHAT IT READS IS OF BULK AT MOST 1048576: true; the input reads as it did. -/
def dateTypedUptoRow : OpenClaim := { program := "ytdekjlkpinallaa", sum := "c112e7f89b93a51c7782f6d63b10ecd4c4f6cb42a84940eddf23696ee9d381af", func := "placard/placardlaw20.DateTyped", spec := "dateTyped", inPlace := ["internal/abi.NoEscape", "internal/bytealg.MakeNoZero"], unfollowed := true, recurses := true, apart := false, narrowed := true }
def DateTypedUptoSaid : Prop := dateTypedUptoRow.holds Try.pinned (OpenSpec.upto dateTypedSpec)

/-- 'placardlaw20.DateAdds', WHERE WHAT IT READS IS OF BULK AT MOST 1048576: true; the input reads as it did. -/
def dateAddsUptoRow : OpenClaim := { program := "ytdekjlkpinallaa", sum := "c112e7f89b93a51c7782f6d63b10ecd4c4f6cb42a84940eddf23696ee9d381af", func := "placard/placardlaw20.DateAdds", spec := "dateAdds", inPlace := ["internal/abi.NoEscape", "internal/bytealg.MakeNoZero"], unfollowed := true, recurses := true, apart := false, narrowed := true }
def DateAddsUptoSaid : Prop := dateAddsUptoRow.holds Try.pinned (OpenSpec.upto dateAddsSpec)

/-- 'placardlaw20.DateOrder', WHERE WHAT IT READS IS OF BULK AT MOST 1048576: true; the input reads as it did. -/
def dateOrderUptoRow : OpenClaim := { program := "ytdekjlkpinallaa", sum := "c112e7f89b93a51c7782f6d63b10ecd4c4f6cb42a84940eddf23696ee9d381af", func := "placard/placardlaw20.DateOrder", spec := "dateOrder", inPlace := ["internal/abi.NoEscape", "internal/bytealg.MakeNoZero"], unfollowed := true, recurses := true, apart := false, narrowed := true }
def DateOrderUptoSaid : Prop := dateOrderUptoRow.holds Try.pinned (OpenSpec.upto dateOrderSpec)

/-- 'placardlaw20.DateTexts', WHERE WHAT IT READS IS OF BULK AT MOST 1048576: true; the input reads as it did. -/
def dateTextsUptoRow : OpenClaim := { program := "ytdekjlkpinallaa", sum := "c112e7f89b93a51c7782f6d63b10ecd4c4f6cb42a84940eddf23696ee9d381af", func := "placard/placardlaw20.DateTexts", spec := "dateTexts", inPlace := ["internal/abi.NoEscape", "internal/bytealg.MakeNoZero"], unfollowed := true, recurses := true, apart := false, narrowed := true }
def DateTextsUptoSaid : Prop := dateTextsUptoRow.holds Try.pinned (OpenSpec.upto dateTextsSpec)

end Rows
end Go.Proofs.Ytdekjlkpinallaa
