/-
  No cell of these rows narrows 'for every input' (looked for: loops, veiled, ifaces, maps, wideKeys, modest, calm, conditions, laid).
  DERIVED. THE GIVEN ROWS OF THIS SEAT. 5 by the template 'for every input the law returns true; each argument reads behind the call as it read before'; 0 by the template 'total and deterministic' (their statements: YtnakgjcmepimiaaTotals.lean).
  GIVEN WITH THE SEED: the statements are not yours to turn. If you find one false, say at which input.
  Laid BY PROGRAM, IN A SANDBOX (cutbox-rows.mjs): the forced cells as the released guide's own fill.sh prints them over the translation ade8459c0b55e93b… (all of the seat's roots in one cut). By AI agents, Wed Nov 11 2026. No macro, syntax, notation, axiom, sorry.
-/
import Derived.Test.YtnakgjcmepimiaaChecked
import GoSem.Claim
import GoSem.ClaimJoined
import GoSem.ClaimMapViews
import Derived.JoinedTies
import Derived.KernelRfl
namespace Go.Proofs.Ytnakgjcmepimiaa
/- THE CELL 'sum', in the pinned program and in every row, IS THE sha256 OF THE DUMP (.gsa) THAT YtnakgjcmepimiaaProg.lean LOADS. Nothing in Lean hashes anything: it is a label: what it is worth is what the hold of that sum in a sandbox is worth. -/
noncomputable def Try.pinned : Pinned := { name := "ytnakgjcmepimiaa", sum := "ade8459c0b55e93bb11320519e257a33194ded07a0be32f176011a41ffddd9ed", checked := Try.checked }
namespace Rows
def none {H : Type} : Left H := { results := [], args := [] }

/-- 'placardlaw09.FrameWrites': WHATEVER THE INPUT: true; the input reads as it did. -/
def frameWritesSpec : ChangeSpec := { name := "frameWrites", fn := fun _ => fun
  | [d1, d2, d3] => { results := [.lit (.bool true)], args := [d1, d2, d3] }
  | _ => none }
def frameWritesRow : OpenClaim := { program := "ytnakgjcmepimiaa", sum := "ade8459c0b55e93bb11320519e257a33194ded07a0be32f176011a41ffddd9ed", func := "placard/placardlaw09.FrameWrites", spec := "frameWrites", inPlace := ["internal/abi.NoEscape", "internal/bytealg.MakeNoZero"], unfollowed := true, recurses := true, apart := false }
def FrameWritesSaid : Prop := frameWritesRow.holds Try.pinned (OpenSpec.ofChange frameWritesSpec)

/-- ITS FALSE NEIGHBOUR: 'it returns false'. Refute it at one input. -/
def frameWritesWrong : ChangeSpec := { name := "frameWrites", fn := fun _ => fun
  | [d1, d2, d3] => { results := [.lit (.bool false)], args := [d1, d2, d3] }
  | _ => none }
def FrameWritesWrongFalsely : Prop := frameWritesRow.holds Try.pinned (OpenSpec.ofChange frameWritesWrong)

/-- 'placardlaw09.FrameChecks': WHATEVER THE INPUT: true; the input reads as it did. -/
def frameChecksSpec : ChangeSpec := { name := "frameChecks", fn := fun _ => fun
  | [d1, d2, d3] => { results := [.lit (.bool true)], args := [d1, d2, d3] }
  | _ => none }
def frameChecksRow : OpenClaim := { program := "ytnakgjcmepimiaa", sum := "ade8459c0b55e93bb11320519e257a33194ded07a0be32f176011a41ffddd9ed", func := "placard/placardlaw09.FrameChecks", spec := "frameChecks", inPlace := ["internal/abi.NoEscape", "internal/bytealg.MakeNoZero"], unfollowed := true, recurses := true, apart := false }
def FrameChecksSaid : Prop := frameChecksRow.holds Try.pinned (OpenSpec.ofChange frameChecksSpec)

/-- ITS FALSE NEIGHBOUR: 'it returns false'. Refute it at one input. -/
def frameChecksWrong : ChangeSpec := { name := "frameChecks", fn := fun _ => fun
  | [d1, d2, d3] => { results := [.lit (.bool false)], args := [d1, d2, d3] }
  | _ => none }
def FrameChecksWrongFalsely : Prop := frameChecksRow.holds Try.pinned (OpenSpec.ofChange frameChecksWrong)

/-- 'placardlaw09.FrameNobody': WHATEVER THE INPUT: true; the input reads as it did. -/
def frameNobodySpec : ChangeSpec := { name := "frameNobody", fn := fun _ => fun
  | [d] => { results := [.lit (.bool true)], args := [d] }
  | _ => none }
def frameNobodyRow : OpenClaim := { program := "ytnakgjcmepimiaa", sum := "ade8459c0b55e93bb11320519e257a33194ded07a0be32f176011a41ffddd9ed", func := "placard/placardlaw09.FrameNobody", spec := "frameNobody", inPlace := ["internal/abi.NoEscape", "internal/bytealg.MakeNoZero"], unfollowed := true, recurses := true, apart := false }
def FrameNobodySaid : Prop := frameNobodyRow.holds Try.pinned (OpenSpec.ofChange frameNobodySpec)

/-- ITS FALSE NEIGHBOUR: 'it returns false'. Refute it at one input. -/
def frameNobodyWrong : ChangeSpec := { name := "frameNobody", fn := fun _ => fun
  | [d] => { results := [.lit (.bool false)], args := [d] }
  | _ => none }
def FrameNobodyWrongFalsely : Prop := frameNobodyRow.holds Try.pinned (OpenSpec.ofChange frameNobodyWrong)

/-- 'placardlaw05.TermPlain': WHATEVER THE INPUT: true; the input reads as it did. -/
def termPlainSpec : ChangeSpec := { name := "termPlain", fn := fun _ => fun
  | [d1, d2] => { results := [.lit (.bool true)], args := [d1, d2] }
  | _ => none }
def termPlainRow : OpenClaim := { program := "ytnakgjcmepimiaa", sum := "ade8459c0b55e93bb11320519e257a33194ded07a0be32f176011a41ffddd9ed", func := "placard/placardlaw05.TermPlain", spec := "termPlain", unfollowed := true, recurses := true, apart := false }
def TermPlainSaid : Prop := termPlainRow.holds Try.pinned (OpenSpec.ofChange termPlainSpec)

/-- ITS FALSE NEIGHBOUR: 'it returns false'. Refute it at one input. -/
def termPlainWrong : ChangeSpec := { name := "termPlain", fn := fun _ => fun
  | [d1, d2] => { results := [.lit (.bool false)], args := [d1, d2] }
  | _ => none }
def TermPlainWrongFalsely : Prop := termPlainRow.holds Try.pinned (OpenSpec.ofChange termPlainWrong)

/-- 'placardlaw05.TermNobody': WHATEVER THE INPUT: true; the input reads as it did. -/
def termNobodySpec : ChangeSpec := { name := "termNobody", fn := fun _ => fun
  | [d1, d2] => { results := [.lit (.bool true)], args := [d1, d2] }
  | _ => none }
def termNobodyRow : OpenClaim := { program := "ytnakgjcmepimiaa", sum := "ade8459c0b55e93bb11320519e257a33194ded07a0be32f176011a41ffddd9ed", func := "placard/placardlaw05.TermNobody", spec := "termNobody", unfollowed := true, recurses := true, apart := false }
def TermNobodySaid : Prop := termNobodyRow.holds Try.pinned (OpenSpec.ofChange termNobodySpec)

/-- ITS FALSE NEIGHBOUR: 'it returns false'. Refute it at one input. -/
def termNobodyWrong : ChangeSpec := { name := "termNobody", fn := fun _ => fun
  | [d1, d2] => { results := [.lit (.bool false)], args := [d1, d2] }
  | _ => none }
def TermNobodyWrongFalsely : Prop := termNobodyRow.holds Try.pinned (OpenSpec.ofChange termNobodyWrong)

/- THE SECOND FORM. 'bulk': how many values and letters a reading holds, each counted each time it is reached (what is shared counts as often as it is met; a slice's spare places count too). A statement '..UptoSaid' is the law's where the arguments, and the package variables that the reading takes, are together of bulk at most 1048576: NARROWER than '..Said'. Prove '..Said' where nothing that the law and all that it calls make is longer than what came in: it says more and counts as full. Else prove '..UptoSaid'. A law counts once. -/
mutual
def uptoBulk {H : Type} : DataW H → Nat
  | .lit (.string bytes) => bytes.length + 1
  | .lit _ => 1
  | .nil => 1
  | .ptr d => uptoBulk d + 1
  | .slice elems spare => uptoBulkAll elems + uptoBulkAll spare + 1
  | .agg parts => uptoBulkAll parts + 1
  | .iface _ d => uptoBulk d + 1
  | .map entries => uptoBulkEntries entries + 1
  | .held _ => 1
def uptoBulkAll {H : Type} : List (DataW H) → Nat
  | [] => 0
  | d :: r => uptoBulk d + uptoBulkAll r
def uptoBulkEntries {H : Type} : List (Lit × DataW H) → Nat
  | [] => 0
  | x :: r => uptoBulkEntry x + uptoBulkEntries r
def uptoBulkEntry {H : Type} : Lit × DataW H → Nat
  | (.string bytes, d) => bytes.length + uptoBulk d + 1
  | (_, d) => uptoBulk d + 1
 end
def uptoSmall : (H : Type) → List (DataW H) → Bool := fun _ ds => decide (uptoBulkAll ds ≤ 1048576)
def OpenSpec.upto (s : _root_.Go.ChangeSpec) : _root_.Go.OpenSpec := { _root_.Go.OpenSpec.ofChange s with cond := some uptoSmall }

/-- 'placardlaw09.FrameWrites', WHERE WHAT IT READS IS OF BULK AT MOST 1048576: true; the input reads as it did. -/
def frameWritesUptoRow : OpenClaim := { program := "ytnakgjcmepimiaa", sum := "ade8459c0b55e93bb11320519e257a33194ded07a0be32f176011a41ffddd9ed", func := "placard/placardlaw09.FrameWrites", spec := "frameWrites", inPlace := ["internal/abi.NoEscape", "internal/bytealg.MakeNoZero"], unfollowed := true, recurses := true, apart := false, narrowed := true }
def FrameWritesUptoSaid : Prop := frameWritesUptoRow.holds Try.pinned (OpenSpec.upto frameWritesSpec)

/-- 'placardlaw09.FrameChecks', WHERE WHAT IT READS IS OF BULK AT MOST 1048576: true; the input reads as it did. -/
def frameChecksUptoRow : OpenClaim := { program := "ytnakgjcmepimiaa", sum := "ade8459c0b55e93bb11320519e257a33194ded07a0be32f176011a41ffddd9ed", func := "placard/placardlaw09.FrameChecks", spec := "frameChecks", inPlace := ["internal/abi.NoEscape", "internal/bytealg.MakeNoZero"], unfollowed := true, recurses := true, apart := false, narrowed := true }
def FrameChecksUptoSaid : Prop := frameChecksUptoRow.holds Try.pinned (OpenSpec.upto frameChecksSpec)

/-- 'placardlaw09.FrameNobody', WHERE WHAT IT READS IS OF BULK AT MOST 1048576: true; the input reads as it did. -/
def frameNobodyUptoRow : OpenClaim := { program := "ytnakgjcmepimiaa", sum := "ade8459c0b55e93bb11320519e257a33194ded07a0be32f176011a41ffddd9ed", func := "placard/placardlaw09.FrameNobody", spec := "frameNobody", inPlace := ["internal/abi.NoEscape", "internal/bytealg.MakeNoZero"], unfollowed := true, recurses := true, apart := false, narrowed := true }
def FrameNobodyUptoSaid : Prop := frameNobodyUptoRow.holds Try.pinned (OpenSpec.upto frameNobodySpec)

/-- 'placardlaw05.TermPlain', WHERE WHAT IT READS IS OF BULK AT MOST 1048576: true; the input reads as it did. -/
def termPlainUptoRow : OpenClaim := { program := "ytnakgjcmepimiaa", sum := "ade8459c0b55e93bb11320519e257a33194ded07a0be32f176011a41ffddd9ed", func := "placard/placardlaw05.TermPlain", spec := "termPlain", unfollowed := true, recurses := true, apart := false, narrowed := true }
def TermPlainUptoSaid : Prop := termPlainUptoRow.holds Try.pinned (OpenSpec.upto termPlainSpec)

/-- 'placardlaw05.TermNobody', WHERE WHAT IT READS IS OF BULK AT MOST 1048576: true; the input reads as it did. -/
def termNobodyUptoRow : OpenClaim := { program := "ytnakgjcmepimiaa", sum := "ade8459c0b55e93bb11320519e257a33194ded07a0be32f176011a41ffddd9ed", func := "placard/placardlaw05.TermNobody", spec := "termNobody", unfollowed := true, recurses := true, apart := false, narrowed := true }
def TermNobodyUptoSaid : Prop := termNobodyUptoRow.holds Try.pinned (OpenSpec.upto termNobodySpec)

end Rows
end Go.Proofs.Ytnakgjcmepimiaa
