/-
  No cell of these rows narrows 'for every input' (looked for: loops, veiled, ifaces, maps, wideKeys, modest, calm, conditions, laid).
  DERIVED. THE GIVEN ROWS OF THIS SEAT. 12 by the template 'for every input the law returns true; each argument reads behind the call as it read before'; 0 by the template 'total and deterministic' (their statements: YtcihcjlaamfjfaaTotals.lean).
  GIVEN WITH THE SEED: the statements are not yours to turn. If you find one false, say at which input.
  Laid BY PROGRAM, IN A SANDBOX (cutbox-rows.mjs): the forced cells as the released guide's own fill.sh prints them over the translation 727a110e26302261… (all of the seat's roots in one cut). By AI agents, Wed Nov 11 2026. No macro, syntax, notation, axiom, sorry.
-/
import Derived.Test.YtcihcjlaamfjfaaChecked
import GoSem.Claim
import GoSem.ClaimJoined
import GoSem.ClaimMapViews
import Derived.JoinedTies
import Derived.KernelRfl
namespace Go.Proofs.Ytcihcjlaamfjfaa
/- THE CELL 'sum', in the pinned program and in every row, IS THE sha256 OF THE DUMP (.gsa) THAT YtcihcjlaamfjfaaProg.lean LOADS. Nothing in Lean hashes anything: it is a label: what it is worth is what the hold of that sum in a sandbox is worth. -/
noncomputable def Try.pinned : Pinned := { name := "ytcihcjlaamfjfaa", sum := "727a110e26302261219f3a44e7f0e5815a91e50ab76415a04b114884434dc0c2", checked := Try.checked }
namespace Rows
def none {H : Type} : Left H := { results := [], args := [] }

/-- 'placardlaw02.WidthRanges': WHATEVER THE INPUT: true; the input reads as it did. -/
def widthRangesSpec : ChangeSpec := { name := "widthRanges", fn := fun _ => fun
  | [d1, d2] => { results := [.lit (.bool true)], args := [d1, d2] }
  | _ => none }
def widthRangesRow : OpenClaim := { program := "ytcihcjlaamfjfaa", sum := "727a110e26302261219f3a44e7f0e5815a91e50ab76415a04b114884434dc0c2", func := "placard/placardlaw02.WidthRanges", spec := "widthRanges", unfollowed := true, recurses := true, apart := false }
def WidthRangesSaid : Prop := widthRangesRow.holds Try.pinned (OpenSpec.ofChange widthRangesSpec)

/-- ITS FALSE NEIGHBOUR: 'it returns false'. Refute it at one input. -/
def widthRangesWrong : ChangeSpec := { name := "widthRanges", fn := fun _ => fun
  | [d1, d2] => { results := [.lit (.bool false)], args := [d1, d2] }
  | _ => none }
def WidthRangesWrongFalsely : Prop := widthRangesRow.holds Try.pinned (OpenSpec.ofChange widthRangesWrong)

/-- 'placardlaw02.WidthOf': WHATEVER THE INPUT: true; the input reads as it did. -/
def widthOfSpec : ChangeSpec := { name := "widthOf", fn := fun _ => fun
  | [d] => { results := [.lit (.bool true)], args := [d] }
  | _ => none }
def widthOfRow : OpenClaim := { program := "ytcihcjlaamfjfaa", sum := "727a110e26302261219f3a44e7f0e5815a91e50ab76415a04b114884434dc0c2", func := "placard/placardlaw02.WidthOf", spec := "widthOf", unfollowed := true, recurses := true, apart := false }
def WidthOfSaid : Prop := widthOfRow.holds Try.pinned (OpenSpec.ofChange widthOfSpec)

/-- ITS FALSE NEIGHBOUR: 'it returns false'. Refute it at one input. -/
def widthOfWrong : ChangeSpec := { name := "widthOf", fn := fun _ => fun
  | [d] => { results := [.lit (.bool false)], args := [d] }
  | _ => none }
def WidthOfWrongFalsely : Prop := widthOfRow.holds Try.pinned (OpenSpec.ofChange widthOfWrong)

/-- 'placardlaw02.WidthYields': WHATEVER THE INPUT: true; the input reads as it did. -/
def widthYieldsSpec : ChangeSpec := { name := "widthYields", fn := fun _ => fun
  | [d1, d2] => { results := [.lit (.bool true)], args := [d1, d2] }
  | _ => none }
def widthYieldsRow : OpenClaim := { program := "ytcihcjlaamfjfaa", sum := "727a110e26302261219f3a44e7f0e5815a91e50ab76415a04b114884434dc0c2", func := "placard/placardlaw02.WidthYields", spec := "widthYields", unfollowed := true, recurses := true, apart := false }
def WidthYieldsSaid : Prop := widthYieldsRow.holds Try.pinned (OpenSpec.ofChange widthYieldsSpec)

/-- ITS FALSE NEIGHBOUR: 'it returns false'. Refute it at one input. -/
def widthYieldsWrong : ChangeSpec := { name := "widthYields", fn := fun _ => fun
  | [d1, d2] => { results := [.lit (.bool false)], args := [d1, d2] }
  | _ => none }
def WidthYieldsWrongFalsely : Prop := widthYieldsRow.holds Try.pinned (OpenSpec.ofChange widthYieldsWrong)

/-- 'placardlaw02.WidthSums': WHATEVER THE INPUT: true; the input reads as it did. -/
def widthSumsSpec : ChangeSpec := { name := "widthSums", fn := fun _ => fun
  | [d1, d2] => { results := [.lit (.bool true)], args := [d1, d2] }
  | _ => none }
def widthSumsRow : OpenClaim := { program := "ytcihcjlaamfjfaa", sum := "727a110e26302261219f3a44e7f0e5815a91e50ab76415a04b114884434dc0c2", func := "placard/placardlaw02.WidthSums", spec := "widthSums", unfollowed := true, recurses := true, apart := false }
def WidthSumsSaid : Prop := widthSumsRow.holds Try.pinned (OpenSpec.ofChange widthSumsSpec)

/-- ITS FALSE NEIGHBOUR: 'it returns false'. Refute it at one input. -/
def widthSumsWrong : ChangeSpec := { name := "widthSums", fn := fun _ => fun
  | [d1, d2] => { results := [.lit (.bool false)], args := [d1, d2] }
  | _ => none }
def WidthSumsWrongFalsely : Prop := widthSumsRow.holds Try.pinned (OpenSpec.ofChange widthSumsWrong)

/-- 'placardlaw06.EscMoves': WHATEVER THE INPUT: true; the input reads as it did. -/
def escMovesSpec : ChangeSpec := { name := "escMoves", fn := fun _ => fun
  | [d1, d2, d3, d4, d5] => { results := [.lit (.bool true)], args := [d1, d2, d3, d4, d5] }
  | _ => none }
def escMovesRow : OpenClaim := { program := "ytcihcjlaamfjfaa", sum := "727a110e26302261219f3a44e7f0e5815a91e50ab76415a04b114884434dc0c2", func := "placard/placardlaw06.EscMoves", spec := "escMoves", recurses := true, apart := false }
def EscMovesSaid : Prop := escMovesRow.holds Try.pinned (OpenSpec.ofChange escMovesSpec)

/-- ITS FALSE NEIGHBOUR: 'it returns false'. Refute it at one input. -/
def escMovesWrong : ChangeSpec := { name := "escMoves", fn := fun _ => fun
  | [d1, d2, d3, d4, d5] => { results := [.lit (.bool false)], args := [d1, d2, d3, d4, d5] }
  | _ => none }
def EscMovesWrongFalsely : Prop := escMovesRow.holds Try.pinned (OpenSpec.ofChange escMovesWrong)

/-- 'placardlaw06.EscStrips': WHATEVER THE INPUT: true; the input reads as it did. -/
def escStripsSpec : ChangeSpec := { name := "escStrips", fn := fun _ => fun
  | [d] => { results := [.lit (.bool true)], args := [d] }
  | _ => none }
def escStripsRow : OpenClaim := { program := "ytcihcjlaamfjfaa", sum := "727a110e26302261219f3a44e7f0e5815a91e50ab76415a04b114884434dc0c2", func := "placard/placardlaw06.EscStrips", spec := "escStrips", apart := false }
def EscStripsSaid : Prop := escStripsRow.holds Try.pinned (OpenSpec.ofChange escStripsSpec)

/-- ITS FALSE NEIGHBOUR: 'it returns false'. Refute it at one input. -/
def escStripsWrong : ChangeSpec := { name := "escStrips", fn := fun _ => fun
  | [d] => { results := [.lit (.bool false)], args := [d] }
  | _ => none }
def EscStripsWrongFalsely : Prop := escStripsRow.holds Try.pinned (OpenSpec.ofChange escStripsWrong)

/-- 'placardlaw06.EscStyles': WHATEVER THE INPUT: true; the input reads as it did. -/
def escStylesSpec : ChangeSpec := { name := "escStyles", fn := fun _ => fun
  | [d1, d2] => { results := [.lit (.bool true)], args := [d1, d2] }
  | _ => none }
def escStylesRow : OpenClaim := { program := "ytcihcjlaamfjfaa", sum := "727a110e26302261219f3a44e7f0e5815a91e50ab76415a04b114884434dc0c2", func := "placard/placardlaw06.EscStyles", spec := "escStyles", recurses := true, apart := false }
def EscStylesSaid : Prop := escStylesRow.holds Try.pinned (OpenSpec.ofChange escStylesSpec)

/-- ITS FALSE NEIGHBOUR: 'it returns false'. Refute it at one input. -/
def escStylesWrong : ChangeSpec := { name := "escStyles", fn := fun _ => fun
  | [d1, d2] => { results := [.lit (.bool false)], args := [d1, d2] }
  | _ => none }
def EscStylesWrongFalsely : Prop := escStylesRow.holds Try.pinned (OpenSpec.ofChange escStylesWrong)

/-- 'placardlaw04.GridYields': WHATEVER THE INPUT: true; the input reads as it did. -/
def gridYieldsSpec : ChangeSpec := { name := "gridYields", fn := fun _ => fun
  | [d1, d2] => { results := [.lit (.bool true)], args := [d1, d2] }
  | _ => none }
def gridYieldsRow : OpenClaim := { program := "ytcihcjlaamfjfaa", sum := "727a110e26302261219f3a44e7f0e5815a91e50ab76415a04b114884434dc0c2", func := "placard/placardlaw04.GridYields", spec := "gridYields", unfollowed := true, recurses := true, apart := false }
def GridYieldsSaid : Prop := gridYieldsRow.holds Try.pinned (OpenSpec.ofChange gridYieldsSpec)

/-- ITS FALSE NEIGHBOUR: 'it returns false'. Refute it at one input. -/
def gridYieldsWrong : ChangeSpec := { name := "gridYields", fn := fun _ => fun
  | [d1, d2] => { results := [.lit (.bool false)], args := [d1, d2] }
  | _ => none }
def GridYieldsWrongFalsely : Prop := gridYieldsRow.holds Try.pinned (OpenSpec.ofChange gridYieldsWrong)

/-- 'placardlaw06.EscFixed': WHATEVER THE INPUT: true; the input reads as it did. -/
def escFixedSpec : ChangeSpec := { name := "escFixed", fn := fun _ => fun
  | [d1, d2] => { results := [.lit (.bool true)], args := [d1, d2] }
  | _ => none }
def escFixedRow : OpenClaim := { program := "ytcihcjlaamfjfaa", sum := "727a110e26302261219f3a44e7f0e5815a91e50ab76415a04b114884434dc0c2", func := "placard/placardlaw06.EscFixed", spec := "escFixed", apart := false }
def EscFixedSaid : Prop := escFixedRow.holds Try.pinned (OpenSpec.ofChange escFixedSpec)

/-- ITS FALSE NEIGHBOUR: 'it returns false'. Refute it at one input. -/
def escFixedWrong : ChangeSpec := { name := "escFixed", fn := fun _ => fun
  | [d1, d2] => { results := [.lit (.bool false)], args := [d1, d2] }
  | _ => none }
def EscFixedWrongFalsely : Prop := escFixedRow.holds Try.pinned (OpenSpec.ofChange escFixedWrong)

/-- 'placardlaw04.GridPuts': WHATEVER THE INPUT: true; the input reads as it did. -/
def gridPutsSpec : ChangeSpec := { name := "gridPuts", fn := fun _ => fun
  | [d1, d2] => { results := [.lit (.bool true)], args := [d1, d2] }
  | _ => none }
def gridPutsRow : OpenClaim := { program := "ytcihcjlaamfjfaa", sum := "727a110e26302261219f3a44e7f0e5815a91e50ab76415a04b114884434dc0c2", func := "placard/placardlaw04.GridPuts", spec := "gridPuts", unfollowed := true, recurses := true, apart := false }
def GridPutsSaid : Prop := gridPutsRow.holds Try.pinned (OpenSpec.ofChange gridPutsSpec)

/-- ITS FALSE NEIGHBOUR: 'it returns false'. Refute it at one input. -/
def gridPutsWrong : ChangeSpec := { name := "gridPuts", fn := fun _ => fun
  | [d1, d2] => { results := [.lit (.bool false)], args := [d1, d2] }
  | _ => none }
def GridPutsWrongFalsely : Prop := gridPutsRow.holds Try.pinned (OpenSpec.ofChange gridPutsWrong)

/-- 'placardlaw04.GridRuns': WHATEVER THE INPUT: true; the input reads as it did. -/
def gridRunsSpec : ChangeSpec := { name := "gridRuns", fn := fun _ => fun
  | [d1, d2, d3] => { results := [.lit (.bool true)], args := [d1, d2, d3] }
  | _ => none }
def gridRunsRow : OpenClaim := { program := "ytcihcjlaamfjfaa", sum := "727a110e26302261219f3a44e7f0e5815a91e50ab76415a04b114884434dc0c2", func := "placard/placardlaw04.GridRuns", spec := "gridRuns", unfollowed := true, recurses := true, apart := false }
def GridRunsSaid : Prop := gridRunsRow.holds Try.pinned (OpenSpec.ofChange gridRunsSpec)

/-- ITS FALSE NEIGHBOUR: 'it returns false'. Refute it at one input. -/
def gridRunsWrong : ChangeSpec := { name := "gridRuns", fn := fun _ => fun
  | [d1, d2, d3] => { results := [.lit (.bool false)], args := [d1, d2, d3] }
  | _ => none }
def GridRunsWrongFalsely : Prop := gridRunsRow.holds Try.pinned (OpenSpec.ofChange gridRunsWrong)

/-- 'placardlaw04.GridNobody': WHATEVER THE INPUT: true; the input reads as it did. -/
def gridNobodySpec : ChangeSpec := { name := "gridNobody", fn := fun _ => fun
  | [d] => { results := [.lit (.bool true)], args := [d] }
  | _ => none }
def gridNobodyRow : OpenClaim := { program := "ytcihcjlaamfjfaa", sum := "727a110e26302261219f3a44e7f0e5815a91e50ab76415a04b114884434dc0c2", func := "placard/placardlaw04.GridNobody", spec := "gridNobody", unfollowed := true, recurses := true, apart := false }
def GridNobodySaid : Prop := gridNobodyRow.holds Try.pinned (OpenSpec.ofChange gridNobodySpec)

/-- ITS FALSE NEIGHBOUR: 'it returns false'. Refute it at one input. -/
def gridNobodyWrong : ChangeSpec := { name := "gridNobody", fn := fun _ => fun
  | [d] => { results := [.lit (.bool false)], args := [d] }
  | _ => none }
def GridNobodyWrongFalsely : Prop := gridNobodyRow.holds Try.pinned (OpenSpec.ofChange gridNobodyWrong)

/- THE SECOND FORM. 'bulk': how many values and letters a reading holds, each counted each time it is reached (what is shared counts as often as it is met; a slice's spare places count too). A statement '..UptoSaid' is the law's where the arguments, and the package variables that the reading takes, are together of bulk at most 1048576: NARROWER than '..Said'. Prove '..Said' where nothing that the law and all that it calls make is longer than what came in: it says more and counts as full. Else prove '..UptoSaid'. A law counts once. -/
mutual
def uptoBulk {H : Type} : DataW H → Nat
  | .lit (.string bytes) => bytes.length + 1
  | .lit _ => 1
  | .nil => 1
  | .ptr d => uptoBulk d + 1
  | .slice elems spare => uptoBulkAll elems + uptoBulkAll spare + 1
  | .agg parts => uptoBulkAll parts + 1
  | .iface _ d => uptoBulk d + 1
  | .map entries => uptoBulkEntries entries + 1
  | .held _ => 1
def uptoBulkAll {H : Type} : List (DataW H) → Nat
  | [] => 0
  | d :: r => uptoBulk d + uptoBulkAll r
def uptoBulkEntries {H : Type} : List (Lit × DataW H) → Nat
  | [] => 0
  | x :: r => uptoBulkEntry x + uptoBulkEntries r
def uptoBulkEntry {H : Type} : Lit × DataW H → Nat
  | (.string bytes, d) => bytes.length + uptoBulk d + 1
  | (_, d) => uptoBulk d + 1
 end
def uptoSmall : (H : Type) → List (DataW H) → Bool := fun _ ds => decide (uptoBulkAll ds ≤ 1048576)
def OpenSpec.upto (s : _root_.Go.ChangeSpec) : _root_.Go.OpenSpec := { _root_.Go.OpenSpec.ofChange s with cond := some uptoSmall }

/-- 'placardlaw02.WidthRanges', WHERE WHAT IT READS IS OF BULK AT MOST 1048576: true; the input reads as it did. -/
def widthRangesUptoRow : OpenClaim := { program := "ytcihcjlaamfjfaa", sum := "727a110e26302261219f3a44e7f0e5815a91e50ab76415a04b114884434dc0c2", func := "placard/placardlaw02.WidthRanges", spec := "widthRanges", unfollowed := true, recurses := true, apart := false, narrowed := true }
def WidthRangesUptoSaid : Prop := widthRangesUptoRow.holds Try.pinned (OpenSpec.upto widthRangesSpec)

/-- 'placardlaw02.WidthOf', WHERE WHAT IT READS IS OF BULK AT MOST 1048576: true; the input reads as it did. -/
def widthOfUptoRow : OpenClaim := { program := "ytcihcjlaamfjfaa", sum := "727a110e26302261219f3a44e7f0e5815a91e50ab76415a04b114884434dc0c2", func := "placard/placardlaw02.WidthOf", spec := "widthOf", unfollowed := true, recurses := true, apart := false, narrowed := true }
def WidthOfUptoSaid : Prop := widthOfUptoRow.holds Try.pinned (OpenSpec.upto widthOfSpec)

/-- 'placardlaw02.WidthYields', WHERE WHAT IT READS IS OF BULK AT MOST 1048576: true; the input reads as it did. -/
def widthYieldsUptoRow : OpenClaim := { program := "ytcihcjlaamfjfaa", sum := "727a110e26302261219f3a44e7f0e5815a91e50ab76415a04b114884434dc0c2", func := "placard/placardlaw02.WidthYields", spec := "widthYields", unfollowed := true, recurses := true, apart := false, narrowed := true }
def WidthYieldsUptoSaid : Prop := widthYieldsUptoRow.holds Try.pinned (OpenSpec.upto widthYieldsSpec)

/-- 'placardlaw02.WidthSums', WHERE WHAT IT READS IS OF BULK AT MOST 1048576: true; the input reads as it did. -/
def widthSumsUptoRow : OpenClaim := { program := "ytcihcjlaamfjfaa", sum := "727a110e26302261219f3a44e7f0e5815a91e50ab76415a04b114884434dc0c2", func := "placard/placardlaw02.WidthSums", spec := "widthSums", unfollowed := true, recurses := true, apart := false, narrowed := true }
def WidthSumsUptoSaid : Prop := widthSumsUptoRow.holds Try.pinned (OpenSpec.upto widthSumsSpec)

/-- 'placardlaw06.EscMoves', WHERE WHAT IT READS IS OF BULK AT MOST 1048576: true; the input reads as it did. -/
def escMovesUptoRow : OpenClaim := { program := "ytcihcjlaamfjfaa", sum := "727a110e26302261219f3a44e7f0e5815a91e50ab76415a04b114884434dc0c2", func := "placard/placardlaw06.EscMoves", spec := "escMoves", recurses := true, apart := false, narrowed := true }
def EscMovesUptoSaid : Prop := escMovesUptoRow.holds Try.pinned (OpenSpec.upto escMovesSpec)

/-- 'placardlaw06.EscStrips', WHERE WHAT IT READS IS OF BULK AT MOST 1048576: true; the input reads as it did. -/
def escStripsUptoRow : OpenClaim := { program := "ytcihcjlaamfjfaa", sum := "727a110e26302261219f3a44e7f0e5815a91e50ab76415a04b114884434dc0c2", func := "placard/placardlaw06.EscStrips", spec := "escStrips", apart := false, narrowed := true }
def EscStripsUptoSaid : Prop := escStripsUptoRow.holds Try.pinned (OpenSpec.upto escStripsSpec)

/-- 'placardlaw06.EscStyles', WHERE WHAT IT READS IS OF BULK AT MOST 1048576: true; the input reads as it did. -/
def escStylesUptoRow : OpenClaim := { program := "ytcihcjlaamfjfaa", sum := "727a110e26302261219f3a44e7f0e5815a91e50ab76415a04b114884434dc0c2", func := "placard/placardlaw06.EscStyles", spec := "escStyles", recurses := true, apart := false, narrowed := true }
def EscStylesUptoSaid : Prop := escStylesUptoRow.holds Try.pinned (OpenSpec.upto escStylesSpec)

/-- 'placardlaw04.GridYields', WHERE WHAT IT READS IS OF BULK AT MOST 1048576: true; the input reads as it did. -/
def gridYieldsUptoRow : OpenClaim := { program := "ytcihcjlaamfjfaa", sum := "727a110e26302261219f3a44e7f0e5815a91e50ab76415a04b114884434dc0c2", func := "placard/placardlaw04.GridYields", spec := "gridYields", unfollowed := true, recurses := true, apart := false, narrowed := true }
def GridYieldsUptoSaid : Prop := gridYieldsUptoRow.holds Try.pinned (OpenSpec.upto gridYieldsSpec)

/-- 'placardlaw06.EscFixed', WHERE WHAT IT READS IS OF BULK AT MOST 1048576: true; the input reads as it did. -/
def escFixedUptoRow : OpenClaim := { program := "ytcihcjlaamfjfaa", sum := "727a110e26302261219f3a44e7f0e5815a91e50ab76415a04b114884434dc0c2", func := "placard/placardlaw06.EscFixed", spec := "escFixed", apart := false, narrowed := true }
def EscFixedUptoSaid : Prop := escFixedUptoRow.holds Try.pinned (OpenSpec.upto escFixedSpec)

/-- 'placardlaw04.GridPuts', WHERE WHAT IT READS IS OF BULK AT MOST 1048576: true; the input reads as it did. -/
def gridPutsUptoRow : OpenClaim := { program := "ytcihcjlaamfjfaa", sum := "727a110e26302261219f3a44e7f0e5815a91e50ab76415a04b114884434dc0c2", func := "placard/placardlaw04.GridPuts", spec := "gridPuts", unfollowed := true, recurses := true, apart := false, narrowed := true }
def GridPutsUptoSaid : Prop := gridPutsUptoRow.holds Try.pinned (OpenSpec.upto gridPutsSpec)

/-- 'placardlaw04.GridRuns', WHERE WHAT IT READS IS OF BULK AT MOST 1048576: true; the input reads as it did. -/
def gridRunsUptoRow : OpenClaim := { program := "ytcihcjlaamfjfaa", sum := "727a110e26302261219f3a44e7f0e5815a91e50ab76415a04b114884434dc0c2", func := "placard/placardlaw04.GridRuns", spec := "gridRuns", unfollowed := true, recurses := true, apart := false, narrowed := true }
def GridRunsUptoSaid : Prop := gridRunsUptoRow.holds Try.pinned (OpenSpec.upto gridRunsSpec)

/-- 'placardlaw04.GridNobody', WHERE WHAT IT READS IS OF BULK AT MOST 1048576: true; the input reads as it did. -/
def gridNobodyUptoRow : OpenClaim := { program := "ytcihcjlaamfjfaa", sum := "727a110e26302261219f3a44e7f0e5815a91e50ab76415a04b114884434dc0c2", func := "placard/placardlaw04.GridNobody", spec := "gridNobody", unfollowed := true, recurses := true, apart := false, narrowed := true }
def GridNobodyUptoSaid : Prop := gridNobodyUptoRow.holds Try.pinned (OpenSpec.upto gridNobodySpec)

end Rows
end Go.Proofs.Ytcihcjlaamfjfaa
