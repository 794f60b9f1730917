/-
  No cell of these rows narrows 'for every input' (looked for: loops, veiled, ifaces, maps, wideKeys, modest, calm, conditions, laid).
  DERIVED. THE GIVEN ROWS OF THIS SEAT. 12 by the template 'for every input the law returns true; each argument reads behind the call as it read before'; 0 by the template 'total and deterministic' (their statements: YtekodpcedjpnjaaGreatTotals.lean).
  GIVEN WITH THE SEED: the statements are not yours to turn. If you find one false, say at which input.
  Laid BY PROGRAM, IN A SANDBOX (cutbox-rows.mjs): the forced cells as the released guide's own fill.sh prints them over the translation 896872a4825b67b1… (all of the seat's roots in one cut). By AI agents, Wed Nov 11 2026. No macro, syntax, notation, axiom, sorry.
-/
import Derived.Test.YtekodpcedjpnjaaGreatChecked
import GoSem.Claim
import GoSem.ClaimJoined
import GoSem.ClaimMapViews
import Derived.JoinedTies
import Derived.KernelRfl
namespace Go.Proofs.YtekodpcedjpnjaaGreat
/- THE CELL 'sum', in the pinned program and in every row, IS THE sha256 OF THE DUMP (.gsa) THAT YtekodpcedjpnjaaGreatProg.lean LOADS. Nothing in Lean hashes anything: it is a label: what it is worth is what the hold of that sum in a sandbox is worth. -/
noncomputable def Tryz.pinned : Pinned := { name := "ytekodpcedjpnjaagreat", sum := "896872a4825b67b162953261867c34d9a1bb2fcc69c2f8611af3a5eae163d855", checked := Tryz.checked }
namespace Rows
def none {H : Type} : Left H := { results := [], args := [] }

/-- 'placardlaw09.FrameBuilds': WHATEVER THE INPUT: true; the input reads as it did. -/
def frameBuildsSpec : ChangeSpec := { name := "frameBuilds", fn := fun _ => fun
  | [d1, d2, d3] => { results := [.lit (.bool true)], args := [d1, d2, d3] }
  | _ => none }
def frameBuildsRow : OpenClaim := { program := "ytekodpcedjpnjaagreat", sum := "896872a4825b67b162953261867c34d9a1bb2fcc69c2f8611af3a5eae163d855", func := "placard/placardlaw09.FrameBuilds", spec := "frameBuilds", inPlace := ["internal/abi.NoEscape", "internal/bytealg.MakeNoZero"], unfollowed := true, recurses := true, apart := false }
def FrameBuildsSaid : Prop := frameBuildsRow.holds Tryz.pinned (OpenSpec.ofChange frameBuildsSpec)

/-- ITS FALSE NEIGHBOUR: 'it returns false'. Refute it at one input. -/
def frameBuildsWrong : ChangeSpec := { name := "frameBuilds", fn := fun _ => fun
  | [d1, d2, d3] => { results := [.lit (.bool false)], args := [d1, d2, d3] }
  | _ => none }
def FrameBuildsWrongFalsely : Prop := frameBuildsRow.holds Tryz.pinned (OpenSpec.ofChange frameBuildsWrong)

/-- 'placardlaw10.DiffWhole': WHATEVER THE INPUT: true; the input reads as it did. -/
def diffWholeSpec : ChangeSpec := { name := "diffWhole", fn := fun _ => fun
  | [d] => { results := [.lit (.bool true)], args := [d] }
  | _ => none }
def diffWholeRow : OpenClaim := { program := "ytekodpcedjpnjaagreat", sum := "896872a4825b67b162953261867c34d9a1bb2fcc69c2f8611af3a5eae163d855", func := "placard/placardlaw10.DiffWhole", spec := "diffWhole", inPlace := ["internal/abi.NoEscape"], unfollowed := true, recurses := true, apart := false }
def DiffWholeSaid : Prop := diffWholeRow.holds Tryz.pinned (OpenSpec.ofChange diffWholeSpec)

/-- ITS FALSE NEIGHBOUR: 'it returns false'. Refute it at one input. -/
def diffWholeWrong : ChangeSpec := { name := "diffWhole", fn := fun _ => fun
  | [d] => { results := [.lit (.bool false)], args := [d] }
  | _ => none }
def DiffWholeWrongFalsely : Prop := diffWholeRow.holds Tryz.pinned (OpenSpec.ofChange diffWholeWrong)

/-- 'placardlaw10.DiffTurns': WHATEVER THE INPUT: true; the input reads as it did. -/
def diffTurnsSpec : ChangeSpec := { name := "diffTurns", fn := fun _ => fun
  | [d1, d2] => { results := [.lit (.bool true)], args := [d1, d2] }
  | _ => none }
def diffTurnsRow : OpenClaim := { program := "ytekodpcedjpnjaagreat", sum := "896872a4825b67b162953261867c34d9a1bb2fcc69c2f8611af3a5eae163d855", func := "placard/placardlaw10.DiffTurns", spec := "diffTurns", inPlace := ["internal/abi.NoEscape"], unfollowed := true, recurses := true, apart := false }
def DiffTurnsSaid : Prop := diffTurnsRow.holds Tryz.pinned (OpenSpec.ofChange diffTurnsSpec)

/-- ITS FALSE NEIGHBOUR: 'it returns false'. Refute it at one input. -/
def diffTurnsWrong : ChangeSpec := { name := "diffTurns", fn := fun _ => fun
  | [d1, d2] => { results := [.lit (.bool false)], args := [d1, d2] }
  | _ => none }
def DiffTurnsWrongFalsely : Prop := diffTurnsRow.holds Tryz.pinned (OpenSpec.ofChange diffTurnsWrong)

/-- 'placardlaw10.DiffBlank': WHATEVER THE INPUT: true; the input reads as it did. -/
def diffBlankSpec : ChangeSpec := { name := "diffBlank", fn := fun _ => fun
  | [d1, d2, d3] => { results := [.lit (.bool true)], args := [d1, d2, d3] }
  | _ => none }
def diffBlankRow : OpenClaim := { program := "ytekodpcedjpnjaagreat", sum := "896872a4825b67b162953261867c34d9a1bb2fcc69c2f8611af3a5eae163d855", func := "placard/placardlaw10.DiffBlank", spec := "diffBlank", inPlace := ["internal/abi.NoEscape"], unfollowed := true, recurses := true, apart := false }
def DiffBlankSaid : Prop := diffBlankRow.holds Tryz.pinned (OpenSpec.ofChange diffBlankSpec)

/-- ITS FALSE NEIGHBOUR: 'it returns false'. Refute it at one input. -/
def diffBlankWrong : ChangeSpec := { name := "diffBlank", fn := fun _ => fun
  | [d1, d2, d3] => { results := [.lit (.bool false)], args := [d1, d2, d3] }
  | _ => none }
def DiffBlankWrongFalsely : Prop := diffBlankRow.holds Tryz.pinned (OpenSpec.ofChange diffBlankWrong)

/-- 'placardlaw10.DiffSpans': WHATEVER THE INPUT: true; the input reads as it did. -/
def diffSpansSpec : ChangeSpec := { name := "diffSpans", fn := fun _ => fun
  | [d1, d2, d3] => { results := [.lit (.bool true)], args := [d1, d2, d3] }
  | _ => none }
def diffSpansRow : OpenClaim := { program := "ytekodpcedjpnjaagreat", sum := "896872a4825b67b162953261867c34d9a1bb2fcc69c2f8611af3a5eae163d855", func := "placard/placardlaw10.DiffSpans", spec := "diffSpans", inPlace := ["internal/abi.NoEscape"], unfollowed := true, recurses := true, apart := false }
def DiffSpansSaid : Prop := diffSpansRow.holds Tryz.pinned (OpenSpec.ofChange diffSpansSpec)

/-- ITS FALSE NEIGHBOUR: 'it returns false'. Refute it at one input. -/
def diffSpansWrong : ChangeSpec := { name := "diffSpans", fn := fun _ => fun
  | [d1, d2, d3] => { results := [.lit (.bool false)], args := [d1, d2, d3] }
  | _ => none }
def DiffSpansWrongFalsely : Prop := diffSpansRow.holds Tryz.pinned (OpenSpec.ofChange diffSpansWrong)

/-- 'placardlaw05.TermPieces': WHATEVER THE INPUT: true; the input reads as it did. -/
def termPiecesSpec : ChangeSpec := { name := "termPieces", fn := fun _ => fun
  | [d1, d2, d3, d4] => { results := [.lit (.bool true)], args := [d1, d2, d3, d4] }
  | _ => none }
def termPiecesRow : OpenClaim := { program := "ytekodpcedjpnjaagreat", sum := "896872a4825b67b162953261867c34d9a1bb2fcc69c2f8611af3a5eae163d855", func := "placard/placardlaw05.TermPieces", spec := "termPieces", unfollowed := true, recurses := true, apart := false }
def TermPiecesSaid : Prop := termPiecesRow.holds Tryz.pinned (OpenSpec.ofChange termPiecesSpec)

/-- ITS FALSE NEIGHBOUR: 'it returns false'. Refute it at one input. -/
def termPiecesWrong : ChangeSpec := { name := "termPieces", fn := fun _ => fun
  | [d1, d2, d3, d4] => { results := [.lit (.bool false)], args := [d1, d2, d3, d4] }
  | _ => none }
def TermPiecesWrongFalsely : Prop := termPiecesRow.holds Tryz.pinned (OpenSpec.ofChange termPiecesWrong)

/-- 'placardlaw05.TermRuns': WHATEVER THE INPUT: true; the input reads as it did. -/
def termRunsSpec : ChangeSpec := { name := "termRuns", fn := fun _ => fun
  | [d1, d2, d3] => { results := [.lit (.bool true)], args := [d1, d2, d3] }
  | _ => none }
def termRunsRow : OpenClaim := { program := "ytekodpcedjpnjaagreat", sum := "896872a4825b67b162953261867c34d9a1bb2fcc69c2f8611af3a5eae163d855", func := "placard/placardlaw05.TermRuns", spec := "termRuns", unfollowed := true, recurses := true, apart := false }
def TermRunsSaid : Prop := termRunsRow.holds Tryz.pinned (OpenSpec.ofChange termRunsSpec)

/-- ITS FALSE NEIGHBOUR: 'it returns false'. Refute it at one input. -/
def termRunsWrong : ChangeSpec := { name := "termRuns", fn := fun _ => fun
  | [d1, d2, d3] => { results := [.lit (.bool false)], args := [d1, d2, d3] }
  | _ => none }
def TermRunsWrongFalsely : Prop := termRunsRow.holds Tryz.pinned (OpenSpec.ofChange termRunsWrong)

/-- 'placardlaw11.RegionKeeps': WHATEVER THE INPUT: true; the input reads as it did. -/
def regionKeepsSpec : ChangeSpec := { name := "regionKeeps", fn := fun _ => fun
  | [d1, d2, d3, d4, d5] => { results := [.lit (.bool true)], args := [d1, d2, d3, d4, d5] }
  | _ => none }
def regionKeepsRow : OpenClaim := { program := "ytekodpcedjpnjaagreat", sum := "896872a4825b67b162953261867c34d9a1bb2fcc69c2f8611af3a5eae163d855", func := "placard/placardlaw11.RegionKeeps", spec := "regionKeeps", inPlace := ["internal/abi.NoEscape", "internal/bytealg.MakeNoZero"], unfollowed := true, recurses := true, apart := false }
def RegionKeepsSaid : Prop := regionKeepsRow.holds Tryz.pinned (OpenSpec.ofChange regionKeepsSpec)

/-- ITS FALSE NEIGHBOUR: 'it returns false'. Refute it at one input. -/
def regionKeepsWrong : ChangeSpec := { name := "regionKeeps", fn := fun _ => fun
  | [d1, d2, d3, d4, d5] => { results := [.lit (.bool false)], args := [d1, d2, d3, d4, d5] }
  | _ => none }
def RegionKeepsWrongFalsely : Prop := regionKeepsRow.holds Tryz.pinned (OpenSpec.ofChange regionKeepsWrong)

/-- 'placardlaw11.RegionClean': WHATEVER THE INPUT: true; the input reads as it did. -/
def regionCleanSpec : ChangeSpec := { name := "regionClean", fn := fun _ => fun
  | [d1, d2, d3, d4, d5, d6] => { results := [.lit (.bool true)], args := [d1, d2, d3, d4, d5, d6] }
  | _ => none }
def regionCleanRow : OpenClaim := { program := "ytekodpcedjpnjaagreat", sum := "896872a4825b67b162953261867c34d9a1bb2fcc69c2f8611af3a5eae163d855", func := "placard/placardlaw11.RegionClean", spec := "regionClean", inPlace := ["internal/abi.NoEscape", "internal/bytealg.MakeNoZero"], unfollowed := true, recurses := true, apart := false }
def RegionCleanSaid : Prop := regionCleanRow.holds Tryz.pinned (OpenSpec.ofChange regionCleanSpec)

/-- ITS FALSE NEIGHBOUR: 'it returns false'. Refute it at one input. -/
def regionCleanWrong : ChangeSpec := { name := "regionClean", fn := fun _ => fun
  | [d1, d2, d3, d4, d5, d6] => { results := [.lit (.bool false)], args := [d1, d2, d3, d4, d5, d6] }
  | _ => none }
def RegionCleanWrongFalsely : Prop := regionCleanRow.holds Tryz.pinned (OpenSpec.ofChange regionCleanWrong)

/-- 'placardlaw11.RegionCosts': WHATEVER THE INPUT: true; the input reads as it did. -/
def regionCostsSpec : ChangeSpec := { name := "regionCosts", fn := fun _ => fun
  | [d1, d2, d3, d4] => { results := [.lit (.bool true)], args := [d1, d2, d3, d4] }
  | _ => none }
def regionCostsRow : OpenClaim := { program := "ytekodpcedjpnjaagreat", sum := "896872a4825b67b162953261867c34d9a1bb2fcc69c2f8611af3a5eae163d855", func := "placard/placardlaw11.RegionCosts", spec := "regionCosts", inPlace := ["internal/abi.NoEscape", "internal/bytealg.MakeNoZero"], unfollowed := true, recurses := true, apart := false }
def RegionCostsSaid : Prop := regionCostsRow.holds Tryz.pinned (OpenSpec.ofChange regionCostsSpec)

/-- ITS FALSE NEIGHBOUR: 'it returns false'. Refute it at one input. -/
def regionCostsWrong : ChangeSpec := { name := "regionCosts", fn := fun _ => fun
  | [d1, d2, d3, d4] => { results := [.lit (.bool false)], args := [d1, d2, d3, d4] }
  | _ => none }
def RegionCostsWrongFalsely : Prop := regionCostsRow.holds Tryz.pinned (OpenSpec.ofChange regionCostsWrong)

/-- 'placardlaw11.RegionActs': WHATEVER THE INPUT: true; the input reads as it did. -/
def regionActsSpec : ChangeSpec := { name := "regionActs", fn := fun _ => fun
  | [d1, d2, d3, d4, d5] => { results := [.lit (.bool true)], args := [d1, d2, d3, d4, d5] }
  | _ => none }
def regionActsRow : OpenClaim := { program := "ytekodpcedjpnjaagreat", sum := "896872a4825b67b162953261867c34d9a1bb2fcc69c2f8611af3a5eae163d855", func := "placard/placardlaw11.RegionActs", spec := "regionActs", inPlace := ["internal/abi.NoEscape", "internal/bytealg.MakeNoZero"], unfollowed := true, recurses := true, apart := false }
def RegionActsSaid : Prop := regionActsRow.holds Tryz.pinned (OpenSpec.ofChange regionActsSpec)

/-- ITS FALSE NEIGHBOUR: 'it returns false'. Refute it at one input. -/
def regionActsWrong : ChangeSpec := { name := "regionActs", fn := fun _ => fun
  | [d1, d2, d3, d4, d5] => { results := [.lit (.bool false)], args := [d1, d2, d3, d4, d5] }
  | _ => none }
def RegionActsWrongFalsely : Prop := regionActsRow.holds Tryz.pinned (OpenSpec.ofChange regionActsWrong)

/-- 'placardlaw11.RegionNobody': WHATEVER THE INPUT: true; the input reads as it did. -/
def regionNobodySpec : ChangeSpec := { name := "regionNobody", fn := fun _ => fun
  | [d1, d2, d3] => { results := [.lit (.bool true)], args := [d1, d2, d3] }
  | _ => none }
def regionNobodyRow : OpenClaim := { program := "ytekodpcedjpnjaagreat", sum := "896872a4825b67b162953261867c34d9a1bb2fcc69c2f8611af3a5eae163d855", func := "placard/placardlaw11.RegionNobody", spec := "regionNobody", inPlace := ["internal/abi.NoEscape", "internal/bytealg.MakeNoZero"], unfollowed := true, recurses := true, apart := false }
def RegionNobodySaid : Prop := regionNobodyRow.holds Tryz.pinned (OpenSpec.ofChange regionNobodySpec)

/-- ITS FALSE NEIGHBOUR: 'it returns false'. Refute it at one input. -/
def regionNobodyWrong : ChangeSpec := { name := "regionNobody", fn := fun _ => fun
  | [d1, d2, d3] => { results := [.lit (.bool false)], args := [d1, d2, d3] }
  | _ => none }
def RegionNobodyWrongFalsely : Prop := regionNobodyRow.holds Tryz.pinned (OpenSpec.ofChange regionNobodyWrong)

/- THE SECOND FORM. 'bulk': how many values and letters a reading holds, each counted each time it is reached (what is shared counts as often as it is met; a slice's spare places count too). A statement '..UptoSaid' is the law's where the arguments, and the package variables that the reading takes, are together of bulk at most 1048576: NARROWER than '..Said'. Prove '..Said' where nothing that the law and all that it calls make is longer than what came in: it says more and counts as full. Else prove '..UptoSaid'. A law counts once. -/
mutual
def uptoBulk {H : Type} : DataW H → Nat
  | .lit (.string bytes) => bytes.length + 1
  | .lit _ => 1
  | .nil => 1
  | .ptr d => uptoBulk d + 1
  | .slice elems spare => uptoBulkAll elems + uptoBulkAll spare + 1
  | .agg parts => uptoBulkAll parts + 1
  | .iface _ d => uptoBulk d + 1
  | .map entries => uptoBulkEntries entries + 1
  | .held _ => 1
def uptoBulkAll {H : Type} : List (DataW H) → Nat
  | [] => 0
  | d :: r => uptoBulk d + uptoBulkAll r
def uptoBulkEntries {H : Type} : List (Lit × DataW H) → Nat
  | [] => 0
  | x :: r => uptoBulkEntry x + uptoBulkEntries r
def uptoBulkEntry {H : Type} : Lit × DataW H → Nat
  | (.string bytes, d) => bytes.length + uptoBulk d + 1
  | (_, d) => uptoBulk d + 1
 end
def uptoSmall : (H : Type) → List (DataW H) → Bool := fun _ ds => decide (uptoBulkAll ds ≤ 1048576)
def OpenSpec.upto (s : _root_.Go.ChangeSpec) : _root_.Go.OpenSpec := { _root_.Go.OpenSpec.ofChange s with cond := some uptoSmall }

/-- 'placardlaw09.FrameBuilds', WHERE WHAT IT READS IS OF BULK AT MOST 1048576: true; the input reads as it did. -/
def frameBuildsUptoRow : OpenClaim := { program := "ytekodpcedjpnjaagreat", sum := "896872a4825b67b162953261867c34d9a1bb2fcc69c2f8611af3a5eae163d855", func := "placard/placardlaw09.FrameBuilds", spec := "frameBuilds", inPlace := ["internal/abi.NoEscape", "internal/bytealg.MakeNoZero"], unfollowed := true, recurses := true, apart := false, narrowed := true }
def FrameBuildsUptoSaid : Prop := frameBuildsUptoRow.holds Tryz.pinned (OpenSpec.upto frameBuildsSpec)

/-- 'placardlaw10.DiffWhole', WHERE WHAT IT READS IS OF BULK AT MOST 1048576: true; the input reads as it did. -/
def diffWholeUptoRow : OpenClaim := { program := "ytekodpcedjpnjaagreat", sum := "896872a4825b67b162953261867c34d9a1bb2fcc69c2f8611af3a5eae163d855", func := "placard/placardlaw10.DiffWhole", spec := "diffWhole", inPlace := ["internal/abi.NoEscape"], unfollowed := true, recurses := true, apart := false, narrowed := true }
def DiffWholeUptoSaid : Prop := diffWholeUptoRow.holds Tryz.pinned (OpenSpec.upto diffWholeSpec)

/-- 'placardlaw10.DiffTurns', WHERE WHAT IT READS IS OF BULK AT MOST 1048576: true; the input reads as it did. -/
def diffTurnsUptoRow : OpenClaim := { program := "ytekodpcedjpnjaagreat", sum := "896872a4825b67b162953261867c34d9a1bb2fcc69c2f8611af3a5eae163d855", func := "placard/placardlaw10.DiffTurns", spec := "diffTurns", inPlace := ["internal/abi.NoEscape"], unfollowed := true, recurses := true, apart := false, narrowed := true }
def DiffTurnsUptoSaid : Prop := diffTurnsUptoRow.holds Tryz.pinned (OpenSpec.upto diffTurnsSpec)

/-- 'placardlaw10.DiffBlank', WHERE WHAT IT READS IS OF BULK AT MOST 1048576: true; the input reads as it did. -/
def diffBlankUptoRow : OpenClaim := { program := "ytekodpcedjpnjaagreat", sum := "896872a4825b67b162953261867c34d9a1bb2fcc69c2f8611af3a5eae163d855", func := "placard/placardlaw10.DiffBlank", spec := "diffBlank", inPlace := ["internal/abi.NoEscape"], unfollowed := true, recurses := true, apart := false, narrowed := true }
def DiffBlankUptoSaid : Prop := diffBlankUptoRow.holds Tryz.pinned (OpenSpec.upto diffBlankSpec)

/-- 'placardlaw10.DiffSpans', WHERE WHAT IT READS IS OF BULK AT MOST 1048576: true; the input reads as it did. -/
def diffSpansUptoRow : OpenClaim := { program := "ytekodpcedjpnjaagreat", sum := "896872a4825b67b162953261867c34d9a1bb2fcc69c2f8611af3a5eae163d855", func := "placard/placardlaw10.DiffSpans", spec := "diffSpans", inPlace := ["internal/abi.NoEscape"], unfollowed := true, recurses := true, apart := false, narrowed := true }
def DiffSpansUptoSaid : Prop := diffSpansUptoRow.holds Tryz.pinned (OpenSpec.upto diffSpansSpec)

/-- 'placardlaw05.TermPieces', WHERE WHAT IT READS IS OF BULK AT MOST 1048576: true; the input reads as it did. -/
def termPiecesUptoRow : OpenClaim := { program := "ytekodpcedjpnjaagreat", sum := "896872a4825b67b162953261867c34d9a1bb2fcc69c2f8611af3a5eae163d855", func := "placard/placardlaw05.TermPieces", spec := "termPieces", unfollowed := true, recurses := true, apart := false, narrowed := true }
def TermPiecesUptoSaid : Prop := termPiecesUptoRow.holds Tryz.pinned (OpenSpec.upto termPiecesSpec)

/-- 'placardlaw05.TermRuns', WHERE WHAT IT READS IS OF BULK AT MOST 1048576: true; the input reads as it did. -/
def termRunsUptoRow : OpenClaim := { program := "ytekodpcedjpnjaagreat", sum := "896872a4825b67b162953261867c34d9a1bb2fcc69c2f8611af3a5eae163d855", func := "placard/placardlaw05.TermRuns", spec := "termRuns", unfollowed := true, recurses := true, apart := false, narrowed := true }
def TermRunsUptoSaid : Prop := termRunsUptoRow.holds Tryz.pinned (OpenSpec.upto termRunsSpec)

/-- 'placardlaw11.RegionKeeps', WHERE WHAT IT READS IS OF BULK AT MOST 1048576: true; the input reads as it did. -/
def regionKeepsUptoRow : OpenClaim := { program := "ytekodpcedjpnjaagreat", sum := "896872a4825b67b162953261867c34d9a1bb2fcc69c2f8611af3a5eae163d855", func := "placard/placardlaw11.RegionKeeps", spec := "regionKeeps", inPlace := ["internal/abi.NoEscape", "internal/bytealg.MakeNoZero"], unfollowed := true, recurses := true, apart := false, narrowed := true }
def RegionKeepsUptoSaid : Prop := regionKeepsUptoRow.holds Tryz.pinned (OpenSpec.upto regionKeepsSpec)

/-- 'placardlaw11.RegionClean', WHERE WHAT IT READS IS OF BULK AT MOST 1048576: true; the input reads as it did. -/
def regionCleanUptoRow : OpenClaim := { program := "ytekodpcedjpnjaagreat", sum := "896872a4825b67b162953261867c34d9a1bb2fcc69c2f8611af3a5eae163d855", func := "placard/placardlaw11.RegionClean", spec := "regionClean", inPlace := ["internal/abi.NoEscape", "internal/bytealg.MakeNoZero"], unfollowed := true, recurses := true, apart := false, narrowed := true }
def RegionCleanUptoSaid : Prop := regionCleanUptoRow.holds Tryz.pinned (OpenSpec.upto regionCleanSpec)

/-- 'placardlaw11.RegionCosts', WHERE WHAT IT READS IS OF BULK AT MOST 1048576: true; the input reads as it did. -/
def regionCostsUptoRow : OpenClaim := { program := "ytekodpcedjpnjaagreat", sum := "896872a4825b67b162953261867c34d9a1bb2fcc69c2f8611af3a5eae163d855", func := "placard/placardlaw11.RegionCosts", spec := "regionCosts", inPlace := ["internal/abi.NoEscape", "internal/bytealg.MakeNoZero"], unfollowed := true, recurses := true, apart := false, narrowed := true }
def RegionCostsUptoSaid : Prop := regionCostsUptoRow.holds Tryz.pinned (OpenSpec.upto regionCostsSpec)

/-- 'placardlaw11.RegionActs', WHERE WHAT IT READS IS OF BULK AT MOST 1048576: true; the input reads as it did. -/
def regionActsUptoRow : OpenClaim := { program := "ytekodpcedjpnjaagreat", sum := "896872a4825b67b162953261867c34d9a1bb2fcc69c2f8611af3a5eae163d855", func := "placard/placardlaw11.RegionActs", spec := "regionActs", inPlace := ["internal/abi.NoEscape", "internal/bytealg.MakeNoZero"], unfollowed := true, recurses := true, apart := false, narrowed := true }
def RegionActsUptoSaid : Prop := regionActsUptoRow.holds Tryz.pinned (OpenSpec.upto regionActsSpec)

/-- 'placardlaw11.RegionNobody', WHERE WHAT IT READS IS OF BULK AT MOST 1048576: true; the input reads as it did. -/
def regionNobodyUptoRow : OpenClaim := { program := "ytekodpcedjpnjaagreat", sum := "896872a4825b67b162953261867c34d9a1bb2fcc69c2f8611af3a5eae163d855", func := "placard/placardlaw11.RegionNobody", spec := "regionNobody", inPlace := ["internal/abi.NoEscape", "internal/bytealg.MakeNoZero"], unfollowed := true, recurses := true, apart := false, narrowed := true }
def RegionNobodyUptoSaid : Prop := regionNobodyUptoRow.holds Tryz.pinned (OpenSpec.upto regionNobodySpec)

end Rows
end Go.Proofs.YtekodpcedjpnjaaGreat
