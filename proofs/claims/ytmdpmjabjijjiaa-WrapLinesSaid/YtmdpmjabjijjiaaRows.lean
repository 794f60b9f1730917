/-
  No cell of these rows narrows 'for every input' (looked for: loops, veiled, ifaces, maps, wideKeys, modest, calm, conditions, laid).
  DERIVED. THE GIVEN ROWS OF THIS SEAT. 12 by the template 'for every input the law returns true; each argument reads behind the call as it read before'; 0 by the template 'total and deterministic' (their statements: YtmdpmjabjijjiaaTotals.lean).
  GIVEN WITH THE SEED: the statements are not yours to turn. If you find one false, say at which input.
  Laid BY PROGRAM, IN A SANDBOX (cutbox-rows.mjs): the forced cells as the released guide's own fill.sh prints them over the translation 041d33beff30fe40… (all of the seat's roots in one cut). By AI agents, Wed Nov 11 2026. No macro, syntax, notation, axiom, sorry.
-/
import Derived.Test.YtmdpmjabjijjiaaChecked
import GoSem.Claim
import GoSem.ClaimJoined
import GoSem.ClaimMapViews
import Derived.JoinedTies
import Derived.KernelRfl
namespace Go.Proofs.Ytmdpmjabjijjiaa
/- THE CELL 'sum', in the pinned program and in every row, IS THE sha256 OF THE DUMP (.gsa) THAT YtmdpmjabjijjiaaProg.lean LOADS. Nothing in Lean hashes anything: it is a label: what it is worth is what the hold of that sum in a sandbox is worth. -/
noncomputable def Try.pinned : Pinned := { name := "ytmdpmjabjijjiaa", sum := "041d33beff30fe40423032b8ba3e4b13a8e4ea354bcebe8b0963cd3571729c76", checked := Try.checked }
namespace Rows
def none {H : Type} : Left H := { results := [], args := [] }

/-- 'placardlaw03.ClusterCleans': WHATEVER THE INPUT: true; the input reads as it did. -/
def clusterCleansSpec : ChangeSpec := { name := "clusterCleans", fn := fun _ => fun
  | [d] => { results := [.lit (.bool true)], args := [d] }
  | _ => none }
def clusterCleansRow : OpenClaim := { program := "ytmdpmjabjijjiaa", sum := "041d33beff30fe40423032b8ba3e4b13a8e4ea354bcebe8b0963cd3571729c76", func := "placard/placardlaw03.ClusterCleans", spec := "clusterCleans", inPlace := ["internal/abi.NoEscape", "internal/bytealg.MakeNoZero"], unfollowed := true, recurses := true, apart := false }
def ClusterCleansSaid : Prop := clusterCleansRow.holds Try.pinned (OpenSpec.ofChange clusterCleansSpec)

/-- ITS FALSE NEIGHBOUR: 'it returns false'. Refute it at one input. -/
def clusterCleansWrong : ChangeSpec := { name := "clusterCleans", fn := fun _ => fun
  | [d] => { results := [.lit (.bool false)], args := [d] }
  | _ => none }
def ClusterCleansWrongFalsely : Prop := clusterCleansRow.holds Try.pinned (OpenSpec.ofChange clusterCleansWrong)

/-- 'placardlaw03.ClusterCuts': WHATEVER THE INPUT: true; the input reads as it did. -/
def clusterCutsSpec : ChangeSpec := { name := "clusterCuts", fn := fun _ => fun
  | [d1, d2] => { results := [.lit (.bool true)], args := [d1, d2] }
  | _ => none }
def clusterCutsRow : OpenClaim := { program := "ytmdpmjabjijjiaa", sum := "041d33beff30fe40423032b8ba3e4b13a8e4ea354bcebe8b0963cd3571729c76", func := "placard/placardlaw03.ClusterCuts", spec := "clusterCuts", inPlace := ["internal/abi.NoEscape", "internal/bytealg.MakeNoZero"], unfollowed := true, recurses := true, apart := false }
def ClusterCutsSaid : Prop := clusterCutsRow.holds Try.pinned (OpenSpec.ofChange clusterCutsSpec)

/-- ITS FALSE NEIGHBOUR: 'it returns false'. Refute it at one input. -/
def clusterCutsWrong : ChangeSpec := { name := "clusterCuts", fn := fun _ => fun
  | [d1, d2] => { results := [.lit (.bool false)], args := [d1, d2] }
  | _ => none }
def ClusterCutsWrongFalsely : Prop := clusterCutsRow.holds Try.pinned (OpenSpec.ofChange clusterCutsWrong)

/-- 'placardlaw03.ClusterJoins': WHATEVER THE INPUT: true; the input reads as it did. -/
def clusterJoinsSpec : ChangeSpec := { name := "clusterJoins", fn := fun _ => fun
  | [d1, d2] => { results := [.lit (.bool true)], args := [d1, d2] }
  | _ => none }
def clusterJoinsRow : OpenClaim := { program := "ytmdpmjabjijjiaa", sum := "041d33beff30fe40423032b8ba3e4b13a8e4ea354bcebe8b0963cd3571729c76", func := "placard/placardlaw03.ClusterJoins", spec := "clusterJoins", inPlace := ["internal/abi.NoEscape", "internal/bytealg.MakeNoZero"], unfollowed := true, recurses := true, apart := false }
def ClusterJoinsSaid : Prop := clusterJoinsRow.holds Try.pinned (OpenSpec.ofChange clusterJoinsSpec)

/-- ITS FALSE NEIGHBOUR: 'it returns false'. Refute it at one input. -/
def clusterJoinsWrong : ChangeSpec := { name := "clusterJoins", fn := fun _ => fun
  | [d1, d2] => { results := [.lit (.bool false)], args := [d1, d2] }
  | _ => none }
def ClusterJoinsWrongFalsely : Prop := clusterJoinsRow.holds Try.pinned (OpenSpec.ofChange clusterJoinsWrong)

/-- 'placardlaw03.ClusterFits': WHATEVER THE INPUT: true; the input reads as it did. -/
def clusterFitsSpec : ChangeSpec := { name := "clusterFits", fn := fun _ => fun
  | [d1, d2] => { results := [.lit (.bool true)], args := [d1, d2] }
  | _ => none }
def clusterFitsRow : OpenClaim := { program := "ytmdpmjabjijjiaa", sum := "041d33beff30fe40423032b8ba3e4b13a8e4ea354bcebe8b0963cd3571729c76", func := "placard/placardlaw03.ClusterFits", spec := "clusterFits", inPlace := ["internal/abi.NoEscape", "internal/bytealg.MakeNoZero"], unfollowed := true, recurses := true, apart := false }
def ClusterFitsSaid : Prop := clusterFitsRow.holds Try.pinned (OpenSpec.ofChange clusterFitsSpec)

/-- ITS FALSE NEIGHBOUR: 'it returns false'. Refute it at one input. -/
def clusterFitsWrong : ChangeSpec := { name := "clusterFits", fn := fun _ => fun
  | [d1, d2] => { results := [.lit (.bool false)], args := [d1, d2] }
  | _ => none }
def ClusterFitsWrongFalsely : Prop := clusterFitsRow.holds Try.pinned (OpenSpec.ofChange clusterFitsWrong)

/-- 'placardlaw34.MaskParses': WHATEVER THE INPUT: true; the input reads as it did. -/
def maskParsesSpec : ChangeSpec := { name := "maskParses", fn := fun _ => fun
  | [d1, d2] => { results := [.lit (.bool true)], args := [d1, d2] }
  | _ => none }
def maskParsesRow : OpenClaim := { program := "ytmdpmjabjijjiaa", sum := "041d33beff30fe40423032b8ba3e4b13a8e4ea354bcebe8b0963cd3571729c76", func := "placard/placardlaw34.MaskParses", spec := "maskParses", inPlace := ["internal/abi.NoEscape", "internal/bytealg.MakeNoZero"], unfollowed := true, recurses := true, apart := false }
def MaskParsesSaid : Prop := maskParsesRow.holds Try.pinned (OpenSpec.ofChange maskParsesSpec)

/-- ITS FALSE NEIGHBOUR: 'it returns false'. Refute it at one input. -/
def maskParsesWrong : ChangeSpec := { name := "maskParses", fn := fun _ => fun
  | [d1, d2] => { results := [.lit (.bool false)], args := [d1, d2] }
  | _ => none }
def MaskParsesWrongFalsely : Prop := maskParsesRow.holds Try.pinned (OpenSpec.ofChange maskParsesWrong)

/-- 'placardlaw34.MaskGrows': WHATEVER THE INPUT: true; the input reads as it did. -/
def maskGrowsSpec : ChangeSpec := { name := "maskGrows", fn := fun _ => fun
  | [d1, d2, d3, d4] => { results := [.lit (.bool true)], args := [d1, d2, d3, d4] }
  | _ => none }
def maskGrowsRow : OpenClaim := { program := "ytmdpmjabjijjiaa", sum := "041d33beff30fe40423032b8ba3e4b13a8e4ea354bcebe8b0963cd3571729c76", func := "placard/placardlaw34.MaskGrows", spec := "maskGrows", inPlace := ["internal/abi.NoEscape", "internal/bytealg.MakeNoZero"], unfollowed := true, recurses := true, apart := false }
def MaskGrowsSaid : Prop := maskGrowsRow.holds Try.pinned (OpenSpec.ofChange maskGrowsSpec)

/-- ITS FALSE NEIGHBOUR: 'it returns false'. Refute it at one input. -/
def maskGrowsWrong : ChangeSpec := { name := "maskGrows", fn := fun _ => fun
  | [d1, d2, d3, d4] => { results := [.lit (.bool false)], args := [d1, d2, d3, d4] }
  | _ => none }
def MaskGrowsWrongFalsely : Prop := maskGrowsRow.holds Try.pinned (OpenSpec.ofChange maskGrowsWrong)

/-- 'placardlaw34.MaskThere': WHATEVER THE INPUT: true; the input reads as it did. -/
def maskThereSpec : ChangeSpec := { name := "maskThere", fn := fun _ => fun
  | [d1, d2] => { results := [.lit (.bool true)], args := [d1, d2] }
  | _ => none }
def maskThereRow : OpenClaim := { program := "ytmdpmjabjijjiaa", sum := "041d33beff30fe40423032b8ba3e4b13a8e4ea354bcebe8b0963cd3571729c76", func := "placard/placardlaw34.MaskThere", spec := "maskThere", inPlace := ["internal/abi.NoEscape", "internal/bytealg.MakeNoZero"], unfollowed := true, recurses := true, apart := false }
def MaskThereSaid : Prop := maskThereRow.holds Try.pinned (OpenSpec.ofChange maskThereSpec)

/-- ITS FALSE NEIGHBOUR: 'it returns false'. Refute it at one input. -/
def maskThereWrong : ChangeSpec := { name := "maskThere", fn := fun _ => fun
  | [d1, d2] => { results := [.lit (.bool false)], args := [d1, d2] }
  | _ => none }
def MaskThereWrongFalsely : Prop := maskThereRow.holds Try.pinned (OpenSpec.ofChange maskThereWrong)

/-- 'placardlaw17.WrapKeeps': WHATEVER THE INPUT: true; the input reads as it did. -/
def wrapKeepsSpec : ChangeSpec := { name := "wrapKeeps", fn := fun _ => fun
  | [d1, d2] => { results := [.lit (.bool true)], args := [d1, d2] }
  | _ => none }
def wrapKeepsRow : OpenClaim := { program := "ytmdpmjabjijjiaa", sum := "041d33beff30fe40423032b8ba3e4b13a8e4ea354bcebe8b0963cd3571729c76", func := "placard/placardlaw17.WrapKeeps", spec := "wrapKeeps", inPlace := ["internal/abi.NoEscape", "internal/bytealg.MakeNoZero"], unfollowed := true, recurses := true, apart := false }
def WrapKeepsSaid : Prop := wrapKeepsRow.holds Try.pinned (OpenSpec.ofChange wrapKeepsSpec)

/-- ITS FALSE NEIGHBOUR: 'it returns false'. Refute it at one input. -/
def wrapKeepsWrong : ChangeSpec := { name := "wrapKeeps", fn := fun _ => fun
  | [d1, d2] => { results := [.lit (.bool false)], args := [d1, d2] }
  | _ => none }
def WrapKeepsWrongFalsely : Prop := wrapKeepsRow.holds Try.pinned (OpenSpec.ofChange wrapKeepsWrong)

/-- 'placardlaw34.MaskFills': WHATEVER THE INPUT: true; the input reads as it did. -/
def maskFillsSpec : ChangeSpec := { name := "maskFills", fn := fun _ => fun
  | [d1, d2, d3, d4] => { results := [.lit (.bool true)], args := [d1, d2, d3, d4] }
  | _ => none }
def maskFillsRow : OpenClaim := { program := "ytmdpmjabjijjiaa", sum := "041d33beff30fe40423032b8ba3e4b13a8e4ea354bcebe8b0963cd3571729c76", func := "placard/placardlaw34.MaskFills", spec := "maskFills", inPlace := ["internal/abi.NoEscape", "internal/bytealg.MakeNoZero"], unfollowed := true, recurses := true, apart := false }
def MaskFillsSaid : Prop := maskFillsRow.holds Try.pinned (OpenSpec.ofChange maskFillsSpec)

/-- ITS FALSE NEIGHBOUR: 'it returns false'. Refute it at one input. -/
def maskFillsWrong : ChangeSpec := { name := "maskFills", fn := fun _ => fun
  | [d1, d2, d3, d4] => { results := [.lit (.bool false)], args := [d1, d2, d3, d4] }
  | _ => none }
def MaskFillsWrongFalsely : Prop := maskFillsRow.holds Try.pinned (OpenSpec.ofChange maskFillsWrong)

/-- 'placardlaw34.MaskNobody': WHATEVER THE INPUT: true; the input reads as it did. -/
def maskNobodySpec : ChangeSpec := { name := "maskNobody", fn := fun _ => fun
  | [d1, d2] => { results := [.lit (.bool true)], args := [d1, d2] }
  | _ => none }
def maskNobodyRow : OpenClaim := { program := "ytmdpmjabjijjiaa", sum := "041d33beff30fe40423032b8ba3e4b13a8e4ea354bcebe8b0963cd3571729c76", func := "placard/placardlaw34.MaskNobody", spec := "maskNobody", inPlace := ["internal/abi.NoEscape", "internal/bytealg.MakeNoZero"], unfollowed := true, recurses := true, apart := false }
def MaskNobodySaid : Prop := maskNobodyRow.holds Try.pinned (OpenSpec.ofChange maskNobodySpec)

/-- ITS FALSE NEIGHBOUR: 'it returns false'. Refute it at one input. -/
def maskNobodyWrong : ChangeSpec := { name := "maskNobody", fn := fun _ => fun
  | [d1, d2] => { results := [.lit (.bool false)], args := [d1, d2] }
  | _ => none }
def MaskNobodyWrongFalsely : Prop := maskNobodyRow.holds Try.pinned (OpenSpec.ofChange maskNobodyWrong)

/-- 'placardlaw17.WrapLines': WHATEVER THE INPUT: true; the input reads as it did. -/
def wrapLinesSpec : ChangeSpec := { name := "wrapLines", fn := fun _ => fun
  | [d1, d2, d3] => { results := [.lit (.bool true)], args := [d1, d2, d3] }
  | _ => none }
def wrapLinesRow : OpenClaim := { program := "ytmdpmjabjijjiaa", sum := "041d33beff30fe40423032b8ba3e4b13a8e4ea354bcebe8b0963cd3571729c76", func := "placard/placardlaw17.WrapLines", spec := "wrapLines", inPlace := ["internal/abi.NoEscape", "internal/bytealg.MakeNoZero"], unfollowed := true, recurses := true, apart := false }
def WrapLinesSaid : Prop := wrapLinesRow.holds Try.pinned (OpenSpec.ofChange wrapLinesSpec)

/-- ITS FALSE NEIGHBOUR: 'it returns false'. Refute it at one input. -/
def wrapLinesWrong : ChangeSpec := { name := "wrapLines", fn := fun _ => fun
  | [d1, d2, d3] => { results := [.lit (.bool false)], args := [d1, d2, d3] }
  | _ => none }
def WrapLinesWrongFalsely : Prop := wrapLinesRow.holds Try.pinned (OpenSpec.ofChange wrapLinesWrong)

/-- 'placardlaw17.WrapCuts': WHATEVER THE INPUT: true; the input reads as it did. -/
def wrapCutsSpec : ChangeSpec := { name := "wrapCuts", fn := fun _ => fun
  | [d1, d2, d3] => { results := [.lit (.bool true)], args := [d1, d2, d3] }
  | _ => none }
def wrapCutsRow : OpenClaim := { program := "ytmdpmjabjijjiaa", sum := "041d33beff30fe40423032b8ba3e4b13a8e4ea354bcebe8b0963cd3571729c76", func := "placard/placardlaw17.WrapCuts", spec := "wrapCuts", inPlace := ["internal/abi.NoEscape", "internal/bytealg.MakeNoZero"], unfollowed := true, recurses := true, apart := false }
def WrapCutsSaid : Prop := wrapCutsRow.holds Try.pinned (OpenSpec.ofChange wrapCutsSpec)

/-- ITS FALSE NEIGHBOUR: 'it returns false'. Refute it at one input. -/
def wrapCutsWrong : ChangeSpec := { name := "wrapCuts", fn := fun _ => fun
  | [d1, d2, d3] => { results := [.lit (.bool false)], args := [d1, d2, d3] }
  | _ => none }
def WrapCutsWrongFalsely : Prop := wrapCutsRow.holds Try.pinned (OpenSpec.ofChange wrapCutsWrong)

/- THE SECOND FORM. 'bulk': how many values and letters a reading holds, each counted each time it is reached (what is shared counts as often as it is met; a slice's spare places count too). A statement '..UptoSaid' is the law's where the arguments, and the package variables that the reading takes, are together of bulk at most 1048576: NARROWER than '..Said'. Prove '..Said' where nothing that the law and all that it calls make is longer than what came in: it says more and counts as full. Else prove '..UptoSaid'. A law counts once. -/
mutual
def uptoBulk {H : Type} : DataW H → Nat
  | .lit (.string bytes) => bytes.length + 1
  | .lit _ => 1
  | .nil => 1
  | .ptr d => uptoBulk d + 1
  | .slice elems spare => uptoBulkAll elems + uptoBulkAll spare + 1
  | .agg parts => uptoBulkAll parts + 1
  | .iface _ d => uptoBulk d + 1
  | .map entries => uptoBulkEntries entries + 1
  | .held _ => 1
def uptoBulkAll {H : Type} : List (DataW H) → Nat
  | [] => 0
  | d :: r => uptoBulk d + uptoBulkAll r
def uptoBulkEntries {H : Type} : List (Lit × DataW H) → Nat
  | [] => 0
  | x :: r => uptoBulkEntry x + uptoBulkEntries r
def uptoBulkEntry {H : Type} : Lit × DataW H → Nat
  | (.string bytes, d) => bytes.length + uptoBulk d + 1
  | (_, d) => uptoBulk d + 1
 end
def uptoSmall : (H : Type) → List (DataW H) → Bool := fun _ ds => decide (uptoBulkAll ds ≤ 1048576)
def OpenSpec.upto (s : _root_.Go.ChangeSpec) : _root_.Go.OpenSpec := { _root_.Go.OpenSpec.ofChange s with cond := some uptoSmall }

/-- 'placardlaw03.ClusterCleans', WHERE WHAT IT READS IS OF BULK AT MOST 1048576: true; the input reads as it did. -/
def clusterCleansUptoRow : OpenClaim := { program := "ytmdpmjabjijjiaa", sum := "041d33beff30fe40423032b8ba3e4b13a8e4ea354bcebe8b0963cd3571729c76", func := "placard/placardlaw03.ClusterCleans", spec := "clusterCleans", inPlace := ["internal/abi.NoEscape", "internal/bytealg.MakeNoZero"], unfollowed := true, recurses := true, apart := false, narrowed := true }
def ClusterCleansUptoSaid : Prop := clusterCleansUptoRow.holds Try.pinned (OpenSpec.upto clusterCleansSpec)

/-- 'placardlaw03.ClusterCuts', WHERE WHAT IT READS IS OF BULK AT MOST 1048576: true; the input reads as it did. -/
def clusterCutsUptoRow : OpenClaim := { program := "ytmdpmjabjijjiaa", sum := "041d33beff30fe40423032b8ba3e4b13a8e4ea354bcebe8b0963cd3571729c76", func := "placard/placardlaw03.ClusterCuts", spec := "clusterCuts", inPlace := ["internal/abi.NoEscape", "internal/bytealg.MakeNoZero"], unfollowed := true, recurses := true, apart := false, narrowed := true }
def ClusterCutsUptoSaid : Prop := clusterCutsUptoRow.holds Try.pinned (OpenSpec.upto clusterCutsSpec)

/-- 'placardlaw03.ClusterJoins', WHERE WHAT IT READS IS OF BULK AT MOST 1048576: true; the input reads as it did. -/
def clusterJoinsUptoRow : OpenClaim := { program := "ytmdpmjabjijjiaa", sum := "041d33beff30fe40423032b8ba3e4b13a8e4ea354bcebe8b0963cd3571729c76", func := "placard/placardlaw03.ClusterJoins", spec := "clusterJoins", inPlace := ["internal/abi.NoEscape", "internal/bytealg.MakeNoZero"], unfollowed := true, recurses := true, apart := false, narrowed := true }
def ClusterJoinsUptoSaid : Prop := clusterJoinsUptoRow.holds Try.pinned (OpenSpec.upto clusterJoinsSpec)

/-- 'placardlaw03.ClusterFits', WHERE WHAT IT READS IS OF BULK AT MOST 1048576: true; the input reads as it did. -/
def clusterFitsUptoRow : OpenClaim := { program := "ytmdpmjabjijjiaa", sum := "041d33beff30fe40423032b8ba3e4b13a8e4ea354bcebe8b0963cd3571729c76", func := "placard/placardlaw03.ClusterFits", spec := "clusterFits", inPlace := ["internal/abi.NoEscape", "internal/bytealg.MakeNoZero"], unfollowed := true, recurses := true, apart := false, narrowed := true }
def ClusterFitsUptoSaid : Prop := clusterFitsUptoRow.holds Try.pinned (OpenSpec.upto clusterFitsSpec)

/-- 'placardlaw34.MaskParses', WHERE WHAT IT READS IS OF BULK AT MOST 1048576: true; the input reads as it did. -/
def maskParsesUptoRow : OpenClaim := { program := "ytmdpmjabjijjiaa", sum := "041d33beff30fe40423032b8ba3e4b13a8e4ea354bcebe8b0963cd3571729c76", func := "placard/placardlaw34.MaskParses", spec := "maskParses", inPlace := ["internal/abi.NoEscape", "internal/bytealg.MakeNoZero"], unfollowed := true, recurses := true, apart := false, narrowed := true }
def MaskParsesUptoSaid : Prop := maskParsesUptoRow.holds Try.pinned (OpenSpec.upto maskParsesSpec)

/-- 'placardlaw34.MaskGrows', WHERE WHAT IT READS IS OF BULK AT MOST 1048576: true; the input reads as it did. -/
def maskGrowsUptoRow : OpenClaim := { program := "ytmdpmjabjijjiaa", sum := "041d33beff30fe40423032b8ba3e4b13a8e4ea354bcebe8b0963cd3571729c76", func := "placard/placardlaw34.MaskGrows", spec := "maskGrows", inPlace := ["internal/abi.NoEscape", "internal/bytealg.MakeNoZero"], unfollowed := true, recurses := true, apart := false, narrowed := true }
def MaskGrowsUptoSaid : Prop := maskGrowsUptoRow.holds Try.pinned (OpenSpec.upto maskGrowsSpec)

/-- 'placardlaw34.MaskThere', WHERE WHAT IT READS IS OF BULK AT MOST 1048576: true; the input reads as it did. -/
def maskThereUptoRow : OpenClaim := { program := "ytmdpmjabjijjiaa", sum := "041d33beff30fe40423032b8ba3e4b13a8e4ea354bcebe8b0963cd3571729c76", func := "placard/placardlaw34.MaskThere", spec := "maskThere", inPlace := ["internal/abi.NoEscape", "internal/bytealg.MakeNoZero"], unfollowed := true, recurses := true, apart := false, narrowed := true }
def MaskThereUptoSaid : Prop := maskThereUptoRow.holds Try.pinned (OpenSpec.upto maskThereSpec)

/-- 'placardlaw17.WrapKeeps', WHERE WHAT IT READS IS OF BULK AT MOST 1048576: true; the input reads as it did. -/
def wrapKeepsUptoRow : OpenClaim := { program := "ytmdpmjabjijjiaa", sum := "041d33beff30fe40423032b8ba3e4b13a8e4ea354bcebe8b0963cd3571729c76", func := "placard/placardlaw17.WrapKeeps", spec := "wrapKeeps", inPlace := ["internal/abi.NoEscape", "internal/bytealg.MakeNoZero"], unfollowed := true, recurses := true, apart := false, narrowed := true }
def WrapKeepsUptoSaid : Prop := wrapKeepsUptoRow.holds Try.pinned (OpenSpec.upto wrapKeepsSpec)

/-- 'placardlaw34.MaskFills', WHERE WHAT IT READS IS OF BULK AT MOST 1048576: true; the input reads as it did. -/
def maskFillsUptoRow : OpenClaim := { program := "ytmdpmjabjijjiaa", sum := "041d33beff30fe40423032b8ba3e4b13a8e4ea354bcebe8b0963cd3571729c76", func := "placard/placardlaw34.MaskFills", spec := "maskFills", inPlace := ["internal/abi.NoEscape", "internal/bytealg.MakeNoZero"], unfollowed := true, recurses := true, apart := false, narrowed := true }
def MaskFillsUptoSaid : Prop := maskFillsUptoRow.holds Try.pinned (OpenSpec.upto maskFillsSpec)

/-- 'placardlaw34.MaskNobody', WHERE WHAT IT READS IS OF BULK AT MOST 1048576: true; the input reads as it did. -/
def maskNobodyUptoRow : OpenClaim := { program := "ytmdpmjabjijjiaa", sum := "041d33beff30fe40423032b8ba3e4b13a8e4ea354bcebe8b0963cd3571729c76", func := "placard/placardlaw34.MaskNobody", spec := "maskNobody", inPlace := ["internal/abi.NoEscape", "internal/bytealg.MakeNoZero"], unfollowed := true, recurses := true, apart := false, narrowed := true }
def MaskNobodyUptoSaid : Prop := maskNobodyUptoRow.holds Try.pinned (OpenSpec.upto maskNobodySpec)

/-- 'placardlaw17.WrapLines', WHERE WHAT IT READS IS OF BULK AT MOST 1048576: true; the input reads as it did. -/
def wrapLinesUptoRow : OpenClaim := { program := "ytmdpmjabjijjiaa", sum := "041d33beff30fe40423032b8ba3e4b13a8e4ea354bcebe8b0963cd3571729c76", func := "placard/placardlaw17.WrapLines", spec := "wrapLines", inPlace := ["internal/abi.NoEscape", "internal/bytealg.MakeNoZero"], unfollowed := true, recurses := true, apart := false, narrowed := true }
def WrapLinesUptoSaid : Prop := wrapLinesUptoRow.holds Try.pinned (OpenSpec.upto wrapLinesSpec)

/-- 'placardlaw17.WrapCuts', WHERE WHAT IT READS IS OF BULK AT MOST 1048576: true; the input reads as it did. -/
def wrapCutsUptoRow : OpenClaim := { program := "ytmdpmjabjijjiaa", sum := "041d33beff30fe40423032b8ba3e4b13a8e4ea354bcebe8b0963cd3571729c76", func := "placard/placardlaw17.WrapCuts", spec := "wrapCuts", inPlace := ["internal/abi.NoEscape", "internal/bytealg.MakeNoZero"], unfollowed := true, recurses := true, apart := false, narrowed := true }
def WrapCutsUptoSaid : Prop := wrapCutsUptoRow.holds Try.pinned (OpenSpec.upto wrapCutsSpec)

end Rows
end Go.Proofs.Ytmdpmjabjijjiaa
