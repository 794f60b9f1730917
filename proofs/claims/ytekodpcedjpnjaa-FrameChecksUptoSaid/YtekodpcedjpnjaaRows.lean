/-
  No cell of these rows narrows 'for every input' (looked for: loops, veiled, ifaces, maps, wideKeys, modest, calm, conditions, laid).
  DERIVED. THE GIVEN ROWS OF THIS SEAT. 4 by the template 'for every input the law returns true; each argument reads behind the call as it read before'; 0 by the template 'total and deterministic' (their statements: YtekodpcedjpnjaaTotals.lean).
  GIVEN WITH THE SEED: the statements are not yours to turn. If you find one false, say at which input.
  Laid BY PROGRAM, IN A SANDBOX (cutbox-rows.mjs): the forced cells as the released guide's own fill.sh prints them over the translation d3627a5e83894d44… (all of the seat's roots in one cut). By AI agents, Wed Nov 11 2026. No macro, syntax, notation, axiom, sorry.
-/
import Derived.Test.YtekodpcedjpnjaaChecked
import GoSem.Claim
import GoSem.ClaimJoined
import GoSem.ClaimMapViews
import Derived.JoinedTies
import Derived.KernelRfl
namespace Go.Proofs.Ytekodpcedjpnjaa
/- THE CELL 'sum', in the pinned program and in every row, IS THE sha256 OF THE DUMP (.gsa) THAT YtekodpcedjpnjaaProg.lean LOADS. Nothing in Lean hashes anything: it is a label: what it is worth is what the hold of that sum in a sandbox is worth. -/
noncomputable def Try.pinned : Pinned := { name := "ytekodpcedjpnjaa", sum := "d3627a5e83894d447bf169ad287b9cb3599af6d0c977283f0bcf4a70600c547d", checked := Try.checked }
namespace Rows
def none {H : Type} : Left H := { results := [], args := [] }

/-- 'placardlaw04.GridRuns': WHATEVER THE INPUT: true; the input reads as it did. -/
def gridRunsSpec : ChangeSpec := { name := "gridRuns", fn := fun _ => fun
  | [d1, d2, d3] => { results := [.lit (.bool true)], args := [d1, d2, d3] }
  | _ => none }
def gridRunsRow : OpenClaim := { program := "ytekodpcedjpnjaa", sum := "d3627a5e83894d447bf169ad287b9cb3599af6d0c977283f0bcf4a70600c547d", func := "placard/placardlaw04.GridRuns", spec := "gridRuns", unfollowed := true, recurses := true, apart := false }
def GridRunsSaid : Prop := gridRunsRow.holds Try.pinned (OpenSpec.ofChange gridRunsSpec)

/-- ITS FALSE NEIGHBOUR: 'it returns false'. Refute it at one input. -/
def gridRunsWrong : ChangeSpec := { name := "gridRuns", fn := fun _ => fun
  | [d1, d2, d3] => { results := [.lit (.bool false)], args := [d1, d2, d3] }
  | _ => none }
def GridRunsWrongFalsely : Prop := gridRunsRow.holds Try.pinned (OpenSpec.ofChange gridRunsWrong)

/-- 'placardlaw09.FrameChecks': WHATEVER THE INPUT: true; the input reads as it did. -/
def frameChecksSpec : ChangeSpec := { name := "frameChecks", fn := fun _ => fun
  | [d1, d2, d3] => { results := [.lit (.bool true)], args := [d1, d2, d3] }
  | _ => none }
def frameChecksRow : OpenClaim := { program := "ytekodpcedjpnjaa", sum := "d3627a5e83894d447bf169ad287b9cb3599af6d0c977283f0bcf4a70600c547d", func := "placard/placardlaw09.FrameChecks", spec := "frameChecks", inPlace := ["internal/abi.NoEscape", "internal/bytealg.MakeNoZero"], unfollowed := true, recurses := true, apart := false }
def FrameChecksSaid : Prop := frameChecksRow.holds Try.pinned (OpenSpec.ofChange frameChecksSpec)

/-- ITS FALSE NEIGHBOUR: 'it returns false'. Refute it at one input. -/
def frameChecksWrong : ChangeSpec := { name := "frameChecks", fn := fun _ => fun
  | [d1, d2, d3] => { results := [.lit (.bool false)], args := [d1, d2, d3] }
  | _ => none }
def FrameChecksWrongFalsely : Prop := frameChecksRow.holds Try.pinned (OpenSpec.ofChange frameChecksWrong)

/-- 'placardlaw05.TermPlain': WHATEVER THE INPUT: true; the input reads as it did. -/
def termPlainSpec : ChangeSpec := { name := "termPlain", fn := fun _ => fun
  | [d1, d2] => { results := [.lit (.bool true)], args := [d1, d2] }
  | _ => none }
def termPlainRow : OpenClaim := { program := "ytekodpcedjpnjaa", sum := "d3627a5e83894d447bf169ad287b9cb3599af6d0c977283f0bcf4a70600c547d", func := "placard/placardlaw05.TermPlain", spec := "termPlain", unfollowed := true, recurses := true, apart := false }
def TermPlainSaid : Prop := termPlainRow.holds Try.pinned (OpenSpec.ofChange termPlainSpec)

/-- ITS FALSE NEIGHBOUR: 'it returns false'. Refute it at one input. -/
def termPlainWrong : ChangeSpec := { name := "termPlain", fn := fun _ => fun
  | [d1, d2] => { results := [.lit (.bool false)], args := [d1, d2] }
  | _ => none }
def TermPlainWrongFalsely : Prop := termPlainRow.holds Try.pinned (OpenSpec.ofChange termPlainWrong)

/-- 'placardlaw05.TermNobody': WHATEVER THE INPUT: true; the input reads as it did. -/
def termNobodySpec : ChangeSpec := { name := "termNobody", fn := fun _ => fun
  | [d1, d2] => { results := [.lit (.bool true)], args := [d1, d2] }
  | _ => none }
def termNobodyRow : OpenClaim := { program := "ytekodpcedjpnjaa", sum := "d3627a5e83894d447bf169ad287b9cb3599af6d0c977283f0bcf4a70600c547d", func := "placard/placardlaw05.TermNobody", spec := "termNobody", unfollowed := true, recurses := true, apart := false }
def TermNobodySaid : Prop := termNobodyRow.holds Try.pinned (OpenSpec.ofChange termNobodySpec)

/-- ITS FALSE NEIGHBOUR: 'it returns false'. Refute it at one input. -/
def termNobodyWrong : ChangeSpec := { name := "termNobody", fn := fun _ => fun
  | [d1, d2] => { results := [.lit (.bool false)], args := [d1, d2] }
  | _ => none }
def TermNobodyWrongFalsely : Prop := termNobodyRow.holds Try.pinned (OpenSpec.ofChange termNobodyWrong)

/- THE SECOND FORM. 'bulk': how many values and letters a reading holds, each counted each time it is reached (what is shared counts as often as it is met; a slice's spare places count too). A statement '..UptoSaid' is the law's where the arguments, and the package variables that the reading takes, are together of bulk at most 1048576: NARROWER than '..Said'. Prove '..Said' where nothing that the law and all that it calls make is longer than what came in: it says more and counts as full. Else prove '..UptoSaid'. A law counts once. -/
mutual
def uptoBulk {H : Type} : DataW H → Nat
  | .lit (.string bytes) => bytes.length + 1
  | .lit _ => 1
  | .nil => 1
  | .ptr d => uptoBulk d + 1
  | .slice elems spare => uptoBulkAll elems + uptoBulkAll spare + 1
  | .agg parts => uptoBulkAll parts + 1
  | .iface _ d => uptoBulk d + 1
  | .map entries => uptoBulkEntries entries + 1
  | .held _ => 1
def uptoBulkAll {H : Type} : List (DataW H) → Nat
  | [] => 0
  | d :: r => uptoBulk d + uptoBulkAll r
def uptoBulkEntries {H : Type} : List (Lit × DataW H) → Nat
  | [] => 0
  | x :: r => uptoBulkEntry x + uptoBulkEntries r
def uptoBulkEntry {H : Type} : Lit × DataW H → Nat
  | (.string bytes, d) => bytes.length + uptoBulk d + 1
  | (_, d) => uptoBulk d + 1
 end
def uptoSmall : (H : Type) → List (DataW H) → Bool := fun _ ds => decide (uptoBulkAll ds ≤ 1048576)
def OpenSpec.upto (s : _root_.Go.ChangeSpec) : _root_.Go.OpenSpec := { _root_.Go.OpenSpec.ofChange s with cond := some uptoSmall }

/-- 'placardlaw04.GridRuns', WHERE WHAT IT READS IS OF BULK AT MOST 1048576: true; the input reads as it did. -/
def gridRunsUptoRow : OpenClaim := { program := "ytekodpcedjpnjaa", sum := "d3627a5e83894d447bf169ad287b9cb3599af6d0c977283f0bcf4a70600c547d", func := "placard/placardlaw04.GridRuns", spec := "gridRuns", unfollowed := true, recurses := true, apart := false, narrowed := true }
def GridRunsUptoSaid : Prop := gridRunsUptoRow.holds Try.pinned (OpenSpec.upto gridRunsSpec)

/-- 'placardlaw09.FrameChecks', WHERE WHAT IT READS IS OF BULK AT MOST 1048576: true; the input reads as it did. -/
def frameChecksUptoRow : OpenClaim := { program := "ytekodpcedjpnjaa", sum := "d3627a5e83894d447bf169ad287b9cb3599af6d0c977283f0bcf4a70600c547d", func := "placard/placardlaw09.FrameChecks", spec := "frameChecks", inPlace := ["internal/abi.NoEscape", "internal/bytealg.MakeNoZero"], unfollowed := true, recurses := true, apart := false, narrowed := true }
def FrameChecksUptoSaid : Prop := frameChecksUptoRow.holds Try.pinned (OpenSpec.upto frameChecksSpec)

/-- 'placardlaw05.TermPlain', WHERE WHAT IT READS IS OF BULK AT MOST 1048576: true; the input reads as it did. -/
def termPlainUptoRow : OpenClaim := { program := "ytekodpcedjpnjaa", sum := "d3627a5e83894d447bf169ad287b9cb3599af6d0c977283f0bcf4a70600c547d", func := "placard/placardlaw05.TermPlain", spec := "termPlain", unfollowed := true, recurses := true, apart := false, narrowed := true }
def TermPlainUptoSaid : Prop := termPlainUptoRow.holds Try.pinned (OpenSpec.upto termPlainSpec)

/-- 'placardlaw05.TermNobody', WHERE WHAT IT READS IS OF BULK AT MOST 1048576: true; the input reads as it did. -/
def termNobodyUptoRow : OpenClaim := { program := "ytekodpcedjpnjaa", sum := "d3627a5e83894d447bf169ad287b9cb3599af6d0c977283f0bcf4a70600c547d", func := "placard/placardlaw05.TermNobody", spec := "termNobody", unfollowed := true, recurses := true, apart := false, narrowed := true }
def TermNobodyUptoSaid : Prop := termNobodyUptoRow.holds Try.pinned (OpenSpec.upto termNobodySpec)

end Rows
end Go.Proofs.Ytekodpcedjpnjaa
