/-
  No cell of these rows narrows 'for every input' (looked for: loops, veiled, ifaces, maps, wideKeys, modest, calm, conditions, laid).
  DERIVED. THE GIVEN ROWS OF THIS SEAT. 3 by the template 'for every input the law returns true; each argument reads behind the call as it read before'; 0 by the template 'total and deterministic' (their statements: YtjkajojjehgmdaaGreatTotals.lean).
  GIVEN WITH THE SEED: the statements are not yours to turn. If you find one false, say at which input.
  Laid BY PROGRAM, IN A SANDBOX (cutbox-rows.mjs): the forced cells as the released guide's own fill.sh prints them over the translation 0e4bb432499c6bdc… (all of the seat's roots in one cut). By AI agents, Wed Nov 11 2026. No macro, syntax, notation, axiom, sorry.
-/
import Derived.Test.YtjkajojjehgmdaaGreatChecked
import GoSem.Claim
import GoSem.ClaimJoined
import GoSem.ClaimMapViews
import Derived.JoinedTies
import Derived.KernelRfl
namespace Go.Proofs.YtjkajojjehgmdaaGreat
/- THE CELL 'sum', in the pinned program and in every row, IS THE sha256 OF THE DUMP (.gsa) THAT YtjkajojjehgmdaaGreatProg.lean LOADS. Nothing in Lean hashes anything: it is a label: what it is worth is what the hold of that sum in a sandbox is worth. -/
noncomputable def Tryz.pinned : Pinned := { name := "ytjkajojjehgmdaagreat", sum := "0e4bb432499c6bdcc56a2c6dc4804f3e80d9da796fcad4334355fd6ff0e8171d", checked := Tryz.checked }
namespace Rows
def none {H : Type} : Left H := { results := [], args := [] }

/-- 'placardlaw11.RegionKeeps': WHATEVER THE INPUT: true; the input reads as it did. -/
def regionKeepsSpec : ChangeSpec := { name := "regionKeeps", fn := fun _ => fun
  | [d1, d2, d3, d4, d5] => { results := [.lit (.bool true)], args := [d1, d2, d3, d4, d5] }
  | _ => none }
def regionKeepsRow : OpenClaim := { program := "ytjkajojjehgmdaagreat", sum := "0e4bb432499c6bdcc56a2c6dc4804f3e80d9da796fcad4334355fd6ff0e8171d", func := "placard/placardlaw11.RegionKeeps", spec := "regionKeeps", inPlace := ["internal/abi.NoEscape", "internal/bytealg.MakeNoZero"], unfollowed := true, recurses := true, apart := false }
def RegionKeepsSaid : Prop := regionKeepsRow.holds Tryz.pinned (OpenSpec.ofChange regionKeepsSpec)

/-- ITS FALSE NEIGHBOUR: 'it returns false'. Refute it at one input. -/
def regionKeepsWrong : ChangeSpec := { name := "regionKeeps", fn := fun _ => fun
  | [d1, d2, d3, d4, d5] => { results := [.lit (.bool false)], args := [d1, d2, d3, d4, d5] }
  | _ => none }
def RegionKeepsWrongFalsely : Prop := regionKeepsRow.holds Tryz.pinned (OpenSpec.ofChange regionKeepsWrong)

/-- 'placardlaw11.RegionClean': WHATEVER THE INPUT: true; the input reads as it did. -/
def regionCleanSpec : ChangeSpec := { name := "regionClean", fn := fun _ => fun
  | [d1, d2, d3, d4, d5, d6] => { results := [.lit (.bool true)], args := [d1, d2, d3, d4, d5, d6] }
  | _ => none }
def regionCleanRow : OpenClaim := { program := "ytjkajojjehgmdaagreat", sum := "0e4bb432499c6bdcc56a2c6dc4804f3e80d9da796fcad4334355fd6ff0e8171d", func := "placard/placardlaw11.RegionClean", spec := "regionClean", inPlace := ["internal/abi.NoEscape", "internal/bytealg.MakeNoZero"], unfollowed := true, recurses := true, apart := false }
def RegionCleanSaid : Prop := regionCleanRow.holds Tryz.pinned (OpenSpec.ofChange regionCleanSpec)

/-- ITS FALSE NEIGHBOUR: 'it returns false'. Refute it at one input. -/
def regionCleanWrong : ChangeSpec := { name := "regionClean", fn := fun _ => fun
  | [d1, d2, d3, d4, d5, d6] => { results := [.lit (.bool false)], args := [d1, d2, d3, d4, d5, d6] }
  | _ => none }
def RegionCleanWrongFalsely : Prop := regionCleanRow.holds Tryz.pinned (OpenSpec.ofChange regionCleanWrong)

/-- 'placardlaw11.RegionActs': WHATEVER THE INPUT: true; the input reads as it did. -/
def regionActsSpec : ChangeSpec := { name := "regionActs", fn := fun _ => fun
  | [d1, d2, d3, d4, d5] => { results := [.lit (.bool true)], args := [d1, d2, d3, d4, d5] }
  | _ => none }
def regionActsRow : OpenClaim := { program := "ytjkajojjehgmdaagreat", sum := "0e4bb432499c6bdcc56a2c6dc4804f3e80d9da796fcad4334355fd6ff0e8171d", func := "placard/placardlaw11.RegionActs", spec := "regionActs", inPlace := ["internal/abi.NoEscape", "internal/bytealg.MakeNoZero"], unfollowed := true, recurses := true, apart := false }
def RegionActsSaid : Prop := regionActsRow.holds Tryz.pinned (OpenSpec.ofChange regionActsSpec)

/-- ITS FALSE NEIGHBOUR: 'it returns false'. Refute it at one input. -/
def regionActsWrong : ChangeSpec := { name := "regionActs", fn := fun _ => fun
  | [d1, d2, d3, d4, d5] => { results := [.lit (.bool false)], args := [d1, d2, d3, d4, d5] }
  | _ => none }
def RegionActsWrongFalsely : Prop := regionActsRow.holds Tryz.pinned (OpenSpec.ofChange regionActsWrong)

/- THE SECOND FORM. 'bulk': how many values and letters a reading holds, each counted each time it is reached (what is shared counts as often as it is met; a slice's spare places count too). A statement '..UptoSaid' is the law's where the arguments, and the package variables that the reading takes, are together of bulk at most 1048576: NARROWER than '..Said'. Prove '..Said' where nothing that the law and all that it calls make is longer than what came in: it says more and counts as full. Else prove '..UptoSaid'. A law counts once. -/
mutual
def uptoBulk {H : Type} : DataW H → Nat
  | .lit (.string bytes) => bytes.length + 1
  | .lit _ => 1
  | .nil => 1
  | .ptr d => uptoBulk d + 1
  | .slice elems spare => uptoBulkAll elems + uptoBulkAll spare + 1
  | .agg parts => uptoBulkAll parts + 1
  | .iface _ d => uptoBulk d + 1
  | .map entries => uptoBulkEntries entries + 1
  | .held _ => 1
def uptoBulkAll {H : Type} : List (DataW H) → Nat
  | [] => 0
  | d :: r => uptoBulk d + uptoBulkAll r
def uptoBulkEntries {H : Type} : List (Lit × DataW H) → Nat
  | [] => 0
  | x :: r => uptoBulkEntry x + uptoBulkEntries r
def uptoBulkEntry {H : Type} : Lit × DataW H → Nat
  | (.string bytes, d) => bytes.length + uptoBulk d + 1
  | (_, d) => uptoBulk d + 1
 end
def uptoSmall : (H : Type) → List (DataW H) → Bool := fun _ ds => decide (uptoBulkAll ds ≤ 1048576)
def OpenSpec.upto (s : _root_.Go.ChangeSpec) : _root_.Go.OpenSpec := { _root_.Go.OpenSpec.ofChange s with cond := some uptoSmall }

/-- 'placardlaw11.RegionKeeps', WHERE WHAT IT READS IS OF BULK AT MOST 1048576: true; the input reads as it did. -/
def regionKeepsUptoRow : OpenClaim := { program := "ytjkajojjehgmdaagreat", sum := "0e4bb432499c6bdcc56a2c6dc4804f3e80d9da796fcad4334355fd6ff0e8171d", func := "placard/placardlaw11.RegionKeeps", spec := "regionKeeps", inPlace := ["internal/abi.NoEscape", "internal/bytealg.MakeNoZero"], unfollowed := true, recurses := true, apart := false, narrowed := true }
def RegionKeepsUptoSaid : Prop := regionKeepsUptoRow.holds Tryz.pinned (OpenSpec.upto regionKeepsSpec)

/-- 'placardlaw11.RegionClean', WHERE WHAT IT READS IS OF BULK AT MOST 1048576: true; the input reads as it did. -/
def regionCleanUptoRow : OpenClaim := { program := "ytjkajojjehgmdaagreat", sum := "0e4bb432499c6bdcc56a2c6dc4804f3e80d9da796fcad4334355fd6ff0e8171d", func := "placard/placardlaw11.RegionClean", spec := "regionClean", inPlace := ["internal/abi.NoEscape", "internal/bytealg.MakeNoZero"], unfollowed := true, recurses := true, apart := false, narrowed := true }
def RegionCleanUptoSaid : Prop := regionCleanUptoRow.holds Tryz.pinned (OpenSpec.upto regionCleanSpec)

/-- 'placardlaw11.RegionActs', WHERE WHAT IT READS IS OF BULK AT MOST 1048576: true; the input reads as it did. -/
def regionActsUptoRow : OpenClaim := { program := "ytjkajojjehgmdaagreat", sum := "0e4bb432499c6bdcc56a2c6dc4804f3e80d9da796fcad4334355fd6ff0e8171d", func := "placard/placardlaw11.RegionActs", spec := "regionActs", inPlace := ["internal/abi.NoEscape", "internal/bytealg.MakeNoZero"], unfollowed := true, recurses := true, apart := false, narrowed := true }
def RegionActsUptoSaid : Prop := regionActsUptoRow.holds Tryz.pinned (OpenSpec.upto regionActsSpec)

end Rows
end Go.Proofs.YtjkajojjehgmdaaGreat
