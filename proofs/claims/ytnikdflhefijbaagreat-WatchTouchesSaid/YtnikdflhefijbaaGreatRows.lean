/-
  No cell of these rows narrows 'for every input' (looked for: loops, veiled, ifaces, maps, wideKeys, modest, calm, conditions, laid).
  DERIVED. THE GIVEN ROWS OF THIS SEAT. 8 by the template 'for every input the law returns true; each argument reads behind the call as it read before'; 0 by the template 'total and deterministic' (their statements: YtnikdflhefijbaaGreatTotals.lean).
  GIVEN WITH THE SEED: the statements are not yours to turn. If you find one false, say at which input.
  Laid BY PROGRAM, IN A SANDBOX (cutbox-rows.mjs): the forced cells as the released guide's own fill.sh prints them over the translation 526d729921ed5c37… (all of the seat's roots in one cut). By AI agents, Wed Nov 11 2026. No macro, syntax, notation, axiom, sorry.
-/
import Derived.Test.YtnikdflhefijbaaGreatChecked
import GoSem.Claim
import GoSem.ClaimJoined
import GoSem.ClaimMapViews
import Derived.JoinedTies
import Derived.KernelRfl
namespace Go.Proofs.YtnikdflhefijbaaGreat
/- THE CELL 'sum', in the pinned program and in every row, IS THE sha256 OF THE DUMP (.gsa) THAT YtnikdflhefijbaaGreatProg.lean LOADS. Nothing in Lean hashes anything: it is a label: what it is worth is what the hold of that sum in a sandbox is worth. -/
noncomputable def Tryz.pinned : Pinned := { name := "ytnikdflhefijbaagreat", sum := "526d729921ed5c37cc408175cd567d6d7a793ad60f90c703eae4496af84823ee", checked := Tryz.checked }
namespace Rows
def none {H : Type} : Left H := { results := [], args := [] }

/-- 'soughlaw34.SolveRuns': WHATEVER THE INPUT: true; the input reads as it did. -/
def solveRunsSpec : ChangeSpec := { name := "solveRuns", fn := fun _ => fun
  | [d1, d2, d3] => { results := [.lit (.bool true)], args := [d1, d2, d3] }
  | _ => none }
def solveRunsRow : OpenClaim := { program := "ytnikdflhefijbaagreat", sum := "526d729921ed5c37cc408175cd567d6d7a793ad60f90c703eae4496af84823ee", func := "sough/soughlaw34.SolveRuns", spec := "solveRuns", unfollowed := true, recurses := true, apart := false }
def SolveRunsSaid : Prop := solveRunsRow.holds Tryz.pinned (OpenSpec.ofChange solveRunsSpec)

/-- ITS FALSE NEIGHBOUR: 'it returns false'. Refute it at one input. -/
def solveRunsWrong : ChangeSpec := { name := "solveRuns", fn := fun _ => fun
  | [d1, d2, d3] => { results := [.lit (.bool false)], args := [d1, d2, d3] }
  | _ => none }
def SolveRunsWrongFalsely : Prop := solveRunsRow.holds Tryz.pinned (OpenSpec.ofChange solveRunsWrong)

/-- 'soughlaw34.SolveBelow': WHATEVER THE INPUT: true; the input reads as it did. -/
def solveBelowSpec : ChangeSpec := { name := "solveBelow", fn := fun _ => fun
  | [d1, d2, d3, d4] => { results := [.lit (.bool true)], args := [d1, d2, d3, d4] }
  | _ => none }
def solveBelowRow : OpenClaim := { program := "ytnikdflhefijbaagreat", sum := "526d729921ed5c37cc408175cd567d6d7a793ad60f90c703eae4496af84823ee", func := "sough/soughlaw34.SolveBelow", spec := "solveBelow", unfollowed := true, recurses := true, apart := false }
def SolveBelowSaid : Prop := solveBelowRow.holds Tryz.pinned (OpenSpec.ofChange solveBelowSpec)

/-- ITS FALSE NEIGHBOUR: 'it returns false'. Refute it at one input. -/
def solveBelowWrong : ChangeSpec := { name := "solveBelow", fn := fun _ => fun
  | [d1, d2, d3, d4] => { results := [.lit (.bool false)], args := [d1, d2, d3, d4] }
  | _ => none }
def SolveBelowWrongFalsely : Prop := solveBelowRow.holds Tryz.pinned (OpenSpec.ofChange solveBelowWrong)

/-- 'soughlaw34.SolveLeast': WHATEVER THE INPUT: true; the input reads as it did. -/
def solveLeastSpec : ChangeSpec := { name := "solveLeast", fn := fun _ => fun
  | [d1, d2, d3, d4] => { results := [.lit (.bool true)], args := [d1, d2, d3, d4] }
  | _ => none }
def solveLeastRow : OpenClaim := { program := "ytnikdflhefijbaagreat", sum := "526d729921ed5c37cc408175cd567d6d7a793ad60f90c703eae4496af84823ee", func := "sough/soughlaw34.SolveLeast", spec := "solveLeast", unfollowed := true, recurses := true, apart := false }
def SolveLeastSaid : Prop := solveLeastRow.holds Tryz.pinned (OpenSpec.ofChange solveLeastSpec)

/-- ITS FALSE NEIGHBOUR: 'it returns false'. Refute it at one input. -/
def solveLeastWrong : ChangeSpec := { name := "solveLeast", fn := fun _ => fun
  | [d1, d2, d3, d4] => { results := [.lit (.bool false)], args := [d1, d2, d3, d4] }
  | _ => none }
def SolveLeastWrongFalsely : Prop := solveLeastRow.holds Tryz.pinned (OpenSpec.ofChange solveLeastWrong)

/-- 'soughlaw35.BoundFair': WHATEVER THE INPUT: true; the input reads as it did. -/
def boundFairSpec : ChangeSpec := { name := "boundFair", fn := fun _ => fun
  | [d1, d2, d3] => { results := [.lit (.bool true)], args := [d1, d2, d3] }
  | _ => none }
def boundFairRow : OpenClaim := { program := "ytnikdflhefijbaagreat", sum := "526d729921ed5c37cc408175cd567d6d7a793ad60f90c703eae4496af84823ee", func := "sough/soughlaw35.BoundFair", spec := "boundFair", unfollowed := true, recurses := true, apart := false }
def BoundFairSaid : Prop := boundFairRow.holds Tryz.pinned (OpenSpec.ofChange boundFairSpec)

/-- ITS FALSE NEIGHBOUR: 'it returns false'. Refute it at one input. -/
def boundFairWrong : ChangeSpec := { name := "boundFair", fn := fun _ => fun
  | [d1, d2, d3] => { results := [.lit (.bool false)], args := [d1, d2, d3] }
  | _ => none }
def BoundFairWrongFalsely : Prop := boundFairRow.holds Tryz.pinned (OpenSpec.ofChange boundFairWrong)

/-- 'soughlaw35.BoundEnds': WHATEVER THE INPUT: true; the input reads as it did. -/
def boundEndsSpec : ChangeSpec := { name := "boundEnds", fn := fun _ => fun
  | [d1, d2, d3] => { results := [.lit (.bool true)], args := [d1, d2, d3] }
  | _ => none }
def boundEndsRow : OpenClaim := { program := "ytnikdflhefijbaagreat", sum := "526d729921ed5c37cc408175cd567d6d7a793ad60f90c703eae4496af84823ee", func := "sough/soughlaw35.BoundEnds", spec := "boundEnds", unfollowed := true, recurses := true, apart := false }
def BoundEndsSaid : Prop := boundEndsRow.holds Tryz.pinned (OpenSpec.ofChange boundEndsSpec)

/-- ITS FALSE NEIGHBOUR: 'it returns false'. Refute it at one input. -/
def boundEndsWrong : ChangeSpec := { name := "boundEnds", fn := fun _ => fun
  | [d1, d2, d3] => { results := [.lit (.bool false)], args := [d1, d2, d3] }
  | _ => none }
def BoundEndsWrongFalsely : Prop := boundEndsRow.holds Tryz.pinned (OpenSpec.ofChange boundEndsWrong)

/-- 'soughlaw36.WatchFirst': WHATEVER THE INPUT: true; the input reads as it did. -/
def watchFirstSpec : ChangeSpec := { name := "watchFirst", fn := fun _ => fun
  | [d1, d2, d3] => { results := [.lit (.bool true)], args := [d1, d2, d3] }
  | _ => none }
def watchFirstRow : OpenClaim := { program := "ytnikdflhefijbaagreat", sum := "526d729921ed5c37cc408175cd567d6d7a793ad60f90c703eae4496af84823ee", func := "sough/soughlaw36.WatchFirst", spec := "watchFirst", unfollowed := true, recurses := true, apart := false }
def WatchFirstSaid : Prop := watchFirstRow.holds Tryz.pinned (OpenSpec.ofChange watchFirstSpec)

/-- ITS FALSE NEIGHBOUR: 'it returns false'. Refute it at one input. -/
def watchFirstWrong : ChangeSpec := { name := "watchFirst", fn := fun _ => fun
  | [d1, d2, d3] => { results := [.lit (.bool false)], args := [d1, d2, d3] }
  | _ => none }
def WatchFirstWrongFalsely : Prop := watchFirstRow.holds Tryz.pinned (OpenSpec.ofChange watchFirstWrong)

/-- 'soughlaw36.WatchRests': WHATEVER THE INPUT: true; the input reads as it did. -/
def watchRestsSpec : ChangeSpec := { name := "watchRests", fn := fun _ => fun
  | [d1, d2, d3] => { results := [.lit (.bool true)], args := [d1, d2, d3] }
  | _ => none }
def watchRestsRow : OpenClaim := { program := "ytnikdflhefijbaagreat", sum := "526d729921ed5c37cc408175cd567d6d7a793ad60f90c703eae4496af84823ee", func := "sough/soughlaw36.WatchRests", spec := "watchRests", unfollowed := true, recurses := true, apart := false }
def WatchRestsSaid : Prop := watchRestsRow.holds Tryz.pinned (OpenSpec.ofChange watchRestsSpec)

/-- ITS FALSE NEIGHBOUR: 'it returns false'. Refute it at one input. -/
def watchRestsWrong : ChangeSpec := { name := "watchRests", fn := fun _ => fun
  | [d1, d2, d3] => { results := [.lit (.bool false)], args := [d1, d2, d3] }
  | _ => none }
def WatchRestsWrongFalsely : Prop := watchRestsRow.holds Tryz.pinned (OpenSpec.ofChange watchRestsWrong)

/-- 'soughlaw36.WatchTouches': WHATEVER THE INPUT: true; the input reads as it did. -/
def watchTouchesSpec : ChangeSpec := { name := "watchTouches", fn := fun _ => fun
  | [d1, d2, d3] => { results := [.lit (.bool true)], args := [d1, d2, d3] }
  | _ => none }
def watchTouchesRow : OpenClaim := { program := "ytnikdflhefijbaagreat", sum := "526d729921ed5c37cc408175cd567d6d7a793ad60f90c703eae4496af84823ee", func := "sough/soughlaw36.WatchTouches", spec := "watchTouches", unfollowed := true, recurses := true, apart := false }
def WatchTouchesSaid : Prop := watchTouchesRow.holds Tryz.pinned (OpenSpec.ofChange watchTouchesSpec)

/-- ITS FALSE NEIGHBOUR: 'it returns false'. Refute it at one input. -/
def watchTouchesWrong : ChangeSpec := { name := "watchTouches", fn := fun _ => fun
  | [d1, d2, d3] => { results := [.lit (.bool false)], args := [d1, d2, d3] }
  | _ => none }
def WatchTouchesWrongFalsely : Prop := watchTouchesRow.holds Tryz.pinned (OpenSpec.ofChange watchTouchesWrong)

/- THE SECOND FORM. 'bulk': how many values and letters a reading holds, each counted each time it is reached (what is shared counts as often as it is met; a slice's spare places count too). A statement '..UptoSaid' is the law's where the arguments, and the package variables that the reading takes, are together of bulk at most 1048576: NARROWER than '..Said'. Prove '..Said' where nothing that the law and all that it calls make is longer than what came in: it says more and counts as full. Else prove '..UptoSaid'. A law counts once. -/
mutual
def uptoBulk {H : Type} : DataW H → Nat
  | .lit (.string bytes) => bytes.length + 1
  | .lit _ => 1
  | .nil => 1
  | .ptr d => uptoBulk d + 1
  | .slice elems spare => uptoBulkAll elems + uptoBulkAll spare + 1
  | .agg parts => uptoBulkAll parts + 1
  | .iface _ d => uptoBulk d + 1
  | .map entries => uptoBulkEntries entries + 1
  | .held _ => 1
def uptoBulkAll {H : Type} : List (DataW H) → Nat
  | [] => 0
  | d :: r => uptoBulk d + uptoBulkAll r
def uptoBulkEntries {H : Type} : List (Lit × DataW H) → Nat
  | [] => 0
  | x :: r => uptoBulkEntry x + uptoBulkEntries r
def uptoBulkEntry {H : Type} : Lit × DataW H → Nat
  | (.string bytes, d) => bytes.length + uptoBulk d + 1
  | (_, d) => uptoBulk d + 1
 end
def uptoSmall : (H : Type) → List (DataW H) → Bool := fun _ ds => decide (uptoBulkAll ds ≤ 1048576)
def OpenSpec.upto (s : _root_.Go.ChangeSpec) : _root_.Go.OpenSpec := { _root_.Go.OpenSpec.ofChange s with cond := some uptoSmall }

/-- 'soughlaw34.SolveRuns', WHERE WHAT IT READS IS OF BULK AT MOST 1048576: true; the input reads as it did. -/
def solveRunsUptoRow : OpenClaim := { program := "ytnikdflhefijbaagreat", sum := "526d729921ed5c37cc408175cd567d6d7a793ad60f90c703eae4496af84823ee", func := "sough/soughlaw34.SolveRuns", spec := "solveRuns", unfollowed := true, recurses := true, apart := false, narrowed := true }
def SolveRunsUptoSaid : Prop := solveRunsUptoRow.holds Tryz.pinned (OpenSpec.upto solveRunsSpec)

/-- 'soughlaw34.SolveBelow', WHERE WHAT IT READS IS OF BULK AT MOST 1048576: true; the input reads as it did. -/
def solveBelowUptoRow : OpenClaim := { program := "ytnikdflhefijbaagreat", sum := "526d729921ed5c37cc408175cd567d6d7a793ad60f90c703eae4496af84823ee", func := "sough/soughlaw34.SolveBelow", spec := "solveBelow", unfollowed := true, recurses := true, apart := false, narrowed := true }
def SolveBelowUptoSaid : Prop := solveBelowUptoRow.holds Tryz.pinned (OpenSpec.upto solveBelowSpec)

/-- 'soughlaw34.SolveLeast', WHERE WHAT IT READS IS OF BULK AT MOST 1048576: true; the input reads as it did. -/
def solveLeastUptoRow : OpenClaim := { program := "ytnikdflhefijbaagreat", sum := "526d729921ed5c37cc408175cd567d6d7a793ad60f90c703eae4496af84823ee", func := "sough/soughlaw34.SolveLeast", spec := "solveLeast", unfollowed := true, recurses := true, apart := false, narrowed := true }
def SolveLeastUptoSaid : Prop := solveLeastUptoRow.holds Tryz.pinned (OpenSpec.upto solveLeastSpec)

/-- 'soughlaw35.BoundFair', WHERE WHAT IT READS IS OF BULK AT MOST 1048576: true; the input reads as it did. -/
def boundFairUptoRow : OpenClaim := { program := "ytnikdflhefijbaagreat", sum := "526d729921ed5c37cc408175cd567d6d7a793ad60f90c703eae4496af84823ee", func := "sough/soughlaw35.BoundFair", spec := "boundFair", unfollowed := true, recurses := true, apart := false, narrowed := true }
def BoundFairUptoSaid : Prop := boundFairUptoRow.holds Tryz.pinned (OpenSpec.upto boundFairSpec)

/-- 'soughlaw35.BoundEnds', WHERE WHAT IT READS IS OF BULK AT MOST 1048576: true; the input reads as it did. -/
def boundEndsUptoRow : OpenClaim := { program := "ytnikdflhefijbaagreat", sum := "526d729921ed5c37cc408175cd567d6d7a793ad60f90c703eae4496af84823ee", func := "sough/soughlaw35.BoundEnds", spec := "boundEnds", unfollowed := true, recurses := true, apart := false, narrowed := true }
def BoundEndsUptoSaid : Prop := boundEndsUptoRow.holds Tryz.pinned (OpenSpec.upto boundEndsSpec)

/-- 'soughlaw36.WatchFirst', WHERE WHAT IT READS IS OF BULK AT MOST 1048576: true; the input reads as it did. -/
def watchFirstUptoRow : OpenClaim := { program := "ytnikdflhefijbaagreat", sum := "526d729921ed5c37cc408175cd567d6d7a793ad60f90c703eae4496af84823ee", func := "sough/soughlaw36.WatchFirst", spec := "watchFirst", unfollowed := true, recurses := true, apart := false, narrowed := true }
def WatchFirstUptoSaid : Prop := watchFirstUptoRow.holds Tryz.pinned (OpenSpec.upto watchFirstSpec)

/-- 'soughlaw36.WatchRests', WHERE WHAT IT READS IS OF BULK AT MOST 1048576: true; the input reads as it did. -/
def watchRestsUptoRow : OpenClaim := { program := "ytnikdflhefijbaagreat", sum := "526d729921ed5c37cc408175cd567d6d7a793ad60f90c703eae4496af84823ee", func := "sough/soughlaw36.WatchRests", spec := "watchRests", unfollowed := true, recurses := true, apart := false, narrowed := true }
def WatchRestsUptoSaid : Prop := watchRestsUptoRow.holds Tryz.pinned (OpenSpec.upto watchRestsSpec)

/-- 'soughlaw36.WatchTouches', WHERE WHAT IT READS IS OF BULK AT MOST 1048576: true; the input reads as it did. -/
def watchTouchesUptoRow : OpenClaim := { program := "ytnikdflhefijbaagreat", sum := "526d729921ed5c37cc408175cd567d6d7a793ad60f90c703eae4496af84823ee", func := "sough/soughlaw36.WatchTouches", spec := "watchTouches", unfollowed := true, recurses := true, apart := false, narrowed := true }
def WatchTouchesUptoSaid : Prop := watchTouchesUptoRow.holds Tryz.pinned (OpenSpec.upto watchTouchesSpec)

end Rows
end Go.Proofs.YtnikdflhefijbaaGreat
