/-
  No cell of these rows narrows 'for every input' (looked for: loops, veiled, ifaces, maps, wideKeys, modest, calm, conditions, laid).
  DERIVED. THE GIVEN ROWS OF THIS SEAT. 4 by the template 'for every input the law returns true; each argument reads behind the call as it read before'; 0 by the template 'total and deterministic' (their statements: YtegpahamenjiaaaGreatTotals.lean).
  GIVEN WITH THE SEED: the statements are not yours to turn. If you find one false, say at which input.
  Laid BY PROGRAM, IN A SANDBOX (cutbox-rows.mjs): the forced cells as the released guide's own fill.sh prints them over the translation 1701b7546f8cd8bd… (all of the seat's roots in one cut). By AI agents, Wed Nov 11 2026. No macro, syntax, notation, axiom, sorry.
-/
import Derived.Test.YtegpahamenjiaaaGreatChecked
import GoSem.Claim
import GoSem.ClaimJoined
import GoSem.ClaimMapViews
import Derived.JoinedTies
import Derived.KernelRfl
namespace Go.Proofs.YtegpahamenjiaaaGreat
/- THE CELL 'sum', in the pinned program and in every row, IS THE sha256 OF THE DUMP (.gsa) THAT YtegpahamenjiaaaGreatProg.lean LOADS. Nothing in Lean hashes anything: it is a label: what it is worth is what the hold of that sum in a sandbox is worth. -/
noncomputable def Tryz.pinned : Pinned := { name := "ytegpahamenjiaaagreat", sum := "1701b7546f8cd8bdd9b7b125d868b423c423eb67325438da1a5f5346ae1aa5c3", checked := Tryz.checked }
namespace Rows
def none {H : Type} : Left H := { results := [], args := [] }

/-- 'soughlaw17.SystemTurns': WHATEVER THE INPUT: true; the input reads as it did. -/
def systemTurnsSpec : ChangeSpec := { name := "systemTurns", fn := fun _ => fun
  | [d1, d2] => { results := [.lit (.bool true)], args := [d1, d2] }
  | _ => none }
def systemTurnsRow : OpenClaim := { program := "ytegpahamenjiaaagreat", sum := "1701b7546f8cd8bdd9b7b125d868b423c423eb67325438da1a5f5346ae1aa5c3", func := "sough/soughlaw17.SystemTurns", spec := "systemTurns", unfollowed := true, recurses := true, apart := false }
def SystemTurnsSaid : Prop := systemTurnsRow.holds Tryz.pinned (OpenSpec.ofChange systemTurnsSpec)

/-- ITS FALSE NEIGHBOUR: 'it returns false'. Refute it at one input. -/
def systemTurnsWrong : ChangeSpec := { name := "systemTurns", fn := fun _ => fun
  | [d1, d2] => { results := [.lit (.bool false)], args := [d1, d2] }
  | _ => none }
def SystemTurnsWrongFalsely : Prop := systemTurnsRow.holds Tryz.pinned (OpenSpec.ofChange systemTurnsWrong)

/-- 'soughlaw33.WorkerOnce': WHATEVER THE INPUT: true; the input reads as it did. -/
def workerOnceSpec : ChangeSpec := { name := "workerOnce", fn := fun _ => fun
  | [d1, d2, d3, d4, d5] => { results := [.lit (.bool true)], args := [d1, d2, d3, d4, d5] }
  | _ => none }
def workerOnceRow : OpenClaim := { program := "ytegpahamenjiaaagreat", sum := "1701b7546f8cd8bdd9b7b125d868b423c423eb67325438da1a5f5346ae1aa5c3", func := "sough/soughlaw33.WorkerOnce", spec := "workerOnce", unfollowed := true, recurses := true, apart := false }
def WorkerOnceSaid : Prop := workerOnceRow.holds Tryz.pinned (OpenSpec.ofChange workerOnceSpec)

/-- ITS FALSE NEIGHBOUR: 'it returns false'. Refute it at one input. -/
def workerOnceWrong : ChangeSpec := { name := "workerOnce", fn := fun _ => fun
  | [d1, d2, d3, d4, d5] => { results := [.lit (.bool false)], args := [d1, d2, d3, d4, d5] }
  | _ => none }
def WorkerOnceWrongFalsely : Prop := workerOnceRow.holds Tryz.pinned (OpenSpec.ofChange workerOnceWrong)

/-- 'soughlaw33.WorkerNew': WHATEVER THE INPUT: true; the input reads as it did. -/
def workerNewSpec : ChangeSpec := { name := "workerNew", fn := fun _ => fun
  | [d1, d2, d3, d4] => { results := [.lit (.bool true)], args := [d1, d2, d3, d4] }
  | _ => none }
def workerNewRow : OpenClaim := { program := "ytegpahamenjiaaagreat", sum := "1701b7546f8cd8bdd9b7b125d868b423c423eb67325438da1a5f5346ae1aa5c3", func := "sough/soughlaw33.WorkerNew", spec := "workerNew", unfollowed := true, recurses := true, apart := false }
def WorkerNewSaid : Prop := workerNewRow.holds Tryz.pinned (OpenSpec.ofChange workerNewSpec)

/-- ITS FALSE NEIGHBOUR: 'it returns false'. Refute it at one input. -/
def workerNewWrong : ChangeSpec := { name := "workerNew", fn := fun _ => fun
  | [d1, d2, d3, d4] => { results := [.lit (.bool false)], args := [d1, d2, d3, d4] }
  | _ => none }
def WorkerNewWrongFalsely : Prop := workerNewRow.holds Tryz.pinned (OpenSpec.ofChange workerNewWrong)

/-- 'soughlaw33.WorkerPlays': WHATEVER THE INPUT: true; the input reads as it did. -/
def workerPlaysSpec : ChangeSpec := { name := "workerPlays", fn := fun _ => fun
  | [d1, d2, d3] => { results := [.lit (.bool true)], args := [d1, d2, d3] }
  | _ => none }
def workerPlaysRow : OpenClaim := { program := "ytegpahamenjiaaagreat", sum := "1701b7546f8cd8bdd9b7b125d868b423c423eb67325438da1a5f5346ae1aa5c3", func := "sough/soughlaw33.WorkerPlays", spec := "workerPlays", unfollowed := true, recurses := true, apart := false }
def WorkerPlaysSaid : Prop := workerPlaysRow.holds Tryz.pinned (OpenSpec.ofChange workerPlaysSpec)

/-- ITS FALSE NEIGHBOUR: 'it returns false'. Refute it at one input. -/
def workerPlaysWrong : ChangeSpec := { name := "workerPlays", fn := fun _ => fun
  | [d1, d2, d3] => { results := [.lit (.bool false)], args := [d1, d2, d3] }
  | _ => none }
def WorkerPlaysWrongFalsely : Prop := workerPlaysRow.holds Tryz.pinned (OpenSpec.ofChange workerPlaysWrong)

/- THE SECOND FORM. 'bulk': how many values and letters a reading holds, each counted each time it is reached (what is shared counts as often as it is met; a slice's spare places count too). A statement '..UptoSaid' is the law's where the arguments, and the package variables that the reading takes, are together of bulk at most 1048576: NARROWER than '..Said'. Prove '..Said' where nothing that the law and all that it calls make is longer than what came in: it says more and counts as full. Else prove '..UptoSaid'. A law counts once. -/
mutual
def uptoBulk {H : Type} : DataW H → Nat
  | .lit (.string bytes) => bytes.length + 1
  | .lit _ => 1
  | .nil => 1
  | .ptr d => uptoBulk d + 1
  | .slice elems spare => uptoBulkAll elems + uptoBulkAll spare + 1
  | .agg parts => uptoBulkAll parts + 1
  | .iface _ d => uptoBulk d + 1
  | .map entries => uptoBulkEntries entries + 1
  | .held _ => 1
def uptoBulkAll {H : Type} : List (DataW H) → Nat
  | [] => 0
  | d :: r => uptoBulk d + uptoBulkAll r
def uptoBulkEntries {H : Type} : List (Lit × DataW H) → Nat
  | [] => 0
  | x :: r => uptoBulkEntry x + uptoBulkEntries r
def uptoBulkEntry {H : Type} : Lit × DataW H → Nat
  | (.string bytes, d) => bytes.length + uptoBulk d + 1
  | (_, d) => uptoBulk d + 1
 end
def uptoSmall : (H : Type) → List (DataW H) → Bool := fun _ ds => decide (uptoBulkAll ds ≤ 1048576)
def OpenSpec.upto (s : _root_.Go.ChangeSpec) : _root_.Go.OpenSpec := { _root_.Go.OpenSpec.ofChange s with cond := some uptoSmall }

/-- 'soughlaw17.SystemTurns', WHERE WHAT IT READS IS OF BULK AT MOST 1048576: true; the input reads as it did. -/
def systemTurnsUptoRow : OpenClaim := { program := "ytegpahamenjiaaagreat", sum := "1701b7546f8cd8bdd9b7b125d868b423c423eb67325438da1a5f5346ae1aa5c3", func := "sough/soughlaw17.SystemTurns", spec := "systemTurns", unfollowed := true, recurses := true, apart := false, narrowed := true }
def SystemTurnsUptoSaid : Prop := systemTurnsUptoRow.holds Tryz.pinned (OpenSpec.upto systemTurnsSpec)

/-- 'soughlaw33.WorkerOnce', WHERE WHAT IT READS IS OF BULK AT MOST 1048576: true; the input reads as it did. -/
def workerOnceUptoRow : OpenClaim := { program := "ytegpahamenjiaaagreat", sum := "1701b7546f8cd8bdd9b7b125d868b423c423eb67325438da1a5f5346ae1aa5c3", func := "sough/soughlaw33.WorkerOnce", spec := "workerOnce", unfollowed := true, recurses := true, apart := false, narrowed := true }
def WorkerOnceUptoSaid : Prop := workerOnceUptoRow.holds Tryz.pinned (OpenSpec.upto workerOnceSpec)

/-- 'soughlaw33.WorkerNew', WHERE WHAT IT READS IS OF BULK AT MOST 1048576: true; the input reads as it did. -/
def workerNewUptoRow : OpenClaim := { program := "ytegpahamenjiaaagreat", sum := "1701b7546f8cd8bdd9b7b125d868b423c423eb67325438da1a5f5346ae1aa5c3", func := "sough/soughlaw33.WorkerNew", spec := "workerNew", unfollowed := true, recurses := true, apart := false, narrowed := true }
def WorkerNewUptoSaid : Prop := workerNewUptoRow.holds Tryz.pinned (OpenSpec.upto workerNewSpec)

/-- 'soughlaw33.WorkerPlays', WHERE WHAT IT READS IS OF BULK AT MOST 1048576: true; the input reads as it did. -/
def workerPlaysUptoRow : OpenClaim := { program := "ytegpahamenjiaaagreat", sum := "1701b7546f8cd8bdd9b7b125d868b423c423eb67325438da1a5f5346ae1aa5c3", func := "sough/soughlaw33.WorkerPlays", spec := "workerPlays", unfollowed := true, recurses := true, apart := false, narrowed := true }
def WorkerPlaysUptoSaid : Prop := workerPlaysUptoRow.holds Tryz.pinned (OpenSpec.upto workerPlaysSpec)

end Rows
end Go.Proofs.YtegpahamenjiaaaGreat
