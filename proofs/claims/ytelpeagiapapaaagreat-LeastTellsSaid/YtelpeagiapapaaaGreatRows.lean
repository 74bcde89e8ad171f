/-
  No cell of these rows narrows 'for every input' (looked for: loops, veiled, ifaces, maps, wideKeys, modest, calm, conditions, laid).
  DERIVED. THE GIVEN ROWS OF THIS SEAT. 5 by the template 'for every input the law returns true; each argument reads behind the call as it read before'; 0 by the template 'total and deterministic' (their statements: YtelpeagiapapaaaGreatTotals.lean).
  GIVEN WITH THE SEED: the statements are not yours to turn. If you find one false, say at which input.
  Laid BY PROGRAM, IN A SANDBOX (cutbox-rows.mjs): the forced cells as the released guide's own fill.sh prints them over the translation 531c3067ec214abf… (all of the seat's roots in one cut). By AI agents, Wed Nov 11 2026. No macro, syntax, notation, axiom, sorry.
-/
import Derived.Test.YtelpeagiapapaaaGreatChecked
import GoSem.Claim
import GoSem.ClaimJoined
import GoSem.ClaimMapViews
import Derived.JoinedTies
import Derived.KernelRfl
namespace Go.Proofs.YtelpeagiapapaaaGreat
/- THE CELL 'sum', in the pinned program and in every row, IS THE sha256 OF THE DUMP (.gsa) THAT YtelpeagiapapaaaGreatProg.lean LOADS. Nothing in Lean hashes anything: it is a label: what it is worth is what the hold of that sum in a sandbox is worth. -/
noncomputable def Tryz.pinned : Pinned := { name := "ytelpeagiapapaaagreat", sum := "531c3067ec214abf87aedf7e44cdc045c4615227b52c2bff1f775fbd9b044fb9", checked := Tryz.checked }
namespace Rows
def none {H : Type} : Left H := { results := [], args := [] }

/-- 'soughlaw17.SystemChecks': WHATEVER THE INPUT: true; the input reads as it did. -/
def systemChecksSpec : ChangeSpec := { name := "systemChecks", fn := fun _ => fun
  | [d1, d2, d3] => { results := [.lit (.bool true)], args := [d1, d2, d3] }
  | _ => none }
def systemChecksRow : OpenClaim := { program := "ytelpeagiapapaaagreat", sum := "531c3067ec214abf87aedf7e44cdc045c4615227b52c2bff1f775fbd9b044fb9", func := "sough/soughlaw17.SystemChecks", spec := "systemChecks", unfollowed := true, recurses := true, apart := false }
def SystemChecksSaid : Prop := systemChecksRow.holds Tryz.pinned (OpenSpec.ofChange systemChecksSpec)

/-- ITS FALSE NEIGHBOUR: 'it returns false'. Refute it at one input. -/
def systemChecksWrong : ChangeSpec := { name := "systemChecks", fn := fun _ => fun
  | [d1, d2, d3] => { results := [.lit (.bool false)], args := [d1, d2, d3] }
  | _ => none }
def SystemChecksWrongFalsely : Prop := systemChecksRow.holds Tryz.pinned (OpenSpec.ofChange systemChecksWrong)

/-- 'soughlaw17.SystemSteps': WHATEVER THE INPUT: true; the input reads as it did. -/
def systemStepsSpec : ChangeSpec := { name := "systemSteps", fn := fun _ => fun
  | [d1, d2, d3] => { results := [.lit (.bool true)], args := [d1, d2, d3] }
  | _ => none }
def systemStepsRow : OpenClaim := { program := "ytelpeagiapapaaagreat", sum := "531c3067ec214abf87aedf7e44cdc045c4615227b52c2bff1f775fbd9b044fb9", func := "sough/soughlaw17.SystemSteps", spec := "systemSteps", unfollowed := true, recurses := true, apart := false }
def SystemStepsSaid : Prop := systemStepsRow.holds Tryz.pinned (OpenSpec.ofChange systemStepsSpec)

/-- ITS FALSE NEIGHBOUR: 'it returns false'. Refute it at one input. -/
def systemStepsWrong : ChangeSpec := { name := "systemSteps", fn := fun _ => fun
  | [d1, d2, d3] => { results := [.lit (.bool false)], args := [d1, d2, d3] }
  | _ => none }
def SystemStepsWrongFalsely : Prop := systemStepsRow.holds Tryz.pinned (OpenSpec.ofChange systemStepsWrong)

/-- 'soughlaw18.LeastTells': WHATEVER THE INPUT: true; the input reads as it did. -/
def leastTellsSpec : ChangeSpec := { name := "leastTells", fn := fun _ => fun
  | [d1, d2] => { results := [.lit (.bool true)], args := [d1, d2] }
  | _ => none }
def leastTellsRow : OpenClaim := { program := "ytelpeagiapapaaagreat", sum := "531c3067ec214abf87aedf7e44cdc045c4615227b52c2bff1f775fbd9b044fb9", func := "sough/soughlaw18.LeastTells", spec := "leastTells", unfollowed := true, recurses := true, apart := false }
def LeastTellsSaid : Prop := leastTellsRow.holds Tryz.pinned (OpenSpec.ofChange leastTellsSpec)

/-- ITS FALSE NEIGHBOUR: 'it returns false'. Refute it at one input. -/
def leastTellsWrong : ChangeSpec := { name := "leastTells", fn := fun _ => fun
  | [d1, d2] => { results := [.lit (.bool false)], args := [d1, d2] }
  | _ => none }
def LeastTellsWrongFalsely : Prop := leastTellsRow.holds Tryz.pinned (OpenSpec.ofChange leastTellsWrong)

/-- 'soughlaw18.LeastOuts': WHATEVER THE INPUT: true; the input reads as it did. -/
def leastOutsSpec : ChangeSpec := { name := "leastOuts", fn := fun _ => fun
  | [d1, d2, d3] => { results := [.lit (.bool true)], args := [d1, d2, d3] }
  | _ => none }
def leastOutsRow : OpenClaim := { program := "ytelpeagiapapaaagreat", sum := "531c3067ec214abf87aedf7e44cdc045c4615227b52c2bff1f775fbd9b044fb9", func := "sough/soughlaw18.LeastOuts", spec := "leastOuts", unfollowed := true, recurses := true, apart := false }
def LeastOutsSaid : Prop := leastOutsRow.holds Tryz.pinned (OpenSpec.ofChange leastOutsSpec)

/-- ITS FALSE NEIGHBOUR: 'it returns false'. Refute it at one input. -/
def leastOutsWrong : ChangeSpec := { name := "leastOuts", fn := fun _ => fun
  | [d1, d2, d3] => { results := [.lit (.bool false)], args := [d1, d2, d3] }
  | _ => none }
def LeastOutsWrongFalsely : Prop := leastOutsRow.holds Tryz.pinned (OpenSpec.ofChange leastOutsWrong)

/-- 'soughlaw17.SystemTurns': WHATEVER THE INPUT: true; the input reads as it did. -/
def systemTurnsSpec : ChangeSpec := { name := "systemTurns", fn := fun _ => fun
  | [d1, d2] => { results := [.lit (.bool true)], args := [d1, d2] }
  | _ => none }
def systemTurnsRow : OpenClaim := { program := "ytelpeagiapapaaagreat", sum := "531c3067ec214abf87aedf7e44cdc045c4615227b52c2bff1f775fbd9b044fb9", func := "sough/soughlaw17.SystemTurns", spec := "systemTurns", unfollowed := true, recurses := true, apart := false }
def SystemTurnsSaid : Prop := systemTurnsRow.holds Tryz.pinned (OpenSpec.ofChange systemTurnsSpec)

/-- ITS FALSE NEIGHBOUR: 'it returns false'. Refute it at one input. -/
def systemTurnsWrong : ChangeSpec := { name := "systemTurns", fn := fun _ => fun
  | [d1, d2] => { results := [.lit (.bool false)], args := [d1, d2] }
  | _ => none }
def SystemTurnsWrongFalsely : Prop := systemTurnsRow.holds Tryz.pinned (OpenSpec.ofChange systemTurnsWrong)

/- THE SECOND FORM. 'bulk': how many values and letters a reading holds, each counted each time it is reached (what is shared counts as often as it is met; a slice's spare places count too). A statement '..UptoSaid' is the law's where the arguments, and the package variables that the reading takes, are together of bulk at most 1048576: NARROWER than '..Said'. Prove '..Said' where nothing that the law and all that it calls make is longer than what came in: it says more and counts as full. Else prove '..UptoSaid'. A law counts once. -/
mutual
def uptoBulk {H : Type} : DataW H → Nat
  | .lit (.string bytes) => bytes.length + 1
  | .lit _ => 1
  | .nil => 1
  | .ptr d => uptoBulk d + 1
  | .slice elems spare => uptoBulkAll elems + uptoBulkAll spare + 1
  | .agg parts => uptoBulkAll parts + 1
  | .iface _ d => uptoBulk d + 1
  | .map entries => uptoBulkEntries entries + 1
  | .held _ => 1
def uptoBulkAll {H : Type} : List (DataW H) → Nat
  | [] => 0
  | d :: r => uptoBulk d + uptoBulkAll r
def uptoBulkEntries {H : Type} : List (Lit × DataW H) → Nat
  | [] => 0
  | x :: r => uptoBulkEntry x + uptoBulkEntries r
def uptoBulkEntry {H : Type} : Lit × DataW H → Nat
  | (.string bytes, d) => bytes.length + uptoBulk d + 1
  | (_, d) => uptoBulk d + 1
 end
def uptoSmall : (H : Type) → List (DataW H) → Bool := fun _ ds => decide (uptoBulkAll ds ≤ 1048576)
def OpenSpec.upto (s : _root_.Go.ChangeSpec) : _root_.Go.OpenSpec := { _root_.Go.OpenSpec.ofChange s with cond := some uptoSmall }

/-- 'soughlaw17.SystemChecks', WHERE WHAT IT READS IS OF BULK AT MOST 1048576: true; the input reads as it did. -/
def systemChecksUptoRow : OpenClaim := { program := "ytelpeagiapapaaagreat", sum := "531c3067ec214abf87aedf7e44cdc045c4615227b52c2bff1f775fbd9b044fb9", func := "sough/soughlaw17.SystemChecks", spec := "systemChecks", unfollowed := true, recurses := true, apart := false, narrowed := true }
def SystemChecksUptoSaid : Prop := systemChecksUptoRow.holds Tryz.pinned (OpenSpec.upto systemChecksSpec)

/-- 'soughlaw17.SystemSteps', WHERE WHAT IT READS IS OF BULK AT MOST 1048576: true; the input reads as it did. -/
def systemStepsUptoRow : OpenClaim := { program := "ytelpeagiapapaaagreat", sum := "531c3067ec214abf87aedf7e44cdc045c4615227b52c2bff1f775fbd9b044fb9", func := "sough/soughlaw17.SystemSteps", spec := "systemSteps", unfollowed := true, recurses := true, apart := false, narrowed := true }
def SystemStepsUptoSaid : Prop := systemStepsUptoRow.holds Tryz.pinned (OpenSpec.upto systemStepsSpec)

/-- 'soughlaw18.LeastTells', WHERE WHAT IT READS IS OF BULK AT MOST 1048576: true; the input reads as it did. -/
def leastTellsUptoRow : OpenClaim := { program := "ytelpeagiapapaaagreat", sum := "531c3067ec214abf87aedf7e44cdc045c4615227b52c2bff1f775fbd9b044fb9", func := "sough/soughlaw18.LeastTells", spec := "leastTells", unfollowed := true, recurses := true, apart := false, narrowed := true }
def LeastTellsUptoSaid : Prop := leastTellsUptoRow.holds Tryz.pinned (OpenSpec.upto leastTellsSpec)

/-- 'soughlaw18.LeastOuts', WHERE WHAT IT READS IS OF BULK AT MOST 1048576: true; the input reads as it did. -/
def leastOutsUptoRow : OpenClaim := { program := "ytelpeagiapapaaagreat", sum := "531c3067ec214abf87aedf7e44cdc045c4615227b52c2bff1f775fbd9b044fb9", func := "sough/soughlaw18.LeastOuts", spec := "leastOuts", unfollowed := true, recurses := true, apart := false, narrowed := true }
def LeastOutsUptoSaid : Prop := leastOutsUptoRow.holds Tryz.pinned (OpenSpec.upto leastOutsSpec)

/-- 'soughlaw17.SystemTurns', WHERE WHAT IT READS IS OF BULK AT MOST 1048576: true; the input reads as it did. -/
def systemTurnsUptoRow : OpenClaim := { program := "ytelpeagiapapaaagreat", sum := "531c3067ec214abf87aedf7e44cdc045c4615227b52c2bff1f775fbd9b044fb9", func := "sough/soughlaw17.SystemTurns", spec := "systemTurns", unfollowed := true, recurses := true, apart := false, narrowed := true }
def SystemTurnsUptoSaid : Prop := systemTurnsUptoRow.holds Tryz.pinned (OpenSpec.upto systemTurnsSpec)

end Rows
end Go.Proofs.YtelpeagiapapaaaGreat
