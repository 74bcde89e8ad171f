/-
  No cell of these rows narrows 'for every input' (looked for: loops, veiled, ifaces, maps, wideKeys, modest, calm, conditions, laid).
  DERIVED. THE GIVEN ROWS OF THIS SEAT. 3 by the template 'for every input the law returns true; each argument reads behind the call as it read before'; 0 by the template 'total and deterministic' (their statements: YtljbnigceammdaaGreatTotals.lean).
  GIVEN WITH THE SEED: the statements are not yours to turn. If you find one false, say at which input.
  Laid BY PROGRAM, IN A SANDBOX (cutbox-rows.mjs): the forced cells as the released guide's own fill.sh prints them over the translation 80d59e9b098fa43e… (all of the seat's roots in one cut). By AI agents, Wed Nov 11 2026. No macro, syntax, notation, axiom, sorry.
-/
import Derived.Test.YtljbnigceammdaaGreatChecked
import GoSem.Claim
import GoSem.ClaimJoined
import GoSem.ClaimMapViews
import Derived.JoinedTies
import Derived.KernelRfl
namespace Go.Proofs.YtljbnigceammdaaGreat
/- THE CELL 'sum', in the pinned program and in every row, IS THE sha256 OF THE DUMP (.gsa) THAT YtljbnigceammdaaGreatProg.lean LOADS. Nothing in Lean hashes anything: it is a label: what it is worth is what the hold of that sum in a sandbox is worth. -/
noncomputable def Tryz.pinned : Pinned := { name := "ytljbnigceammdaagreat", sum := "80d59e9b098fa43ed1ff5150a5c741658f8a4074c161c4c044f791f5abaffa13", checked := Tryz.checked }
namespace Rows
def none {H : Type} : Left H := { results := [], args := [] }

/-- 'soughlaw20.PathsMany': WHATEVER THE INPUT: true; the input reads as it did. -/
def pathsManySpec : ChangeSpec := { name := "pathsMany", fn := fun _ => fun
  | [d1, d2] => { results := [.lit (.bool true)], args := [d1, d2] }
  | _ => none }
def pathsManyRow : OpenClaim := { program := "ytljbnigceammdaagreat", sum := "80d59e9b098fa43ed1ff5150a5c741658f8a4074c161c4c044f791f5abaffa13", func := "sough/soughlaw20.PathsMany", spec := "pathsMany", unfollowed := true, recurses := true, apart := false }
def PathsManySaid : Prop := pathsManyRow.holds Tryz.pinned (OpenSpec.ofChange pathsManySpec)

/-- ITS FALSE NEIGHBOUR: 'it returns false'. Refute it at one input. -/
def pathsManyWrong : ChangeSpec := { name := "pathsMany", fn := fun _ => fun
  | [d1, d2] => { results := [.lit (.bool false)], args := [d1, d2] }
  | _ => none }
def PathsManyWrongFalsely : Prop := pathsManyRow.holds Tryz.pinned (OpenSpec.ofChange pathsManyWrong)

/-- 'soughlaw20.PathsAll': WHATEVER THE INPUT: true; the input reads as it did. -/
def pathsAllSpec : ChangeSpec := { name := "pathsAll", fn := fun _ => fun
  | [d1, d2, d3] => { results := [.lit (.bool true)], args := [d1, d2, d3] }
  | _ => none }
def pathsAllRow : OpenClaim := { program := "ytljbnigceammdaagreat", sum := "80d59e9b098fa43ed1ff5150a5c741658f8a4074c161c4c044f791f5abaffa13", func := "sough/soughlaw20.PathsAll", spec := "pathsAll", unfollowed := true, recurses := true, apart := false }
def PathsAllSaid : Prop := pathsAllRow.holds Tryz.pinned (OpenSpec.ofChange pathsAllSpec)

/-- ITS FALSE NEIGHBOUR: 'it returns false'. Refute it at one input. -/
def pathsAllWrong : ChangeSpec := { name := "pathsAll", fn := fun _ => fun
  | [d1, d2, d3] => { results := [.lit (.bool false)], args := [d1, d2, d3] }
  | _ => none }
def PathsAllWrongFalsely : Prop := pathsAllRow.holds Tryz.pinned (OpenSpec.ofChange pathsAllWrong)

/-- 'soughlaw20.PathsMeet': WHATEVER THE INPUT: true; the input reads as it did. -/
def pathsMeetSpec : ChangeSpec := { name := "pathsMeet", fn := fun _ => fun
  | [d1, d2, d3] => { results := [.lit (.bool true)], args := [d1, d2, d3] }
  | _ => none }
def pathsMeetRow : OpenClaim := { program := "ytljbnigceammdaagreat", sum := "80d59e9b098fa43ed1ff5150a5c741658f8a4074c161c4c044f791f5abaffa13", func := "sough/soughlaw20.PathsMeet", spec := "pathsMeet", unfollowed := true, recurses := true, apart := false }
def PathsMeetSaid : Prop := pathsMeetRow.holds Tryz.pinned (OpenSpec.ofChange pathsMeetSpec)

/-- ITS FALSE NEIGHBOUR: 'it returns false'. Refute it at one input. -/
def pathsMeetWrong : ChangeSpec := { name := "pathsMeet", fn := fun _ => fun
  | [d1, d2, d3] => { results := [.lit (.bool false)], args := [d1, d2, d3] }
  | _ => none }
def PathsMeetWrongFalsely : Prop := pathsMeetRow.holds Tryz.pinned (OpenSpec.ofChange pathsMeetWrong)

/- THE SECOND FORM. 'bulk': how many values and letters a reading holds, each counted each time it is reached (what is shared counts as often as it is met; a slice's spare places count too). A statement '..UptoSaid' is the law's where the arguments, and the package variables that the reading takes, are together of bulk at most 1048576: NARROWER than '..Said'. Prove '..Said' where nothing that the law and all that it calls make is longer than what came in: it says more and counts as full. Else prove '..UptoSaid'. A law counts once. -/
mutual
def uptoBulk {H : Type} : DataW H → Nat
  | .lit (.string bytes) => bytes.length + 1
  | .lit _ => 1
  | .nil => 1
  | .ptr d => uptoBulk d + 1
  | .slice elems spare => uptoBulkAll elems + uptoBulkAll spare + 1
  | .agg parts => uptoBulkAll parts + 1
  | .iface _ d => uptoBulk d + 1
  | .map entries => uptoBulkEntries entries + 1
  | .held _ => 1
def uptoBulkAll {H : Type} : List (DataW H) → Nat
  | [] => 0
  | d :: r => uptoBulk d + uptoBulkAll r
def uptoBulkEntries {H : Type} : List (Lit × DataW H) → Nat
  | [] => 0
  | x :: r => uptoBulkEntry x + uptoBulkEntries r
def uptoBulkEntry {H : Type} : Lit × DataW H → Nat
  | (.string bytes, d) => bytes.length + uptoBulk d + 1
  | (_, d) => uptoBulk d + 1
 end
def uptoSmall : (H : Type) → List (DataW H) → Bool := fun _ ds => decide (uptoBulkAll ds ≤ 1048576)
def OpenSpec.upto (s : _root_.Go.ChangeSpec) : _root_.Go.OpenSpec := { _root_.Go.OpenSpec.ofChange s with cond := some uptoSmall }

/-- 'soughlaw20.PathsMany', WHERE WHAT IT READS IS OF BULK AT MOST 1048576: true; the input reads as it did. -/
def pathsManyUptoRow : OpenClaim := { program := "ytljbnigceammdaagreat", sum := "80d59e9b098fa43ed1ff5150a5c741658f8a4074c161c4c044f791f5abaffa13", func := "sough/soughlaw20.PathsMany", spec := "pathsMany", unfollowed := true, recurses := true, apart := false, narrowed := true }
def PathsManyUptoSaid : Prop := pathsManyUptoRow.holds Tryz.pinned (OpenSpec.upto pathsManySpec)

/-- 'soughlaw20.PathsAll', WHERE WHAT IT READS IS OF BULK AT MOST 1048576: true; the input reads as it did. -/
def pathsAllUptoRow : OpenClaim := { program := "ytljbnigceammdaagreat", sum := "80d59e9b098fa43ed1ff5150a5c741658f8a4074c161c4c044f791f5abaffa13", func := "sough/soughlaw20.PathsAll", spec := "pathsAll", unfollowed := true, recurses := true, apart := false, narrowed := true }
def PathsAllUptoSaid : Prop := pathsAllUptoRow.holds Tryz.pinned (OpenSpec.upto pathsAllSpec)

/-- 'soughlaw20.PathsMeet', WHERE WHAT IT READS IS OF BULK AT MOST 1048576: true; the input reads as it did. -/
def pathsMeetUptoRow : OpenClaim := { program := "ytljbnigceammdaagreat", sum := "80d59e9b098fa43ed1ff5150a5c741658f8a4074c161c4c044f791f5abaffa13", func := "sough/soughlaw20.PathsMeet", spec := "pathsMeet", unfollowed := true, recurses := true, apart := false, narrowed := true }
def PathsMeetUptoSaid : Prop := pathsMeetUptoRow.holds Tryz.pinned (OpenSpec.upto pathsMeetSpec)

end Rows
end Go.Proofs.YtljbnigceammdaaGreat
