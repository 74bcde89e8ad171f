/-
  No cell of these rows narrows 'for every input' (looked for: loops, veiled, ifaces, maps, wideKeys, modest, calm, conditions, laid).
  DERIVED. THE GIVEN ROWS OF THIS SEAT. 8 by the template 'for every input the law returns true; each argument reads behind the call as it read before'; 0 by the template 'total and deterministic' (their statements: YtggcpiddnhipiaaGreatTotals.lean).
  GIVEN WITH THE SEED: the statements are not yours to turn. If you find one false, say at which input.
  Laid BY PROGRAM, IN A SANDBOX (cutbox-rows.mjs): the forced cells as the released guide's own fill.sh prints them over the translation c5ce590beb280b82… (all of the seat's roots in one cut). By AI agents, Wed Nov 11 2026. No macro, syntax, notation, axiom, sorry.
-/
import Derived.Test.YtggcpiddnhipiaaGreatChecked
import GoSem.Claim
import GoSem.ClaimJoined
import GoSem.ClaimMapViews
import Derived.JoinedTies
import Derived.KernelRfl
namespace Go.Proofs.YtggcpiddnhipiaaGreat
/- THE CELL 'sum', in the pinned program and in every row, IS THE sha256 OF THE DUMP (.gsa) THAT YtggcpiddnhipiaaGreatProg.lean LOADS. Nothing in Lean hashes anything: it is a label: what it is worth is what the hold of that sum in a sandbox is worth. -/
noncomputable def Tryz.pinned : Pinned := { name := "ytggcpiddnhipiaagreat", sum := "c5ce590beb280b82a8c5e49d9c5887f20bc2e2c8127957de80d6775187b71b51", checked := Tryz.checked }
namespace Rows
def none {H : Type} : Left H := { results := [], args := [] }

/-- 'soughlaw20.PathsAlong': WHATEVER THE INPUT: true; the input reads as it did. -/
def pathsAlongSpec : ChangeSpec := { name := "pathsAlong", fn := fun _ => fun
  | [d1, d2] => { results := [.lit (.bool true)], args := [d1, d2] }
  | _ => none }
def pathsAlongRow : OpenClaim := { program := "ytggcpiddnhipiaagreat", sum := "c5ce590beb280b82a8c5e49d9c5887f20bc2e2c8127957de80d6775187b71b51", func := "sough/soughlaw20.PathsAlong", spec := "pathsAlong", unfollowed := true, recurses := true, apart := false }
def PathsAlongSaid : Prop := pathsAlongRow.holds Tryz.pinned (OpenSpec.ofChange pathsAlongSpec)

/-- ITS FALSE NEIGHBOUR: 'it returns false'. Refute it at one input. -/
def pathsAlongWrong : ChangeSpec := { name := "pathsAlong", fn := fun _ => fun
  | [d1, d2] => { results := [.lit (.bool false)], args := [d1, d2] }
  | _ => none }
def PathsAlongWrongFalsely : Prop := pathsAlongRow.holds Tryz.pinned (OpenSpec.ofChange pathsAlongWrong)

/-- 'soughlaw19.QueueTells': WHATEVER THE INPUT: true; the input reads as it did. -/
def queueTellsSpec : ChangeSpec := { name := "queueTells", fn := fun _ => fun
  | [d1, d2] => { results := [.lit (.bool true)], args := [d1, d2] }
  | _ => none }
def queueTellsRow : OpenClaim := { program := "ytggcpiddnhipiaagreat", sum := "c5ce590beb280b82a8c5e49d9c5887f20bc2e2c8127957de80d6775187b71b51", func := "sough/soughlaw19.QueueTells", spec := "queueTells", unfollowed := true, recurses := true, apart := false }
def QueueTellsSaid : Prop := queueTellsRow.holds Tryz.pinned (OpenSpec.ofChange queueTellsSpec)

/-- ITS FALSE NEIGHBOUR: 'it returns false'. Refute it at one input. -/
def queueTellsWrong : ChangeSpec := { name := "queueTells", fn := fun _ => fun
  | [d1, d2] => { results := [.lit (.bool false)], args := [d1, d2] }
  | _ => none }
def QueueTellsWrongFalsely : Prop := queueTellsRow.holds Tryz.pinned (OpenSpec.ofChange queueTellsWrong)

/-- 'soughlaw20.PathsBelow': WHATEVER THE INPUT: true; the input reads as it did. -/
def pathsBelowSpec : ChangeSpec := { name := "pathsBelow", fn := fun _ => fun
  | [d1, d2] => { results := [.lit (.bool true)], args := [d1, d2] }
  | _ => none }
def pathsBelowRow : OpenClaim := { program := "ytggcpiddnhipiaagreat", sum := "c5ce590beb280b82a8c5e49d9c5887f20bc2e2c8127957de80d6775187b71b51", func := "sough/soughlaw20.PathsBelow", spec := "pathsBelow", unfollowed := true, recurses := true, apart := false }
def PathsBelowSaid : Prop := pathsBelowRow.holds Tryz.pinned (OpenSpec.ofChange pathsBelowSpec)

/-- ITS FALSE NEIGHBOUR: 'it returns false'. Refute it at one input. -/
def pathsBelowWrong : ChangeSpec := { name := "pathsBelow", fn := fun _ => fun
  | [d1, d2] => { results := [.lit (.bool false)], args := [d1, d2] }
  | _ => none }
def PathsBelowWrongFalsely : Prop := pathsBelowRow.holds Tryz.pinned (OpenSpec.ofChange pathsBelowWrong)

/-- 'soughlaw20.PathsMany': WHATEVER THE INPUT: true; the input reads as it did. -/
def pathsManySpec : ChangeSpec := { name := "pathsMany", fn := fun _ => fun
  | [d1, d2] => { results := [.lit (.bool true)], args := [d1, d2] }
  | _ => none }
def pathsManyRow : OpenClaim := { program := "ytggcpiddnhipiaagreat", sum := "c5ce590beb280b82a8c5e49d9c5887f20bc2e2c8127957de80d6775187b71b51", func := "sough/soughlaw20.PathsMany", spec := "pathsMany", unfollowed := true, recurses := true, apart := false }
def PathsManySaid : Prop := pathsManyRow.holds Tryz.pinned (OpenSpec.ofChange pathsManySpec)

/-- ITS FALSE NEIGHBOUR: 'it returns false'. Refute it at one input. -/
def pathsManyWrong : ChangeSpec := { name := "pathsMany", fn := fun _ => fun
  | [d1, d2] => { results := [.lit (.bool false)], args := [d1, d2] }
  | _ => none }
def PathsManyWrongFalsely : Prop := pathsManyRow.holds Tryz.pinned (OpenSpec.ofChange pathsManyWrong)

/-- 'soughlaw19.QueueMost': WHATEVER THE INPUT: true; the input reads as it did. -/
def queueMostSpec : ChangeSpec := { name := "queueMost", fn := fun _ => fun
  | [d] => { results := [.lit (.bool true)], args := [d] }
  | _ => none }
def queueMostRow : OpenClaim := { program := "ytggcpiddnhipiaagreat", sum := "c5ce590beb280b82a8c5e49d9c5887f20bc2e2c8127957de80d6775187b71b51", func := "sough/soughlaw19.QueueMost", spec := "queueMost", unfollowed := true, recurses := true, apart := false }
def QueueMostSaid : Prop := queueMostRow.holds Tryz.pinned (OpenSpec.ofChange queueMostSpec)

/-- ITS FALSE NEIGHBOUR: 'it returns false'. Refute it at one input. -/
def queueMostWrong : ChangeSpec := { name := "queueMost", fn := fun _ => fun
  | [d] => { results := [.lit (.bool false)], args := [d] }
  | _ => none }
def QueueMostWrongFalsely : Prop := queueMostRow.holds Tryz.pinned (OpenSpec.ofChange queueMostWrong)

/-- 'soughlaw19.QueueLeast': WHATEVER THE INPUT: true; the input reads as it did. -/
def queueLeastSpec : ChangeSpec := { name := "queueLeast", fn := fun _ => fun
  | [d1, d2] => { results := [.lit (.bool true)], args := [d1, d2] }
  | _ => none }
def queueLeastRow : OpenClaim := { program := "ytggcpiddnhipiaagreat", sum := "c5ce590beb280b82a8c5e49d9c5887f20bc2e2c8127957de80d6775187b71b51", func := "sough/soughlaw19.QueueLeast", spec := "queueLeast", unfollowed := true, recurses := true, apart := false }
def QueueLeastSaid : Prop := queueLeastRow.holds Tryz.pinned (OpenSpec.ofChange queueLeastSpec)

/-- ITS FALSE NEIGHBOUR: 'it returns false'. Refute it at one input. -/
def queueLeastWrong : ChangeSpec := { name := "queueLeast", fn := fun _ => fun
  | [d1, d2] => { results := [.lit (.bool false)], args := [d1, d2] }
  | _ => none }
def QueueLeastWrongFalsely : Prop := queueLeastRow.holds Tryz.pinned (OpenSpec.ofChange queueLeastWrong)

/-- 'soughlaw20.PathsAll': WHATEVER THE INPUT: true; the input reads as it did. -/
def pathsAllSpec : ChangeSpec := { name := "pathsAll", fn := fun _ => fun
  | [d1, d2, d3] => { results := [.lit (.bool true)], args := [d1, d2, d3] }
  | _ => none }
def pathsAllRow : OpenClaim := { program := "ytggcpiddnhipiaagreat", sum := "c5ce590beb280b82a8c5e49d9c5887f20bc2e2c8127957de80d6775187b71b51", func := "sough/soughlaw20.PathsAll", spec := "pathsAll", unfollowed := true, recurses := true, apart := false }
def PathsAllSaid : Prop := pathsAllRow.holds Tryz.pinned (OpenSpec.ofChange pathsAllSpec)

/-- ITS FALSE NEIGHBOUR: 'it returns false'. Refute it at one input. -/
def pathsAllWrong : ChangeSpec := { name := "pathsAll", fn := fun _ => fun
  | [d1, d2, d3] => { results := [.lit (.bool false)], args := [d1, d2, d3] }
  | _ => none }
def PathsAllWrongFalsely : Prop := pathsAllRow.holds Tryz.pinned (OpenSpec.ofChange pathsAllWrong)

/-- 'soughlaw20.PathsMeet': WHATEVER THE INPUT: true; the input reads as it did. -/
def pathsMeetSpec : ChangeSpec := { name := "pathsMeet", fn := fun _ => fun
  | [d1, d2, d3] => { results := [.lit (.bool true)], args := [d1, d2, d3] }
  | _ => none }
def pathsMeetRow : OpenClaim := { program := "ytggcpiddnhipiaagreat", sum := "c5ce590beb280b82a8c5e49d9c5887f20bc2e2c8127957de80d6775187b71b51", func := "sough/soughlaw20.PathsMeet", spec := "pathsMeet", unfollowed := true, recurses := true, apart := false }
def PathsMeetSaid : Prop := pathsMeetRow.holds Tryz.pinned (OpenSpec.ofChange pathsMeetSpec)

/-- ITS FALSE NEIGHBOUR: 'it returns false'. Refute it at one input. -/
def pathsMeetWrong : ChangeSpec := { name := "pathsMeet", fn := fun _ => fun
  | [d1, d2, d3] => { results := [.lit (.bool false)], args := [d1, d2, d3] }
  | _ => none }
def PathsMeetWrongFalsely : Prop := pathsMeetRow.holds Tryz.pinned (OpenSpec.ofChange pathsMeetWrong)

/- THE SECOND FORM. 'bulk': how many values and letters a reading holds, each counted each time it is reached (what is shared counts as often as it is met; a slice's spare places count too). A statement '..UptoSaid' is the law's where the arguments, and the package variables that the reading takes, are together of bulk at most 1048576: NARROWER than '..Said'. Prove '..Said' where nothing that the law and all that it calls make is longer than what came in: it says more and counts as full. Else prove '..UptoSaid'. A law counts once. -/
mutual
def uptoBulk {H : Type} : DataW H → Nat
  | .lit (.string bytes) => bytes.length + 1
  | .lit _ => 1
  | .nil => 1
  | .ptr d => uptoBulk d + 1
  | .slice elems spare => uptoBulkAll elems + uptoBulkAll spare + 1
  | .agg parts => uptoBulkAll parts + 1
  | .iface _ d => uptoBulk d + 1
  | .map entries => uptoBulkEntries entries + 1
  | .held _ => 1
def uptoBulkAll {H : Type} : List (DataW H) → Nat
  | [] => 0
  | d :: r => uptoBulk d + uptoBulkAll r
def uptoBulkEntries {H : Type} : List (Lit × DataW H) → Nat
  | [] => 0
  | x :: r => uptoBulkEntry x + uptoBulkEntries r
def uptoBulkEntry {H : Type} : Lit × DataW H → Nat
  | (.string bytes, d) => bytes.length + uptoBulk d + 1
  | (_, d) => uptoBulk d + 1
 end
def uptoSmall : (H : Type) → List (DataW H) → Bool := fun _ ds => decide (uptoBulkAll ds ≤ 1048576)
def OpenSpec.upto (s : _root_.Go.ChangeSpec) : _root_.Go.OpenSpec := { _root_.Go.OpenSpec.ofChange s with cond := some uptoSmall }

/-- 'soughlaw20.PathsAlong', WHERE WHAT IT READS IS OF BULK AT MOST 1048576: true; the input reads as it did. -/
def pathsAlongUptoRow : OpenClaim := { program := "ytggcpiddnhipiaagreat", sum := "c5ce590beb280b82a8c5e49d9c5887f20bc2e2c8127957de80d6775187b71b51", func := "sough/soughlaw20.PathsAlong", spec := "pathsAlong", unfollowed := true, recurses := true, apart := false, narrowed := true }
def PathsAlongUptoSaid : Prop := pathsAlongUptoRow.holds Tryz.pinned (OpenSpec.upto pathsAlongSpec)

/-- 'soughlaw19.QueueTells', WHERE WHAT IT READS IS OF BULK AT MOST 1048576: true; the input reads as it did. -/
def queueTellsUptoRow : OpenClaim := { program := "ytggcpiddnhipiaagreat", sum := "c5ce590beb280b82a8c5e49d9c5887f20bc2e2c8127957de80d6775187b71b51", func := "sough/soughlaw19.QueueTells", spec := "queueTells", unfollowed := true, recurses := true, apart := false, narrowed := true }
def QueueTellsUptoSaid : Prop := queueTellsUptoRow.holds Tryz.pinned (OpenSpec.upto queueTellsSpec)

/-- 'soughlaw20.PathsBelow', WHERE WHAT IT READS IS OF BULK AT MOST 1048576: true; the input reads as it did. -/
def pathsBelowUptoRow : OpenClaim := { program := "ytggcpiddnhipiaagreat", sum := "c5ce590beb280b82a8c5e49d9c5887f20bc2e2c8127957de80d6775187b71b51", func := "sough/soughlaw20.PathsBelow", spec := "pathsBelow", unfollowed := true, recurses := true, apart := false, narrowed := true }
def PathsBelowUptoSaid : Prop := pathsBelowUptoRow.holds Tryz.pinned (OpenSpec.upto pathsBelowSpec)

/-- 'soughlaw20.PathsMany', WHERE WHAT IT READS IS OF BULK AT MOST 1048576: true; the input reads as it did. -/
def pathsManyUptoRow : OpenClaim := { program := "ytggcpiddnhipiaagreat", sum := "c5ce590beb280b82a8c5e49d9c5887f20bc2e2c8127957de80d6775187b71b51", func := "sough/soughlaw20.PathsMany", spec := "pathsMany", unfollowed := true, recurses := true, apart := false, narrowed := true }
def PathsManyUptoSaid : Prop := pathsManyUptoRow.holds Tryz.pinned (OpenSpec.upto pathsManySpec)

/-- 'soughlaw19.QueueMost', WHERE WHAT IT READS IS OF BULK AT MOST 1048576: true; the input reads as it did. -/
def queueMostUptoRow : OpenClaim := { program := "ytggcpiddnhipiaagreat", sum := "c5ce590beb280b82a8c5e49d9c5887f20bc2e2c8127957de80d6775187b71b51", func := "sough/soughlaw19.QueueMost", spec := "queueMost", unfollowed := true, recurses := true, apart := false, narrowed := true }
def QueueMostUptoSaid : Prop := queueMostUptoRow.holds Tryz.pinned (OpenSpec.upto queueMostSpec)

/-- 'soughlaw19.QueueLeast', WHERE WHAT IT READS IS OF BULK AT MOST 1048576: true; the input reads as it did. -/
def queueLeastUptoRow : OpenClaim := { program := "ytggcpiddnhipiaagreat", sum := "c5ce590beb280b82a8c5e49d9c5887f20bc2e2c8127957de80d6775187b71b51", func := "sough/soughlaw19.QueueLeast", spec := "queueLeast", unfollowed := true, recurses := true, apart := false, narrowed := true }
def QueueLeastUptoSaid : Prop := queueLeastUptoRow.holds Tryz.pinned (OpenSpec.upto queueLeastSpec)

/-- 'soughlaw20.PathsAll', WHERE WHAT IT READS IS OF BULK AT MOST 1048576: true; the input reads as it did. -/
def pathsAllUptoRow : OpenClaim := { program := "ytggcpiddnhipiaagreat", sum := "c5ce590beb280b82a8c5e49d9c5887f20bc2e2c8127957de80d6775187b71b51", func := "sough/soughlaw20.PathsAll", spec := "pathsAll", unfollowed := true, recurses := true, apart := false, narrowed := true }
def PathsAllUptoSaid : Prop := pathsAllUptoRow.holds Tryz.pinned (OpenSpec.upto pathsAllSpec)

/-- 'soughlaw20.PathsMeet', WHERE WHAT IT READS IS OF BULK AT MOST 1048576: true; the input reads as it did. -/
def pathsMeetUptoRow : OpenClaim := { program := "ytggcpiddnhipiaagreat", sum := "c5ce590beb280b82a8c5e49d9c5887f20bc2e2c8127957de80d6775187b71b51", func := "sough/soughlaw20.PathsMeet", spec := "pathsMeet", unfollowed := true, recurses := true, apart := false, narrowed := true }
def PathsMeetUptoSaid : Prop := pathsMeetUptoRow.holds Tryz.pinned (OpenSpec.upto pathsMeetSpec)

end Rows
end Go.Proofs.YtggcpiddnhipiaaGreat
