/-
  No cell of these rows narrows 'for every input' (looked for: loops, veiled, ifaces, maps, wideKeys, modest, calm, conditions, laid).
  DERIVED. THE GIVEN ROWS OF THIS SEAT. 4 by the template 'for every input the law returns true; each argument reads behind the call as it read before'; 0 by the template 'total and deterministic' (their statements: YtacacplipaeokaaTotals.lean).
  GIVEN WITH THE SEED: the statements are not yours to turn. If you find one false, say at which input.
  Laid BY PROGRAM, IN A SANDBOX (cutbox-rows.mjs): the forced cells as the released guide's own fill.sh prints them over the translation fa7fba9a1f5c2efa… (all of the seat's roots in one cut). By AI agents, Wed Nov 11 2026. No macro, syntax, notation, axiom, sorry.
-/
import Derived.Test.YtacacplipaeokaaChecked
import GoSem.Claim
import GoSem.ClaimJoined
import GoSem.ClaimMapViews
import Derived.JoinedTies
import Derived.KernelRfl
namespace Go.Proofs.Ytacacplipaeokaa
/- THE CELL 'sum', in the pinned program and in every row, IS THE sha256 OF THE DUMP (.gsa) THAT YtacacplipaeokaaProg.lean LOADS. Nothing in Lean hashes anything: it is a label: what it is worth is what the hold of that sum in a sandbox is worth. -/
noncomputable def Try.pinned : Pinned := { name := "ytacacplipaeokaa", sum := "fa7fba9a1f5c2efa9d4e50648e88535427299da82efddff0fad205bf6866f5bc", checked := Try.checked }
namespace Rows
def none {H : Type} : Left H := { results := [], args := [] }

/-- 'soughlaw22.MemPlain': WHATEVER THE INPUT: true; the input reads as it did. -/
def memPlainSpec : ChangeSpec := { name := "memPlain", fn := fun _ => fun
  | [d1, d2] => { results := [.lit (.bool true)], args := [d1, d2] }
  | _ => none }
def memPlainRow : OpenClaim := { program := "ytacacplipaeokaa", sum := "fa7fba9a1f5c2efa9d4e50648e88535427299da82efddff0fad205bf6866f5bc", func := "sough/soughlaw22.MemPlain", spec := "memPlain", inPlace := ["sync/atomic.CompareAndSwapUint64", "sync/atomic.AddUint64"], unfollowed := true, recurses := true, apart := false }
def MemPlainSaid : Prop := memPlainRow.holds Try.pinned (OpenSpec.ofChange memPlainSpec)

/-- ITS FALSE NEIGHBOUR: 'it returns false'. Refute it at one input. -/
def memPlainWrong : ChangeSpec := { name := "memPlain", fn := fun _ => fun
  | [d1, d2] => { results := [.lit (.bool false)], args := [d1, d2] }
  | _ => none }
def MemPlainWrongFalsely : Prop := memPlainRow.holds Try.pinned (OpenSpec.ofChange memPlainWrong)

/-- 'soughlaw28.PlaysRun': WHATEVER THE INPUT: true; the input reads as it did. -/
def playsRunSpec : ChangeSpec := { name := "playsRun", fn := fun _ => fun
  | [d1, d2, d3, d4] => { results := [.lit (.bool true)], args := [d1, d2, d3, d4] }
  | _ => none }
def playsRunRow : OpenClaim := { program := "ytacacplipaeokaa", sum := "fa7fba9a1f5c2efa9d4e50648e88535427299da82efddff0fad205bf6866f5bc", func := "sough/soughlaw28.PlaysRun", spec := "playsRun", unfollowed := true, recurses := true, apart := false }
def PlaysRunSaid : Prop := playsRunRow.holds Try.pinned (OpenSpec.ofChange playsRunSpec)

/-- ITS FALSE NEIGHBOUR: 'it returns false'. Refute it at one input. -/
def playsRunWrong : ChangeSpec := { name := "playsRun", fn := fun _ => fun
  | [d1, d2, d3, d4] => { results := [.lit (.bool false)], args := [d1, d2, d3, d4] }
  | _ => none }
def PlaysRunWrongFalsely : Prop := playsRunRow.holds Try.pinned (OpenSpec.ofChange playsRunWrong)

/-- 'soughlaw28.PlaysOnce': WHATEVER THE INPUT: true; the input reads as it did. -/
def playsOnceSpec : ChangeSpec := { name := "playsOnce", fn := fun _ => fun
  | [d1, d2, d3, d4] => { results := [.lit (.bool true)], args := [d1, d2, d3, d4] }
  | _ => none }
def playsOnceRow : OpenClaim := { program := "ytacacplipaeokaa", sum := "fa7fba9a1f5c2efa9d4e50648e88535427299da82efddff0fad205bf6866f5bc", func := "sough/soughlaw28.PlaysOnce", spec := "playsOnce", unfollowed := true, recurses := true, apart := false }
def PlaysOnceSaid : Prop := playsOnceRow.holds Try.pinned (OpenSpec.ofChange playsOnceSpec)

/-- ITS FALSE NEIGHBOUR: 'it returns false'. Refute it at one input. -/
def playsOnceWrong : ChangeSpec := { name := "playsOnce", fn := fun _ => fun
  | [d1, d2, d3, d4] => { results := [.lit (.bool false)], args := [d1, d2, d3, d4] }
  | _ => none }
def PlaysOnceWrongFalsely : Prop := playsOnceRow.holds Try.pinned (OpenSpec.ofChange playsOnceWrong)

/-- 'soughlaw29.LinearPlays': WHATEVER THE INPUT: true; the input reads as it did. -/
def linearPlaysSpec : ChangeSpec := { name := "linearPlays", fn := fun _ => fun
  | [d1, d2, d3, d4] => { results := [.lit (.bool true)], args := [d1, d2, d3, d4] }
  | _ => none }
def linearPlaysRow : OpenClaim := { program := "ytacacplipaeokaa", sum := "fa7fba9a1f5c2efa9d4e50648e88535427299da82efddff0fad205bf6866f5bc", func := "sough/soughlaw29.LinearPlays", spec := "linearPlays", unfollowed := true, recurses := true, apart := false }
def LinearPlaysSaid : Prop := linearPlaysRow.holds Try.pinned (OpenSpec.ofChange linearPlaysSpec)

/-- ITS FALSE NEIGHBOUR: 'it returns false'. Refute it at one input. -/
def linearPlaysWrong : ChangeSpec := { name := "linearPlays", fn := fun _ => fun
  | [d1, d2, d3, d4] => { results := [.lit (.bool false)], args := [d1, d2, d3, d4] }
  | _ => none }
def LinearPlaysWrongFalsely : Prop := linearPlaysRow.holds Try.pinned (OpenSpec.ofChange linearPlaysWrong)

/- THE SECOND FORM. 'bulk': how many values and letters a reading holds, each counted each time it is reached (what is shared counts as often as it is met; a slice's spare places count too). A statement '..UptoSaid' is the law's where the arguments, and the package variables that the reading takes, are together of bulk at most 1048576: NARROWER than '..Said'. Prove '..Said' where nothing that the law and all that it calls make is longer than what came in: it says more and counts as full. Else prove '..UptoSaid'. A law counts once. -/
mutual
def uptoBulk {H : Type} : DataW H → Nat
  | .lit (.string bytes) => bytes.length + 1
  | .lit _ => 1
  | .nil => 1
  | .ptr d => uptoBulk d + 1
  | .slice elems spare => uptoBulkAll elems + uptoBulkAll spare + 1
  | .agg parts => uptoBulkAll parts + 1
  | .iface _ d => uptoBulk d + 1
  | .map entries => uptoBulkEntries entries + 1
  | .held _ => 1
def uptoBulkAll {H : Type} : List (DataW H) → Nat
  | [] => 0
  | d :: r => uptoBulk d + uptoBulkAll r
def uptoBulkEntries {H : Type} : List (Lit × DataW H) → Nat
  | [] => 0
  | x :: r => uptoBulkEntry x + uptoBulkEntries r
def uptoBulkEntry {H : Type} : Lit × DataW H → Nat
  | (.string bytes, d) => bytes.length + uptoBulk d + 1
  | (_, d) => uptoBulk d + 1
 end
def uptoSmall : (H : Type) → List (DataW H) → Bool := fun _ ds => decide (uptoBulkAll ds ≤ 1048576)
def OpenSpec.upto (s : _root_.Go.ChangeSpec) : _root_.Go.OpenSpec := { _root_.Go.OpenSpec.ofChange s with cond := some uptoSmall }

/-- 'soughlaw22.MemPlain', WHERE WHAT IT READS IS OF BULK AT MOST 1048576: true; the input reads as it did. -/
def memPlainUptoRow : OpenClaim := { program := "ytacacplipaeokaa", sum := "fa7fba9a1f5c2efa9d4e50648e88535427299da82efddff0fad205bf6866f5bc", func := "sough/soughlaw22.MemPlain", spec := "memPlain", inPlace := ["sync/atomic.CompareAndSwapUint64", "sync/atomic.AddUint64"], unfollowed := true, recurses := true, apart := false, narrowed := true }
def MemPlainUptoSaid : Prop := memPlainUptoRow.holds Try.pinned (OpenSpec.upto memPlainSpec)

/-- 'soughlaw28.PlaysRun', WHERE WHAT IT READS IS OF BULK AT MOST 1048576: true; the input reads as it did. -/
def playsRunUptoRow : OpenClaim := { program := "ytacacplipaeokaa", sum := "fa7fba9a1f5c2efa9d4e50648e88535427299da82efddff0fad205bf6866f5bc", func := "sough/soughlaw28.PlaysRun", spec := "playsRun", unfollowed := true, recurses := true, apart := false, narrowed := true }
def PlaysRunUptoSaid : Prop := playsRunUptoRow.holds Try.pinned (OpenSpec.upto playsRunSpec)

/-- 'soughlaw28.PlaysOnce', WHERE WHAT IT READS IS OF BULK AT MOST 1048576: true; the input reads as it did. -/
def playsOnceUptoRow : OpenClaim := { program := "ytacacplipaeokaa", sum := "fa7fba9a1f5c2efa9d4e50648e88535427299da82efddff0fad205bf6866f5bc", func := "sough/soughlaw28.PlaysOnce", spec := "playsOnce", unfollowed := true, recurses := true, apart := false, narrowed := true }
def PlaysOnceUptoSaid : Prop := playsOnceUptoRow.holds Try.pinned (OpenSpec.upto playsOnceSpec)

/-- 'soughlaw29.LinearPlays', WHERE WHAT IT READS IS OF BULK AT MOST 1048576: true; the input reads as it did. -/
def linearPlaysUptoRow : OpenClaim := { program := "ytacacplipaeokaa", sum := "fa7fba9a1f5c2efa9d4e50648e88535427299da82efddff0fad205bf6866f5bc", func := "sough/soughlaw29.LinearPlays", spec := "linearPlays", unfollowed := true, recurses := true, apart := false, narrowed := true }
def LinearPlaysUptoSaid : Prop := linearPlaysUptoRow.holds Try.pinned (OpenSpec.upto linearPlaysSpec)

end Rows
end Go.Proofs.Ytacacplipaeokaa
