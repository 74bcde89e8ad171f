/-
  No cell of these rows narrows 'for every input' (looked for: loops, veiled, ifaces, maps, wideKeys, modest, calm, conditions, laid).
  DERIVED. THE GIVEN ROWS OF THIS SEAT. 8 by the template 'for every input the law returns true; each argument reads behind the call as it read before'; 0 by the template 'total and deterministic' (their statements: YtiihcgmnmcdcfaaTotals.lean).
  GIVEN WITH THE SEED: the statements are not yours to turn. If you find one false, say at which input.
  Laid BY PROGRAM, IN A SANDBOX (cutbox-rows.mjs): the forced cells as the released guide's own fill.sh prints them over the translation 0fb41d909af08ed1… (all of the seat's roots in one cut). By AI agents, Wed Nov 11 2026. No macro, syntax, notation, axiom, sorry.
-/
import Derived.Test.YtiihcgmnmcdcfaaChecked
import GoSem.Claim
import GoSem.ClaimJoined
import GoSem.ClaimMapViews
import Derived.JoinedTies
import Derived.KernelRfl
namespace Go.Proofs.Ytiihcgmnmcdcfaa
/- THE CELL 'sum', in the pinned program and in every row, IS THE sha256 OF THE DUMP (.gsa) THAT YtiihcgmnmcdcfaaProg.lean LOADS. Nothing in Lean hashes anything: it is a label: what it is worth is what the hold of that sum in a sandbox is worth. -/
noncomputable def Try.pinned : Pinned := { name := "ytiihcgmnmcdcfaa", sum := "0fb41d909af08ed179a112eac29d5c02665f43a6fd53cbdc89e349854208fe3a", checked := Try.checked }
namespace Rows
def none {H : Type} : Left H := { results := [], args := [] }

/-- 'soughlaw23.RecordWrites': WHATEVER THE INPUT: true; the input reads as it did. -/
def recordWritesSpec : ChangeSpec := { name := "recordWrites", fn := fun _ => fun
  | [d1, d2] => { results := [.lit (.bool true)], args := [d1, d2] }
  | _ => none }
def recordWritesRow : OpenClaim := { program := "ytiihcgmnmcdcfaa", sum := "0fb41d909af08ed179a112eac29d5c02665f43a6fd53cbdc89e349854208fe3a", func := "sough/soughlaw23.RecordWrites", spec := "recordWrites", unfollowed := true, recurses := true, apart := false }
def RecordWritesSaid : Prop := recordWritesRow.holds Try.pinned (OpenSpec.ofChange recordWritesSpec)

/-- ITS FALSE NEIGHBOUR: 'it returns false'. Refute it at one input. -/
def recordWritesWrong : ChangeSpec := { name := "recordWrites", fn := fun _ => fun
  | [d1, d2] => { results := [.lit (.bool false)], args := [d1, d2] }
  | _ => none }
def RecordWritesWrongFalsely : Prop := recordWritesRow.holds Try.pinned (OpenSpec.ofChange recordWritesWrong)

/-- 'soughlaw27.DequeList': WHATEVER THE INPUT: true; the input reads as it did. -/
def dequeListSpec : ChangeSpec := { name := "dequeList", fn := fun _ => fun
  | [d1, d2] => { results := [.lit (.bool true)], args := [d1, d2] }
  | _ => none }
def dequeListRow : OpenClaim := { program := "ytiihcgmnmcdcfaa", sum := "0fb41d909af08ed179a112eac29d5c02665f43a6fd53cbdc89e349854208fe3a", func := "sough/soughlaw27.DequeList", spec := "dequeList", unfollowed := true, recurses := true, apart := false }
def DequeListSaid : Prop := dequeListRow.holds Try.pinned (OpenSpec.ofChange dequeListSpec)

/-- ITS FALSE NEIGHBOUR: 'it returns false'. Refute it at one input. -/
def dequeListWrong : ChangeSpec := { name := "dequeList", fn := fun _ => fun
  | [d1, d2] => { results := [.lit (.bool false)], args := [d1, d2] }
  | _ => none }
def DequeListWrongFalsely : Prop := dequeListRow.holds Try.pinned (OpenSpec.ofChange dequeListWrong)

/-- 'soughlaw28.PlaysRun': WHATEVER THE INPUT: true; the input reads as it did. -/
def playsRunSpec : ChangeSpec := { name := "playsRun", fn := fun _ => fun
  | [d1, d2, d3, d4] => { results := [.lit (.bool true)], args := [d1, d2, d3, d4] }
  | _ => none }
def playsRunRow : OpenClaim := { program := "ytiihcgmnmcdcfaa", sum := "0fb41d909af08ed179a112eac29d5c02665f43a6fd53cbdc89e349854208fe3a", func := "sough/soughlaw28.PlaysRun", spec := "playsRun", unfollowed := true, recurses := true, apart := false }
def PlaysRunSaid : Prop := playsRunRow.holds Try.pinned (OpenSpec.ofChange playsRunSpec)

/-- ITS FALSE NEIGHBOUR: 'it returns false'. Refute it at one input. -/
def playsRunWrong : ChangeSpec := { name := "playsRun", fn := fun _ => fun
  | [d1, d2, d3, d4] => { results := [.lit (.bool false)], args := [d1, d2, d3, d4] }
  | _ => none }
def PlaysRunWrongFalsely : Prop := playsRunRow.holds Try.pinned (OpenSpec.ofChange playsRunWrong)

/-- 'soughlaw28.PlaysOnce': WHATEVER THE INPUT: true; the input reads as it did. -/
def playsOnceSpec : ChangeSpec := { name := "playsOnce", fn := fun _ => fun
  | [d1, d2, d3, d4] => { results := [.lit (.bool true)], args := [d1, d2, d3, d4] }
  | _ => none }
def playsOnceRow : OpenClaim := { program := "ytiihcgmnmcdcfaa", sum := "0fb41d909af08ed179a112eac29d5c02665f43a6fd53cbdc89e349854208fe3a", func := "sough/soughlaw28.PlaysOnce", spec := "playsOnce", unfollowed := true, recurses := true, apart := false }
def PlaysOnceSaid : Prop := playsOnceRow.holds Try.pinned (OpenSpec.ofChange playsOnceSpec)

/-- ITS FALSE NEIGHBOUR: 'it returns false'. Refute it at one input. -/
def playsOnceWrong : ChangeSpec := { name := "playsOnce", fn := fun _ => fun
  | [d1, d2, d3, d4] => { results := [.lit (.bool false)], args := [d1, d2, d3, d4] }
  | _ => none }
def PlaysOnceWrongFalsely : Prop := playsOnceRow.holds Try.pinned (OpenSpec.ofChange playsOnceWrong)

/-- 'soughlaw30.CellSums': WHATEVER THE INPUT: true; the input reads as it did. -/
def cellSumsSpec : ChangeSpec := { name := "cellSums", fn := fun _ => fun
  | [d1, d2, d3, d4] => { results := [.lit (.bool true)], args := [d1, d2, d3, d4] }
  | _ => none }
def cellSumsRow : OpenClaim := { program := "ytiihcgmnmcdcfaa", sum := "0fb41d909af08ed179a112eac29d5c02665f43a6fd53cbdc89e349854208fe3a", func := "sough/soughlaw30.CellSums", spec := "cellSums", unfollowed := true, recurses := true, apart := false }
def CellSumsSaid : Prop := cellSumsRow.holds Try.pinned (OpenSpec.ofChange cellSumsSpec)

/-- ITS FALSE NEIGHBOUR: 'it returns false'. Refute it at one input. -/
def cellSumsWrong : ChangeSpec := { name := "cellSums", fn := fun _ => fun
  | [d1, d2, d3, d4] => { results := [.lit (.bool false)], args := [d1, d2, d3, d4] }
  | _ => none }
def CellSumsWrongFalsely : Prop := cellSumsRow.holds Try.pinned (OpenSpec.ofChange cellSumsWrong)

/-- 'soughlaw31.TicketOnce': WHATEVER THE INPUT: true; the input reads as it did. -/
def ticketOnceSpec : ChangeSpec := { name := "ticketOnce", fn := fun _ => fun
  | [d1, d2] => { results := [.lit (.bool true)], args := [d1, d2] }
  | _ => none }
def ticketOnceRow : OpenClaim := { program := "ytiihcgmnmcdcfaa", sum := "0fb41d909af08ed179a112eac29d5c02665f43a6fd53cbdc89e349854208fe3a", func := "sough/soughlaw31.TicketOnce", spec := "ticketOnce", unfollowed := true, recurses := true, apart := false }
def TicketOnceSaid : Prop := ticketOnceRow.holds Try.pinned (OpenSpec.ofChange ticketOnceSpec)

/-- ITS FALSE NEIGHBOUR: 'it returns false'. Refute it at one input. -/
def ticketOnceWrong : ChangeSpec := { name := "ticketOnce", fn := fun _ => fun
  | [d1, d2] => { results := [.lit (.bool false)], args := [d1, d2] }
  | _ => none }
def TicketOnceWrongFalsely : Prop := ticketOnceRow.holds Try.pinned (OpenSpec.ofChange ticketOnceWrong)

/-- 'soughlaw29.LinearPlays': WHATEVER THE INPUT: true; the input reads as it did. -/
def linearPlaysSpec : ChangeSpec := { name := "linearPlays", fn := fun _ => fun
  | [d1, d2, d3, d4] => { results := [.lit (.bool true)], args := [d1, d2, d3, d4] }
  | _ => none }
def linearPlaysRow : OpenClaim := { program := "ytiihcgmnmcdcfaa", sum := "0fb41d909af08ed179a112eac29d5c02665f43a6fd53cbdc89e349854208fe3a", func := "sough/soughlaw29.LinearPlays", spec := "linearPlays", unfollowed := true, recurses := true, apart := false }
def LinearPlaysSaid : Prop := linearPlaysRow.holds Try.pinned (OpenSpec.ofChange linearPlaysSpec)

/-- ITS FALSE NEIGHBOUR: 'it returns false'. Refute it at one input. -/
def linearPlaysWrong : ChangeSpec := { name := "linearPlays", fn := fun _ => fun
  | [d1, d2, d3, d4] => { results := [.lit (.bool false)], args := [d1, d2, d3, d4] }
  | _ => none }
def LinearPlaysWrongFalsely : Prop := linearPlaysRow.holds Try.pinned (OpenSpec.ofChange linearPlaysWrong)

/-- 'soughlaw23.RecordRight': WHATEVER THE INPUT: true; the input reads as it did. -/
def recordRightSpec : ChangeSpec := { name := "recordRight", fn := fun _ => fun
  | [d1, d2] => { results := [.lit (.bool true)], args := [d1, d2] }
  | _ => none }
def recordRightRow : OpenClaim := { program := "ytiihcgmnmcdcfaa", sum := "0fb41d909af08ed179a112eac29d5c02665f43a6fd53cbdc89e349854208fe3a", func := "sough/soughlaw23.RecordRight", spec := "recordRight", unfollowed := true, recurses := true, apart := false }
def RecordRightSaid : Prop := recordRightRow.holds Try.pinned (OpenSpec.ofChange recordRightSpec)

/-- ITS FALSE NEIGHBOUR: 'it returns false'. Refute it at one input. -/
def recordRightWrong : ChangeSpec := { name := "recordRight", fn := fun _ => fun
  | [d1, d2] => { results := [.lit (.bool false)], args := [d1, d2] }
  | _ => none }
def RecordRightWrongFalsely : Prop := recordRightRow.holds Try.pinned (OpenSpec.ofChange recordRightWrong)

/- THE SECOND FORM. 'bulk': how many values and letters a reading holds, each counted each time it is reached (what is shared counts as often as it is met; a slice's spare places count too). A statement '..UptoSaid' is the law's where the arguments, and the package variables that the reading takes, are together of bulk at most 1048576: NARROWER than '..Said'. Prove '..Said' where nothing that the law and all that it calls make is longer than what came in: it says more and counts as full. Else prove '..UptoSaid'. A law counts once. -/
mutual
def uptoBulk {H : Type} : DataW H → Nat
  | .lit (.string bytes) => bytes.length + 1
  | .lit _ => 1
  | .nil => 1
  | .ptr d => uptoBulk d + 1
  | .slice elems spare => uptoBulkAll elems + uptoBulkAll spare + 1
  | .agg parts => uptoBulkAll parts + 1
  | .iface _ d => uptoBulk d + 1
  | .map entries => uptoBulkEntries entries + 1
  | .held _ => 1
def uptoBulkAll {H : Type} : List (DataW H) → Nat
  | [] => 0
  | d :: r => uptoBulk d + uptoBulkAll r
def uptoBulkEntries {H : Type} : List (Lit × DataW H) → Nat
  | [] => 0
  | x :: r => uptoBulkEntry x + uptoBulkEntries r
def uptoBulkEntry {H : Type} : Lit × DataW H → Nat
  | (.string bytes, d) => bytes.length + uptoBulk d + 1
  | (_, d) => uptoBulk d + 1
 end
def uptoSmall : (H : Type) → List (DataW H) → Bool := fun _ ds => decide (uptoBulkAll ds ≤ 1048576)
def OpenSpec.upto (s : _root_.Go.ChangeSpec) : _root_.Go.OpenSpec := { _root_.Go.OpenSpec.ofChange s with cond := some uptoSmall }

/-- 'soughlaw23.RecordWrites', WHERE WHAT IT READS IS OF BULK AT MOST 1048576: true; the input reads as it did. -/
def recordWritesUptoRow : OpenClaim := { program := "ytiihcgmnmcdcfaa", sum := "0fb41d909af08ed179a112eac29d5c02665f43a6fd53cbdc89e349854208fe3a", func := "sough/soughlaw23.RecordWrites", spec := "recordWrites", unfollowed := true, recurses := true, apart := false, narrowed := true }
def RecordWritesUptoSaid : Prop := recordWritesUptoRow.holds Try.pinned (OpenSpec.upto recordWritesSpec)

/-- 'soughlaw27.DequeList', WHERE WHAT IT READS IS OF BULK AT MOST 1048576: true; the input reads as it did. -/
def dequeListUptoRow : OpenClaim := { program := "ytiihcgmnmcdcfaa", sum := "0fb41d909af08ed179a112eac29d5c02665f43a6fd53cbdc89e349854208fe3a", func := "sough/soughlaw27.DequeList", spec := "dequeList", unfollowed := true, recurses := true, apart := false, narrowed := true }
def DequeListUptoSaid : Prop := dequeListUptoRow.holds Try.pinned (OpenSpec.upto dequeListSpec)

/-- 'soughlaw28.PlaysRun', WHERE WHAT IT READS IS OF BULK AT MOST 1048576: true; the input reads as it did. -/
def playsRunUptoRow : OpenClaim := { program := "ytiihcgmnmcdcfaa", sum := "0fb41d909af08ed179a112eac29d5c02665f43a6fd53cbdc89e349854208fe3a", func := "sough/soughlaw28.PlaysRun", spec := "playsRun", unfollowed := true, recurses := true, apart := false, narrowed := true }
def PlaysRunUptoSaid : Prop := playsRunUptoRow.holds Try.pinned (OpenSpec.upto playsRunSpec)

/-- 'soughlaw28.PlaysOnce', WHERE WHAT IT READS IS OF BULK AT MOST 1048576: true; the input reads as it did. -/
def playsOnceUptoRow : OpenClaim := { program := "ytiihcgmnmcdcfaa", sum := "0fb41d909af08ed179a112eac29d5c02665f43a6fd53cbdc89e349854208fe3a", func := "sough/soughlaw28.PlaysOnce", spec := "playsOnce", unfollowed := true, recurses := true, apart := false, narrowed := true }
def PlaysOnceUptoSaid : Prop := playsOnceUptoRow.holds Try.pinned (OpenSpec.upto playsOnceSpec)

/-- 'soughlaw30.CellSums', WHERE WHAT IT READS IS OF BULK AT MOST 1048576: true; the input reads as it did. -/
def cellSumsUptoRow : OpenClaim := { program := "ytiihcgmnmcdcfaa", sum := "0fb41d909af08ed179a112eac29d5c02665f43a6fd53cbdc89e349854208fe3a", func := "sough/soughlaw30.CellSums", spec := "cellSums", unfollowed := true, recurses := true, apart := false, narrowed := true }
def CellSumsUptoSaid : Prop := cellSumsUptoRow.holds Try.pinned (OpenSpec.upto cellSumsSpec)

/-- 'soughlaw31.TicketOnce', WHERE WHAT IT READS IS OF BULK AT MOST 1048576: true; the input reads as it did. -/
def ticketOnceUptoRow : OpenClaim := { program := "ytiihcgmnmcdcfaa", sum := "0fb41d909af08ed179a112eac29d5c02665f43a6fd53cbdc89e349854208fe3a", func := "sough/soughlaw31.TicketOnce", spec := "ticketOnce", unfollowed := true, recurses := true, apart := false, narrowed := true }
def TicketOnceUptoSaid : Prop := ticketOnceUptoRow.holds Try.pinned (OpenSpec.upto ticketOnceSpec)

/-- 'soughlaw29.LinearPlays', WHERE WHAT IT READS IS OF BULK AT MOST 1048576: true; the input reads as it did. -/
def linearPlaysUptoRow : OpenClaim := { program := "ytiihcgmnmcdcfaa", sum := "0fb41d909af08ed179a112eac29d5c02665f43a6fd53cbdc89e349854208fe3a", func := "sough/soughlaw29.LinearPlays", spec := "linearPlays", unfollowed := true, recurses := true, apart := false, narrowed := true }
def LinearPlaysUptoSaid : Prop := linearPlaysUptoRow.holds Try.pinned (OpenSpec.upto linearPlaysSpec)

/-- 'soughlaw23.RecordRight', WHERE WHAT IT READS IS OF BULK AT MOST 1048576: true; the input reads as it did. -/
def recordRightUptoRow : OpenClaim := { program := "ytiihcgmnmcdcfaa", sum := "0fb41d909af08ed179a112eac29d5c02665f43a6fd53cbdc89e349854208fe3a", func := "sough/soughlaw23.RecordRight", spec := "recordRight", unfollowed := true, recurses := true, apart := false, narrowed := true }
def RecordRightUptoSaid : Prop := recordRightUptoRow.holds Try.pinned (OpenSpec.upto recordRightSpec)

end Rows
end Go.Proofs.Ytiihcgmnmcdcfaa
