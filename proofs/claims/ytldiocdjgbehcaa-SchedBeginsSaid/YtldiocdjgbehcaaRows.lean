/-
  No cell of these rows narrows 'for every input' (looked for: loops, veiled, ifaces, maps, wideKeys, modest, calm, conditions, laid).
  DERIVED. THE GIVEN ROWS OF THIS SEAT. 22 by the template 'for every input the law returns true; each argument reads behind the call as it read before'; 0 by the template 'total and deterministic' (their statements: YtldiocdjgbehcaaTotals.lean).
  GIVEN WITH THE SEED: the statements are not yours to turn. If you find one false, say at which input.
  Laid BY PROGRAM, IN A SANDBOX (cutbox-rows.mjs): the forced cells as the released guide's own fill.sh prints them over the translation f4aa9e21803b85da… (all of the seat's roots in one cut). By AI agents, Wed Nov 11 2026. No macro, syntax, notation, axiom, sorry.
-/
import Derived.Test.YtldiocdjgbehcaaChecked
import GoSem.Claim
import GoSem.ClaimJoined
import GoSem.ClaimMapViews
import Derived.JoinedTies
import Derived.KernelRfl
namespace Go.Proofs.Ytldiocdjgbehcaa
/- THE CELL 'sum', in the pinned program and in every row, IS THE sha256 OF THE DUMP (.gsa) THAT YtldiocdjgbehcaaProg.lean LOADS. Nothing in Lean hashes anything: it is a label: what it is worth is what the hold of that sum in a sandbox is worth. -/
noncomputable def Try.pinned : Pinned := { name := "ytldiocdjgbehcaa", sum := "f4aa9e21803b85da3dd3e66559e8dfe5ed856db0f83b36e525f5e190890dcb2f", checked := Try.checked }
namespace Rows
def none {H : Type} : Left H := { results := [], args := [] }

/-- 'soughlaw37.ThreadsDraws': WHATEVER THE INPUT: true; the input reads as it did. -/
def threadsDrawsSpec : ChangeSpec := { name := "threadsDraws", fn := fun _ => fun
  | [d1, d2] => { results := [.lit (.bool true)], args := [d1, d2] }
  | _ => none }
def threadsDrawsRow : OpenClaim := { program := "ytldiocdjgbehcaa", sum := "f4aa9e21803b85da3dd3e66559e8dfe5ed856db0f83b36e525f5e190890dcb2f", func := "sough/soughlaw37.ThreadsDraws", spec := "threadsDraws", apart := false }
def ThreadsDrawsSaid : Prop := threadsDrawsRow.holds Try.pinned (OpenSpec.ofChange threadsDrawsSpec)

/-- ITS FALSE NEIGHBOUR: 'it returns false'. Refute it at one input. -/
def threadsDrawsWrong : ChangeSpec := { name := "threadsDraws", fn := fun _ => fun
  | [d1, d2] => { results := [.lit (.bool false)], args := [d1, d2] }
  | _ => none }
def ThreadsDrawsWrongFalsely : Prop := threadsDrawsRow.holds Try.pinned (OpenSpec.ofChange threadsDrawsWrong)

/-- 'soughlaw22.MemPlain': WHATEVER THE INPUT: true; the input reads as it did. -/
def memPlainSpec : ChangeSpec := { name := "memPlain", fn := fun _ => fun
  | [d1, d2] => { results := [.lit (.bool true)], args := [d1, d2] }
  | _ => none }
def memPlainRow : OpenClaim := { program := "ytldiocdjgbehcaa", sum := "f4aa9e21803b85da3dd3e66559e8dfe5ed856db0f83b36e525f5e190890dcb2f", func := "sough/soughlaw22.MemPlain", spec := "memPlain", inPlace := ["sync/atomic.CompareAndSwapUint64", "sync/atomic.AddUint64"], unfollowed := true, recurses := true, apart := false }
def MemPlainSaid : Prop := memPlainRow.holds Try.pinned (OpenSpec.ofChange memPlainSpec)

/-- ITS FALSE NEIGHBOUR: 'it returns false'. Refute it at one input. -/
def memPlainWrong : ChangeSpec := { name := "memPlain", fn := fun _ => fun
  | [d1, d2] => { results := [.lit (.bool false)], args := [d1, d2] }
  | _ => none }
def MemPlainWrongFalsely : Prop := memPlainRow.holds Try.pinned (OpenSpec.ofChange memPlainWrong)

/-- 'soughlaw22.MemShared': WHATEVER THE INPUT: true; the input reads as it did. -/
def memSharedSpec : ChangeSpec := { name := "memShared", fn := fun _ => fun
  | [d1, d2] => { results := [.lit (.bool true)], args := [d1, d2] }
  | _ => none }
def memSharedRow : OpenClaim := { program := "ytldiocdjgbehcaa", sum := "f4aa9e21803b85da3dd3e66559e8dfe5ed856db0f83b36e525f5e190890dcb2f", func := "sough/soughlaw22.MemShared", spec := "memShared", inPlace := ["sync/atomic.CompareAndSwapUint64", "sync/atomic.AddUint64", "sync/atomic.LoadUint64", "sync/atomic.StoreUint64"], unfollowed := true, recurses := true, apart := false }
def MemSharedSaid : Prop := memSharedRow.holds Try.pinned (OpenSpec.ofChange memSharedSpec)

/-- ITS FALSE NEIGHBOUR: 'it returns false'. Refute it at one input. -/
def memSharedWrong : ChangeSpec := { name := "memShared", fn := fun _ => fun
  | [d1, d2] => { results := [.lit (.bool false)], args := [d1, d2] }
  | _ => none }
def MemSharedWrongFalsely : Prop := memSharedRow.holds Try.pinned (OpenSpec.ofChange memSharedWrong)

/-- 'soughlaw22.MemNone': WHATEVER THE INPUT: true; the input reads as it did. -/
def memNoneSpec : ChangeSpec := { name := "memNone", fn := fun _ => fun
  | [d] => { results := [.lit (.bool true)], args := [d] }
  | _ => none }
def memNoneRow : OpenClaim := { program := "ytldiocdjgbehcaa", sum := "f4aa9e21803b85da3dd3e66559e8dfe5ed856db0f83b36e525f5e190890dcb2f", func := "sough/soughlaw22.MemNone", spec := "memNone", inPlace := ["sync/atomic.CompareAndSwapUint64", "sync/atomic.AddUint64", "sync/atomic.LoadUint64", "sync/atomic.StoreUint64"], unfollowed := true, recurses := true, apart := false }
def MemNoneSaid : Prop := memNoneRow.holds Try.pinned (OpenSpec.ofChange memNoneSpec)

/-- ITS FALSE NEIGHBOUR: 'it returns false'. Refute it at one input. -/
def memNoneWrong : ChangeSpec := { name := "memNone", fn := fun _ => fun
  | [d] => { results := [.lit (.bool false)], args := [d] }
  | _ => none }
def MemNoneWrongFalsely : Prop := memNoneRow.holds Try.pinned (OpenSpec.ofChange memNoneWrong)

/-- 'soughlaw31.TicketPlays': WHATEVER THE INPUT: true; the input reads as it did. -/
def ticketPlaysSpec : ChangeSpec := { name := "ticketPlays", fn := fun _ => fun
  | [d1, d2, d3, d4] => { results := [.lit (.bool true)], args := [d1, d2, d3, d4] }
  | _ => none }
def ticketPlaysRow : OpenClaim := { program := "ytldiocdjgbehcaa", sum := "f4aa9e21803b85da3dd3e66559e8dfe5ed856db0f83b36e525f5e190890dcb2f", func := "sough/soughlaw31.TicketPlays", spec := "ticketPlays", unfollowed := true, recurses := true, apart := false }
def TicketPlaysSaid : Prop := ticketPlaysRow.holds Try.pinned (OpenSpec.ofChange ticketPlaysSpec)

/-- ITS FALSE NEIGHBOUR: 'it returns false'. Refute it at one input. -/
def ticketPlaysWrong : ChangeSpec := { name := "ticketPlays", fn := fun _ => fun
  | [d1, d2, d3, d4] => { results := [.lit (.bool false)], args := [d1, d2, d3, d4] }
  | _ => none }
def TicketPlaysWrongFalsely : Prop := ticketPlaysRow.holds Try.pinned (OpenSpec.ofChange ticketPlaysWrong)

/-- 'soughlaw23.RecordWrites': WHATEVER THE INPUT: true; the input reads as it did. -/
def recordWritesSpec : ChangeSpec := { name := "recordWrites", fn := fun _ => fun
  | [d1, d2] => { results := [.lit (.bool true)], args := [d1, d2] }
  | _ => none }
def recordWritesRow : OpenClaim := { program := "ytldiocdjgbehcaa", sum := "f4aa9e21803b85da3dd3e66559e8dfe5ed856db0f83b36e525f5e190890dcb2f", func := "sough/soughlaw23.RecordWrites", spec := "recordWrites", unfollowed := true, recurses := true, apart := false }
def RecordWritesSaid : Prop := recordWritesRow.holds Try.pinned (OpenSpec.ofChange recordWritesSpec)

/-- ITS FALSE NEIGHBOUR: 'it returns false'. Refute it at one input. -/
def recordWritesWrong : ChangeSpec := { name := "recordWrites", fn := fun _ => fun
  | [d1, d2] => { results := [.lit (.bool false)], args := [d1, d2] }
  | _ => none }
def RecordWritesWrongFalsely : Prop := recordWritesRow.holds Try.pinned (OpenSpec.ofChange recordWritesWrong)

/-- 'soughlaw23.RecordNotes': WHATEVER THE INPUT: true; the input reads as it did. -/
def recordNotesSpec : ChangeSpec := { name := "recordNotes", fn := fun _ => fun
  | [d1, d2] => { results := [.lit (.bool true)], args := [d1, d2] }
  | _ => none }
def recordNotesRow : OpenClaim := { program := "ytldiocdjgbehcaa", sum := "f4aa9e21803b85da3dd3e66559e8dfe5ed856db0f83b36e525f5e190890dcb2f", func := "sough/soughlaw23.RecordNotes", spec := "recordNotes", unfollowed := true, recurses := true, apart := false }
def RecordNotesSaid : Prop := recordNotesRow.holds Try.pinned (OpenSpec.ofChange recordNotesSpec)

/-- ITS FALSE NEIGHBOUR: 'it returns false'. Refute it at one input. -/
def recordNotesWrong : ChangeSpec := { name := "recordNotes", fn := fun _ => fun
  | [d1, d2] => { results := [.lit (.bool false)], args := [d1, d2] }
  | _ => none }
def RecordNotesWrongFalsely : Prop := recordNotesRow.holds Try.pinned (OpenSpec.ofChange recordNotesWrong)

/-- 'soughlaw24.StepOnce': WHATEVER THE INPUT: true; the input reads as it did. -/
def stepOnceSpec : ChangeSpec := { name := "stepOnce", fn := fun _ => fun
  | [d1, d2] => { results := [.lit (.bool true)], args := [d1, d2] }
  | _ => none }
def stepOnceRow : OpenClaim := { program := "ytldiocdjgbehcaa", sum := "f4aa9e21803b85da3dd3e66559e8dfe5ed856db0f83b36e525f5e190890dcb2f", func := "sough/soughlaw24.StepOnce", spec := "stepOnce", unfollowed := true, recurses := true, apart := false }
def StepOnceSaid : Prop := stepOnceRow.holds Try.pinned (OpenSpec.ofChange stepOnceSpec)

/-- ITS FALSE NEIGHBOUR: 'it returns false'. Refute it at one input. -/
def stepOnceWrong : ChangeSpec := { name := "stepOnce", fn := fun _ => fun
  | [d1, d2] => { results := [.lit (.bool false)], args := [d1, d2] }
  | _ => none }
def StepOnceWrongFalsely : Prop := stepOnceRow.holds Try.pinned (OpenSpec.ofChange stepOnceWrong)

/-- 'soughlaw27.DequeNone': WHATEVER THE INPUT: true; the input reads as it did. -/
def dequeNoneSpec : ChangeSpec := { name := "dequeNone", fn := fun _ => fun
  | [d] => { results := [.lit (.bool true)], args := [d] }
  | _ => none }
def dequeNoneRow : OpenClaim := { program := "ytldiocdjgbehcaa", sum := "f4aa9e21803b85da3dd3e66559e8dfe5ed856db0f83b36e525f5e190890dcb2f", func := "sough/soughlaw27.DequeNone", spec := "dequeNone", unfollowed := true, recurses := true, apart := false }
def DequeNoneSaid : Prop := dequeNoneRow.holds Try.pinned (OpenSpec.ofChange dequeNoneSpec)

/-- ITS FALSE NEIGHBOUR: 'it returns false'. Refute it at one input. -/
def dequeNoneWrong : ChangeSpec := { name := "dequeNone", fn := fun _ => fun
  | [d] => { results := [.lit (.bool false)], args := [d] }
  | _ => none }
def DequeNoneWrongFalsely : Prop := dequeNoneRow.holds Try.pinned (OpenSpec.ofChange dequeNoneWrong)

/-- 'soughlaw24.StepPlays': WHATEVER THE INPUT: true; the input reads as it did. -/
def stepPlaysSpec : ChangeSpec := { name := "stepPlays", fn := fun _ => fun
  | [d1, d2] => { results := [.lit (.bool true)], args := [d1, d2] }
  | _ => none }
def stepPlaysRow : OpenClaim := { program := "ytldiocdjgbehcaa", sum := "f4aa9e21803b85da3dd3e66559e8dfe5ed856db0f83b36e525f5e190890dcb2f", func := "sough/soughlaw24.StepPlays", spec := "stepPlays", unfollowed := true, recurses := true, apart := false }
def StepPlaysSaid : Prop := stepPlaysRow.holds Try.pinned (OpenSpec.ofChange stepPlaysSpec)

/-- ITS FALSE NEIGHBOUR: 'it returns false'. Refute it at one input. -/
def stepPlaysWrong : ChangeSpec := { name := "stepPlays", fn := fun _ => fun
  | [d1, d2] => { results := [.lit (.bool false)], args := [d1, d2] }
  | _ => none }
def StepPlaysWrongFalsely : Prop := stepPlaysRow.holds Try.pinned (OpenSpec.ofChange stepPlaysWrong)

/-- 'soughlaw30.CellReads': WHATEVER THE INPUT: true; the input reads as it did. -/
def cellReadsSpec : ChangeSpec := { name := "cellReads", fn := fun _ => fun
  | [d1, d2] => { results := [.lit (.bool true)], args := [d1, d2] }
  | _ => none }
def cellReadsRow : OpenClaim := { program := "ytldiocdjgbehcaa", sum := "f4aa9e21803b85da3dd3e66559e8dfe5ed856db0f83b36e525f5e190890dcb2f", func := "sough/soughlaw30.CellReads", spec := "cellReads", unfollowed := true, recurses := true, apart := false }
def CellReadsSaid : Prop := cellReadsRow.holds Try.pinned (OpenSpec.ofChange cellReadsSpec)

/-- ITS FALSE NEIGHBOUR: 'it returns false'. Refute it at one input. -/
def cellReadsWrong : ChangeSpec := { name := "cellReads", fn := fun _ => fun
  | [d1, d2] => { results := [.lit (.bool false)], args := [d1, d2] }
  | _ => none }
def CellReadsWrongFalsely : Prop := cellReadsRow.holds Try.pinned (OpenSpec.ofChange cellReadsWrong)

/-- 'soughlaw30.CellPlays': WHATEVER THE INPUT: true; the input reads as it did. -/
def cellPlaysSpec : ChangeSpec := { name := "cellPlays", fn := fun _ => fun
  | [d1, d2, d3, d4, d5] => { results := [.lit (.bool true)], args := [d1, d2, d3, d4, d5] }
  | _ => none }
def cellPlaysRow : OpenClaim := { program := "ytldiocdjgbehcaa", sum := "f4aa9e21803b85da3dd3e66559e8dfe5ed856db0f83b36e525f5e190890dcb2f", func := "sough/soughlaw30.CellPlays", spec := "cellPlays", unfollowed := true, recurses := true, apart := false }
def CellPlaysSaid : Prop := cellPlaysRow.holds Try.pinned (OpenSpec.ofChange cellPlaysSpec)

/-- ITS FALSE NEIGHBOUR: 'it returns false'. Refute it at one input. -/
def cellPlaysWrong : ChangeSpec := { name := "cellPlays", fn := fun _ => fun
  | [d1, d2, d3, d4, d5] => { results := [.lit (.bool false)], args := [d1, d2, d3, d4, d5] }
  | _ => none }
def CellPlaysWrongFalsely : Prop := cellPlaysRow.holds Try.pinned (OpenSpec.ofChange cellPlaysWrong)

/-- 'soughlaw27.DequePlays': WHATEVER THE INPUT: true; the input reads as it did. -/
def dequePlaysSpec : ChangeSpec := { name := "dequePlays", fn := fun _ => fun
  | [d1, d2, d3] => { results := [.lit (.bool true)], args := [d1, d2, d3] }
  | _ => none }
def dequePlaysRow : OpenClaim := { program := "ytldiocdjgbehcaa", sum := "f4aa9e21803b85da3dd3e66559e8dfe5ed856db0f83b36e525f5e190890dcb2f", func := "sough/soughlaw27.DequePlays", spec := "dequePlays", unfollowed := true, recurses := true, apart := false }
def DequePlaysSaid : Prop := dequePlaysRow.holds Try.pinned (OpenSpec.ofChange dequePlaysSpec)

/-- ITS FALSE NEIGHBOUR: 'it returns false'. Refute it at one input. -/
def dequePlaysWrong : ChangeSpec := { name := "dequePlays", fn := fun _ => fun
  | [d1, d2, d3] => { results := [.lit (.bool false)], args := [d1, d2, d3] }
  | _ => none }
def DequePlaysWrongFalsely : Prop := dequePlaysRow.holds Try.pinned (OpenSpec.ofChange dequePlaysWrong)

/-- 'soughlaw25.SchedRuns': WHATEVER THE INPUT: true; the input reads as it did. -/
def schedRunsSpec : ChangeSpec := { name := "schedRuns", fn := fun _ => fun
  | [d1, d2] => { results := [.lit (.bool true)], args := [d1, d2] }
  | _ => none }
def schedRunsRow : OpenClaim := { program := "ytldiocdjgbehcaa", sum := "f4aa9e21803b85da3dd3e66559e8dfe5ed856db0f83b36e525f5e190890dcb2f", func := "sough/soughlaw25.SchedRuns", spec := "schedRuns", unfollowed := true, recurses := true, apart := false }
def SchedRunsSaid : Prop := schedRunsRow.holds Try.pinned (OpenSpec.ofChange schedRunsSpec)

/-- ITS FALSE NEIGHBOUR: 'it returns false'. Refute it at one input. -/
def schedRunsWrong : ChangeSpec := { name := "schedRuns", fn := fun _ => fun
  | [d1, d2] => { results := [.lit (.bool false)], args := [d1, d2] }
  | _ => none }
def SchedRunsWrongFalsely : Prop := schedRunsRow.holds Try.pinned (OpenSpec.ofChange schedRunsWrong)

/-- 'soughlaw25.SchedBegins': WHATEVER THE INPUT: true; the input reads as it did. -/
def schedBeginsSpec : ChangeSpec := { name := "schedBegins", fn := fun _ => fun
  | [d1, d2, d3] => { results := [.lit (.bool true)], args := [d1, d2, d3] }
  | _ => none }
def schedBeginsRow : OpenClaim := { program := "ytldiocdjgbehcaa", sum := "f4aa9e21803b85da3dd3e66559e8dfe5ed856db0f83b36e525f5e190890dcb2f", func := "sough/soughlaw25.SchedBegins", spec := "schedBegins", unfollowed := true, recurses := true, apart := false }
def SchedBeginsSaid : Prop := schedBeginsRow.holds Try.pinned (OpenSpec.ofChange schedBeginsSpec)

/-- ITS FALSE NEIGHBOUR: 'it returns false'. Refute it at one input. -/
def schedBeginsWrong : ChangeSpec := { name := "schedBegins", fn := fun _ => fun
  | [d1, d2, d3] => { results := [.lit (.bool false)], args := [d1, d2, d3] }
  | _ => none }
def SchedBeginsWrongFalsely : Prop := schedBeginsRow.holds Try.pinned (OpenSpec.ofChange schedBeginsWrong)

/-- 'soughlaw27.DequeList': WHATEVER THE INPUT: true; the input reads as it did. -/
def dequeListSpec : ChangeSpec := { name := "dequeList", fn := fun _ => fun
  | [d1, d2] => { results := [.lit (.bool true)], args := [d1, d2] }
  | _ => none }
def dequeListRow : OpenClaim := { program := "ytldiocdjgbehcaa", sum := "f4aa9e21803b85da3dd3e66559e8dfe5ed856db0f83b36e525f5e190890dcb2f", func := "sough/soughlaw27.DequeList", spec := "dequeList", unfollowed := true, recurses := true, apart := false }
def DequeListSaid : Prop := dequeListRow.holds Try.pinned (OpenSpec.ofChange dequeListSpec)

/-- ITS FALSE NEIGHBOUR: 'it returns false'. Refute it at one input. -/
def dequeListWrong : ChangeSpec := { name := "dequeList", fn := fun _ => fun
  | [d1, d2] => { results := [.lit (.bool false)], args := [d1, d2] }
  | _ => none }
def DequeListWrongFalsely : Prop := dequeListRow.holds Try.pinned (OpenSpec.ofChange dequeListWrong)

/-- 'soughlaw28.PlaysRun': WHATEVER THE INPUT: true; the input reads as it did. -/
def playsRunSpec : ChangeSpec := { name := "playsRun", fn := fun _ => fun
  | [d1, d2, d3, d4] => { results := [.lit (.bool true)], args := [d1, d2, d3, d4] }
  | _ => none }
def playsRunRow : OpenClaim := { program := "ytldiocdjgbehcaa", sum := "f4aa9e21803b85da3dd3e66559e8dfe5ed856db0f83b36e525f5e190890dcb2f", func := "sough/soughlaw28.PlaysRun", spec := "playsRun", unfollowed := true, recurses := true, apart := false }
def PlaysRunSaid : Prop := playsRunRow.holds Try.pinned (OpenSpec.ofChange playsRunSpec)

/-- ITS FALSE NEIGHBOUR: 'it returns false'. Refute it at one input. -/
def playsRunWrong : ChangeSpec := { name := "playsRun", fn := fun _ => fun
  | [d1, d2, d3, d4] => { results := [.lit (.bool false)], args := [d1, d2, d3, d4] }
  | _ => none }
def PlaysRunWrongFalsely : Prop := playsRunRow.holds Try.pinned (OpenSpec.ofChange playsRunWrong)

/-- 'soughlaw28.PlaysOnce': WHATEVER THE INPUT: true; the input reads as it did. -/
def playsOnceSpec : ChangeSpec := { name := "playsOnce", fn := fun _ => fun
  | [d1, d2, d3, d4] => { results := [.lit (.bool true)], args := [d1, d2, d3, d4] }
  | _ => none }
def playsOnceRow : OpenClaim := { program := "ytldiocdjgbehcaa", sum := "f4aa9e21803b85da3dd3e66559e8dfe5ed856db0f83b36e525f5e190890dcb2f", func := "sough/soughlaw28.PlaysOnce", spec := "playsOnce", unfollowed := true, recurses := true, apart := false }
def PlaysOnceSaid : Prop := playsOnceRow.holds Try.pinned (OpenSpec.ofChange playsOnceSpec)

/-- ITS FALSE NEIGHBOUR: 'it returns false'. Refute it at one input. -/
def playsOnceWrong : ChangeSpec := { name := "playsOnce", fn := fun _ => fun
  | [d1, d2, d3, d4] => { results := [.lit (.bool false)], args := [d1, d2, d3, d4] }
  | _ => none }
def PlaysOnceWrongFalsely : Prop := playsOnceRow.holds Try.pinned (OpenSpec.ofChange playsOnceWrong)

/-- 'soughlaw30.CellSums': WHATEVER THE INPUT: true; the input reads as it did. -/
def cellSumsSpec : ChangeSpec := { name := "cellSums", fn := fun _ => fun
  | [d1, d2, d3, d4] => { results := [.lit (.bool true)], args := [d1, d2, d3, d4] }
  | _ => none }
def cellSumsRow : OpenClaim := { program := "ytldiocdjgbehcaa", sum := "f4aa9e21803b85da3dd3e66559e8dfe5ed856db0f83b36e525f5e190890dcb2f", func := "sough/soughlaw30.CellSums", spec := "cellSums", unfollowed := true, recurses := true, apart := false }
def CellSumsSaid : Prop := cellSumsRow.holds Try.pinned (OpenSpec.ofChange cellSumsSpec)

/-- ITS FALSE NEIGHBOUR: 'it returns false'. Refute it at one input. -/
def cellSumsWrong : ChangeSpec := { name := "cellSums", fn := fun _ => fun
  | [d1, d2, d3, d4] => { results := [.lit (.bool false)], args := [d1, d2, d3, d4] }
  | _ => none }
def CellSumsWrongFalsely : Prop := cellSumsRow.holds Try.pinned (OpenSpec.ofChange cellSumsWrong)

/-- 'soughlaw31.TicketOnce': WHATEVER THE INPUT: true; the input reads as it did. -/
def ticketOnceSpec : ChangeSpec := { name := "ticketOnce", fn := fun _ => fun
  | [d1, d2] => { results := [.lit (.bool true)], args := [d1, d2] }
  | _ => none }
def ticketOnceRow : OpenClaim := { program := "ytldiocdjgbehcaa", sum := "f4aa9e21803b85da3dd3e66559e8dfe5ed856db0f83b36e525f5e190890dcb2f", func := "sough/soughlaw31.TicketOnce", spec := "ticketOnce", unfollowed := true, recurses := true, apart := false }
def TicketOnceSaid : Prop := ticketOnceRow.holds Try.pinned (OpenSpec.ofChange ticketOnceSpec)

/-- ITS FALSE NEIGHBOUR: 'it returns false'. Refute it at one input. -/
def ticketOnceWrong : ChangeSpec := { name := "ticketOnce", fn := fun _ => fun
  | [d1, d2] => { results := [.lit (.bool false)], args := [d1, d2] }
  | _ => none }
def TicketOnceWrongFalsely : Prop := ticketOnceRow.holds Try.pinned (OpenSpec.ofChange ticketOnceWrong)

/-- 'soughlaw29.LinearPlays': WHATEVER THE INPUT: true; the input reads as it did. -/
def linearPlaysSpec : ChangeSpec := { name := "linearPlays", fn := fun _ => fun
  | [d1, d2, d3, d4] => { results := [.lit (.bool true)], args := [d1, d2, d3, d4] }
  | _ => none }
def linearPlaysRow : OpenClaim := { program := "ytldiocdjgbehcaa", sum := "f4aa9e21803b85da3dd3e66559e8dfe5ed856db0f83b36e525f5e190890dcb2f", func := "sough/soughlaw29.LinearPlays", spec := "linearPlays", unfollowed := true, recurses := true, apart := false }
def LinearPlaysSaid : Prop := linearPlaysRow.holds Try.pinned (OpenSpec.ofChange linearPlaysSpec)

/-- ITS FALSE NEIGHBOUR: 'it returns false'. Refute it at one input. -/
def linearPlaysWrong : ChangeSpec := { name := "linearPlays", fn := fun _ => fun
  | [d1, d2, d3, d4] => { results := [.lit (.bool false)], args := [d1, d2, d3, d4] }
  | _ => none }
def LinearPlaysWrongFalsely : Prop := linearPlaysRow.holds Try.pinned (OpenSpec.ofChange linearPlaysWrong)

/-- 'soughlaw23.RecordRight': WHATEVER THE INPUT: true; the input reads as it did. -/
def recordRightSpec : ChangeSpec := { name := "recordRight", fn := fun _ => fun
  | [d1, d2] => { results := [.lit (.bool true)], args := [d1, d2] }
  | _ => none }
def recordRightRow : OpenClaim := { program := "ytldiocdjgbehcaa", sum := "f4aa9e21803b85da3dd3e66559e8dfe5ed856db0f83b36e525f5e190890dcb2f", func := "sough/soughlaw23.RecordRight", spec := "recordRight", unfollowed := true, recurses := true, apart := false }
def RecordRightSaid : Prop := recordRightRow.holds Try.pinned (OpenSpec.ofChange recordRightSpec)

/-- ITS FALSE NEIGHBOUR: 'it returns false'. Refute it at one input. -/
def recordRightWrong : ChangeSpec := { name := "recordRight", fn := fun _ => fun
  | [d1, d2] => { results := [.lit (.bool false)], args := [d1, d2] }
  | _ => none }
def RecordRightWrongFalsely : Prop := recordRightRow.holds Try.pinned (OpenSpec.ofChange recordRightWrong)

/- THE SECOND FORM. 'bulk': how many values and letters a reading holds, each counted each time it is reached (what is shared counts as often as it is met; a slice's spare places count too). A statement '..UptoSaid' is the law's where the arguments, and the package variables that the reading takes, are together of bulk at most 1048576: NARROWER than '..Said'. Prove '..Said' where nothing that the law and all that it calls make is longer than what came in: it says more and counts as full. Else prove '..UptoSaid'. A law counts once. -/
mutual
def uptoBulk {H : Type} : DataW H → Nat
  | .lit (.string bytes) => bytes.length + 1
  | .lit _ => 1
  | .nil => 1
  | .ptr d => uptoBulk d + 1
  | .slice elems spare => uptoBulkAll elems + uptoBulkAll spare + 1
  | .agg parts => uptoBulkAll parts + 1
  | .iface _ d => uptoBulk d + 1
  | .map entries => uptoBulkEntries entries + 1
  | .held _ => 1
def uptoBulkAll {H : Type} : List (DataW H) → Nat
  | [] => 0
  | d :: r => uptoBulk d + uptoBulkAll r
def uptoBulkEntries {H : Type} : List (Lit × DataW H) → Nat
  | [] => 0
  | x :: r => uptoBulkEntry x + uptoBulkEntries r
def uptoBulkEntry {H : Type} : Lit × DataW H → Nat
  | (.string bytes, d) => bytes.length + uptoBulk d + 1
  | (_, d) => uptoBulk d + 1
 end
def uptoSmall : (H : Type) → List (DataW H) → Bool := fun _ ds => decide (uptoBulkAll ds ≤ 1048576)
def OpenSpec.upto (s : _root_.Go.ChangeSpec) : _root_.Go.OpenSpec := { _root_.Go.OpenSpec.ofChange s with cond := some uptoSmall }

/-- 'soughlaw37.ThreadsDraws', WHERE WHAT IT READS IS OF BULK AT MOST 1048576: true; the input reads as it did. -/
def threadsDrawsUptoRow : OpenClaim := { program := "ytldiocdjgbehcaa", sum := "f4aa9e21803b85da3dd3e66559e8dfe5ed856db0f83b36e525f5e190890dcb2f", func := "sough/soughlaw37.ThreadsDraws", spec := "threadsDraws", apart := false, narrowed := true }
def ThreadsDrawsUptoSaid : Prop := threadsDrawsUptoRow.holds Try.pinned (OpenSpec.upto threadsDrawsSpec)

/-- 'soughlaw22.MemPlain', WHERE WHAT IT READS IS OF BULK AT MOST 1048576: true; the input reads as it did. -/
def memPlainUptoRow : OpenClaim := { program := "ytldiocdjgbehcaa", sum := "f4aa9e21803b85da3dd3e66559e8dfe5ed856db0f83b36e525f5e190890dcb2f", func := "sough/soughlaw22.MemPlain", spec := "memPlain", inPlace := ["sync/atomic.CompareAndSwapUint64", "sync/atomic.AddUint64"], unfollowed := true, recurses := true, apart := false, narrowed := true }
def MemPlainUptoSaid : Prop := memPlainUptoRow.holds Try.pinned (OpenSpec.upto memPlainSpec)

/-- 'soughlaw22.MemShared', WHERE WHAT IT READS IS OF BULK AT MOST 1048576: true; the input reads as it did. -/
def memSharedUptoRow : OpenClaim := { program := "ytldiocdjgbehcaa", sum := "f4aa9e21803b85da3dd3e66559e8dfe5ed856db0f83b36e525f5e190890dcb2f", func := "sough/soughlaw22.MemShared", spec := "memShared", inPlace := ["sync/atomic.CompareAndSwapUint64", "sync/atomic.AddUint64", "sync/atomic.LoadUint64", "sync/atomic.StoreUint64"], unfollowed := true, recurses := true, apart := false, narrowed := true }
def MemSharedUptoSaid : Prop := memSharedUptoRow.holds Try.pinned (OpenSpec.upto memSharedSpec)

/-- 'soughlaw22.MemNone', WHERE WHAT IT READS IS OF BULK AT MOST 1048576: true; the input reads as it did. -/
def memNoneUptoRow : OpenClaim := { program := "ytldiocdjgbehcaa", sum := "f4aa9e21803b85da3dd3e66559e8dfe5ed856db0f83b36e525f5e190890dcb2f", func := "sough/soughlaw22.MemNone", spec := "memNone", inPlace := ["sync/atomic.CompareAndSwapUint64", "sync/atomic.AddUint64", "sync/atomic.LoadUint64", "sync/atomic.StoreUint64"], unfollowed := true, recurses := true, apart := false, narrowed := true }
def MemNoneUptoSaid : Prop := memNoneUptoRow.holds Try.pinned (OpenSpec.upto memNoneSpec)

/-- 'soughlaw31.TicketPlays', WHERE WHAT IT READS IS OF BULK AT MOST 1048576: true; the input reads as it did. -/
def ticketPlaysUptoRow : OpenClaim := { program := "ytldiocdjgbehcaa", sum := "f4aa9e21803b85da3dd3e66559e8dfe5ed856db0f83b36e525f5e190890dcb2f", func := "sough/soughlaw31.TicketPlays", spec := "ticketPlays", unfollowed := true, recurses := true, apart := false, narrowed := true }
def TicketPlaysUptoSaid : Prop := ticketPlaysUptoRow.holds Try.pinned (OpenSpec.upto ticketPlaysSpec)

/-- 'soughlaw23.RecordWrites', WHERE WHAT IT READS IS OF BULK AT MOST 1048576: true; the input reads as it did. -/
def recordWritesUptoRow : OpenClaim := { program := "ytldiocdjgbehcaa", sum := "f4aa9e21803b85da3dd3e66559e8dfe5ed856db0f83b36e525f5e190890dcb2f", func := "sough/soughlaw23.RecordWrites", spec := "recordWrites", unfollowed := true, recurses := true, apart := false, narrowed := true }
def RecordWritesUptoSaid : Prop := recordWritesUptoRow.holds Try.pinned (OpenSpec.upto recordWritesSpec)

/-- 'soughlaw23.RecordNotes', WHERE WHAT IT READS IS OF BULK AT MOST 1048576: true; the input reads as it did. -/
def recordNotesUptoRow : OpenClaim := { program := "ytldiocdjgbehcaa", sum := "f4aa9e21803b85da3dd3e66559e8dfe5ed856db0f83b36e525f5e190890dcb2f", func := "sough/soughlaw23.RecordNotes", spec := "recordNotes", unfollowed := true, recurses := true, apart := false, narrowed := true }
def RecordNotesUptoSaid : Prop := recordNotesUptoRow.holds Try.pinned (OpenSpec.upto recordNotesSpec)

/-- 'soughlaw24.StepOnce', WHERE WHAT IT READS IS OF BULK AT MOST 1048576: true; the input reads as it did. -/
def stepOnceUptoRow : OpenClaim := { program := "ytldiocdjgbehcaa", sum := "f4aa9e21803b85da3dd3e66559e8dfe5ed856db0f83b36e525f5e190890dcb2f", func := "sough/soughlaw24.StepOnce", spec := "stepOnce", unfollowed := true, recurses := true, apart := false, narrowed := true }
def StepOnceUptoSaid : Prop := stepOnceUptoRow.holds Try.pinned (OpenSpec.upto stepOnceSpec)

/-- 'soughlaw27.DequeNone', WHERE WHAT IT READS IS OF BULK AT MOST 1048576: true; the input reads as it did. -/
def dequeNoneUptoRow : OpenClaim := { program := "ytldiocdjgbehcaa", sum := "f4aa9e21803b85da3dd3e66559e8dfe5ed856db0f83b36e525f5e190890dcb2f", func := "sough/soughlaw27.DequeNone", spec := "dequeNone", unfollowed := true, recurses := true, apart := false, narrowed := true }
def DequeNoneUptoSaid : Prop := dequeNoneUptoRow.holds Try.pinned (OpenSpec.upto dequeNoneSpec)

/-- 'soughlaw24.StepPlays', WHERE WHAT IT READS IS OF BULK AT MOST 1048576: true; the input reads as it did. -/
def stepPlaysUptoRow : OpenClaim := { program := "ytldiocdjgbehcaa", sum := "f4aa9e21803b85da3dd3e66559e8dfe5ed856db0f83b36e525f5e190890dcb2f", func := "sough/soughlaw24.StepPlays", spec := "stepPlays", unfollowed := true, recurses := true, apart := false, narrowed := true }
def StepPlaysUptoSaid : Prop := stepPlaysUptoRow.holds Try.pinned (OpenSpec.upto stepPlaysSpec)

/-- 'soughlaw30.CellReads', WHERE WHAT IT READS IS OF BULK AT MOST 1048576: true; the input reads as it did. -/
def cellReadsUptoRow : OpenClaim := { program := "ytldiocdjgbehcaa", sum := "f4aa9e21803b85da3dd3e66559e8dfe5ed856db0f83b36e525f5e190890dcb2f", func := "sough/soughlaw30.CellReads", spec := "cellReads", unfollowed := true, recurses := true, apart := false, narrowed := true }
def CellReadsUptoSaid : Prop := cellReadsUptoRow.holds Try.pinned (OpenSpec.upto cellReadsSpec)

/-- 'soughlaw30.CellPlays', WHERE WHAT IT READS IS OF BULK AT MOST 1048576: true; the input reads as it did. -/
def cellPlaysUptoRow : OpenClaim := { program := "ytldiocdjgbehcaa", sum := "f4aa9e21803b85da3dd3e66559e8dfe5ed856db0f83b36e525f5e190890dcb2f", func := "sough/soughlaw30.CellPlays", spec := "cellPlays", unfollowed := true, recurses := true, apart := false, narrowed := true }
def CellPlaysUptoSaid : Prop := cellPlaysUptoRow.holds Try.pinned (OpenSpec.upto cellPlaysSpec)

/-- 'soughlaw27.DequePlays', WHERE WHAT IT READS IS OF BULK AT MOST 1048576: true; the input reads as it did. -/
def dequePlaysUptoRow : OpenClaim := { program := "ytldiocdjgbehcaa", sum := "f4aa9e21803b85da3dd3e66559e8dfe5ed856db0f83b36e525f5e190890dcb2f", func := "sough/soughlaw27.DequePlays", spec := "dequePlays", unfollowed := true, recurses := true, apart := false, narrowed := true }
def DequePlaysUptoSaid : Prop := dequePlaysUptoRow.holds Try.pinned (OpenSpec.upto dequePlaysSpec)

/-- 'soughlaw25.SchedRuns', WHERE WHAT IT READS IS OF BULK AT MOST 1048576: true; the input reads as it did. -/
def schedRunsUptoRow : OpenClaim := { program := "ytldiocdjgbehcaa", sum := "f4aa9e21803b85da3dd3e66559e8dfe5ed856db0f83b36e525f5e190890dcb2f", func := "sough/soughlaw25.SchedRuns", spec := "schedRuns", unfollowed := true, recurses := true, apart := false, narrowed := true }
def SchedRunsUptoSaid : Prop := schedRunsUptoRow.holds Try.pinned (OpenSpec.upto schedRunsSpec)

/-- 'soughlaw25.SchedBegins', WHERE WHAT IT READS IS OF BULK AT MOST 1048576: true; the input reads as it did. -/
def schedBeginsUptoRow : OpenClaim := { program := "ytldiocdjgbehcaa", sum := "f4aa9e21803b85da3dd3e66559e8dfe5ed856db0f83b36e525f5e190890dcb2f", func := "sough/soughlaw25.SchedBegins", spec := "schedBegins", unfollowed := true, recurses := true, apart := false, narrowed := true }
def SchedBeginsUptoSaid : Prop := schedBeginsUptoRow.holds Try.pinned (OpenSpec.upto schedBeginsSpec)

/-- 'soughlaw27.DequeList', WHERE WHAT IT READS IS OF BULK AT MOST 1048576: true; the input reads as it did. -/
def dequeListUptoRow : OpenClaim := { program := "ytldiocdjgbehcaa", sum := "f4aa9e21803b85da3dd3e66559e8dfe5ed856db0f83b36e525f5e190890dcb2f", func := "sough/soughlaw27.DequeList", spec := "dequeList", unfollowed := true, recurses := true, apart := false, narrowed := true }
def DequeListUptoSaid : Prop := dequeListUptoRow.holds Try.pinned (OpenSpec.upto dequeListSpec)

/-- 'soughlaw28.PlaysRun', WHERE WHAT IT READS IS OF BULK AT MOST 1048576: true; the input reads as it did. -/
def playsRunUptoRow : OpenClaim := { program := "ytldiocdjgbehcaa", sum := "f4aa9e21803b85da3dd3e66559e8dfe5ed856db0f83b36e525f5e190890dcb2f", func := "sough/soughlaw28.PlaysRun", spec := "playsRun", unfollowed := true, recurses := true, apart := false, narrowed := true }
def PlaysRunUptoSaid : Prop := playsRunUptoRow.holds Try.pinned (OpenSpec.upto playsRunSpec)

/-- 'soughlaw28.PlaysOnce', WHERE WHAT IT READS IS OF BULK AT MOST 1048576: true; the input reads as it did. -/
def playsOnceUptoRow : OpenClaim := { program := "ytldiocdjgbehcaa", sum := "f4aa9e21803b85da3dd3e66559e8dfe5ed856db0f83b36e525f5e190890dcb2f", func := "sough/soughlaw28.PlaysOnce", spec := "playsOnce", unfollowed := true, recurses := true, apart := false, narrowed := true }
def PlaysOnceUptoSaid : Prop := playsOnceUptoRow.holds Try.pinned (OpenSpec.upto playsOnceSpec)

/-- 'soughlaw30.CellSums', WHERE WHAT IT READS IS OF BULK AT MOST 1048576: true; the input reads as it did. -/
def cellSumsUptoRow : OpenClaim := { program := "ytldiocdjgbehcaa", sum := "f4aa9e21803b85da3dd3e66559e8dfe5ed856db0f83b36e525f5e190890dcb2f", func := "sough/soughlaw30.CellSums", spec := "cellSums", unfollowed := true, recurses := true, apart := false, narrowed := true }
def CellSumsUptoSaid : Prop := cellSumsUptoRow.holds Try.pinned (OpenSpec.upto cellSumsSpec)

/-- 'soughlaw31.TicketOnce', WHERE WHAT IT READS IS OF BULK AT MOST 1048576: true; the input reads as it did. -/
def ticketOnceUptoRow : OpenClaim := { program := "ytldiocdjgbehcaa", sum := "f4aa9e21803b85da3dd3e66559e8dfe5ed856db0f83b36e525f5e190890dcb2f", func := "sough/soughlaw31.TicketOnce", spec := "ticketOnce", unfollowed := true, recurses := true, apart := false, narrowed := true }
def TicketOnceUptoSaid : Prop := ticketOnceUptoRow.holds Try.pinned (OpenSpec.upto ticketOnceSpec)

/-- 'soughlaw29.LinearPlays', WHERE WHAT IT READS IS OF BULK AT MOST 1048576: true; the input reads as it did. -/
def linearPlaysUptoRow : OpenClaim := { program := "ytldiocdjgbehcaa", sum := "f4aa9e21803b85da3dd3e66559e8dfe5ed856db0f83b36e525f5e190890dcb2f", func := "sough/soughlaw29.LinearPlays", spec := "linearPlays", unfollowed := true, recurses := true, apart := false, narrowed := true }
def LinearPlaysUptoSaid : Prop := linearPlaysUptoRow.holds Try.pinned (OpenSpec.upto linearPlaysSpec)

/-- 'soughlaw23.RecordRight', WHERE WHAT IT READS IS OF BULK AT MOST 1048576: true; the input reads as it did. -/
def recordRightUptoRow : OpenClaim := { program := "ytldiocdjgbehcaa", sum := "f4aa9e21803b85da3dd3e66559e8dfe5ed856db0f83b36e525f5e190890dcb2f", func := "sough/soughlaw23.RecordRight", spec := "recordRight", unfollowed := true, recurses := true, apart := false, narrowed := true }
def RecordRightUptoSaid : Prop := recordRightUptoRow.holds Try.pinned (OpenSpec.upto recordRightSpec)

end Rows
end Go.Proofs.Ytldiocdjgbehcaa
