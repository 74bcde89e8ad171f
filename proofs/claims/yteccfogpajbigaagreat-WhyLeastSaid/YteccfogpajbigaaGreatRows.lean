/-
  No cell of these rows narrows 'for every input' (looked for: loops, veiled, ifaces, maps, wideKeys, modest, calm, conditions, laid).
  DERIVED. THE GIVEN ROWS OF THIS SEAT. 8 by the template 'for every input the law returns true; each argument reads behind the call as it read before'; 0 by the template 'total and deterministic' (their statements: YteccfogpajbigaaGreatTotals.lean).
  GIVEN WITH THE SEED: the statements are not yours to turn. If you find one false, say at which input.
  Laid BY PROGRAM, IN A SANDBOX (cutbox-rows.mjs): the forced cells as the released guide's own fill.sh prints them over the translation b7913a2bb60aba98… (all of the seat's roots in one cut). By AI agents, Wed Nov 11 2026. No macro, syntax, notation, axiom, sorry.
-/
import Derived.Test.YteccfogpajbigaaGreatChecked
import GoSem.Claim
import GoSem.ClaimJoined
import GoSem.ClaimMapViews
import Derived.JoinedTies
import Derived.KernelRfl
namespace Go.Proofs.YteccfogpajbigaaGreat
/- THE CELL 'sum', in the pinned program and in every row, IS THE sha256 OF THE DUMP (.gsa) THAT YteccfogpajbigaaGreatProg.lean LOADS. Nothing in Lean hashes anything: it is a label: what it is worth is what the hold of that sum in a sandbox is worth. -/
noncomputable def Tryz.pinned : Pinned := { name := "yteccfogpajbigaagreat", sum := "b7913a2bb60aba9852174f444b187d4de8e73b895734f6f13789f965851a52d7", checked := Tryz.checked }
namespace Rows
def none {H : Type} : Left H := { results := [], args := [] }

/-- 'soughlaw19.QueueTells': WHATEVER THE INPUT: true; the input reads as it did. -/
def queueTellsSpec : ChangeSpec := { name := "queueTells", fn := fun _ => fun
  | [d1, d2] => { results := [.lit (.bool true)], args := [d1, d2] }
  | _ => none }
def queueTellsRow : OpenClaim := { program := "yteccfogpajbigaagreat", sum := "b7913a2bb60aba9852174f444b187d4de8e73b895734f6f13789f965851a52d7", func := "sough/soughlaw19.QueueTells", spec := "queueTells", unfollowed := true, recurses := true, apart := false }
def QueueTellsSaid : Prop := queueTellsRow.holds Tryz.pinned (OpenSpec.ofChange queueTellsSpec)

/-- ITS FALSE NEIGHBOUR: 'it returns false'. Refute it at one input. -/
def queueTellsWrong : ChangeSpec := { name := "queueTells", fn := fun _ => fun
  | [d1, d2] => { results := [.lit (.bool false)], args := [d1, d2] }
  | _ => none }
def QueueTellsWrongFalsely : Prop := queueTellsRow.holds Tryz.pinned (OpenSpec.ofChange queueTellsWrong)

/-- 'soughlaw21.WhyFacts': WHATEVER THE INPUT: true; the input reads as it did. -/
def whyFactsSpec : ChangeSpec := { name := "whyFacts", fn := fun _ => fun
  | [d1, d2, d3, d4] => { results := [.lit (.bool true)], args := [d1, d2, d3, d4] }
  | _ => none }
def whyFactsRow : OpenClaim := { program := "yteccfogpajbigaagreat", sum := "b7913a2bb60aba9852174f444b187d4de8e73b895734f6f13789f965851a52d7", func := "sough/soughlaw21.WhyFacts", spec := "whyFacts", unfollowed := true, recurses := true, apart := false }
def WhyFactsSaid : Prop := whyFactsRow.holds Tryz.pinned (OpenSpec.ofChange whyFactsSpec)

/-- ITS FALSE NEIGHBOUR: 'it returns false'. Refute it at one input. -/
def whyFactsWrong : ChangeSpec := { name := "whyFacts", fn := fun _ => fun
  | [d1, d2, d3, d4] => { results := [.lit (.bool false)], args := [d1, d2, d3, d4] }
  | _ => none }
def WhyFactsWrongFalsely : Prop := whyFactsRow.holds Tryz.pinned (OpenSpec.ofChange whyFactsWrong)

/-- 'soughlaw20.PathsMany': WHATEVER THE INPUT: true; the input reads as it did. -/
def pathsManySpec : ChangeSpec := { name := "pathsMany", fn := fun _ => fun
  | [d1, d2] => { results := [.lit (.bool true)], args := [d1, d2] }
  | _ => none }
def pathsManyRow : OpenClaim := { program := "yteccfogpajbigaagreat", sum := "b7913a2bb60aba9852174f444b187d4de8e73b895734f6f13789f965851a52d7", func := "sough/soughlaw20.PathsMany", spec := "pathsMany", unfollowed := true, recurses := true, apart := false }
def PathsManySaid : Prop := pathsManyRow.holds Tryz.pinned (OpenSpec.ofChange pathsManySpec)

/-- ITS FALSE NEIGHBOUR: 'it returns false'. Refute it at one input. -/
def pathsManyWrong : ChangeSpec := { name := "pathsMany", fn := fun _ => fun
  | [d1, d2] => { results := [.lit (.bool false)], args := [d1, d2] }
  | _ => none }
def PathsManyWrongFalsely : Prop := pathsManyRow.holds Tryz.pinned (OpenSpec.ofChange pathsManyWrong)

/-- 'soughlaw19.QueueMost': WHATEVER THE INPUT: true; the input reads as it did. -/
def queueMostSpec : ChangeSpec := { name := "queueMost", fn := fun _ => fun
  | [d] => { results := [.lit (.bool true)], args := [d] }
  | _ => none }
def queueMostRow : OpenClaim := { program := "yteccfogpajbigaagreat", sum := "b7913a2bb60aba9852174f444b187d4de8e73b895734f6f13789f965851a52d7", func := "sough/soughlaw19.QueueMost", spec := "queueMost", unfollowed := true, recurses := true, apart := false }
def QueueMostSaid : Prop := queueMostRow.holds Tryz.pinned (OpenSpec.ofChange queueMostSpec)

/-- ITS FALSE NEIGHBOUR: 'it returns false'. Refute it at one input. -/
def queueMostWrong : ChangeSpec := { name := "queueMost", fn := fun _ => fun
  | [d] => { results := [.lit (.bool false)], args := [d] }
  | _ => none }
def QueueMostWrongFalsely : Prop := queueMostRow.holds Tryz.pinned (OpenSpec.ofChange queueMostWrong)

/-- 'soughlaw19.QueueLeast': WHATEVER THE INPUT: true; the input reads as it did. -/
def queueLeastSpec : ChangeSpec := { name := "queueLeast", fn := fun _ => fun
  | [d1, d2] => { results := [.lit (.bool true)], args := [d1, d2] }
  | _ => none }
def queueLeastRow : OpenClaim := { program := "yteccfogpajbigaagreat", sum := "b7913a2bb60aba9852174f444b187d4de8e73b895734f6f13789f965851a52d7", func := "sough/soughlaw19.QueueLeast", spec := "queueLeast", unfollowed := true, recurses := true, apart := false }
def QueueLeastSaid : Prop := queueLeastRow.holds Tryz.pinned (OpenSpec.ofChange queueLeastSpec)

/-- ITS FALSE NEIGHBOUR: 'it returns false'. Refute it at one input. -/
def queueLeastWrong : ChangeSpec := { name := "queueLeast", fn := fun _ => fun
  | [d1, d2] => { results := [.lit (.bool false)], args := [d1, d2] }
  | _ => none }
def QueueLeastWrongFalsely : Prop := queueLeastRow.holds Tryz.pinned (OpenSpec.ofChange queueLeastWrong)

/-- 'soughlaw20.PathsAll': WHATEVER THE INPUT: true; the input reads as it did. -/
def pathsAllSpec : ChangeSpec := { name := "pathsAll", fn := fun _ => fun
  | [d1, d2, d3] => { results := [.lit (.bool true)], args := [d1, d2, d3] }
  | _ => none }
def pathsAllRow : OpenClaim := { program := "yteccfogpajbigaagreat", sum := "b7913a2bb60aba9852174f444b187d4de8e73b895734f6f13789f965851a52d7", func := "sough/soughlaw20.PathsAll", spec := "pathsAll", unfollowed := true, recurses := true, apart := false }
def PathsAllSaid : Prop := pathsAllRow.holds Tryz.pinned (OpenSpec.ofChange pathsAllSpec)

/-- ITS FALSE NEIGHBOUR: 'it returns false'. Refute it at one input. -/
def pathsAllWrong : ChangeSpec := { name := "pathsAll", fn := fun _ => fun
  | [d1, d2, d3] => { results := [.lit (.bool false)], args := [d1, d2, d3] }
  | _ => none }
def PathsAllWrongFalsely : Prop := pathsAllRow.holds Tryz.pinned (OpenSpec.ofChange pathsAllWrong)

/-- 'soughlaw20.PathsMeet': WHATEVER THE INPUT: true; the input reads as it did. -/
def pathsMeetSpec : ChangeSpec := { name := "pathsMeet", fn := fun _ => fun
  | [d1, d2, d3] => { results := [.lit (.bool true)], args := [d1, d2, d3] }
  | _ => none }
def pathsMeetRow : OpenClaim := { program := "yteccfogpajbigaagreat", sum := "b7913a2bb60aba9852174f444b187d4de8e73b895734f6f13789f965851a52d7", func := "sough/soughlaw20.PathsMeet", spec := "pathsMeet", unfollowed := true, recurses := true, apart := false }
def PathsMeetSaid : Prop := pathsMeetRow.holds Tryz.pinned (OpenSpec.ofChange pathsMeetSpec)

/-- ITS FALSE NEIGHBOUR: 'it returns false'. Refute it at one input. -/
def pathsMeetWrong : ChangeSpec := { name := "pathsMeet", fn := fun _ => fun
  | [d1, d2, d3] => { results := [.lit (.bool false)], args := [d1, d2, d3] }
  | _ => none }
def PathsMeetWrongFalsely : Prop := pathsMeetRow.holds Tryz.pinned (OpenSpec.ofChange pathsMeetWrong)

/-- 'soughlaw21.WhyLeast': WHATEVER THE INPUT: true; the input reads as it did. -/
def whyLeastSpec : ChangeSpec := { name := "whyLeast", fn := fun _ => fun
  | [d1, d2, d3] => { results := [.lit (.bool true)], args := [d1, d2, d3] }
  | _ => none }
def whyLeastRow : OpenClaim := { program := "yteccfogpajbigaagreat", sum := "b7913a2bb60aba9852174f444b187d4de8e73b895734f6f13789f965851a52d7", func := "sough/soughlaw21.WhyLeast", spec := "whyLeast", unfollowed := true, recurses := true, apart := false }
def WhyLeastSaid : Prop := whyLeastRow.holds Tryz.pinned (OpenSpec.ofChange whyLeastSpec)

/-- ITS FALSE NEIGHBOUR: 'it returns false'. Refute it at one input. -/
def whyLeastWrong : ChangeSpec := { name := "whyLeast", fn := fun _ => fun
  | [d1, d2, d3] => { results := [.lit (.bool false)], args := [d1, d2, d3] }
  | _ => none }
def WhyLeastWrongFalsely : Prop := whyLeastRow.holds Tryz.pinned (OpenSpec.ofChange whyLeastWrong)

/- THE SECOND FORM. 'bulk': how many values and letters a reading holds, each counted each time it is reached (what is shared counts as often as it is met; a slice's spare places count too). A statement '..UptoSaid' is the law's where the arguments, and the package variables that the reading takes, are together of bulk at most 1048576: NARROWER than '..Said'. Prove '..Said' where nothing that the law and all that it calls make is longer than what came in: it says more and counts as full. Else prove '..UptoSaid'. A law counts once. -/
mutual
def uptoBulk {H : Type} : DataW H → Nat
  | .lit (.string bytes) => bytes.length + 1
  | .lit _ => 1
  | .nil => 1
  | .ptr d => uptoBulk d + 1
  | .slice elems spare => uptoBulkAll elems + uptoBulkAll spare + 1
  | .agg parts => uptoBulkAll parts + 1
  | .iface _ d => uptoBulk d + 1
  | .map entries => uptoBulkEntries entries + 1
  | .held _ => 1
def uptoBulkAll {H : Type} : List (DataW H) → Nat
  | [] => 0
  | d :: r => uptoBulk d + uptoBulkAll r
def uptoBulkEntries {H : Type} : List (Lit × DataW H) → Nat
  | [] => 0
  | x :: r => uptoBulkEntry x + uptoBulkEntries r
def uptoBulkEntry {H : Type} : Lit × DataW H → Nat
  | (.string bytes, d) => bytes.length + uptoBulk d + 1
  | (_, d) => uptoBulk d + 1
 end
def uptoSmall : (H : Type) → List (DataW H) → Bool := fun _ ds => decide (uptoBulkAll ds ≤ 1048576)
def OpenSpec.upto (s : _root_.Go.ChangeSpec) : _root_.Go.OpenSpec := { _root_.Go.OpenSpec.ofChange s with cond := some uptoSmall }

/-- 'soughlaw19.QueueTells', WHERE WHAT IT READS IS OF BULK AT MOST 1048576: true; the input reads as it did. -/
def queueTellsUptoRow : OpenClaim := { program := "yteccfogpajbigaagreat", sum := "b7913a2bb60aba9852174f444b187d4de8e73b895734f6f13789f965851a52d7", func := "sough/soughlaw19.QueueTells", spec := "queueTells", unfollowed := true, recurses := true, apart := false, narrowed := true }
def QueueTellsUptoSaid : Prop := queueTellsUptoRow.holds Tryz.pinned (OpenSpec.upto queueTellsSpec)

/-- 'soughlaw21.WhyFacts', WHERE WHAT IT READS IS OF BULK AT MOST 1048576: true; the input reads as it did. -/
def whyFactsUptoRow : OpenClaim := { program := "yteccfogpajbigaagreat", sum := "b7913a2bb60aba9852174f444b187d4de8e73b895734f6f13789f965851a52d7", func := "sough/soughlaw21.WhyFacts", spec := "whyFacts", unfollowed := true, recurses := true, apart := false, narrowed := true }
def WhyFactsUptoSaid : Prop := whyFactsUptoRow.holds Tryz.pinned (OpenSpec.upto whyFactsSpec)

/-- 'soughlaw20.PathsMany', WHERE WHAT IT READS IS OF BULK AT MOST 1048576: true; the input reads as it did. -/
def pathsManyUptoRow : OpenClaim := { program := "yteccfogpajbigaagreat", sum := "b7913a2bb60aba9852174f444b187d4de8e73b895734f6f13789f965851a52d7", func := "sough/soughlaw20.PathsMany", spec := "pathsMany", unfollowed := true, recurses := true, apart := false, narrowed := true }
def PathsManyUptoSaid : Prop := pathsManyUptoRow.holds Tryz.pinned (OpenSpec.upto pathsManySpec)

/-- 'soughlaw19.QueueMost', WHERE WHAT IT READS IS OF BULK AT MOST 1048576: true; the input reads as it did. -/
def queueMostUptoRow : OpenClaim := { program := "yteccfogpajbigaagreat", sum := "b7913a2bb60aba9852174f444b187d4de8e73b895734f6f13789f965851a52d7", func := "sough/soughlaw19.QueueMost", spec := "queueMost", unfollowed := true, recurses := true, apart := false, narrowed := true }
def QueueMostUptoSaid : Prop := queueMostUptoRow.holds Tryz.pinned (OpenSpec.upto queueMostSpec)

/-- 'soughlaw19.QueueLeast', WHERE WHAT IT READS IS OF BULK AT MOST 1048576: true; the input reads as it did. -/
def queueLeastUptoRow : OpenClaim := { program := "yteccfogpajbigaagreat", sum := "b7913a2bb60aba9852174f444b187d4de8e73b895734f6f13789f965851a52d7", func := "sough/soughlaw19.QueueLeast", spec := "queueLeast", unfollowed := true, recurses := true, apart := false, narrowed := true }
def QueueLeastUptoSaid : Prop := queueLeastUptoRow.holds Tryz.pinned (OpenSpec.upto queueLeastSpec)

/-- 'soughlaw20.PathsAll', WHERE WHAT IT READS IS OF BULK AT MOST 1048576: true; the input reads as it did. -/
def pathsAllUptoRow : OpenClaim := { program := "yteccfogpajbigaagreat", sum := "b7913a2bb60aba9852174f444b187d4de8e73b895734f6f13789f965851a52d7", func := "sough/soughlaw20.PathsAll", spec := "pathsAll", unfollowed := true, recurses := true, apart := false, narrowed := true }
def PathsAllUptoSaid : Prop := pathsAllUptoRow.holds Tryz.pinned (OpenSpec.upto pathsAllSpec)

/-- 'soughlaw20.PathsMeet', WHERE WHAT IT READS IS OF BULK AT MOST 1048576: true; the input reads as it did. -/
def pathsMeetUptoRow : OpenClaim := { program := "yteccfogpajbigaagreat", sum := "b7913a2bb60aba9852174f444b187d4de8e73b895734f6f13789f965851a52d7", func := "sough/soughlaw20.PathsMeet", spec := "pathsMeet", unfollowed := true, recurses := true, apart := false, narrowed := true }
def PathsMeetUptoSaid : Prop := pathsMeetUptoRow.holds Tryz.pinned (OpenSpec.upto pathsMeetSpec)

/-- 'soughlaw21.WhyLeast', WHERE WHAT IT READS IS OF BULK AT MOST 1048576: true; the input reads as it did. -/
def whyLeastUptoRow : OpenClaim := { program := "yteccfogpajbigaagreat", sum := "b7913a2bb60aba9852174f444b187d4de8e73b895734f6f13789f965851a52d7", func := "sough/soughlaw21.WhyLeast", spec := "whyLeast", unfollowed := true, recurses := true, apart := false, narrowed := true }
def WhyLeastUptoSaid : Prop := whyLeastUptoRow.holds Tryz.pinned (OpenSpec.upto whyLeastSpec)

end Rows
end Go.Proofs.YteccfogpajbigaaGreat
