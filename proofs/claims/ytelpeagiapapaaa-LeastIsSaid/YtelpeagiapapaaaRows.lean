/-
  No cell of these rows narrows 'for every input' (looked for: loops, veiled, ifaces, maps, wideKeys, modest, calm, conditions, laid).
  DERIVED. THE GIVEN ROWS OF THIS SEAT. 5 by the template 'for every input the law returns true; each argument reads behind the call as it read before'; 0 by the template 'total and deterministic' (their statements: YtelpeagiapapaaaTotals.lean).
  GIVEN WITH THE SEED: the statements are not yours to turn. If you find one false, say at which input.
  Laid BY PROGRAM, IN A SANDBOX (cutbox-rows.mjs): the forced cells as the released guide's own fill.sh prints them over the translation 8bbde34da82e1155… (all of the seat's roots in one cut). By AI agents, Wed Nov 11 2026. No macro, syntax, notation, axiom, sorry.
-/
import Derived.Test.YtelpeagiapapaaaChecked
import GoSem.Claim
import GoSem.ClaimJoined
import GoSem.ClaimMapViews
import Derived.JoinedTies
import Derived.KernelRfl
namespace Go.Proofs.Ytelpeagiapapaaa
/- THE CELL 'sum', in the pinned program and in every row, IS THE sha256 OF THE DUMP (.gsa) THAT YtelpeagiapapaaaProg.lean LOADS. Nothing in Lean hashes anything: it is a label: what it is worth is what the hold of that sum in a sandbox is worth. -/
noncomputable def Try.pinned : Pinned := { name := "ytelpeagiapapaaa", sum := "8bbde34da82e11559794052a52b12307ed37442063b44f9429ec06d6658f7831", checked := Try.checked }
namespace Rows
def none {H : Type} : Left H := { results := [], args := [] }

/-- 'soughlaw16.TransferApplies': WHATEVER THE INPUT: true; the input reads as it did. -/
def transferAppliesSpec : ChangeSpec := { name := "transferApplies", fn := fun _ => fun
  | [d1, d2, d3, d4] => { results := [.lit (.bool true)], args := [d1, d2, d3, d4] }
  | _ => none }
def transferAppliesRow : OpenClaim := { program := "ytelpeagiapapaaa", sum := "8bbde34da82e11559794052a52b12307ed37442063b44f9429ec06d6658f7831", func := "sough/soughlaw16.TransferApplies", spec := "transferApplies", unfollowed := true, recurses := true, apart := false }
def TransferAppliesSaid : Prop := transferAppliesRow.holds Try.pinned (OpenSpec.ofChange transferAppliesSpec)

/-- ITS FALSE NEIGHBOUR: 'it returns false'. Refute it at one input. -/
def transferAppliesWrong : ChangeSpec := { name := "transferApplies", fn := fun _ => fun
  | [d1, d2, d3, d4] => { results := [.lit (.bool false)], args := [d1, d2, d3, d4] }
  | _ => none }
def TransferAppliesWrongFalsely : Prop := transferAppliesRow.holds Try.pinned (OpenSpec.ofChange transferAppliesWrong)

/-- 'soughlaw16.TransferThen': WHATEVER THE INPUT: true; the input reads as it did. -/
def transferThenSpec : ChangeSpec := { name := "transferThen", fn := fun _ => fun
  | [d1, d2, d3, d4, d5] => { results := [.lit (.bool true)], args := [d1, d2, d3, d4, d5] }
  | _ => none }
def transferThenRow : OpenClaim := { program := "ytelpeagiapapaaa", sum := "8bbde34da82e11559794052a52b12307ed37442063b44f9429ec06d6658f7831", func := "sough/soughlaw16.TransferThen", spec := "transferThen", unfollowed := true, recurses := true, apart := false }
def TransferThenSaid : Prop := transferThenRow.holds Try.pinned (OpenSpec.ofChange transferThenSpec)

/-- ITS FALSE NEIGHBOUR: 'it returns false'. Refute it at one input. -/
def transferThenWrong : ChangeSpec := { name := "transferThen", fn := fun _ => fun
  | [d1, d2, d3, d4, d5] => { results := [.lit (.bool false)], args := [d1, d2, d3, d4, d5] }
  | _ => none }
def TransferThenWrongFalsely : Prop := transferThenRow.holds Try.pinned (OpenSpec.ofChange transferThenWrong)

/-- 'soughlaw16.TransferRises': WHATEVER THE INPUT: true; the input reads as it did. -/
def transferRisesSpec : ChangeSpec := { name := "transferRises", fn := fun _ => fun
  | [d1, d2, d3, d4, d5] => { results := [.lit (.bool true)], args := [d1, d2, d3, d4, d5] }
  | _ => none }
def transferRisesRow : OpenClaim := { program := "ytelpeagiapapaaa", sum := "8bbde34da82e11559794052a52b12307ed37442063b44f9429ec06d6658f7831", func := "sough/soughlaw16.TransferRises", spec := "transferRises", unfollowed := true, recurses := true, apart := false }
def TransferRisesSaid : Prop := transferRisesRow.holds Try.pinned (OpenSpec.ofChange transferRisesSpec)

/-- ITS FALSE NEIGHBOUR: 'it returns false'. Refute it at one input. -/
def transferRisesWrong : ChangeSpec := { name := "transferRises", fn := fun _ => fun
  | [d1, d2, d3, d4, d5] => { results := [.lit (.bool false)], args := [d1, d2, d3, d4, d5] }
  | _ => none }
def TransferRisesWrongFalsely : Prop := transferRisesRow.holds Try.pinned (OpenSpec.ofChange transferRisesWrong)

/-- 'soughlaw17.SystemRises': WHATEVER THE INPUT: true; the input reads as it did. -/
def systemRisesSpec : ChangeSpec := { name := "systemRises", fn := fun _ => fun
  | [d1, d2, d3] => { results := [.lit (.bool true)], args := [d1, d2, d3] }
  | _ => none }
def systemRisesRow : OpenClaim := { program := "ytelpeagiapapaaa", sum := "8bbde34da82e11559794052a52b12307ed37442063b44f9429ec06d6658f7831", func := "sough/soughlaw17.SystemRises", spec := "systemRises", unfollowed := true, recurses := true, apart := false }
def SystemRisesSaid : Prop := systemRisesRow.holds Try.pinned (OpenSpec.ofChange systemRisesSpec)

/-- ITS FALSE NEIGHBOUR: 'it returns false'. Refute it at one input. -/
def systemRisesWrong : ChangeSpec := { name := "systemRises", fn := fun _ => fun
  | [d1, d2, d3] => { results := [.lit (.bool false)], args := [d1, d2, d3] }
  | _ => none }
def SystemRisesWrongFalsely : Prop := systemRisesRow.holds Try.pinned (OpenSpec.ofChange systemRisesWrong)

/-- 'soughlaw18.LeastIs': WHATEVER THE INPUT: true; the input reads as it did. -/
def leastIsSpec : ChangeSpec := { name := "leastIs", fn := fun _ => fun
  | [d1, d2, d3] => { results := [.lit (.bool true)], args := [d1, d2, d3] }
  | _ => none }
def leastIsRow : OpenClaim := { program := "ytelpeagiapapaaa", sum := "8bbde34da82e11559794052a52b12307ed37442063b44f9429ec06d6658f7831", func := "sough/soughlaw18.LeastIs", spec := "leastIs", unfollowed := true, recurses := true, apart := false }
def LeastIsSaid : Prop := leastIsRow.holds Try.pinned (OpenSpec.ofChange leastIsSpec)

/-- ITS FALSE NEIGHBOUR: 'it returns false'. Refute it at one input. -/
def leastIsWrong : ChangeSpec := { name := "leastIs", fn := fun _ => fun
  | [d1, d2, d3] => { results := [.lit (.bool false)], args := [d1, d2, d3] }
  | _ => none }
def LeastIsWrongFalsely : Prop := leastIsRow.holds Try.pinned (OpenSpec.ofChange leastIsWrong)

/- THE SECOND FORM. 'bulk': how many values and letters a reading holds, each counted each time it is reached (what is shared counts as often as it is met; a slice's spare places count too). A statement '..UptoSaid' is the law's where the arguments, and the package variables that the reading takes, are together of bulk at most 1048576: NARROWER than '..Said'. Prove '..Said' where nothing that the law and all that it calls make is longer than what came in: it says more and counts as full. Else prove '..UptoSaid'. A law counts once. -/
mutual
def uptoBulk {H : Type} : DataW H → Nat
  | .lit (.string bytes) => bytes.length + 1
  | .lit _ => 1
  | .nil => 1
  | .ptr d => uptoBulk d + 1
  | .slice elems spare => uptoBulkAll elems + uptoBulkAll spare + 1
  | .agg parts => uptoBulkAll parts + 1
  | .iface _ d => uptoBulk d + 1
  | .map entries => uptoBulkEntries entries + 1
  | .held _ => 1
def uptoBulkAll {H : Type} : List (DataW H) → Nat
  | [] => 0
  | d :: r => uptoBulk d + uptoBulkAll r
def uptoBulkEntries {H : Type} : List (Lit × DataW H) → Nat
  | [] => 0
  | x :: r => uptoBulkEntry x + uptoBulkEntries r
def uptoBulkEntry {H : Type} : Lit × DataW H → Nat
  | (.string bytes, d) => bytes.length + uptoBulk d + 1
  | (_, d) => uptoBulk d + 1
 end
def uptoSmall : (H : Type) → List (DataW H) → Bool := fun _ ds => decide (uptoBulkAll ds ≤ 1048576)
def OpenSpec.upto (s : _root_.Go.ChangeSpec) : _root_.Go.OpenSpec := { _root_.Go.OpenSpec.ofChange s with cond := some uptoSmall }

/-- 'soughlaw16.TransferApplies', WHERE WHAT IT READS IS OF BULK AT MOST 1048576: true; the input reads as it did. -/
def transferAppliesUptoRow : OpenClaim := { program := "ytelpeagiapapaaa", sum := "8bbde34da82e11559794052a52b12307ed37442063b44f9429ec06d6658f7831", func := "sough/soughlaw16.TransferApplies", spec := "transferApplies", unfollowed := true, recurses := true, apart := false, narrowed := true }
def TransferAppliesUptoSaid : Prop := transferAppliesUptoRow.holds Try.pinned (OpenSpec.upto transferAppliesSpec)

/-- 'soughlaw16.TransferThen', WHERE WHAT IT READS IS OF BULK AT MOST 1048576: true; the input reads as it did. -/
def transferThenUptoRow : OpenClaim := { program := "ytelpeagiapapaaa", sum := "8bbde34da82e11559794052a52b12307ed37442063b44f9429ec06d6658f7831", func := "sough/soughlaw16.TransferThen", spec := "transferThen", unfollowed := true, recurses := true, apart := false, narrowed := true }
def TransferThenUptoSaid : Prop := transferThenUptoRow.holds Try.pinned (OpenSpec.upto transferThenSpec)

/-- 'soughlaw16.TransferRises', WHERE WHAT IT READS IS OF BULK AT MOST 1048576: true; the input reads as it did. -/
def transferRisesUptoRow : OpenClaim := { program := "ytelpeagiapapaaa", sum := "8bbde34da82e11559794052a52b12307ed37442063b44f9429ec06d6658f7831", func := "sough/soughlaw16.TransferRises", spec := "transferRises", unfollowed := true, recurses := true, apart := false, narrowed := true }
def TransferRisesUptoSaid : Prop := transferRisesUptoRow.holds Try.pinned (OpenSpec.upto transferRisesSpec)

/-- 'soughlaw17.SystemRises', WHERE WHAT IT READS IS OF BULK AT MOST 1048576: true; the input reads as it did. -/
def systemRisesUptoRow : OpenClaim := { program := "ytelpeagiapapaaa", sum := "8bbde34da82e11559794052a52b12307ed37442063b44f9429ec06d6658f7831", func := "sough/soughlaw17.SystemRises", spec := "systemRises", unfollowed := true, recurses := true, apart := false, narrowed := true }
def SystemRisesUptoSaid : Prop := systemRisesUptoRow.holds Try.pinned (OpenSpec.upto systemRisesSpec)

/-- 'soughlaw18.LeastIs', WHERE WHAT IT READS IS OF BULK AT MOST 1048576: true; the input reads as it did. -/
def leastIsUptoRow : OpenClaim := { program := "ytelpeagiapapaaa", sum := "8bbde34da82e11559794052a52b12307ed37442063b44f9429ec06d6658f7831", func := "sough/soughlaw18.LeastIs", spec := "leastIs", unfollowed := true, recurses := true, apart := false, narrowed := true }
def LeastIsUptoSaid : Prop := leastIsUptoRow.holds Try.pinned (OpenSpec.upto leastIsSpec)

end Rows
end Go.Proofs.Ytelpeagiapapaaa
