/-
  Facts: what the claim uses of them.
-/
import Derived.Below
import Derived.ChangeOld
import Derived.OpenShut
import Derived.ProofKit
import Derived.Test.YtacacplipaeokaaRows
import Derived.WalkKit
namespace Go.Proofs.Ytacacplipaeokaa
open Go.ChangeShapes Go.WideShapes Go.ChangeAt Go.RowKit
theorem andI {a b : Bool} (ha : a = true) (hb : b = true) : (a && b) = true := by rw [ha, hb]; rfl
theorem fk2 : laidOutB Try.prog = true := by kernel_rfl
theorem fk3 : mapsRowed Try.prog = true := by kernel_rfl
theorem fk7 : (Try.prog.stops == []) = true := by kernel_rfl
theorem fk9 : (Try.prog.stopKnobs == []) = true := by kernel_rfl
theorem fk23 : (Rows.memPlainRow.plainKeys == Try.prog.plainKeys) = true := by kernel_rfl
theorem fk25 : Try.prog.stopsHeard = true := by kernel_rfl
theorem fk26 : Try.prog.mayEnter = true := by kernel_rfl
theorem fk27 : (Rows.memPlainRow.lifted == Try.prog.liftsFinal) = true := by kernel_rfl
theorem fk28 : (Try.prog.make == some Rows.memPlainRow.make) = true := by kernel_rfl
theorem fown : ownKnob Try.prog.godebug = none := by kernel_rfl
end Go.Proofs.Ytacacplipaeokaa
