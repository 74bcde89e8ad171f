/-
  Closed facts on the program of this seat, each by the kernel: what every statement's frame asks of it.
-/
import Derived.Test.YtegpahamenjiaaaRows
import Derived.WalkKit
import Derived.ProofKit
import Derived.OpenShut
import Derived.ChangeOld
import Derived.Below
namespace Go.Proofs.Ytegpahamenjiaaa
open Go.ChangeShapes Go.WideShapes Go.ChangeAt Go.RowKit
theorem andI {a b : Bool} (ha : a = true) (hb : b = true) : (a && b) = true := by rw [ha, hb]; rfl
theorem fk2 : laidOutB Try.prog = true := by kernel_rfl
theorem fk3 : mapsRowed Try.prog = true := by kernel_rfl
theorem fk7 : (Try.prog.stops == []) = true := by kernel_rfl
theorem fk9 : (Try.prog.stopKnobs == []) = true := by kernel_rfl
theorem fk23 : (Rows.boundTellsRow.plainKeys == Try.prog.plainKeys) = true := by kernel_rfl
theorem fk25 : Try.prog.stopsHeard = true := by kernel_rfl
theorem fk26 : Try.prog.mayEnter = true := by kernel_rfl
theorem fk27 : (Rows.boundTellsRow.lifted == Try.prog.liftsFinal) = true := by kernel_rfl
theorem fk28 : (Try.prog.make == some Rows.boundTellsRow.make) = true := by kernel_rfl
theorem fown : ownKnob Try.prog.godebug = none := by kernel_rfl
theorem fnoInit : True := trivial
end Go.Proofs.Ytegpahamenjiaaa
