/-
  Closed facts on the program of this seat, each by the kernel: what every statement's frame asks of it.
-/
import Derived.Test.YteccfogpajbigaaGreatRows
import Derived.WalkKit
import Derived.ProofKit
import Derived.OpenShut
import Derived.ChangeOld
import Derived.Below
namespace Go.Proofs.YteccfogpajbigaaGreat
open Go.ChangeShapes Go.WideShapes Go.ChangeAt Go.RowKit
theorem andI {a b : Bool} (ha : a = true) (hb : b = true) : (a && b) = true := by rw [ha, hb]; rfl
theorem fk2 : laidOutB Tryz.prog = true := by kernel_rfl
theorem fk3 : mapsRowed Tryz.prog = true := by kernel_rfl
theorem fk7 : (Tryz.prog.stops == []) = true := by kernel_rfl
theorem fk9 : (Tryz.prog.stopKnobs == []) = true := by kernel_rfl
theorem fk23 : (Rows.queueMostRow.plainKeys == Tryz.prog.plainKeys) = true := by kernel_rfl
theorem fk25 : Tryz.prog.stopsHeard = true := by kernel_rfl
theorem fk26 : Tryz.prog.mayEnter = true := by kernel_rfl
theorem fk27 : (Rows.queueMostRow.lifted == Tryz.prog.liftsFinal) = true := by kernel_rfl
theorem fk28 : (Tryz.prog.make == some Rows.queueMostRow.make) = true := by kernel_rfl
theorem fown : ownKnob Tryz.prog.godebug = none := by kernel_rfl
theorem fnoInit : True := trivial
end Go.Proofs.YteccfogpajbigaaGreat
