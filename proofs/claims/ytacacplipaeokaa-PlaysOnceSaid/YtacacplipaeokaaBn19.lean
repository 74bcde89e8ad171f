/-
  Ps; Pstep; Rtk: what the claim uses of them.
-/
import Derived.Test.YtacacplipaeokaaBn15
import Derived.Test.YtacacplipaeokaaBn16
import Derived.Test.YtacacplipaeokaaBn13
import Derived.Test.YtacacplipaeokaaBn17
namespace Go.Proofs.Ytacacplipaeokaa
open Go.RowKit
/-- A machine's state: its registers, and where it is. -/
structure PS where
  r0 : Int
  r1 : Int
  r2 : Int
  r3 : Int
  at_ : Int
def PS.set (s : PS) (i x : Int) : PS := if i = 0 then { s with r0 := x } else if i = 1 then { s with r1 := x } else if i = 2 then { s with r2 := x } else { s with r3 := x }
def PS.next (s : PS) : PS := { s with at_ := s.at_ + 1 }
set_option maxRecDepth 100000
end Go.Proofs.Ytacacplipaeokaa
namespace Go.Proofs.Ytacacplipaeokaa
open Go.RowKit
set_option maxRecDepth 100000
theorem PS.set_set (s : PS) (k x y : Int) : (s.set k x).set k y = s.set k y := by
  unfold PS.set
  split
  · rfl
  · split
    · rfl
    · split <;> rfl
end Go.Proofs.Ytacacplipaeokaa
namespace Go.Proofs.Ytacacplipaeokaa
open Go.RowKit
set_option maxRecDepth 100000
/-- The reference's machine at the board. -/
structure RT where
  kind : Int
  v : Int
  f : Int
  c : Int
  at_ : Int
  new : Bool
  ended : Bool
  is : Bool
  left : Int
end Go.Proofs.Ytacacplipaeokaa
