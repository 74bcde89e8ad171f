/-
  Ps: what the claim uses of them.
-/
import Derived.Test.YtacacplipaeokaaBn18
import Derived.Test.YtacacplipaeokaaBn16
namespace Go.Proofs.Ytacacplipaeokaa
open Go.RowKit
/-- A machine's state: its registers, and where it is. -/
structure PS where
  r0 : Int
  r1 : Int
  r2 : Int
  r3 : Int
  at_ : Int
def PS.set (s : PS) (i x : Int) : PS := if i = 0 then { s with r0 := x } else if i = 1 then { s with r1 := x } else if i = 2 then { s with r2 := x } else { s with r3 := x }
def PS.next (s : PS) : PS := { s with at_ := s.at_ + 1 }
set_option maxRecDepth 100000
end Go.Proofs.Ytacacplipaeokaa
