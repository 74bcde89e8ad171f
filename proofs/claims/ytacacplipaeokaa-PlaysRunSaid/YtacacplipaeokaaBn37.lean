/-
  CellR: what the claim uses of them.
-/
import Derived.Test.YtacacplipaeokaaBn36
import Derived.Test.YtacacplipaeokaaBn21
namespace Go.Proofs.Ytacacplipaeokaa
open Go.RowKit
set_option maxRecDepth 100000
set_option maxHeartbeats 4000000
/-- Words joined with a list's. -/
def joinL (what : Int) (c x : List Int) : List Int := c.mapIdx fun i z => wordW what z (wd x i)
def sumL (what : Int) (a : List Int) (l : List (List Int)) : List Int := l.foldl (joinL what) a
end Go.Proofs.Ytacacplipaeokaa
