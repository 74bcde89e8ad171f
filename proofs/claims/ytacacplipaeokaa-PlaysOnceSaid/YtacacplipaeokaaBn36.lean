/-
  CellR; CellP; SchR: what the claim uses of them.
-/
import Derived.Test.YtacacplipaeokaaBn35
import Derived.Test.YtacacplipaeokaaBn19
import Derived.Test.YtacacplipaeokaaBn34
namespace Go.Proofs.Ytacacplipaeokaa
open Go.RowKit
set_option maxRecDepth 100000
set_option maxHeartbeats 4000000
/-- Words joined with a list's. -/
def joinL (what : Int) (c x : List Int) : List Int := c.mapIdx fun i z => wordW what z (wd x i)
def sumL (what : Int) (a : List Int) (l : List (List Int)) : List Int := l.foldl (joinL what) a
end Go.Proofs.Ytacacplipaeokaa
namespace Go.Proofs.Ytacacplipaeokaa
open Go.RowKit
set_option maxRecDepth 100000
set_option maxHeartbeats 4000000
/-- A Join that may be. -/
def Jn.ok (j : Jn) : Prop := j.at_ ≤ cw j.words ∧ A64 j.a ∧ W64 j.x
end Go.Proofs.Ytacacplipaeokaa
namespace Go.Proofs.Ytacacplipaeokaa
open Go.RowKit
set_option maxRecDepth 100000
set_option maxHeartbeats 4000000
abbrev pickSh : Sh := .field (.int .i64) (.field (.int .i64) .nil)
end Go.Proofs.Ytacacplipaeokaa
