/-
  CellP: what the claim uses of them.
-/
import Derived.Test.YtacacplipaeokaaBn37
namespace Go.Proofs.Ytacacplipaeokaa
open Go.RowKit
set_option maxRecDepth 100000
set_option maxHeartbeats 4000000
/-- A Join that may be. -/
def Jn.ok (j : Jn) : Prop := j.at_ ≤ cw j.words ∧ A64 j.a ∧ W64 j.x
end Go.Proofs.Ytacacplipaeokaa
