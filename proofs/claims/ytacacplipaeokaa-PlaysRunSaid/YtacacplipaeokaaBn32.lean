/-
  Dqp: what the claim uses of them.
-/
import Derived.Test.YtacacplipaeokaaBn31
namespace Go.Proofs.Ytacacplipaeokaa
open Go.RowKit
set_option maxRecDepth 100000
set_option maxHeartbeats 4000000
theorem lenD_le (b c : Int) (ws : List Int) : (listD b c ws).length ≤ 1000000 := by
  have := rm_ok c
  unfold listD
  rw [takeD_length]
  unfold lenD
  omega
end Go.Proofs.Ytacacplipaeokaa
