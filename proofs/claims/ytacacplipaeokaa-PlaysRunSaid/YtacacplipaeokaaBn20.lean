/-
  Pstep: what the claim uses of them.
-/
import Derived.Test.YtacacplipaeokaaBn19
namespace Go.Proofs.Ytacacplipaeokaa
open Go.RowKit
set_option maxRecDepth 100000
theorem PS.set_set (s : PS) (k x y : Int) : (s.set k x).set k y = s.set k y := by
  unfold PS.set
  split
  · rfl
  · split
    · rfl
    · split <;> rfl
end Go.Proofs.Ytacacplipaeokaa
