/-
  Lc: what the claim uses of them.
-/
import Derived.Test.YtacacplipaeokaaBn44
namespace Go.Proofs.Ytacacplipaeokaa
open Go.RowKit
set_option maxRecDepth 100000
set_option maxHeartbeats 4000000
theorem op_get {ops : List OpR} {n : Int} (h1 : 0 ≤ n) (h2 : n < ops.length) : (ops.map opT)[n.toNat]? = some (opT (opAt ops n)) := by
  unfold opAt
  rw [List.getElem?_map, List.getD_eq_getElem?_getD, List.getElem?_eq_getElem (show n.toNat < ops.length by omega)]; rfl
end Go.Proofs.Ytacacplipaeokaa
