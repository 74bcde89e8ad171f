/-
  Rdq: what the claim uses of them.
-/
import Derived.Test.YtacacplipaeokaaBn18
import Derived.Test.YtacacplipaeokaaBn19
namespace Go.Proofs.Ytacacplipaeokaa
open Go.RowKit
set_option maxRecDepth 100000
set_option maxHeartbeats 4000000
def dqStep (k : Int) (O : MOps) (q : DQ) (a : O.A) : DQ × O.A × Bool := if k = 1 then pushStep O q a else if k = 2 then popStep O q a else stealStep O q a
theorem dq_ended {k : Int} {O : MOps} {q : DQ} {a : O.A} (he : q.ended = false) : (dqStep k O q a).2.2 = (dqStep k O q a).1.ended := by
  unfold dqStep pushStep popStep stealStep
  simp only [he]
  repeat' split
  all_goals first | rfl | simp_all
end Go.Proofs.Ytacacplipaeokaa
