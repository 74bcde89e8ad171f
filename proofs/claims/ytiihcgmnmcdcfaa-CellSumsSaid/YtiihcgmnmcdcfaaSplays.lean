/-
  soughlaw24: same, awake, and the walk of StepPlays.
-/
import Derived.Test.YtiihcgmnmcdcfaaRstep
namespace Go.Proofs.Ytiihcgmnmcdcfaa
open Go.RowKit
set_option maxRecDepth 100000
theorem psStep_length (l : List Ins) (s : PS) (ws : List Int) (d : Int) : (psStep listOps l s ws d).2.1.length = ws.length := by
  unfold psStep
  split
  · rfl
  · unfold psDo
    dsimp only
    repeat' split
    all_goals first | rfl | exact mStore_length _ _ _ | exact mCasTo_length _ _ _ _ | exact mAddTo_length _ _ _

def wakeL : List Ins := [(5, 0, 0, 5, ()), (2, 0, 0, 0, ()), (0, 0, 0, 0, ())]
end Go.Proofs.Ytiihcgmnmcdcfaa
