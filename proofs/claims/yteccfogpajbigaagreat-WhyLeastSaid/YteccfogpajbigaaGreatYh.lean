/-
  LeastIs, walked.
-/
import Derived.Test.YteccfogpajbigaaGreatYg
namespace Go.Proofs.YteccfogpajbigaaGreat
open Go.RowKit
set_option maxRecDepth 100000
theorem exS_sol : solS exS = ([[2]], 1) := by decide +kernel
theorem aSolveOk (s : Sy) (σ : Hp) (hf : Fit s) (hg : Good s) : ACalls Tryz.prog 45 [.agg (sysC s)] σ (Ret (.tup [.fsl (.slice (.int .u64)) (solS s).1, .int .i64 (solS s).2, .int .i64 0]) σ) := by
  refine acalls_eq (aSolve s σ hf) ?_
  rw [good_zero hg]; rfl
/-- What LeastIs asks of a list. -/
theorem least_for {s : Sy} (hf : Fit s) (hg : Good s) {y : List (List Int)} (hy : okLL y) (he : errS s y = 0) (hb : belowS s (okG (errS s y) (stepS s y)) y = true) : belowS s (solS s).1 y = true := by
  obtain ⟨q1, q2, q3, q4⟩ := sol_least hf hg
  have vy : Vals s y := by
    unfold errS at he
    rw [if_pos (good_zero hg)] at he
    split at he
    · rename_i h; exact vals_of h hy
    · cases he
  rw [he] at hb
  have hs := step_Vals hf hg vy
  exact (below_leA hg (q1.ok hg) hy).2 (q4 y ((below_leA hg (hs.ok hg) hy).1 hb))
end Go.Proofs.YteccfogpajbigaaGreat
