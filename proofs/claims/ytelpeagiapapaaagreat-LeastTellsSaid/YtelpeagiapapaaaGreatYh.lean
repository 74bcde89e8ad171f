/-
  LeastIs, walked.
-/
import Derived.Test.YtelpeagiapapaaaGreatYg
namespace Go.Proofs.YtelpeagiapapaaaGreat
open Go.RowKit
set_option maxRecDepth 100000
theorem exS_sol : solS exS = ([[2]], 1) := by decide +kernel
theorem aSolveOk (s : Sy) (σ : Hp) (hf : Fit s) (hg : Good s) : ACalls Tryz.prog 30 [.agg (sysC s)] σ (Ret (.tup [.fsl (.slice (.int .u64)) (solS s).1, .int .i64 (solS s).2, .int .i64 0]) σ) := by
  refine acalls_eq (aSolve s σ hf) ?_
  rw [good_zero hg]; rfl
theorem aAwake18 (σ : Hp) : ACalls Tryz.prog 28 [] σ (Ret (.bool true) σ) := by
  refine okF Tryz.func28 (by kernel_rfl) ?_
  intro bl1
  intro bl2
  intro bl3
  intro bl4
  intro bl5
  intro bl6
  refine StoreAt.mk 0 _ _ rfl rfl ?_
  refine LoadAt.mk 0 _ _ rfl rfl ?_
  refine .frzc 3 bl3 0 1 1 _ (.int .u64) ([0] : List Int) rfl rfl ⟨rfl, rfl, by decide⟩ 1 0 bl5 _ rfl rfl ?_
  refine .frzc 2 bl4 0 1 1 _ (.int .u64) ([0] : List Int) rfl rfl ⟨rfl, rfl, by decide⟩ 1 1 bl5 _ rfl rfl ?_
  refine callNil 1 2 bl5 _ codeSh rfl rfl ?_
  refine .frz (args' := [.agg [.int .i64 1, .int .i64 2, .int .i64 1, .nils, .mref bl1 0 1 1, .mref bl2 0 1 1, .fsl transSh exS.T]]) 1 bl5 0 1 3 _ transSh exS.T rfl rfl ⟨rfl, rfl, by decide⟩ (frz_cons (frz_agg (frz_cons (.refl _) (frz_cons (.refl _) (frz_cons (.refl _) (frz_cons (.refl _) (frz_cons (.refl _) (frz_cons (.refl _) (frz_cons .here frz_nil))))))) rfl) (.refl _)) ?_
  refine .frz (args' := [.agg [.int .i64 1, .int .i64 2, .int .i64 1, .nils, .mref bl1 0 1 1, .fsl (.int .u64) exS.init, .fsl transSh exS.T]]) 1 bl2 0 1 1 _ (.int .u64) exS.init rfl rfl ⟨rfl, rfl, by decide⟩ (frz_cons (frz_agg (frz_cons (.refl _) (frz_cons (.refl _) (frz_cons (.refl _) (frz_cons (.refl _) (frz_cons (.refl _) (frz_cons .here (.refl _))))))) rfl) (.refl _)) ?_
  refine .frz (args' := [.agg (sysC exS)]) 1 bl1 0 1 1 _ (.int .i64) exS.entry rfl rfl ⟨rfl, rfl, by decide⟩ (frz_cons (frz_agg (frz_cons (.refl _) (frz_cons (.refl _) (frz_cons (.refl _) (frz_cons (.nil edgeSh) (frz_cons .here (.refl _)))))) rfl) (.refl _)) ?_
  refine callR [] (acalls_eq (aSolveOk exS _ exS_fit (good_of exS_chk)) (by rw [exS_sol])) ?_
  refine With.mk rfl ?_
  refine IdxF.mk ([2] : List Int) (by decide) rfl ?_
  refine With.mk rfl ?_
  refine IdxF.mk (2 : Int) (by decide) rfl ?_
  exact .drop 0 1 (.done ⟨rfl, rfl⟩)
/-- What LeastIs asks of a list. -/
theorem least_for {s : Sy} (hf : Fit s) (hg : Good s) {y : List (List Int)} (hy : okLL y) (he : errS s y = 0) (hb : belowS s (okG (errS s y) (stepS s y)) y = true) : belowS s (solS s).1 y = true := by
  obtain ⟨q1, q2, q3, q4⟩ := sol_least hf hg
  have vy : Vals s y := by
    unfold errS at he
    rw [if_pos (good_zero hg)] at he
    split at he
    · rename_i h; exact vals_of h hy
    · cases he
  rw [he] at hb
  have hs := step_Vals hf hg vy
  exact (below_leA hg (q1.ok hg) hy).2 (q4 y ((below_leA hg (hs.ok hg) hy).1 hb))
end Go.Proofs.YtelpeagiapapaaaGreat
