/-
  LeastIs, walked.
-/
import Derived.Test.YtelpeagiapapaaaYg
namespace Go.Proofs.Ytelpeagiapapaaa
open Go.RowKit
set_option maxRecDepth 100000
theorem exS_sol : solS exS = ([[2]], 1) := by decide +kernel
theorem aSolveOk (s : Sy) (σ : Hp) (hf : Fit s) (hg : Good s) : ACalls Try.prog 30 [.agg (sysC s)] σ (Ret (.tup [.fsl (.slice (.int .u64)) (solS s).1, .int .i64 (solS s).2, .int .i64 0]) σ) := by
  refine acalls_eq (aSolve s σ hf) ?_
  rw [good_zero hg]; rfl
theorem aAwake18 (σ : Hp) : ACalls Try.prog 28 [] σ (Ret (.bool true) σ) := by
  refine okF Try.func28 (by kernel_rfl) ?_
  intro bl1
  intro bl2
  intro bl3
  intro bl4
  intro bl5
  intro bl6
  refine StoreAt.mk 0 _ _ rfl rfl ?_
  refine LoadAt.mk 0 _ _ rfl rfl ?_
  refine .frzc 3 bl3 0 1 1 _ (.int .u64) ([0] : List Int) rfl rfl ⟨rfl, rfl, by decide⟩ 1 0 bl5 _ rfl rfl ?_
  refine .frzc 2 bl4 0 1 1 _ (.int .u64) ([0] : List Int) rfl rfl ⟨rfl, rfl, by decide⟩ 1 1 bl5 _ rfl rfl ?_
  refine callNil 1 2 bl5 _ codeSh rfl rfl ?_
  refine .frz (args' := [.agg [.int .i64 1, .int .i64 2, .int .i64 1, .nils, .mref bl1 0 1 1, .mref bl2 0 1 1, .fsl transSh exS.T]]) 1 bl5 0 1 3 _ transSh exS.T rfl rfl ⟨rfl, rfl, by decide⟩ (frz_cons (frz_agg (frz_cons (.refl _) (frz_cons (.refl _) (frz_cons (.refl _) (frz_cons (.refl _) (frz_cons (.refl _) (frz_cons (.refl _) (frz_cons .here frz_nil))))))) rfl) (.refl _)) ?_
  refine .frz (args' := [.agg [.int .i64 1, .int .i64 2, .int .i64 1, .nils, .mref bl1 0 1 1, .fsl (.int .u64) exS.init, .fsl transSh exS.T]]) 1 bl2 0 1 1 _ (.int .u64) exS.init rfl rfl ⟨rfl, rfl, by decide⟩ (frz_cons (frz_agg (frz_cons (.refl _) (frz_cons (.refl _) (frz_cons (.refl _) (frz_cons (.refl _) (frz_cons (.refl _) (frz_cons .here (.refl _))))))) rfl) (.refl _)) ?_
  refine .frz (args' := [.agg (sysC exS)]) 1 bl1 0 1 1 _ (.int .i64) exS.entry rfl rfl ⟨rfl, rfl, by decide⟩ (frz_cons (frz_agg (frz_cons (.refl _) (frz_cons (.refl _) (frz_cons (.refl _) (frz_cons (.nil edgeSh) (frz_cons .here (.refl _)))))) rfl) (.refl _)) ?_
  refine callR [] (acalls_eq (aSolveOk exS _ exS_fit (good_of exS_chk)) (by rw [exS_sol])) ?_
  refine With.mk rfl ?_
  refine IdxF.mk ([2] : List Int) (by decide) rfl ?_
  refine With.mk rfl ?_
  refine IdxF.mk (2 : Int) (by decide) rfl ?_
  exact .drop 0 1 (.done ⟨rfl, rfl⟩)
/-- What LeastIs asks of a list. -/
theorem least_for {s : Sy} (hf : Fit s) (hg : Good s) {y : List (List Int)} (hy : okLL y) (he : errS s y = 0) (hb : belowS s (okG (errS s y) (stepS s y)) y = true) : belowS s (solS s).1 y = true := by
  obtain ⟨q1, q2, q3, q4⟩ := sol_least hf hg
  have vy : Vals s y := by
    unfold errS at he
    rw [if_pos (good_zero hg)] at he
    split at he
    · rename_i h; exact vals_of h hy
    · cases he
  rw [he] at hb
  have hs := step_Vals hf hg vy
  exact (below_leA hg (q1.ok hg) hy).2 (q4 y ((below_leA hg (hs.ok hg) hy).1 hb))
theorem leastIs_walk (s : Sy) (a b : List (List Int)) (hi : A64 s.init) (ht : ∀ t ∈ s.T, A64 t.1 ∧ A64 t.2.1) (ha : ∀ x ∈ a, A64 x) (hb : ∀ x ∈ b, A64 x) : ACalls Try.prog 7 [.agg (sysC s), .fsl (.slice (.int .u64)) a, .fsl (.slice (.int .u64)) b] [] (fun r _ => r = .bool true) := by
  refine okF Try.func7 (by kernel_rfl) ?_
  intro bl1
  refine callR [] (aAwake18 _) ?_
  refine LoadAt.mk 0 _ _ rfl rfl ?_
  refine callP [] (aSmall17 s _) (fun hsm => ?_) ?_
  · have hf := fit_of hsm hi ht
    refine callP [] (aFew17 a _) (fun hfa => ?_) ?_
    · refine callP [] (aFew17 b _) (fun hfb => ?_) ?_
      · have oa := ok_of hfa ha
        have ob := ok_of hfb hb
        refine LoadAt.mk 0 _ _ rfl rfl ?_
        refine callR [] (aSysCheck s _ hf) ?_
        refine bcond_split (fun c1 => ?_) (fun c1 => ?_)
        · exact .done rfl
        · have c1 : (!decide (checkS s = 0)) = false := c1
          have c1 : checkS s = 0 := by simpa using c1
          have hg := good_of c1
          obtain ⟨q1, q2, q3, q4⟩ := sol_least hf hg
          have hh := height_le s.what s.w
          have hen := enough_eq hg
          unfold enoughS at hen
          refine LoadAt.mk 0 _ _ rfl rfl ?_
          refine callR [] (aSolveOk s _ hf hg) ?_
          have hla := fun h => least_for hf hg oa h
          have hlb := fun h => least_for hf hg ob h
          generalize hX : (solS s).1 = X at q1 q2 q3 q4 hla hlb
          generalize hK : (solS s).2 = K at q3
          have hsolves : solvesS s X = true := by unfold solvesS; rw [errS_ok hg q1, decide_eq_true q2]; rfl
          refine .quiet (by kernel_rfl) ?_
          refine LoadAt.mk 0 _ _ rfl rfl ?_
          refine callQ [] (acalls_eq (aSysSolves s X _ hf (q1.ok hg)) (av_bool hsolves)) ?_
          refine LoadAt.mk 0 _ _ rfl rfl ?_
          refine LoadAt.mk 0 _ _ rfl rfl ?_
          refine LoadAt.mk 0 _ _ rfl rfl ?_
          refine callQ [] (aRHeight _ _ _) ?_
          refine bcond_dec (p := IntKind.i64.wrap (s.n * heightL s.what s.w) < (K : Int)) (fun d1 => ?_) (fun d1 => ?_)
          · exact absurd d1 (by rw [w64 (by omega)]; omega)
          · intro bl2
            refine loopS (S := Nat) (fun k => [(3, .ptr bl1 0), (7, .fsl (.slice (.int .u64)) X), (62, .mref bl2 0 2 1), (63, .int .i64 2), (64, .int .i64 k)]) (fun _ => (bl2, [.fsl (.slice (.int .u64)) a, .fsl (.slice (.int .u64)) b]) :: (bl1, sysC s) :: []) (fun k => k ≤ 2) (fun k => 2 - k) 0 ⟨by omega, ⟨rfl, rfl, rfl, rfl, rfl, trivial⟩, rfl⟩ ?_
            intro k t hk0
            match k, hk0 with
            | 0, _ =>
              refine With.mk ⟨rfl, by omega, by omega⟩ ?_
              refine LoadAt.mk 0 _ _ rfl rfl ?_
              refine LoadAt.mk 1 _ _ rfl rfl ?_
              refine callR [] (aSysStep s a _ hf oa) ?_
              refine bcond_dec (p := errS s a = 0) (fun d2 => ?_) (fun d2 => ?_)
              · refine LoadAt.mk 1 _ _ rfl rfl ?_
                have vy : Vals s a := by
                  unfold errS at d2
                  rw [if_pos c1] at d2
                  split at d2
                  · rename_i h; exact vals_of h oa
                  · cases d2
                have os : okLL (okG (errS s a) (stepS s a)) := by rw [d2]; exact (step_Vals hf hg vy).ok hg
                refine callB [] (aSysBelow s (okG (errS s a) (stepS s a)) a _ hf os oa) (fun d3 => ?_) (fun d3 => ?_)
                · refine LoadAt.mk 1 _ _ rfl rfl ?_
                  refine callR [] (acalls_eq (aSysBelow s X a _ hf (q1.ok hg) oa) (av_bool (hla d2 d3))) ?_
                  exact nextS 1 (by decide) (by decide) ⟨rfl, rfl, rfl, rfl, rfl, trivial⟩ (.refl _)
                · exact nextS 1 (by decide) (by decide) ⟨rfl, rfl, rfl, rfl, rfl, trivial⟩ (.refl _)
              · exact nextS 1 (by decide) (by decide) ⟨rfl, rfl, rfl, rfl, rfl, trivial⟩ (.refl _)
            | 1, _ =>
              refine With.mk ⟨rfl, by omega, by omega⟩ ?_
              refine LoadAt.mk 0 _ _ rfl rfl ?_
              refine LoadAt.mk 1 _ _ rfl rfl ?_
              refine callR [] (aSysStep s b _ hf ob) ?_
              refine bcond_dec (p := errS s b = 0) (fun d2 => ?_) (fun d2 => ?_)
              · refine LoadAt.mk 1 _ _ rfl rfl ?_
                have vy : Vals s b := by
                  unfold errS at d2
                  rw [if_pos c1] at d2
                  split at d2
                  · rename_i h; exact vals_of h ob
                  · cases d2
                have os : okLL (okG (errS s b) (stepS s b)) := by rw [d2]; exact (step_Vals hf hg vy).ok hg
                refine callB [] (aSysBelow s (okG (errS s b) (stepS s b)) b _ hf os ob) (fun d3 => ?_) (fun d3 => ?_)
                · refine LoadAt.mk 1 _ _ rfl rfl ?_
                  refine callR [] (acalls_eq (aSysBelow s X b _ hf (q1.ok hg) ob) (av_bool (hlb d2 d3))) ?_
                  exact nextS 2 (by decide) (by decide) ⟨rfl, rfl, rfl, rfl, rfl, trivial⟩ (.refl _)
                · exact nextS 2 (by decide) (by decide) ⟨rfl, rfl, rfl, rfl, rfl, trivial⟩ (.refl _)
              · exact nextS 2 (by decide) (by decide) ⟨rfl, rfl, rfl, rfl, rfl, trivial⟩ (.refl _)
            | 2, _ => exact .done rfl
            | k + 3, h => exact absurd (show k + 3 ≤ 2 from h) (by omega)
      · exact .done rfl
    · exact .done rfl
  · exact .done rfl
end Go.Proofs.Ytelpeagiapapaaa
