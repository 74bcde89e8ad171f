/-
  soughlaw19: awake, QueueMost, QueueLeast.
-/
import Derived.Test.YteccfogpajbigaaGreatQd
namespace Go.Proofs.YteccfogpajbigaaGreat
open Go.RowKit
set_option maxRecDepth 100000
theorem exQ_ord : IsOrd exS.n [0] := ⟨rfl, by simp, fun z hz => by rw [List.mem_singleton.1 hz]; decide, fun z hz => by
  have h1 : z < 1 := hz.2
  have : z = 0 := by omega
  rw [this]; exact List.mem_cons_self ..⟩
theorem exQ_wait : (qIter exS 1 (q0 exS [0])).wait = [] := by decide +kernel
theorem exQ_vals : (qIter exS 1 (q0 exS [0])).vals = [[2]] := by decide +kernel
theorem exQ_ev : (qIter exS 1 (q0 exS [0])).ev = 1 := by decide +kernel
theorem exQ_jo : (qIter exS 1 (q0 exS [0])).jo = 0 := by decide +kernel
theorem exQ_solve (σ : Hp) : ACalls Tryz.prog 13 [.agg (sysC exS), .fsl (.int .i64) ([0] : List Int)] σ (Ret (.tup [.agg [.fsl (.slice (.int .u64)) ([[2]] : List (List Int)), .int .i64 1, .int .i64 0], .int .i64 0]) σ) := by
  refine (aQSolveOk exS [0] σ exS_fit (good_of exS_chk) (by decide)).mono ?_
  rintro r σ' ⟨rfl, ⟨h, _⟩ | ⟨_, k, hw, rfl⟩⟩
  · exact absurd exQ_ord h
  · refine ⟨?_, rfl⟩
    rw [qIter_eq hw exQ_wait]
    unfold qOk
    rw [exQ_vals, exQ_ev, exQ_jo]; rfl
theorem aAwake19 (σ : Hp) : ACalls Tryz.prog 11 [] σ (Ret (.bool true) σ) := by
  refine okF Tryz.func11 (by kernel_rfl) ?_
  intro bl1
  intro bl2
  intro bl3
  intro bl4
  intro bl5
  intro bl6
  refine StoreAt.mk 0 _ _ rfl rfl ?_
  refine LoadAt.mk 0 _ _ rfl rfl ?_
  intro bl7
  refine .frzc 4 bl3 0 1 1 _ (.int .u64) ([0] : List Int) rfl rfl ⟨rfl, rfl, by decide⟩ 2 0 bl5 _ rfl rfl ?_
  refine .frzc 3 bl4 0 1 1 _ (.int .u64) ([0] : List Int) rfl rfl ⟨rfl, rfl, by decide⟩ 2 1 bl5 _ rfl rfl ?_
  refine callNil 2 2 bl5 _ codeSh rfl rfl ?_
  refine .frz (args' := [.agg [.int .i64 1, .int .i64 2, .int .i64 1, .nils, .mref bl1 0 1 1, .mref bl2 0 1 1, .fsl transSh exS.T], .mref bl7 0 1 1]) 2 bl5 0 1 3 _ transSh exS.T rfl rfl ⟨rfl, rfl, by decide⟩ (frz_cons (frz_agg (frz_cons (.refl _) (frz_cons (.refl _) (frz_cons (.refl _) (frz_cons (.refl _) (frz_cons (.refl _) (frz_cons (.refl _) (frz_cons .here frz_nil))))))) rfl) (.refl _)) ?_
  refine .frz (args' := [.agg [.int .i64 1, .int .i64 2, .int .i64 1, .nils, .mref bl1 0 1 1, .fsl (.int .u64) exS.init, .fsl transSh exS.T], .mref bl7 0 1 1]) 2 bl2 0 1 1 _ (.int .u64) exS.init rfl rfl ⟨rfl, rfl, by decide⟩ (frz_cons (frz_agg (frz_cons (.refl _) (frz_cons (.refl _) (frz_cons (.refl _) (frz_cons (.refl _) (frz_cons (.refl _) (frz_cons .here (.refl _))))))) rfl) (.refl _)) ?_
  refine .frz (args' := [.agg (sysC exS), .mref bl7 0 1 1]) 2 bl1 0 1 1 _ (.int .i64) exS.entry rfl rfl ⟨rfl, rfl, by decide⟩ (frz_cons (frz_agg (frz_cons (.refl _) (frz_cons (.refl _) (frz_cons (.refl _) (frz_cons (.nil edgeSh) (frz_cons .here (.refl _)))))) rfl) (.refl _)) ?_
  refine .frz (args' := [.agg (sysC exS), .fsl (.int .i64) ([0] : List Int)]) 0 bl7 0 1 1 _ (.int .i64) ([0] : List Int) rfl rfl ⟨rfl, rfl, by decide⟩ (frz_cons (.refl _) (frz_cons .here frz_nil)) ?_
  refine callR [] (exQ_solve _) ?_
  intro bl1
  refine StoreAt.mk 0 _ _ rfl rfl ?_
  refine LoadAt.mk 0 _ _ rfl rfl ?_
  refine LoadAt.mk 0 _ _ rfl rfl ?_
  refine LoadAt.mk 0 _ _ rfl rfl ?_
  refine With.mk rfl ?_
  refine IdxF.mk ([2] : List Int) (by decide) rfl ?_
  refine With.mk rfl ?_
  refine IdxF.mk (2 : Int) (by decide) rfl ?_
  exact .drop 0 2 (.done ⟨rfl, rfl⟩)
theorem small_prod {s : Sy} (hg : Good s) : 0 ≤ s.n * heightL s.what s.w ∧ s.n * heightL s.what s.w ≤ 524288 ∧ 0 ≤ ((sortedE s.edges).length : Int) * heightL s.what s.w ∧ ((sortedE s.edges).length : Int) * heightL s.what s.w ≤ 2097152 := by
  have hh := height_le s.what s.w
  have hn := hg.n1
  have hn2 := hg.n2
  have hs : (sortedE s.edges).length ≤ 1024 := Nat.le_trans (by rw [← insK_all]; exact insK_len s.edges _ (Nat.le_refl _)) (show s.edges.length ≤ 1024 by have := hg.el; omega)
  exact ⟨Int.mul_nonneg (by omega) hh.1, Int.le_trans (Int.mul_le_mul hn2 hh.2 hh.1 (by decide)) (by decide), Int.mul_nonneg (Int.natCast_nonneg _) hh.1, Int.le_trans (Int.mul_le_mul (show ((sortedE s.edges).length : Int) ≤ 1024 by omega) hh.2 hh.1 (by decide)) (by decide)⟩
theorem joins_eq {s : Sy} (hg : Good s) : joinsS s = s.n * heightL s.what s.w := by
  have := small_prod hg
  rw [← joinsS0 (good_zero hg), w64 (by omega)]
theorem evals_eq {s : Sy} (hg : Good s) : evalsS s = s.n + ((sortedE s.edges).length : Int) * heightL s.what s.w := by
  have := small_prod hg
  have hn := hg.n1
  have hn2 := hg.n2
  rw [← evalsS0 (good_zero hg), w64 (n := ((sortedE s.edges).length : Int) * heightL s.what s.w) (by omega), w64 (by omega)]
theorem aRLeast18 (s : Sy) (σ : Hp) (hf : Fit s) (hg : Good s) : ACalls Tryz.prog 35 [.agg (sysC s)] σ (Ret (.fsl (.slice (.int .u64)) (solS s).1) σ) := by
  have he := enough_eq hg
  have h0 : 0 ≤ enoughS s := he.2.1
  obtain ⟨m, hm⟩ : ∃ m : Nat, enoughS s = m := ⟨(enoughS s).toNat, by omega⟩
  have hE := fun σ => acalls_eq (aREnough s σ) (av_int (he.1.trans hm))
  have hS := fun σ => aRSolve18 s m σ hf hg (by omega)
  have hsol : (solS s).1 = (runL s m (bottomS s) 0).1 := by unfold solS; rw [hm, Int.toNat_natCast]
  rw [hsol]
  refine okF Tryz.func35 (by kernel_rfl) ?_
  intro bl1
  refine .quiet (by kernel_rfl) ?_
  refine LoadAt.mk 0 _ _ rfl rfl ?_
  refine LoadAt.mk 0 _ _ rfl rfl ?_
  refine callQ [] (hE _) ?_
  refine callQ [] (hS _) ?_
  exact .drop 0 1 (.done ⟨rfl, rfl⟩)
theorem queueMost_walk (s : Sy) (hi : A64 s.init) (ht : ∀ t ∈ s.T, A64 t.1 ∧ A64 t.2.1) : ACalls Tryz.prog 6 [.agg (sysC s)] [] (fun r _ => r = .bool true) := by
  refine okF Tryz.func6 (by kernel_rfl) ?_
  intro bl1
  refine callR [] (aAwake19 _) ?_
  refine LoadAt.mk 0 _ _ rfl rfl ?_
  refine callS [] (aSmall17 s _) (fun hsm => ?_) ?_
  rotate_left
  · exact .done rfl
  have hf := fit_of hsm hi ht
  have hJ := fun σ => aMostJoins s σ hf
  have hE := fun σ => aMostEvals s σ hf
  have hS := fun σ => aRSortedE s.edges σ (Nat.le_trans hf.elen (by decide))
  refine LoadAt.mk 0 _ _ rfl rfl ?_
  refine callR [] (aRCheck17 s _ hf) ?_
  refine bcond_dec (fun c1 => ?_) (fun c1 => ?_)
  · have c1 : checkS s = 0 := c1
    refine LoadAt.mk 0 _ _ rfl rfl ?_
    refine LoadAt.mk 0 _ _ rfl rfl ?_
    refine callR [] (aRHeight s.what s.w _) ?_
    refine .quiet (by kernel_rfl) ?_
    refine LoadAt.mk 0 _ _ rfl rfl ?_
    refine LoadAt.mk 0 _ _ rfl rfl ?_
    refine LoadAt.mk 0 _ _ rfl rfl ?_
    refine callQ [] (hS _) ?_
    refine LoadAt.mk 0 _ _ rfl rfl ?_
    refine callR [] (hJ _) ?_
    refine bcond_dec (fun c2 => ?_) (fun c2 => ?_)
    · have c2 : joinsS s = IntKind.i64.wrap (s.n * heightL s.what s.w) := c2
      refine LoadAt.mk 0 _ _ rfl rfl ?_
      refine callR [] (hE _) ?_
      refine bcond_dec (fun c3 => ?_) (fun c3 => ?_)
      · have c3 : evalsS s = IntKind.i64.wrap (s.n + IntKind.i64.wrap ((↑(sortedE s.edges).length : Int) * heightL s.what s.w)) := c3
        exact .done rfl
      · have c3 : ¬ (evalsS s = IntKind.i64.wrap (s.n + IntKind.i64.wrap ((↑(sortedE s.edges).length : Int) * heightL s.what s.w))) := c3
        exact absurd (evalsS0 c1).symm c3
    · have c2 : ¬ (joinsS s = IntKind.i64.wrap (s.n * heightL s.what s.w)) := c2
      exact absurd (joinsS0 c1).symm c2
  · have c1 : ¬ (checkS s = 0) := c1
    refine LoadAt.mk 0 _ _ rfl rfl ?_
    refine callR [] (hJ _) ?_
    refine bcond_dec (fun c4 => ?_) (fun c4 => ?_)
    · have c4 : joinsS s = 0 := c4
      refine LoadAt.mk 0 _ _ rfl rfl ?_
      refine callR [] (hE _) ?_
      refine bcond_dec (fun c5 => ?_) (fun c5 => ?_)
      · have c5 : evalsS s = 0 := c5
        exact .done rfl
      · have c5 : ¬ (evalsS s = 0) := c5
        exact absurd (evalsS1 c1).symm c5
    · have c4 : ¬ (joinsS s = 0) := c4
      exact absurd (joinsS1 c1).symm c4
theorem queueLeast_walk (s : Sy) (first : List Int) (hi : A64 s.init) (ht : ∀ t ∈ s.T, A64 t.1 ∧ A64 t.2.1) : ACalls Tryz.prog 7 [.agg (sysC s), .fsl (.int .i64) first] [] (fun r _ => r = .bool true) := by
  refine okF Tryz.func7 (by kernel_rfl) ?_
  intro bl1
  refine callR [] (aAwake19 _) ?_
  refine LoadAt.mk 0 _ _ rfl rfl ?_
  refine callS [] (aSmall17 s _) (fun hsm => ?_) ?_
  rotate_left
  · exact .done rfl
  have hf := fit_of hsm hi ht
  refine bcond_dec (p := 20 < (first.length : Int)) (fun hl => ?_) (fun hl => ?_)
  · exact .done rfl
  have hl : first.length ≤ 100000 := by omega
  refine LoadAt.mk 0 _ _ rfl rfl ?_
  by_cases c : checkS s = 0
  · have hg := good_of c
    refine .mk [] _ (aQSolveOk s first _ hf hg hl) ?_
    rintro r σ' ⟨rfl, ⟨ho, rfl⟩ | ⟨ho, k, hw, rfl⟩⟩
    · intro bl1
      refine StoreAt.mk 0 _ _ rfl rfl ?_
      refine LoadAt.mk 0 _ _ rfl rfl ?_
      exact .done rfl
    · have hq := qIter_inv hf hg k (q0_inv hf hg ho)
      generalize qIter s k (q0 s first) = q at hw hq ⊢
      intro bl1
      refine StoreAt.mk 0 _ _ rfl rfl ?_
      refine .quiet (by kernel_rfl) ?_
      refine LoadAt.mk 0 _ _ rfl rfl ?_
      refine LoadAt.mk 1 _ _ rfl rfl ?_
      obtain ⟨e1, e2, e3, e4, e5⟩ := q_end hf hg hq hw
      have hjn := joins_eq hg
      have hen := evals_eq hg
      have hL := fun σ => aRLeast18 s σ hf hg
      have hva := hq.qi.va.ok hg
      have hS := fun σ => acalls_eq (aRSame17 q.vals (solS s).1 σ hva) (av_bool (decide_eq_true e1))
      have hJ := fun σ => acalls_eq (aMostJoins s σ hf) (av_int hjn)
      have hE := fun σ => acalls_eq (aMostEvals s σ hf) (av_int hen)
      refine callQ [] (hL _) ?_
      refine callQ [] (hS _) ?_
      refine LoadAt.mk 0 _ _ rfl rfl ?_
      refine LoadAt.mk 1 _ _ rfl rfl ?_
      refine callQ [] (hJ _) ?_
      refine bcond_dec (fun c1 => ?_) (fun c1 => ?_)
      · have c1 : (↑q.jo : Int) ≤ s.n * heightL s.what s.w := c1
        refine LoadAt.mk 0 _ _ rfl rfl ?_
        refine LoadAt.mk 1 _ _ rfl rfl ?_
        refine callQ [] (hE _) ?_
        refine bcond_dec (fun c2 => ?_) (fun c2 => ?_)
        · have c2 : (↑q.ev : Int) ≤ s.n + (↑(sortedE s.edges).length : Int) * heightL s.what s.w := c2
          refine LoadAt.mk 0 _ _ rfl rfl ?_
          refine LoadAt.mk 1 _ _ rfl rfl ?_
          refine LoadAt.mk 0 _ _ rfl rfl ?_
          refine bcond_dec (fun c3 => ?_) (fun c3 => ?_)
          · have c3 : (↑q.ev : Int) ≤ IntKind.i64.wrap (s.n + (↑q.jo : Int)) := c3
            refine LoadAt.mk 0 _ _ rfl rfl ?_
            refine LoadAt.mk 1 _ _ rfl rfl ?_
            refine bcond_dec (fun c4 => ?_) (fun c4 => ?_)
            · have c4 : s.n ≤ (↑q.ev : Int) := c4
              exact .done rfl
            · have c4 : ¬ (s.n ≤ (↑q.ev : Int)) := c4
              exact absurd e5 c4
          · have c3 : ¬ ((↑q.ev : Int) ≤ IntKind.i64.wrap (s.n + (↑q.jo : Int))) := c3
            have hp := small_prod hg
            have hn1 := hg.n1
            have hn2 := hg.n2
            rw [w64 (by omega)] at c3
            exact absurd e4 c3
        · have c2 : ¬ ((↑q.ev : Int) ≤ s.n + (↑(sortedE s.edges).length : Int) * heightL s.what s.w) := c2
          exact absurd e3 c2
      · have c1 : ¬ ((↑q.jo : Int) ≤ s.n * heightL s.what s.w) := c1
        exact absurd e2 c1
  · refine callR [] (aQSolveBad s first _ hf c) ?_
    intro bl1
    refine StoreAt.mk 0 _ _ rfl rfl ?_
    refine bcond_split (fun c2 => ?_) (fun c2 => ?_)
    · have c2 : ¬ (checkS s = 0) := by simpa using c2
      refine LoadAt.mk 0 _ _ rfl rfl ?_
      exact .done rfl
    · have c2 : checkS s = 0 := by simpa using c2
      refine .quiet (by kernel_rfl) ?_
      refine LoadAt.mk 0 _ _ rfl rfl ?_
      refine LoadAt.mk 1 _ _ rfl rfl ?_
      exact absurd c2 c
end Go.Proofs.YteccfogpajbigaaGreat
