/-
  package least: Same, iterate, Solve.
-/
import Derived.Test.YtggcpiddnhipiaaGreatYe
namespace Go.Proofs.YtggcpiddnhipiaaGreat
open Go.RowKit
set_option maxRecDepth 100000
/-- Steps from a on, till nothing changes, m at most. -/
def runL (s : Sy) : Nat → List (List Int) → Nat → List (List Int) × Nat
  | 0, a, k => (a, k)
  | m + 1, a, k => if a = stepS s a then (a, k) else runL s m (stepS s a) (k + 1)
theorem runL_stop {s : Sy} {a : List (List Int)} (m k : Nat) (h : a = stepS s a) : runL s m a k = (a, k) := by
  cases m with
  | zero => rfl
  | succ m => exact if_pos h
theorem runL_go {s : Sy} {a : List (List Int)} (m k : Nat) (h : ¬ a = stepS s a) : runL s (m + 1) a k = runL s m (stepS s a) (k + 1) := if_neg h
theorem aLSame (a b : List (List Int)) (σ : Hp) (ha : okLL a) : ACalls Tryz.prog 93 [.fsl (.slice (.int .u64)) a, .fsl (.slice (.int .u64)) b] σ (Ret (.bool (decide (a = b))) σ) := by
  refine okF Tryz.func93 (by kernel_rfl) ?_
  refine callR [] (aEqualFn 57 [] a b (fun x y => decide (x = y)) _ (Nat.le_trans ha.1 (by decide)) (fun x hx y _ => aEqualUF x y _ (Nat.le_trans (ha.2 x hx).2 (by decide)))) ?_
  exact .done ⟨av_bool (allTwo_eq a b), rfl⟩
theorem aIterate1 (s : Sy) (a : List (List Int)) (q r : Nat) (σ : Hp) (hf : Fit s) (hg : Good s) (ha : Vals s a) : ACalls Tryz.prog 92 [.ptr q 0, .ptr r 0] ((r, [.fsl (.slice (.int .u64)) a]) :: (q, sysC s) :: σ) (Ret (.fsl (.slice (.int .u64)) (stepS s a)) ((r, [.fsl (.slice (.int .u64)) a]) :: (q, sysC s) :: σ)) := by
  refine okF Tryz.func92 (by kernel_rfl) ?_
  refine LoadAt.mk 1 _ _ rfl rfl ?_
  refine LoadAt.mk 0 _ _ rfl rfl ?_
  refine callR [] (acalls_eq (aSysStep s a _ hf (ha.ok hg)) (by rw [errS_ok hg ha])) ?_
  exact .done ⟨rfl, rfl⟩
theorem bottom_Vals {s : Sy} (hg : Good s) : Vals s (bottomS s) := by
  refine ⟨by rw [bottomS_length]; have := hg.n1; omega, fun x hx => ?_⟩
  rw [(List.mem_replicate.1 hx).2]
  exact ⟨bot_val hg.isL, bot_64 _ _⟩
theorem aIterate (s : Sy) (most0 : Int) (σ : Hp) (hf : Fit s) (hm : checkS s = 0 → 0 ≤ most0 ∧ most0 ≤ 1000000) : ACalls Tryz.prog 59 [.agg (sysC s), .int .i64 most0] σ (Ret (.tup [.fsl (.slice (.int .u64)) (okG (checkS s) (runL s most0.toNat (bottomS s) 0).1), .int .i64 (if checkS s = 0 then ((runL s most0.toNat (bottomS s) 0).2 : Int) else 0), .int .i64 (checkS s)]) σ) := by
  refine okF Tryz.func59 (by kernel_rfl) ?_
  intro bl1
  refine LoadAt.mk 0 _ _ rfl rfl ?_
  by_cases c1 : checkS s = 0
  · have hg := good_of c1
    have hb := bottom_Vals hg
    have hm := hm c1
    obtain ⟨most, rfl⟩ : ∃ most : Nat, most0 = most := ⟨most0.toNat, by omega⟩
    rw [Int.toNat_natCast]
    refine callR [] (acalls_eq (aSysBottom s _ hf) (by rw [c1])) ?_
    intro br
    refine StoreAt.mk 0 _ _ rfl rfl ?_
    have hR : runL s (most - 0) (bottomS s) 0 = runL s most (bottomS s) 0 := rfl
    refine callR [] (aIterate1 s (bottomS s) bl1 br _ hf hg hb) ?_
    refine bcond_dec (p := ((0 : Nat) : Int) < (most : Int)) (fun d1 => ?_) (fun d1 => ?_)
    rotate_left
    · have d2 : most - 0 = 0 := by omega
      refine LoadAt.mk 0 _ _ rfl rfl ?_
      rw [d2] at hR
      exact .drop 0 2 (.done ⟨by rw [← hR, c1]; rfl, rfl⟩)
    refine LoadAt.mk 0 _ _ rfl rfl ?_
    refine callB [] (aLSame (bottomS s) (stepS s (bottomS s)) _ ((hb).ok hg)) (fun d2 => ?_) (fun d2 => ?_)
    · have d2 : (bottomS s) = stepS s (bottomS s) := of_decide_eq_true d2
      refine LoadAt.mk 0 _ _ rfl rfl ?_
      rw [runL_stop _ _ d2] at hR
      exact .drop 0 2 (.done ⟨by rw [← hR, c1]; rfl, rfl⟩)
    have d2 : ¬ (bottomS s) = stepS s (bottomS s) := of_decide_eq_false d2
    refine StoreAt.mk 0 _ _ rfl rfl ?_
    rw [show most - 0 = (most - (0 + 1)) + 1 by omega, runL_go _ _ d2] at hR
    refine .loop (S := List (List Int) × Nat) (fun _ => 0) (fun x => [(1, .int .i64 most), (2, .ptr bl1 0), (7, .ptr br 0), (9, .int .i64 x.2), (10, .fn (.func 92) [] [.ptr bl1 0, .ptr br 0])]) (fun x => (br, [.fsl (.slice (.int .u64)) x.1]) :: (bl1, sysC s) :: σ) (fun x => (Vals s x.1 ∧ x.2 ≤ most) ∧ runL s (most - x.2) x.1 x.2 = runL s most (bottomS s) 0) (fun x => most - x.2) (stepS s (bottomS s), 1) ⟨rfl, ⟨⟨step_Vals hf hg hb, by omega⟩, hR⟩, ⟨rfl, rfl, rfl, rfl, rfl, trivial⟩, .refl _⟩ ?_
    rintro ⟨a, k⟩ t ⟨⟨ha0, hk0⟩, hR0⟩
    have ha : Vals s a := ha0
    have hk : k ≤ most := hk0
    have hR : runL s (most - k) a k = runL s most (bottomS s) 0 := hR0
    clear ha0 hk0 hR0
    refine callR [] (aIterate1 s a bl1 br _ hf hg ha) ?_
    refine bcond_dec (p := ((k : Nat) : Int) < (most : Int)) (fun d1 => ?_) (fun d1 => ?_)
    rotate_left
    · have d2 : most - k = 0 := by omega
      refine LoadAt.mk 0 _ _ rfl rfl ?_
      rw [d2] at hR
      exact .drop 0 2 (.done ⟨by rw [← hR, c1]; rfl, rfl⟩)
    refine LoadAt.mk 0 _ _ rfl rfl ?_
    refine callB [] (aLSame a (stepS s a) _ ((ha).ok hg)) (fun d2 => ?_) (fun d2 => ?_)
    · have d2 : a = stepS s a := of_decide_eq_true d2
      refine LoadAt.mk 0 _ _ rfl rfl ?_
      rw [runL_stop _ _ d2] at hR
      exact .drop 0 2 (.done ⟨by rw [← hR, c1]; rfl, rfl⟩)
    have d2 : ¬ a = stepS s a := of_decide_eq_false d2
    refine StoreAt.mk 0 _ _ rfl rfl ?_
    rw [show most - k = (most - (k + 1)) + 1 by omega, runL_go _ _ d2] at hR
    exact ⟨(stepS s a, k + 1), rfl, by show most - (k + 1) < most - k; omega, ⟨⟨step_Vals hf hg ha, by show k + 1 ≤ most; omega⟩, hR⟩, ⟨rfl, rfl, rfl, inc64 (by omega), rfl, trivial⟩, .refl _⟩
  · refine callR [] (aSysBottom s _ hf) ?_
    intro br
    refine StoreAt.mk 0 _ _ rfl rfl ?_
    refine bcond_split (fun _ => ?_) (fun c2 => ?_)
    · exact .nil (frz_cons (.nil _) (.refl _)) (.drop 0 2 (.done ⟨by unfold okG; rw [if_neg c1, if_neg c1]; rfl, rfl⟩))
    · have c2 : (!decide (checkS s = 0)) = false := c2
      exact absurd (by simpa using c2) c1
def enoughS (s : Sy) : Int := s.n * heightL s.what s.w + 1
theorem height_le (what w : Int) : 0 ≤ heightL what w ∧ heightL what w ≤ 2048 := by
  unfold heightL
  split
  · rename_i h
    unfold is12 at h; simp at h
    split <;> omega
  · omega
theorem aEnough (s : Sy) (σ : Hp) : ACalls Tryz.prog 60 [.agg (sysC s)] σ (Ret (.int .i64 (IntKind.i64.wrap (IntKind.i64.wrap (s.n * heightL s.what s.w) + 1))) σ) := by
  refine okF Tryz.func60 (by kernel_rfl) ?_
  intro bl1
  refine .quiet (by kernel_rfl) ?_
  refine LoadAt.mk 0 _ _ rfl rfl ?_
  refine LoadAt.mk 0 _ _ rfl rfl ?_
  refine LoadAt.mk 0 _ _ rfl rfl ?_
  refine callQ [] (aLHeight _ _ _) ?_
  exact .drop 0 1 (.done ⟨rfl, rfl⟩)
theorem enough_eq {s : Sy} (hg : Good s) : IntKind.i64.wrap (IntKind.i64.wrap (s.n * heightL s.what s.w) + 1) = enoughS s ∧ 0 ≤ enoughS s ∧ enoughS s ≤ 1000000 := by
  have h1 := hg.n1
  have h2 := hg.n2
  have h3 := height_le s.what s.w
  have h4 : s.n * heightL s.what s.w ≤ 256 * 2048 := Int.mul_le_mul h2 h3.2 h3.1 (by decide)
  have h5 : 0 ≤ s.n * heightL s.what s.w := Int.mul_nonneg (by omega) h3.1
  unfold enoughS
  rw [w64 (n := s.n * heightL s.what s.w) (by omega), w64 (by omega)]
  omega
/-- The least solution, and when it comes. -/
def solS (s : Sy) : List (List Int) × Nat := runL s (enoughS s).toNat (bottomS s) 0
theorem aSolve (s : Sy) (σ : Hp) (hf : Fit s) : ACalls Tryz.prog 24 [.agg (sysC s)] σ (Ret (.tup [.fsl (.slice (.int .u64)) (okG (checkS s) (solS s).1), .int .i64 (if checkS s = 0 then ((solS s).2 : Int) else 0), .int .i64 (checkS s)]) σ) := by
  refine okF Tryz.func24 (by kernel_rfl) ?_
  intro bl1
  refine .quiet (by kernel_rfl) ?_
  refine LoadAt.mk 0 _ _ rfl rfl ?_
  refine LoadAt.mk 0 _ _ rfl rfl ?_
  refine callQ [] (aEnough s _) ?_
  refine callQ [] (aIterate s _ _ hf (fun h => ?_)) ?_
  · have := enough_eq (good_of h)
    rw [this.1]; exact this.2
  · refine .drop 0 1 (.done ⟨?_, rfl⟩)
    by_cases h : checkS s = 0
    · unfold solS
      rw [(enough_eq (good_of h)).1]
      rfl
    · unfold okG
      rw [if_neg h, if_neg h, if_neg h, if_neg h]
      rfl
theorem aRHeight (what w : Int) (σ : Hp) : ACalls Tryz.prog 28 [.int .i64 what, .int .i64 w] σ (Ret (.int .i64 (heightL what w)) σ) := by
  refine okF Tryz.func28 (by kernel_rfl) ?_
  refine callB [] (aRIs what w _) (fun c0 => ?_) (fun c0 => ?_)
  · refine bcond_dec (fun c1 => ?_) (fun c1 => ?_)
    · have c1 : what = 3 := c1
      exact .done ⟨av_int (by unfold is12 at c0; simp at c0; unfold heightL; rw [if_pos (is_yes (by omega)), if_pos c1, w64 (by omega)]), rfl⟩
    · have c1 : ¬ (what = 3) := c1
      exact .done ⟨av_int (by unfold heightL; rw [if_pos c0, if_neg c1]), rfl⟩
  · exact .done ⟨av_int (by unfold heightL; rw [c0]; rfl), rfl⟩
end Go.Proofs.YtggcpiddnhipiaaGreat
