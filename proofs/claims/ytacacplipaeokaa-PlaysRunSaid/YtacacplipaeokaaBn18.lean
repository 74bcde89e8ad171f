/-
  Bre22: what the claim uses of them.
-/
import Derived.Test.YtacacplipaeokaaBn15
namespace Go.Proofs.Ytacacplipaeokaa
open Go.RowKit
set_option maxRecDepth 100000
/-- The reference's memory: a block with its row, the row's block. -/
abbrev reH (m q : Nat) (ws : List Int) (σ : Hp) : Hp := (m, [AV.mref q 0 ws.length 1]) :: (q, woC ws) :: σ
theorem aRNew (n : Int) (σ : Hp) : ACalls Try.prog 9 [.int .i64 n] σ (fun r σ' => ∃ m q, r = .ptr m 0 ∧ σ' = reH m q (List.replicate (cutN n) 0) σ) := by
  have hc := cutN_le n
  have e : (if (1048576 : Int) < (if n < 0 then 0 else n) then 1048576 else (if n < 0 then 0 else n)) = ((cutN n : Nat) : Int) := by
    unfold cutN
    by_cases h : n < 0
    · simp only [if_pos h]; omega
    · simp only [if_neg h]; split <;> omega
  refine okF Try.func9 (by kernel_rfl) ?_
  refine With.mk ⟨by rw [e]; omega, Int.le_refl _, by rw [e]; omega, by decide⟩ ?_
  intro q m
  refine .done ⟨m, q, rfl, ?_⟩
  show (m, [AV.mref q 0 (if (1048576 : Int) < (if n < 0 then 0 else n) then 1048576 else (if n < 0 then 0 else n)).toNat 1]) :: (q, repC [AV.int .u64 0] (if (1048576 : Int) < (if n < 0 then 0 else n) then 1048576 else (if n < 0 then 0 else n)).toNat) :: σ = _
  rw [e, Int.toNat_natCast, rep_woC]
  unfold reH
  rw [List.length_replicate]
theorem aRHas (m q : Nat) (ws : List Int) (a : Int) (σ : Hp) : ACalls Try.prog 37 [.ptr m 0, .int .i64 a] (reH m q ws σ) (Ret (.bool (decide (0 ≤ a) && decide (a < ws.length))) (reH m q ws σ)) := by
  refine okF Try.func37 (by kernel_rfl) ?_
  refine bcond_dec (fun h => ?_) (fun h => ?_)
  · refine LoadAt.mk 0 _ _ rfl rfl ?_
    refine bcond_dec (fun h2 => ?_) (fun h2 => ?_)
    · have h2 : a < ws.length := h2
      exact .done ⟨av_bool (by simp [h, h2]), rfl⟩
    · have h2 : ¬ a < ws.length := h2
      exact .done ⟨av_bool (by simp [h2]), rfl⟩
  · exact .done ⟨av_bool (by simp [h]), rfl⟩
theorem reSet (m q : Nat) (ws : List Int) (i : Nat) (x : Int) (σ : Hp) : (m, [AV.mref q 0 ws.length 1]) :: (q, woC (ws.set i x)) :: σ = reH m q (ws.set i x) σ := by unfold reH; rw [List.length_set]
theorem aDo (m q : Nat) (ws : List Int) (k t a b : Int) (σ : Hp) : ACalls Try.prog 12 [.ptr m 0, .agg [.int .i64 k, .int .i64 t, .int .u64 a, .int .u64 b]] (reH m q ws σ) (Ret (.tup [.int .u64 (doV ws k t a), .bool (doIs ws k t a)]) (reH m q (doTo ws k t a b) σ)) := by
  refine okF Try.func12 (by kernel_rfl) ?_
  intro c
  refine LoadAt.mk 0 _ _ rfl rfl ?_
  refine callR [2, 2] (aRHas m q ws t ((c, [.int .i64 k, .int .i64 t, .int .u64 a, .int .u64 b]) :: σ)) ?_
  by_cases hh : 0 ≤ t ∧ t < (ws.length : Int)
  · rw [hasPlain t ws.length hh.1 hh.2]
    have hH := mHas_true hh.1 hh.2
    obtain ⟨i, rfl⟩ := Int.eq_ofNat_of_zero_le hh.1
    have hi : i < ws.length := by omega
    refine LoadAt.mk 2 _ _ rfl rfl ?_
    refine bcond_dec (fun h1 => ?_) (fun h1 => ?_)
    · refine .quiet (by kernel_rfl) ?_
      refine LoadAt.mk 0 _ _ rfl rfl ?_
      refine LoadAt.mk 2 _ _ rfl rfl ?_
      refine With.mk ⟨rfl, hh.1, hh.2⟩ ?_
      refine LoadAt.mk 1 _ _ rfl (woC_get hi) ?_
      refine .drop 2 1 (.done ⟨?_, ?_⟩)
      · show AV.tup [.int .u64 (ws.getD i 0), .bool false] = _
        simp [doV, doIs, h1, load_hit]
      · simp [doTo, h1]
    refine LoadAt.mk 2 _ _ rfl rfl ?_
    refine bcond_dec (fun h2 => ?_) (fun h2 => ?_)
    · refine .each (by kernel_rfl) ?_
      refine LoadAt.mk 0 _ _ rfl rfl ?_
      refine LoadAt.mk 2 _ _ rfl rfl ?_
      refine LoadAt.mk 2 _ _ rfl rfl ?_
      refine With.mk ⟨rfl, hh.1, hh.2⟩ ?_
      refine StoreAt.mk 1 _ _ rfl (woC_put a hi) ?_
      refine .drop 2 1 (.done ⟨?_, ?_⟩)
      · show AV.tup [.int .u64 0, .bool false] = _
        simp [doV, doIs, h2]
      · refine (reSet m q ws i a σ).trans ?_
        simp [doTo, h2, store_hit]
    refine LoadAt.mk 2 _ _ rfl rfl ?_
    refine bcond_dec (fun h3 => ?_) (fun h3 => ?_)
    · refine .quiet (by kernel_rfl) ?_
      refine LoadAt.mk 0 _ _ rfl rfl ?_
      refine LoadAt.mk 2 _ _ rfl rfl ?_
      refine With.mk ⟨rfl, hh.1, hh.2⟩ ?_
      refine LoadAt.mk 1 _ _ rfl (woC_get hi) ?_
      refine LoadAt.mk 2 _ _ rfl rfl ?_
      refine bcond_dec (fun he => ?_) (fun he => ?_)
      · have e1 : mCas ws i a = true := by unfold mCas; rw [hH, load_hit, he]; simp
        refine .each (by kernel_rfl) ?_
        refine LoadAt.mk 0 _ _ rfl rfl ?_
        refine LoadAt.mk 2 _ _ rfl rfl ?_
        refine LoadAt.mk 2 _ _ rfl rfl ?_
        refine With.mk ⟨rfl, hh.1, hh.2⟩ ?_
        refine StoreAt.mk 1 _ _ rfl (woC_put b hi) ?_
        refine .drop 2 1 (.done ⟨?_, ?_⟩)
        · show AV.tup [.int .u64 0, .bool true] = _
          simp [doV, doIs, h3, e1]
        · refine (reSet m q ws i b σ).trans ?_
          simp [doTo, h3, mCasTo, e1, store_hit]
      · have e1 : mCas ws i a = false := by unfold mCas; rw [hH, load_hit]; simpa using he
        refine .drop 2 1 (.done ⟨?_, ?_⟩)
        · show AV.tup [.int .u64 0, .bool false] = _
          simp [doV, doIs, h3, e1]
        · show reH m q ws σ = _
          simp [doTo, h3, mCasTo, e1]
    · have e1 : mSum ws i a = IntKind.u64.wrap (ws.getD i 0 + a) := by rw [IntKind.wrap_u64]; simp only [mSum, hH, if_true, load_hit]
      have e2 : mAddTo ws i a = ws.set i (IntKind.u64.wrap (ws.getD i 0 + a)) := by rw [IntKind.wrap_u64]; simp only [mAddTo, hH, if_true, load_hit, store_hit]
      refine .each (by kernel_rfl) ?_
      refine LoadAt.mk 0 _ _ rfl rfl ?_
      refine LoadAt.mk 2 _ _ rfl rfl ?_
      refine LoadAt.mk 0 _ _ rfl rfl ?_
      refine LoadAt.mk 2 _ _ rfl rfl ?_
      refine With.mk ⟨rfl, hh.1, hh.2⟩ ?_
      refine LoadAt.mk 1 _ _ rfl (woC_get hi) ?_
      refine LoadAt.mk 2 _ _ rfl rfl ?_
      refine With.mk ⟨rfl, hh.1, hh.2⟩ ?_
      refine StoreAt.mk 1 _ _ rfl (woC_put _ hi) ?_
      refine .quiet (by kernel_rfl) ?_
      refine LoadAt.mk 0 _ _ rfl rfl ?_
      refine LoadAt.mk 2 _ _ rfl rfl ?_
      refine With.mk ⟨rfl, hh.1, hh.2⟩ ?_
      refine LoadAt.mk 1 _ _ rfl (woC_get (ws := ws.set i (IntKind.u64.wrap (ws.getD i 0 + a))) (by rw [List.length_set]; exact hi)) ?_
      refine .drop 2 1 (.done ⟨?_, ?_⟩)
      · show AV.tup [.int .u64 ((ws.set i (IntKind.u64.wrap (ws.getD i 0 + a))).getD i 0), .bool false] = _
        simp [doV, doIs, h1, h2, h3, e1, hi]
      · refine (reSet m q ws i _ σ).trans ?_
        simp [doTo, h1, h2, h3, e2]
  · have hb := hasPlain' t ws.length hh
    rw [hb]
    have e1 : mCas ws t a = false := by simp only [mCas, mHas, hb, Bool.false_and]
    have e2 : mLoad ws t = 0 := load_miss hh
    have e3 : mSum ws t a = 0 := by unfold mSum; unfold mHas; rw [hb]; rfl
    have e4 : mAddTo ws t a = ws := by unfold mAddTo mHas; rw [hb]; rfl
    refine .drop 2 1 (.done ⟨?_, ?_⟩)
    · show AV.tup [.int .u64 0, .bool false] = _
      simp [doV, doIs, e1, e2, e3]
    · show reH m q ws σ = _
      simp [doTo, store_miss hh, mCasTo, e1, e4]
end Go.Proofs.Ytacacplipaeokaa
