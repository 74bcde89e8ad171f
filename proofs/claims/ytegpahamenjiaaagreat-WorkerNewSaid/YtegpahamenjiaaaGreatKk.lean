/-
  WorkerNew.
-/
import Derived.Test.YtegpahamenjiaaaGreatKh
namespace Go.Proofs.YtegpahamenjiaaaGreat
open Go.RowKit
set_option maxRecDepth 100000
theorem aWkStep0 (b : Nat) (x : List AV) (hx : x = [.int .i64 0, .int .i64 0, .bool false, .int .i64 0, .int .i64 0, .int .i64 0, .nils, .nils, .nils, .nils, .int .i64 0, .int .i64 0, .int .i64 0, .int .i64 0, .int .i64 0, .int .i64 0, .nilif, .int .i64 0, .bool false, .nils, .nils, .bool false]) (m : AV) (d : Int) (σ : Hp) : ACalls Tryz.prog 21 [.ptr b 0, m, .int .i64 d] ((b, x) :: σ) (Ret (.bool true) ((b, x) :: σ)) := by
  subst hx
  refine okF Tryz.func21 (by kernel_rfl) ?_
  refine LoadAt.mk 0 _ _ rfl rfl ?_
  exact .done ⟨rfl, rfl⟩
theorem lay_ok {s : Sy} {k : Int} (h : ofE s k = 0) : layOf s k = ⟨s.what, wordsL s.what s.w, s.n, k⟩ := by unfold layOf; rw [h]; rfl
theorem lay_tell {s : Sy} {k : Int} (h : ofE s k = 0) : AV.tup [.agg (layV (layOf s k)), .int .i64 (ofE s k)] = .tup [.agg (layV ⟨s.what, wordsL s.what s.w, s.n, k⟩), .int .i64 0] := by rw [lay_ok h, h]
theorem ref_tell {s : Sy} {k : Int} (h : ofE s k = 0) : AV.tup [.agg (layC s k), .int .i64 (ofE s k)] = .tup [.agg (layV ⟨s.what, wordsL s.what s.w, s.n, k⟩), .int .i64 0] := by unfold layC okI layV; rw [h]; rfl
theorem words_ne {s : Sy} {k : Int} (h : ofE s k = 0) : ¬ (layOf s k = ⟨s.what, IntKind.i64.wrap (wordsL s.what s.w + 1), s.n, k⟩) := by
  rw [lay_ok h]
  intro he
  have := congrArg Lay.words he
  have this : wordsL s.what s.w = IntKind.i64.wrap (wordsL s.what s.w + 1) := this
  rw [IntKind.wrap_i64] at this
  omega
theorem lay_tz {s : Sy} {k z : Int} (h : ofE s k = 0) (hz : 0 = z) : AV.tup [.agg (layV (layOf s k)), .int .i64 (ofE s k)] = .tup [.agg (layV ⟨s.what, wordsL s.what s.w, s.n, k⟩), .int .i64 z] := by rw [lay_ok h, h, hz]
theorem ref_tz {s : Sy} {k z : Int} (h : ofE s k = 0) (hz : 0 = z) : AV.tup [.agg (layC s k), .int .i64 (ofE s k)] = .tup [.agg (layV ⟨s.what, wordsL s.what s.w, s.n, k⟩), .int .i64 z] := by rw [ref_tell h, hz]
theorem far_tz {z : Int} (hz : 1 = z) : AV.tup [.nilp, .int .i64 1] = .tup [.nilp, .int .i64 z] := by rw [hz]
theorem aNewOkZ (s : Sy) (L : Lay) (who : Int) (σ : Hp) (hf : Fit s) (he : ofE s L.k = 0) (hL : layOf s L.k = L) (h0 : 0 ≤ who) (h1 : who < L.k) {z : Int} (hz : 0 = z) : ACalls Tryz.prog 15 [.agg (sysC s), .agg (layV L), .int .i64 who] σ (fun r σ' => ∃ w, r = .tup [.ptr w 0, .int .i64 z] ∧ σ' = WB s L who w 0 .nils [] ws0 ++ σ) := hz ▸ aNewOk s L who σ hf he hL h0 h1
theorem workerNew_walk (s : Sy) (k who : Int) (other : Bool) (hi : A64 s.init) (ht : ∀ t ∈ s.T, A64 t.1 ∧ A64 t.2.1) : ACalls Tryz.prog 5 [.agg (sysC s), .int .i64 k, .int .i64 who, .bool other] [] (fun r _ => r = .bool true) := by
  refine okF Tryz.func5 (by kernel_rfl) ?_
  intro bl1
  refine callR [] (aAwake33 _) ?_
  refine LoadAt.mk 0 _ _ rfl rfl ?_
  refine callS [] (aSmall17 s _) (fun hsm => ?_) ?_
  rotate_left
  · exact .done rfl
  have hf := fit_of hsm hi ht
  obtain ⟨z0, hz0⟩ : ∃ z : Int, 0 = z := ⟨0, rfl⟩
  obtain ⟨z1, hz1⟩ : ∃ z : Int, 1 = z := ⟨1, rfl⟩
  by_cases he : ofE s k = 0
  · cases other with
    | true =>
      refine LoadAt.mk 0 _ _ rfl rfl ?_
      refine callR [] (acalls_eq (aLayOf s k _ hf) (lay_tz he hz0)) ?_
      intro bl1
      refine StoreAt.mk 0 _ _ rfl rfl ?_
      refine bcond_split (fun c => absurd hz0.symm (by simpa using c)) (fun c => ?_)
      refine LoadAt.mk 0 _ _ rfl rfl ?_
      refine StoreAt.mk 0 _ _ rfl rfl ?_
      refine LoadAt.mk 1 _ _ rfl rfl ?_
      refine LoadAt.mk 0 _ _ rfl rfl ?_
      refine callR [] (acalls_eq (aNewFar s ⟨s.what, IntKind.i64.wrap (wordsL s.what s.w + 1), s.n, k⟩ who _ hf he (fun h => words_ne he h.1)) (far_tz hz1)) ?_
      refine callR [] (aWkNodeNil _) ?_
      refine callR [] (aWkStepNil _ _ _) ?_
      refine callR [] (aWkIdleNil _) ?_
      intro bl2
      refine callR [] (aWkStep0 _ _ rfl _ _ _) ?_
      refine LoadAt.mk 2 _ _ rfl rfl ?_
      refine callR [] (acalls_eq (aROf32 s k _ hf) (ref_tz he hz0)) ?_
      intro bl3
      refine StoreAt.mk 0 _ _ rfl rfl ?_
      refine bcond_split (fun c => absurd hz0.symm (by simpa using c)) (fun c => ?_)
      refine bcond_dec (p := z1 = 1) (fun c => ?_) (fun c => absurd hz1.symm c)
      exact .done rfl
    | false =>
      by_cases hw : 0 ≤ who ∧ who < k
      · refine LoadAt.mk 0 _ _ rfl rfl ?_
        refine callR [] (acalls_eq (aLayOf s k _ hf) (lay_tz he hz0)) ?_
        intro bl1
        refine StoreAt.mk 0 _ _ rfl rfl ?_
        refine bcond_split (fun c => absurd hz0.symm (by simpa using c)) (fun c => ?_)
        refine LoadAt.mk 1 _ _ rfl rfl ?_
        refine LoadAt.mk 0 _ _ rfl rfl ?_
        (refine .mk [] _ (aNewOkZ s ⟨s.what, wordsL s.what s.w, s.n, k⟩ who _ hf he (lay_ok he) hw.1 hw.2 hz0) ?_; rintro _ _ ⟨w, rfl, rfl⟩)
        refine callR [] (aWkNodeNil _) ?_
        refine callR [] (aWkStepNil _ _ _) ?_
        refine callR [] (aWkIdleNil _) ?_
        intro bl2
        refine callR [] (aWkStep0 _ _ rfl _ _ _) ?_
        refine LoadAt.mk 3 _ _ rfl rfl ?_
        refine callR [] (acalls_eq (aROf32 s k _ hf) (ref_tz he hz0)) ?_
        intro bl3
        refine StoreAt.mk 0 _ _ rfl rfl ?_
        refine bcond_split (fun c => absurd hz0.symm (by simpa using c)) (fun c => ?_)
        refine bcond_dec (p := who < 0) (fun c => absurd hw.1 (by omega)) (fun c => ?_)
        refine bcond_dec (p := k ≤ who) (fun c => absurd hw.2 (by omega)) (fun c => ?_)
        refine bcond_dec (p := z0 = 0) (fun c => ?_) (fun c => absurd hz0.symm c)
        refine LoadAt.mk 2 _ _ rfl rfl ?_
        refine callR [2] (aIdleW s ⟨s.what, wordsL s.what s.w, s.n, k⟩ who 0 0 false 0 .nilif 0 false [] [] w _) ?_
        exact .done rfl
      · refine LoadAt.mk 0 _ _ rfl rfl ?_
        refine callR [] (acalls_eq (aLayOf s k _ hf) (lay_tz he hz0)) ?_
        intro bl1
        refine StoreAt.mk 0 _ _ rfl rfl ?_
        refine bcond_split (fun c => absurd hz0.symm (by simpa using c)) (fun c => ?_)
        refine LoadAt.mk 1 _ _ rfl rfl ?_
        refine LoadAt.mk 0 _ _ rfl rfl ?_
        refine callR [] (acalls_eq (aNewFar s ⟨s.what, wordsL s.what s.w, s.n, k⟩ who _ hf he (fun h => hw h.2)) (far_tz hz1)) ?_
        refine callR [] (aWkNodeNil _) ?_
        refine callR [] (aWkStepNil _ _ _) ?_
        refine callR [] (aWkIdleNil _) ?_
        intro bl2
        refine callR [] (aWkStep0 _ _ rfl _ _ _) ?_
        refine LoadAt.mk 2 _ _ rfl rfl ?_
        refine callR [] (acalls_eq (aROf32 s k _ hf) (ref_tz he hz0)) ?_
        intro bl3
        refine StoreAt.mk 0 _ _ rfl rfl ?_
        refine bcond_split (fun c => absurd hz0.symm (by simpa using c)) (fun c => ?_)
        refine bcond_dec (fun c4 => ?_) (fun c4 => ?_)
        · have c4 : who < 0 := c4
          refine bcond_dec (p := z1 = 1) (fun c => ?_) (fun c => absurd hz1.symm c)
          exact .done rfl
        · have c4 : ¬ (who < 0) := c4
          refine bcond_dec (fun c5 => ?_) (fun c5 => ?_)
          · have c5 : k ≤ who := c5
            refine bcond_dec (p := z1 = 1) (fun c => ?_) (fun c => absurd hz1.symm c)
            exact .done rfl
          · have c5 : ¬ (k ≤ who) := c5
            refine bcond_dec (fun c6 => ?_) (fun c6 => ?_)
            · have c6 : z1 = 0 := c6
              exact absurd ⟨by omega, by omega⟩ hw
            · have c6 : ¬ (z1 = 0) := c6
              exact absurd ⟨by omega, by omega⟩ hw
  · have hB : ∀ (z : Int) (σ : Hp), ACalls Tryz.prog 15 [.agg (sysC s), .agg [.int .i64 s.what, .int .i64 z, .int .i64 s.n, .int .i64 k], .int .i64 who] σ (Ret (.tup [.nilp, .int .i64 (ofE s k)]) σ) := fun z σ => aNewBad s ⟨s.what, z, s.n, k⟩ who σ hf he
    cases other with
    | true =>
      refine LoadAt.mk 0 _ _ rfl rfl ?_
      refine callR [] (aLayOf s k _ hf) ?_
      intro bl1
      refine StoreAt.mk 0 _ _ rfl rfl ?_
      refine bcond_split (fun c => ?_) (fun c => absurd (by simpa using c) he)
      refine LoadAt.mk 1 _ _ rfl rfl ?_
      refine LoadAt.mk 1 _ _ rfl rfl ?_
      refine StoreAt.mk 0 _ _ rfl rfl ?_
      refine LoadAt.mk 0 _ _ rfl rfl ?_
      refine StoreAt.mk 0 _ _ rfl rfl ?_
      refine LoadAt.mk 1 _ _ rfl rfl ?_
      refine LoadAt.mk 0 _ _ rfl rfl ?_
      refine callR [] (hB _ _) ?_
      refine callR [] (aWkNodeNil _) ?_
      refine callR [] (aWkStepNil _ _ _) ?_
      refine callR [] (aWkIdleNil _) ?_
      intro bl2
      refine callR [] (aWkStep0 _ _ rfl _ _ _) ?_
      refine LoadAt.mk 2 _ _ rfl rfl ?_
      refine callR [] (aROf32 s k _ hf) ?_
      intro bl3
      refine StoreAt.mk 0 _ _ rfl rfl ?_
      refine bcond_split (fun c => ?_) (fun c => absurd (by simpa using c) he)
      refine bcond_split (fun c => ?_) (fun c => absurd c (by simp))
      exact .done rfl
    | false =>
      refine LoadAt.mk 0 _ _ rfl rfl ?_
      refine callR [] (aLayOf s k _ hf) ?_
      intro bl1
      refine StoreAt.mk 0 _ _ rfl rfl ?_
      refine bcond_split (fun c => ?_) (fun c => absurd (by simpa using c) he)
      refine LoadAt.mk 1 _ _ rfl rfl ?_
      refine LoadAt.mk 1 _ _ rfl rfl ?_
      refine StoreAt.mk 0 _ _ rfl rfl ?_
      refine LoadAt.mk 1 _ _ rfl rfl ?_
      refine LoadAt.mk 0 _ _ rfl rfl ?_
      refine callR [] (hB _ _) ?_
      refine callR [] (aWkNodeNil _) ?_
      refine callR [] (aWkStepNil _ _ _) ?_
      refine callR [] (aWkIdleNil _) ?_
      intro bl2
      refine callR [] (aWkStep0 _ _ rfl _ _ _) ?_
      refine LoadAt.mk 2 _ _ rfl rfl ?_
      refine callR [] (aROf32 s k _ hf) ?_
      intro bl3
      refine StoreAt.mk 0 _ _ rfl rfl ?_
      refine bcond_split (fun c => ?_) (fun c => absurd (by simpa using c) he)
      refine bcond_split (fun c => ?_) (fun c => absurd c (by simp))
      exact .done rfl
end Go.Proofs.YtegpahamenjiaaaGreat
