/-
  BoundTells.
-/
import Derived.Test.YtegpahamenjiaaaBd
import Derived.Test.YtegpahamenjiaaaYe
namespace Go.Proofs.Ytegpahamenjiaaa
open Go.RowKit
set_option maxRecDepth 100000
def exB : Sy := ⟨1, 1, 1, [], [], [0], [([0], [0], [], ())]⟩
theorem exB_chk : checkS exB = 0 := by decide +kernel
theorem exB_fit : Fit exB := ⟨one64 (by unfold W64; omega), by decide, by decide, by decide, by decide, fun t ht => by
  rw [List.mem_singleton.1 ht]; exact ⟨one64 (by unfold W64; omega), one64 (by unfold W64; omega), by decide, by decide, by decide⟩⟩
theorem exB_tells : AV.tup [.int .i64 (pickN exB 1 1), .int .i64 (pickE exB 1 1)] = AV.tup [.int .i64 40, .int .i64 0] := by
  rw [show pickN exB 1 1 = 40 by decide +kernel, show pickE exB 1 1 = 0 by decide +kernel]
theorem aAwake35 (σ : Hp) : ACalls Try.prog 4 [] σ (Ret (.bool true) σ) := by
  refine okF Try.func4 (by kernel_rfl) ?_
  intro bl1
  intro bl2
  intro bl3
  intro bl5
  intro bl6
  refine StoreAt.mk 0 _ _ rfl rfl ?_
  refine LoadAt.mk 0 _ _ rfl rfl ?_
  refine .frzc 3 bl2 0 1 1 _ (.int .u64) ([0] : List Int) rfl rfl ⟨rfl, rfl, by decide⟩ 1 0 bl5 _ rfl rfl ?_
  refine .frzc 2 bl3 0 1 1 _ (.int .u64) ([0] : List Int) rfl rfl ⟨rfl, rfl, by decide⟩ 1 1 bl5 _ rfl rfl ?_
  refine callNil 1 2 bl5 _ codeSh rfl rfl ?_
  refine .frz (args' := [.agg [.int .i64 1, .int .i64 1, .int .i64 1, .nils, .nils, .mref bl1 0 1 1, .fsl transSh exB.T], .int .i64 1, .int .i64 1]) 1 bl5 0 1 3 _ transSh exB.T rfl rfl ⟨rfl, rfl, by decide⟩ (frz_cons (frz_agg (frz_cons (.refl _) (frz_cons (.refl _) (frz_cons (.refl _) (frz_cons (.refl _) (frz_cons (.refl _) (frz_cons (.refl _) (frz_cons .here frz_nil))))))) rfl) (.refl _)) ?_
  refine .frz (args' := [.agg (sysC exB), .int .i64 1, .int .i64 1]) 1 bl1 0 1 1 _ (.int .u64) exB.init rfl rfl ⟨rfl, rfl, by decide⟩ (frz_cons (frz_agg (frz_cons (.refl _) (frz_cons (.refl _) (frz_cons (.refl _) (frz_cons (.nil edgeSh) (frz_cons (.nil (.int .i64)) (frz_cons .here (.refl _))))))) rfl) (.refl _)) ?_
  refine callR [] (acalls_eq (aPicks exB 1 1 _ exB_fit) exB_tells) ?_
  exact .drop 0 1 (.done ⟨rfl, rfl⟩)
theorem bt_a {s : Sy} {w k x : Int} (h : ¬ ofE s w = 0) : IntKind.i64.wrap (okI (ofE s w) x + pickN s w k) = 0 := by
  unfold okI pickN; rw [if_neg h, if_neg h]; decide
theorem bt_b {s : Sy} {w k : Int} (h : ¬ ofE s w = 0) : pickE s w k = ofE s w := by unfold pickE; rw [if_neg h]
theorem bt_e {s : Sy} {w x : Int} (h : ofE s w = 0) : okI (ofE s w) x = x := by unfold okI; rw [if_pos h]
theorem bt_f {s : Sy} {w k : Int} (h : ofE s w = 0) (hk : ¬ (1 ≤ k ∧ k ≤ 4096)) : pickE s w k = 1 := by unfold pickE; rw [if_pos h, if_neg hk]
theorem bt_g {s : Sy} {w k : Int} (h : ofE s w = 0) (hk : ¬ (1 ≤ k ∧ k ≤ 4096)) : pickN s w k = 0 := by unfold pickN; rw [if_pos h, if_neg hk]
theorem bt_h {s : Sy} {w k : Int} (h : ofE s w = 0) (hk : 1 ≤ k ∧ k ≤ 4096) : pickE s w k = 0 := by unfold pickE; rw [if_pos h, if_pos hk]
theorem bt_i {s : Sy} {w k : Int} (h : ofE s w = 0) (hk : 1 ≤ k ∧ k ≤ 4096) : pickN s w k = IntKind.i64.wrap (k * IntKind.i64.wrap (okI (ofE s w) (workS s w) + 12)) := by unfold pickN okI; rw [if_pos h, if_pos h, if_pos hk]
theorem boundTells_walk (s : Sy) (w k : Int) (hi : A64 s.init) (ht : ∀ t ∈ s.T, A64 t.1 ∧ A64 t.2.1) : ACalls Try.prog 3 [.agg (sysC s), .int .i64 w, .int .i64 k] [] (fun r _ => r = .bool true) := by
  refine okF Try.func3 (by kernel_rfl) ?_
  intro bl1
  refine callR [] (aAwake35 _) ?_
  refine LoadAt.mk 0 _ _ rfl rfl ?_
  refine callS [] (aSmall17 s _) (fun hsm => ?_) ?_
  rotate_left
  · exact .done rfl
  have hf := fit_of hsm hi ht
  refine LoadAt.mk 0 _ _ rfl rfl ?_
  refine callR [] (aBWork s w _ hf) ?_
  refine LoadAt.mk 0 _ _ rfl rfl ?_
  refine callR [] (aPicks s w k _ hf) ?_
  refine .quiet (by kernel_rfl) ?_
  refine LoadAt.mk 0 _ _ rfl rfl ?_
  refine callQ [] (aBEvals s _ hf) ?_
  refine LoadAt.mk 0 _ _ rfl rfl ?_
  refine callQ [] (aREvals35 s _ hf) ?_
  refine bcond_split (fun c => absurd c (by simp)) (fun c => ?_)
  refine LoadAt.mk 0 _ _ rfl rfl ?_
  refine callQ [] (aBJoins s _ hf) ?_
  refine LoadAt.mk 0 _ _ rfl rfl ?_
  refine callQ [] (aRJoins35 s _ hf) ?_
  refine bcond_split (fun c => absurd c (by simp)) (fun c => ?_)
  refine LoadAt.mk 0 _ _ rfl rfl ?_
  refine callR [] (aROf32 s w _ hf) ?_
  intro bl1
  refine StoreAt.mk 0 _ _ rfl rfl ?_
  refine bcond_split (fun c2 => ?_) (fun c2 => ?_)
  · have c2 : ¬ (ofE s w = 0) := by simpa using c2
    refine bcond_dec (fun c3 => ?_) (fun c3 => ?_)
    · have c3 : ofE s w = ofE s w := c3
      refine bcond_dec (fun c4 => ?_) (fun c4 => ?_)
      · have c4 : pickE s w k = ofE s w := c4
        refine bcond_dec (fun c5 => ?_) (fun c5 => ?_)
        · have c5 : IntKind.i64.wrap (okI (ofE s w) (workS s w) + pickN s w k) = 0 := c5
          exact .done rfl
        · have c5 : ¬ (IntKind.i64.wrap (okI (ofE s w) (workS s w) + pickN s w k) = 0) := c5
          exact absurd (bt_a (by assumption)) (by assumption)
      · have c4 : ¬ (pickE s w k = ofE s w) := c4
        exact absurd (bt_b (by assumption)) (by assumption)
    · have c3 : ¬ (ofE s w = ofE s w) := c3
      contradiction
  · have c2 : ofE s w = 0 := by simpa using c2
    refine bcond_split (fun c6 => ?_) (fun c6 => ?_)
    · have c6 : ¬ (ofE s w = 0) := by simpa using c6
      contradiction
    · have c6 : ofE s w = 0 := by simpa using c6
      refine LoadAt.mk 1 _ _ rfl rfl ?_
      refine callR [] (aRWork35 s w _ hf) ?_
      refine bcond_split (fun c7 => ?_) (fun c7 => ?_)
      · have c7 : ¬ (okI (ofE s w) (workS s w) = workS s w) := by simpa using c7
        exact absurd (bt_e (by assumption)) (by assumption)
      · have c7 : okI (ofE s w) (workS s w) = workS s w := by simpa using c7
        refine bcond_dec (fun c8 => ?_) (fun c8 => ?_)
        · have c8 : k < 1 := c8
          refine bcond_dec (fun c9 => ?_) (fun c9 => ?_)
          · have c9 : pickE s w k = 1 := c9
            refine bcond_dec (fun c10 => ?_) (fun c10 => ?_)
            · have c10 : pickN s w k = 0 := c10
              exact .done rfl
            · have c10 : ¬ (pickN s w k = 0) := c10
              exact absurd (bt_g (s := s) (w := w) (k := k) (by assumption) (by omega)) (by assumption)
          · have c9 : ¬ (pickE s w k = 1) := c9
            exact absurd (bt_f (s := s) (w := w) (k := k) (by assumption) (by omega)) (by assumption)
        · have c8 : ¬ (k < 1) := c8
          refine bcond_dec (fun c11 => ?_) (fun c11 => ?_)
          · have c11 : 4096 < k := c11
            refine bcond_dec (fun c12 => ?_) (fun c12 => ?_)
            · have c12 : pickE s w k = 1 := c12
              refine bcond_dec (fun c13 => ?_) (fun c13 => ?_)
              · have c13 : pickN s w k = 0 := c13
                exact .done rfl
              · have c13 : ¬ (pickN s w k = 0) := c13
                exact absurd (bt_g (s := s) (w := w) (k := k) (by assumption) (by omega)) (by assumption)
            · have c12 : ¬ (pickE s w k = 1) := c12
              exact absurd (bt_f (s := s) (w := w) (k := k) (by assumption) (by omega)) (by assumption)
          · have c11 : ¬ (4096 < k) := c11
            refine bcond_dec (fun c14 => ?_) (fun c14 => ?_)
            · have c14 : pickE s w k = 0 := c14
              refine bcond_dec (fun c15 => ?_) (fun c15 => ?_)
              · have c15 : pickN s w k = IntKind.i64.wrap (k * IntKind.i64.wrap (okI (ofE s w) (workS s w) + 12)) := c15
                exact .done rfl
              · have c15 : ¬ (pickN s w k = IntKind.i64.wrap (k * IntKind.i64.wrap (okI (ofE s w) (workS s w) + 12))) := c15
                exact absurd (bt_i (s := s) (w := w) (k := k) (by assumption) (by omega)) (by assumption)
            · have c14 : ¬ (pickE s w k = 0) := c14
              exact absurd (bt_h (s := s) (w := w) (k := k) (by assumption) (by omega)) (by assumption)
end Go.Proofs.Ytegpahamenjiaaa
