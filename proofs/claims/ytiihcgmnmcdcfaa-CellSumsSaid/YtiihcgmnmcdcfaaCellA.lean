/-
  soughlaw30: awake; the walk of CellReads.
-/
import Derived.Test.YtiihcgmnmcdcfaaCellR
import Derived.Test.YtiihcgmnmcdcfaaTplays
import Derived.Test.YtiihcgmnmcdcfaaSameTest
namespace Go.Proofs.Ytiihcgmnmcdcfaa
open Go.RowKit
set_option maxRecDepth 100000
set_option maxHeartbeats 4000000
/-- A Join's Step over a Plain. -/
theorem aJoinP (p q r : Nat) (j : Jn) (ws : List Int) (d : Int) (σ : Hp) (hat : j.at_ ≤ 2000) {j' : Jn} {ws' : List Int} {b : Bool} (h : jnStep listOps j ws = (j', ws', b)) : ACalls Try.prog 90 [.ptr r 0, plI p, .int .i64 d] ((r, jnC j) :: plH p q ws σ) (Ret (.bool b) ((r, jnC j') :: plH p q ws' σ)) :=
  ofMPost (aJoin (plainM p q) r j ws d σ trivial hat) h
theorem awake30a : ACalls Try.prog 40 [] [] (Ret (.bool true) []) := by
  have s1 : jnStep listOps ⟨0, 1, 1, [1], false, false, 0, 0, false, 0⟩ [2] = (⟨0, 1, 1, [1], false, false, 0, 0, true, 2⟩, [2], false) := by kernel_rfl
  have s2 : jnStep listOps ⟨0, 1, 1, [1], false, false, 0, 0, true, 2⟩ [2] = (⟨0, 1, 1, [1], true, true, 0, 1, false, 2⟩, [3], true) := by kernel_rfl
  refine okF Try.func40 (by kernel_rfl) ?_
  refine .mk [] _ (aNew 1 []) ?_
  rintro _ _ ⟨p, q, rfl, rfl⟩
  intro bl1
  refine StoreAt.mk 0 _ _ rfl rfl ?_
  refine LoadAt.mk 0 _ _ rfl rfl ?_
  intro bl2
  refine .frz 0 _ 0 1 1 _ (.int .u64) ([2] : List Int) rfl rfl ⟨rfl, rfl, by decide⟩ (frz_cons (.refl _) (frz_cons (.refl _) (frz_cons .here frz_nil))) ?_
  refine callR [2, 2] (aPut p q [0] 0 1 1 [2] _) ?_
  refine LoadAt.mk 2 _ _ rfl rfl ?_
  intro bl1
  intro bl2
  refine .frzc 1 _ 0 1 1 _ (.int .u64) ([1] : List Int) rfl rfl ⟨rfl, rfl, by decide⟩ 0 3 _ _ rfl rfl ?_
  refine callR [] (aJoinP p q bl2 _ _ 0 _ (by decide) s1) ?_
  refine callR [] (aJoinP p q bl2 _ _ 0 _ (by decide) s2) ?_
  refine LoadAt.mk 0 _ _ rfl rfl ?_
  refine LoadAt.mk 3 _ _ rfl rfl ?_
  refine callR [2, 2] (aGet p q _ _ _ _ _) ?_
  refine With.mk rfl ?_
  refine IdxF.mk (3 : Int) (by decide) rfl ?_
  exact .drop 0 20 (.done ⟨rfl, rfl⟩)

theorem same10n (σ : Hp) : ACalls Try.prog 20 [.nils, .fsl (.int .u64) []] σ (Ret (.bool true) σ) := by
  refine okF Try.func20 (by kernel_rfl) ?_
  refine loopS (S := Unit) (fun _ => [(0, .nils), (1, .fsl (.int .u64) []), (12, .int .i64 0), (13, .int .i64 0)]) (fun _ => σ) (fun _ => True) (fun _ => 0) () ⟨trivial, ⟨rfl, rfl, rfl, rfl, trivial⟩, rfl⟩ ?_
  intro _ g _
  exact .done ⟨rfl, rfl⟩
end Go.Proofs.Ytiihcgmnmcdcfaa
