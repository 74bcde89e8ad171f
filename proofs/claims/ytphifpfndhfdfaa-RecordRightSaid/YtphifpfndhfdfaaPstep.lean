/-
  (*step.Prog).Step over any memory, by the abstract walk.
-/
import Derived.Test.YtphifpfndhfdfaaPs
namespace Go.Proofs.Ytphifpfndhfdfaa
open Go.RowKit
set_option maxRecDepth 100000
theorem nextPut (l : List Ins) (s : PS) (h : -9223372036854775808 ≤ s.at_ + 1 ∧ s.at_ + 1 ≤ 9223372036854775807) : writeAs ⟨.int .i64, 1, 8, [.int .i64 0]⟩ (pgC l s) (0 + 5) (.int .i64 (IntKind.i64.wrap (s.at_ + 1))) = some (pgC l s.next) := by
  rw [show IntKind.i64.wrap (s.at_ + 1) = s.at_ + 1 by rw [IntKind.wrap_i64]; omega]
  rfl
theorem and3n (R : Int) : IntKind.i64.wrap (R + 1) % 4 = (R % 4 + 1) % 4 := by rw [IntKind.wrap_i64]; omega
theorem PS.set_set (s : PS) (k x y : Int) : (s.set k x).set k y = s.set k y := by
  unfold PS.set
  split
  · rfl
  · split
    · rfl
    · split <;> rfl
/-- What a Step leads to. -/
def StepPost (M : AMem) (r : Nat) (l : List Ins) (s : PS) (m : M.S) (d : Int) (σ : Hp) : AV → Hp → Prop :=
  fun x σ' => ∃ m', M.abs m' = (psStep M.O l s (M.abs m) d).2.1 ∧ x = .bool (psStep M.O l s (M.abs m) d).2.2 ∧ σ' = (r, pgC l (psStep M.O l s (M.abs m) d).1) :: (M.B m' ++ σ)
theorem stepPost {M : AMem} {r : Nat} {l : List Ins} {s : PS} {m m' : M.S} {d : Int} {σ : Hp} {X : PS} {Y : M.O.A} {i : Ins} (h0 : psDone l s.at_ = false) (h1 : l[s.at_.toNat]? = some i) (h : psDo M.O i s (M.abs m) d = (X, Y)) (hm : M.abs m' = Y) : StepPost M r l s m d σ (.bool (psDone l X.at_)) ((r, pgC l X) :: (M.B m' ++ σ)) := by
  have e : psStep M.O l s (M.abs m) d = (X, Y, psDone l X.at_) := by simp [psStep, h0, insAt, h1, h]
  exact ⟨m', by rw [e]; exact hm, by rw [e], by rw [e]⟩
theorem stepPostF {M : AMem} {r : Nat} {l : List Ins} {s : PS} {m m' : M.S} {d : Int} {σ : Hp} {X : PS} {Y : M.O.A} {i : Ins} (h0 : psDone l s.at_ = false) (h1 : l[s.at_.toNat]? = some i) (h : psDo M.O i s (M.abs m) d = (X, Y)) (hm : M.abs m' = Y) : Fin (StepPost M r l s m d σ) (.bool (psDone l X.at_)) ((r, pgC l X) :: (M.B m' ++ σ)) := .done (stepPost h0 h1 h hm)
theorem aOrNil (σ : Hp) : ACalls Try.prog 35 [.nilif] σ (fun r σ' => ∃ p q, r = plI p ∧ σ' = (p, plC q 0) :: (q, woC []) :: σ) := by
  refine okF Try.func35 (by kernel_rfl) ?_
  refine .mk [] _ (aNew 0 σ) ?_
  rintro _ _ ⟨p, q, rfl, rfl⟩
  exact .done ⟨p, q, rfl, rfl⟩
/-- What a Step over no memory leads to. -/
def NilPost (r : Nat) (l : List Ins) (σ : Hp) : AV → Hp → Prop :=
  fun x σ' => ∃ s' : PS, x = .bool (psDone l s'.at_) ∧ σ' = (r, pgC l s') :: σ
theorem nilPost {r p q : Nat} {l : List Ins} {s : PS} {m' : List Int} {d : Int} {σ : Hp} {X : PS} {Y : List Int} {i : Ins} (_ : psDone l s.at_ = false) (_ : l[s.at_.toNat]? = some i) (_ : psDo (plainM p q).O i s ((plainM p q).abs ([] : List Int)) d = (X, Y)) (_ : (plainM p q).abs m' = Y) : Fin (NilPost r l σ) (.bool (psDone l X.at_)) ((r, pgC l X) :: ((plainM p q).B m' ++ σ)) :=
  .drop 1 2 (.done ⟨X, rfl, rfl⟩)
/-! ### Of nobody, or of nothing -/
/-- A machine that nobody gave instructions. -/
def bareC : List AV := [.nils, .int .u64 0, .int .u64 0, .int .u64 0, .int .u64 0, .int .i64 0]
end Go.Proofs.Ytphifpfndhfdfaa
