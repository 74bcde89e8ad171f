/-
  Tmove: what the claim uses of them.
-/
import Derived.Test.YtegpahamenjiaaaGreatBn42
namespace Go.Proofs.YtegpahamenjiaaaGreat
open Go.RowKit
set_option maxRecDepth 100000
theorem ofRtPost {r m q : Nat} {t t' : RT} {ws ws' : List Int} (σ : Hp) (e : rtStep t ws = (t', ws')) : ACalls Tryz.prog 105 [.ptr r 0, .ptr m 0] ((r, rtC t) :: reH m q ws σ) (Ret (.bool t'.ended) ((r, rtC t') :: reH m q ws' σ)) := by
  refine (aRtStep r m q t ws σ).mono fun x σ' h => ?_
  unfold RtPost at h
  rw [e] at h
  exact h
/-- An op of the law: the program's machine, and the reference's. -/
inductive OT where
  | tk (r rr : Nat) (t : Tk) (u : RT)
  | ck (r rr : Nat) (t : Ck) (u : RT)
  | rk (r rr : Nat) (t : Rk) (u : RT)
  | qk (r rr : Nat) (t : Qk) (u : RT)
def OT.val : OT → List AV
  | .tk r rr _ _ => [.ptr r 0, .nilp, .nilp, .nilp, .ptr rr 0]
  | .ck r rr _ _ => [.nilp, .ptr r 0, .nilp, .nilp, .ptr rr 0]
  | .rk r rr _ _ => [.nilp, .nilp, .ptr r 0, .nilp, .ptr rr 0]
  | .qk r rr _ _ => [.nilp, .nilp, .nilp, .ptr r 0, .ptr rr 0]
def OT.blk : OT → Hp
  | .tk r rr t u => [(r, tkC t), (rr, rtC u)]
  | .ck r rr t u => [(r, ckC t), (rr, rtC u)]
  | .rk r rr t u => [(r, rkC t), (rr, rtC u)]
  | .qk r rr t u => [(r, qkC t), (rr, rtC u)]
def OT.ok : OT → Prop
  | .tk _ _ t u => u.kind = 1 ∧ u.v = t.v ∧ u.f = t.f ∧ u.c = t.c ∧ u.new = t.new ∧ u.ended = t.ended ∧ (t.ended = false → u.at_ = (if t.did then 1 else 0) ∧ (t.did = false → t.new = false))
  | .ck _ _ t u => u.kind = 2 ∧ u.v = t.v ∧ u.f = t.f ∧ u.ended = t.ended
  | .rk _ _ t u => u.kind = 3 ∧ u.c = t.c ∧ u.left = t.left ∧ u.ended = t.ended
  | .qk _ _ t u => (u.kind ≠ 1 ∧ u.kind ≠ 2 ∧ u.kind ≠ 3) ∧ u.c = t.c ∧ u.is = t.is ∧ u.ended = t.ended
theorem wr_one : wr 1 = 1 ∧ wr 2 = 2 := by decide
end Go.Proofs.YtegpahamenjiaaaGreat
