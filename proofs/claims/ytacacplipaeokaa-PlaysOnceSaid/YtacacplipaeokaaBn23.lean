/-
  Tmove: what the claim uses of them.
-/
import Derived.Test.YtacacplipaeokaaBn19
namespace Go.Proofs.Ytacacplipaeokaa
open Go.RowKit
set_option maxRecDepth 100000
theorem ofMPost {p q r : Nat} {f : FuncId} {xs : List AV} {σ : Hp} {X : Type} {B : X → List AV} {x x' : X} {ws ws' : List Int} {b : Bool} {res : X × List Int × Bool} (h : ACalls Try.prog f xs ((r, B x) :: ((plainM p q).B ws ++ σ)) (MPost (plainM p q) σ B r res)) (e : res = (x', ws', b)) : ACalls Try.prog f xs ((r, B x) :: plH p q ws σ) (Ret (.bool b) ((r, B x') :: plH p q ws' σ)) :=
  h.mono fun _ _ ⟨m', h1, h2, h3⟩ => by
    subst e
    have h1 : m' = ws' := h1
    subst h1
    exact ⟨h2, h3⟩
/-- An op of the law: the program's machine, and the reference's. -/
inductive OT where
  | tk (r rr : Nat) (t : Tk) (u : RT)
  | ck (r rr : Nat) (t : Ck) (u : RT)
  | rk (r rr : Nat) (t : Rk) (u : RT)
  | qk (r rr : Nat) (t : Qk) (u : RT)
def OT.val : OT → List AV
  | .tk r rr _ _ => [.ptr r 0, .nilp, .nilp, .nilp, .ptr rr 0]
  | .ck r rr _ _ => [.nilp, .ptr r 0, .nilp, .nilp, .ptr rr 0]
  | .rk r rr _ _ => [.nilp, .nilp, .ptr r 0, .nilp, .ptr rr 0]
  | .qk r rr _ _ => [.nilp, .nilp, .nilp, .ptr r 0, .ptr rr 0]
def OT.ok : OT → Prop
  | .tk _ _ t u => u.kind = 1 ∧ u.v = t.v ∧ u.f = t.f ∧ u.c = t.c ∧ u.new = t.new ∧ u.ended = t.ended ∧ (t.ended = false → u.at_ = (if t.did then 1 else 0) ∧ (t.did = false → t.new = false))
  | .ck _ _ t u => u.kind = 2 ∧ u.v = t.v ∧ u.f = t.f ∧ u.ended = t.ended
  | .rk _ _ t u => u.kind = 3 ∧ u.c = t.c ∧ u.left = t.left ∧ u.ended = t.ended
  | .qk _ _ t u => (u.kind ≠ 1 ∧ u.kind ≠ 2 ∧ u.kind ≠ 3) ∧ u.c = t.c ∧ u.is = t.is ∧ u.ended = t.ended
end Go.Proofs.Ytacacplipaeokaa
