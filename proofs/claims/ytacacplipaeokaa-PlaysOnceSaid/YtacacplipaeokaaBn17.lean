/-
  Tk: what the claim uses of them.
-/
import Derived.Test.YtacacplipaeokaaBn16
namespace Go.Proofs.Ytacacplipaeokaa
open Go.RowKit
set_option maxRecDepth 100000
abbrev wr (n : Int) : Int := IntKind.i64.wrap n
/-- A Take. -/
structure Tk where
  f : Int
  c : Int
  v : Int
  new : Bool
  ended : Bool
  did : Bool
/-- A machine's Step, over a memory. -/
def MPost (M : AMem) (σ : Hp) {X : Type} (B : X → List AV) (r : Nat) (res : X × M.O.A × Bool) : AV → Hp → Prop :=
  fun x σ' => ∃ m', M.abs m' = res.2.1 ∧ x = .bool res.2.2 ∧ σ' = (r, B res.1) :: (M.B m' ++ σ)
theorem mPost {M : AMem} {σ : Hp} {X : Type} {B : X → List AV} {r : Nat} {res : X × M.O.A × Bool} {x : X} {a : M.O.A} {b : Bool} {m' : M.S} (h : res = (x, a, b)) (hm : M.abs m' = a) : MPost M σ B r res (.bool b) ((r, B x) :: (M.B m' ++ σ)) := by
  subst h
  exact ⟨m', hm, rfl, rfl⟩
/-- A Clear. -/
structure Ck where
  f : Int
  c : Int
  v : Int
  ended : Bool
/-- A Retire. -/
structure Rk where
  f : Int
  c : Int
  left : Int
  ended : Bool
/-- A Quiet. -/
structure Qk where
  f : Int
  c : Int
  is : Bool
  ended : Bool
end Go.Proofs.Ytacacplipaeokaa
