/-
  Rtk: what the claim uses of them.
-/
import Derived.Test.YtacacplipaeokaaBn13
import Derived.Test.YtacacplipaeokaaBn20
import Derived.Test.YtacacplipaeokaaBn17
namespace Go.Proofs.Ytacacplipaeokaa
open Go.RowKit
set_option maxRecDepth 100000
theorem aRLoad (m q : Nat) (ws : List Int) (a : Int) (σ : Hp) : ACalls Try.prog 68 [.ptr m 0, .int .i64 a] (reH m q ws σ) (Ret (.int .u64 (mLoad ws a)) (reH m q ws σ)) := by
  refine okF Try.func68 (by kernel_rfl) ?_
  refine callR [] (aDo m q ws 1 a 0 0 σ) ?_
  exact .done ⟨rfl, rfl⟩
theorem aRStore (m q : Nat) (ws : List Int) (a x : Int) (σ : Hp) : ACalls Try.prog 44 [.ptr m 0, .int .i64 a, .int .u64 x] (reH m q ws σ) (Ret (.tup []) (reH m q (mStore ws a x) σ)) := by
  refine okF Try.func44 (by kernel_rfl) ?_
  refine callR [] (aDo m q ws 2 a x 0 σ) ?_
  exact .done ⟨rfl, rfl⟩
/-- The reference's machine at the board. -/
structure RT where
  kind : Int
  v : Int
  f : Int
  c : Int
  at_ : Int
  new : Bool
  ended : Bool
  is : Bool
  left : Int
end Go.Proofs.Ytacacplipaeokaa
