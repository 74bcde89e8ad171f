/-
  Cell: what the claim uses of them.
-/
import Derived.Test.YtacacplipaeokaaBn14
import Derived.Test.YtacacplipaeokaaBn17
namespace Go.Proofs.Ytacacplipaeokaa
open Go.RowKit
set_option maxRecDepth 100000
set_option maxHeartbeats 4000000
/-- How many words there are. -/
def cw (n : Int) : Nat := (min (max n 0) 1024).toNat
/-- A Join. -/
structure Jn where
  base : Int
  what : Int
  words : Int
  a : List Int
  changed : Bool
  ended : Bool
  tries : Int
  at_ : Nat
  loaded : Bool
  x : Int
/-- A list's variable in a block: nil, or a list that was made. -/
inductive L64 : AV → Hp → List Int → Prop where
  | nil : L64 .nils [] []
  | mref (b : Nat) (l : List Int) : L64 (.mref b 0 l.length 1) [(b, woC l)] l
theorem L64.push (b : Nat) (l : List Int) (x : Int) : L64 (.mref b 0 (l.length + 1) 1) [(b, (woC l).take (l.length * 1) ++ [.int .u64 x])] (l ++ [x]) := by
  have h := L64.mref b (l ++ [x])
  have e1 : (l ++ [x]).length = l.length + 1 := by simp
  have e2 : woC (l ++ [x]) = (woC l).take (l.length * 1) ++ [.int .u64 x] := by rw [List.take_of_length_le (by simp [woC])]; simp [woC]
  rw [e1, e2] at h
  exact h
end Go.Proofs.Ytacacplipaeokaa
