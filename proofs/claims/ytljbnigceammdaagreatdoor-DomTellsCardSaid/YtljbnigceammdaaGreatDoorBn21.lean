/-
  L12: what the claim uses of them.
-/
import Derived.Test.YtljbnigceammdaaGreatDoorBn15
import Derived.Test.YtljbnigceammdaaGreatDoorBn17
namespace Go.Proofs.YtljbnigceammdaaGreatDoor
open Go.RowKit
set_option maxRecDepth 100000
def is12 (what width : Int) : Bool := decide (1 ≤ what) && decide (what ≤ 3) && decide (0 ≤ width) && decide (width ≤ 1024)
/-- Values put together. -/
def join12 (what : Int) (xs ys : List Int) : List Int := List.zipWith (wordW what) xs ys
theorem join12_length (what : Int) (xs ys : List Int) (h : xs.length = ys.length) : (join12 what xs ys).length = xs.length := by simp [join12, h]
end Go.Proofs.YtljbnigceammdaaGreatDoor
