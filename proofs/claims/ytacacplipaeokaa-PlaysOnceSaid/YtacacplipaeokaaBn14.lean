/-
  Lat: what the claim uses of them.
-/
import Derived.Test.YtacacplipaeokaaBn13
namespace Go.Proofs.Ytacacplipaeokaa
open Go.RowKit
set_option maxRecDepth 100000
/-- A row of words, in cells. -/
def woC (ws : List Int) : List AV := ws.map (.int .u64)
theorem rep_woC (n : Nat) : repC [.int .u64 0] n = woC (List.replicate n 0) := by
  unfold woC
  induction n with
  | zero => rfl
  | succ n ih => simp [repC, ih, List.replicate_succ]
theorem woC_flat : ∀ (ws : List Int), woC ws = ws.flatMap (Sh.cells (.int .u64))
  | [] => rfl
  | z :: ws => congrArg (AV.int .u64 z :: ·) (woC_flat ws)
/-- A word that is a number's. -/
def numOk (w : Int) : Bool := decide (w % 4 = 2) && decide (0 ≤ w ∧ w < 17179869184)
/-- The word that counts. -/
def normW (w : Int) : Int := if w = 0 then 0 else if w = 1 then 1 else if numOk w then w else 1
/-- What is less known of two words. -/
def joinW (a b : Int) : Int := if normW a = normW b ∨ normW b = 0 then normW a else if normW a = 0 then normW b else 1
/-- Two words put together. -/
def wordW (what a b : Int) : Int := if what = 1 then bits .or .u64 a b else if what = 2 then bits .and .u64 a b else if what = 3 then joinW a b else 0
/-- A list's word; 0: there is none. -/
def wd (a : List Int) (i : Nat) : Int := (a[i]?).getD 0
def W64 (z : Int) : Prop := 0 ≤ z ∧ z < 18446744073709551616
def A64 (l : List Int) : Prop := ∀ z ∈ l, W64 z
end Go.Proofs.Ytacacplipaeokaa
