/-
  Log: what the claim uses of them.
-/
import Derived.Test.YtacacplipaeokaaBn16
namespace Go.Proofs.Ytacacplipaeokaa
open Go.RowKit
set_option maxRecDepth 100000
/-- An event. -/
structure Ev where
  kind : Int
  at_ : Int
  a : Int
  b : Int
  got : Int
  ok : Bool
deriving DecidableEq
/-- The events' data. -/
abbrev EvT : Type := Int × Int × Int × Int × Int × Bool × Unit
def Ev.d (e : Ev) : EvT := (e.kind, e.at_, e.a, e.b, e.got, e.ok, ())
section
variable (M : AMem) (r : Nat)
end
section
variable (M : AMem) (r : Nat)
end
end Go.Proofs.Ytacacplipaeokaa
