/-
  soughref07.In.
-/
import Derived.Test.YtegpahamenjiaaaAids
namespace Go.Proofs.Ytegpahamenjiaaa
open Go.RowKit
set_option maxRecDepth 100000
end Go.Proofs.Ytegpahamenjiaaa
