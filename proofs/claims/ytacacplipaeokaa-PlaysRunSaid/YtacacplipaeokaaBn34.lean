/-
  Dqf: what the claim uses of them.
-/
import Derived.Test.YtacacplipaeokaaBn13
import Derived.Test.YtacacplipaeokaaBn31
import Derived.Test.YtacacplipaeokaaBn32
import Derived.Test.YtacacplipaeokaaBn33
import Derived.Test.YtacacplipaeokaaBn20
namespace Go.Proofs.Ytacacplipaeokaa
open Go.RowKit
set_option maxRecDepth 100000
set_option maxHeartbeats 4000000
theorem mPush_ : Meth Try.prog 166 "Step" 110 := fun a w => by kernel_rfl
theorem mPop_ : Meth Try.prog 168 "Step" 111 := fun a w => by kernel_rfl
theorem mSteal_ : Meth Try.prog 161 "Step" 109 := fun a w => by kernel_rfl
end Go.Proofs.Ytacacplipaeokaa
