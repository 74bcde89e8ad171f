/-
  Dqf; SchW: what the claim uses of them.
-/
import Derived.Test.YtacacplipaeokaaBn13
import Derived.Test.YtacacplipaeokaaBn29
import Derived.Test.YtacacplipaeokaaBn28
import Derived.Test.YtacacplipaeokaaBn33
import Derived.Test.YtacacplipaeokaaBn19
import Derived.Test.YtacacplipaeokaaBn25
namespace Go.Proofs.Ytacacplipaeokaa
open Go.RowKit
set_option maxRecDepth 100000
set_option maxHeartbeats 4000000
theorem mPush_ : Meth Try.prog 166 "Step" 110 := fun a w => by kernel_rfl
theorem mPop_ : Meth Try.prog 168 "Step" 111 := fun a w => by kernel_rfl
theorem mSteal_ : Meth Try.prog 161 "Step" 109 := fun a w => by kernel_rfl
end Go.Proofs.Ytacacplipaeokaa
namespace Go.Proofs.Ytacacplipaeokaa
open Go.RowKit
set_option maxRecDepth 100000
set_option maxHeartbeats 4000000
theorem zip_set {α β : Type} (rs : List α) (L : List β) (i : Nat) (x : β) (h : i < rs.length) : rs.zip (L.set i x) = (rs.zip L).set i (rs[i], x) := by
  refine List.ext_getElem (by simp) fun k h1 h2 => ?_
  rw [List.getElem_set]
  simp only [List.getElem_zip, List.getElem_set]
  split
  · rename_i he; subst he; rfl
  · rfl
end Go.Proofs.Ytacacplipaeokaa
