/-
  What an argument opens to, for the walks: a slice of numbers.
-/
import Derived.Test.YtldiocdjgbehcaaBase
import Derived.Lib.SmallJoins
import Derived.Carry
namespace Go.Proofs.Ytldiocdjgbehcaa
open Go.ChangeShapes Go.WideShapes Go.ChangeAt Go.RowKit
theorem wf_all {k : IntKind} {zs : List Int} {n : Nat} (h : ∀ x ∈ zs, (Lit.int k x).wf = true) : ∀ x ∈ zs.take n, (Lit.int k x).wf = true := fun x hx => h x (List.mem_of_mem_take hx)
end Go.Proofs.Ytldiocdjgbehcaa
