/-
  Goto: what the claim uses of them.
-/
import Derived.WalkMore
import Derived.Test.YtacacplipaeokaaBn1
namespace Go.Proofs.Ytacacplipaeokaa
/-- As Q; by a goto: what stands behind the label, with one jump fewer to come. -/
def fwd (P : Program) (c : Code) (Q : Exit → Act → World → Prop) : Nat → Exit → Act → World → Prop
  | n + 1, .goto l, a, w => ∃ rest, findLabel c l = some rest ∧ rest.wp P (fwd P c Q n) a w
  | 0, .goto _, _, _ => False
  | _, e, a, w => Q e a w
section
variable {P : Program} {c : Code} {a : Act} {w : World} {Q : Exit → Act → World → Prop} {n : Nat}
theorem fwd_normal : fwd P c Q n .normal a w = Q .normal a w := by cases n <;> rfl
theorem fwd_exit (id : Nat) : fwd P c Q n (.exit id) a w = Q (.exit id) a w := by cases n <;> rfl
theorem fwd_ret : fwd P c Q n .ret a w = Q .ret a w := by cases n <;> rfl
theorem fwd_panic (ch : List PanicEntry) : fwd P c Q n (.panic ch) a w = Q (.panic ch) a w := by cases n <;> rfl
attribute [go_sem] fwd_normal fwd_exit fwd_ret fwd_panic
end
end Go.Proofs.Ytacacplipaeokaa
