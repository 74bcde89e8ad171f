/-
  La: what the claim uses of them.
-/
import Derived.Test.YtacacplipaeokaaBn31
import Derived.Test.YtacacplipaeokaaBn43
namespace Go.Proofs.Ytacacplipaeokaa
open Go.RowKit
set_option maxRecDepth 100000
set_option maxHeartbeats 4000000
/-- What do hands back: a list, open still, and whether it could be done. -/
def DoR (R : Int) (l : List Int) (o : OpR) (σ : Hp) : AV → Hp → Prop := fun x σ' => ∃ v acc, x = .tup [v, .bool (doP R l o).2] ∧ AccO 1 (doP R l o).1.length v acc (inC (doP R l o).1) ∧ σ' = acc ++ σ
theorem w64 {x : Int} (h1 : -1000000000 ≤ x) (h2 : x ≤ 1000000000) : IntKind.i64.wrap x = x := by
  rw [IntKind.wrap_i64]; omega
theorem DoR.put {R : Int} {l l' : List Int} {o : OpR} {σ acc : Hp} {p : Bool} {v : AV} (e : doP R l o = (l', p)) (h : AccO 1 l'.length v acc (inC l')) : DoR R l o σ (.tup [v, .bool p]) (acc ++ σ) := ⟨v, acc, by rw [e], by rw [e]; exact h, rfl⟩
end Go.Proofs.Ytacacplipaeokaa
