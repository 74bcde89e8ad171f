/-
  Lk: what the claim uses of them.
-/
import Derived.Test.YtacacplipaeokaaBn13
import Derived.Test.YtacacplipaeokaaBn46
namespace Go.Proofs.Ytacacplipaeokaa
open Go.RowKit
set_option maxRecDepth 100000
set_option maxHeartbeats 4000000
theorem FitsP.two {ops : List OpR} {R : Int} {ord : List Int} (h : FitsP ops R ord) {k : Nat} (hk : k < ord.length) : (0 ≤ ord[k] ∧ ord[k] < ops.length) ∧ ∀ z ∈ ord.take k, ord[k] ≠ z ∧ aheadP (opAt ops ord[k]) (opAt ops z) = false ∧ 0 ≤ z ∧ z < ops.length := by
  have e : ord = ord.take k ++ ord[k] :: ord.drop (k + 1) := by simp
  have hnd := h.nodup
  have hpw := h.pairs
  rw [e] at hnd hpw
  have hnd := List.nodup_append.1 hnd
  have hpw := List.pairwise_append.1 hpw
  refine ⟨h.inn _ (List.getElem_mem hk), fun z hz => ⟨fun hm => hnd.2.2 z hz _ (List.mem_cons_self ..) hm.symm, hpw.2.2 z hz _ (List.mem_cons_self ..), h.inn _ (List.mem_of_mem_take hz)⟩⟩
end Go.Proofs.Ytacacplipaeokaa
