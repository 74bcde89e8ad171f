/-
  Ld: what the claim uses of them.
-/
import Derived.Test.YtacacplipaeokaaBn45
namespace Go.Proofs.Ytacacplipaeokaa
open Go.RowKit
set_option maxRecDepth 100000
set_option maxHeartbeats 4000000
/-- So far an order fits. -/
structure PreF (ops : List OpR) (R : Int) (p now : List Int) : Prop where
  inn : ∀ i ∈ p, 0 ≤ i ∧ i < ops.length
  nodup : p.Nodup
  rep : replayP R ops [] p = some now
  pairs : p.Pairwise fun y z => aheadP (opAt ops z) (opAt ops y) = false
theorem PreF.none {ops : List OpR} {R : Int} : PreF ops R [] [] := ⟨fun _ h => absurd h (by simp), List.nodup_nil, rfl, List.Pairwise.nil⟩
theorem PreF.snoc {ops : List OpR} {R o : Int} {p now : List Int} (h : PreF ops R p now) (h1 : 0 ≤ o ∧ o < ops.length) (h2 : o ∉ p) (h3 : (doP R now (opAt ops o)).2 = true) (h4 : ∀ y ∈ p, aheadP (opAt ops o) (opAt ops y) = false) : PreF ops R (p ++ [o]) (doP R now (opAt ops o)).1 := by
  refine ⟨fun i hi => ?_, ?_, ?_, ?_⟩
  · rcases List.mem_append.1 hi with hi | hi
    · exact h.inn i hi
    · rw [List.mem_singleton.1 hi]; exact h1
  · refine List.nodup_append.2 ⟨h.nodup, by simp, fun a ha b hb e => ?_⟩
    rw [List.mem_singleton.1 hb] at e
    exact h2 (e ▸ ha)
  · rw [replay_app, h.rep]
    show (if _ then _ else _) = _
    rw [if_pos h3]; rfl
  · refine List.pairwise_append.2 ⟨h.pairs, by simp, fun a ha b hb => ?_⟩
    rw [List.mem_singleton.1 hb]
    exact h4 a ha
theorem FitsP.pre {ops : List OpR} {R : Int} {ord now : List Int} {k : Nat} (h : FitsP ops R ord) (hk : k < ord.length) (hn : replayP R ops [] (ord.take k) = some now) : (0 ≤ ord[k] ∧ ord[k] < ops.length) ∧ ord[k] ∉ ord.take k ∧ (doP R now (opAt ops ord[k])).2 = true ∧ ∀ y ∈ ord.take k, aheadP (opAt ops ord[k]) (opAt ops y) = false := by
  have e : ord = ord.take k ++ ord[k] :: ord.drop (k + 1) := by simp
  have hnd := h.nodup
  have hpw := h.pairs
  have hdo := h.does
  rw [e] at hnd hpw
  have hnd := List.nodup_append.1 hnd
  have hpw := List.pairwise_append.1 hpw
  refine ⟨h.inn _ (List.getElem_mem hk), fun hm => hnd.2.2 _ hm _ (List.mem_cons_self ..) rfl, ?_, fun y hy => hpw.2.2 y hy _ (List.mem_cons_self ..)⟩
  rw [e, replay_app, hn] at hdo
  cases hb : (doP R now (opAt ops ord[k])).2 with
  | true => rfl
  | false =>
    have hdo : (if (doP R now (opAt ops ord[k])).2 = true then replayP R ops (doP R now (opAt ops ord[k])).1 (ord.drop (k + 1)) else none).isSome = true := hdo
    rw [hb] at hdo
    cases hdo
theorem PreF.fits {ops : List OpR} {R : Int} {ord now : List Int} (h : PreF ops R ord now) (ha : ∀ j : Nat, j < ops.length → (j : Int) ∈ ord ∨ ¬ 0 < (opAt ops (j : Int)).en) : FitsP ops R ord := by
  refine ⟨h.inn, h.nodup, by rw [h.rep]; rfl, h.pairs, fun j o ho he => ?_⟩
  have hj : j < ops.length := by
    rcases Nat.lt_or_ge j ops.length with h | h
    · exact h
    · rw [List.getElem?_eq_none h] at ho; cases ho
  rcases ha j hj with h | h
  · exact h
  · rw [op_at ho] at h
    exact absurd he h
theorem cut_len (l : List Int) (a b : Nat) : (List.take a (List.drop b l)).length ≤ l.length := by simp; omega
theorem cut_eq (l : List Int) (k : Nat) : List.take ((k : Int).toNat - (0 : Int).toNat) (List.drop (0 : Int).toNat l) = l.take k := by simp
def cutL (l : List Int) (k : Nat) : List Int := List.take ((k : Int).toNat - (0 : Int).toNat) (List.drop (0 : Int).toNat l)
theorem cutL_eq (l : List Int) (k : Nat) : cutL l k = l.take k := cut_eq l k
theorem cutL_len (l : List Int) (k : Nat) : (cutL l k).length ≤ l.length := cut_len l _ _
theorem op_some {ops : List OpR} {m : Nat} (h : m < ops.length) : ops[m]? = some (opAt ops (m : Int)) := by
  rw [List.getElem?_eq_getElem h, op_at (List.getElem?_eq_getElem h)]
end Go.Proofs.Ytacacplipaeokaa
