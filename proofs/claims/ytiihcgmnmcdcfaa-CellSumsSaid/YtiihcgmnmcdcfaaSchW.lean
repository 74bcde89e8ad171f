/-
  The world of step's programs over a Plain; sched.Run of it; the reference's Run.
-/
import Derived.Test.YtiihcgmnmcdcfaaSch
import Derived.Test.YtiihcgmnmcdcfaaSonce
namespace Go.Proofs.Ytiihcgmnmcdcfaa
open Go.RowKit
set_option maxRecDepth 100000
set_option maxHeartbeats 4000000
abbrev Mach : Type := List Ins × PS
def pmB (z : Option Nat × Mach) : Hp := match z.1 with
  | some r => [(r, pgC z.2.1 z.2.2)]
  | none => []
def blkO (rs : List (Option Nat)) (L : List Mach) : Hp := (rs.zip L).flatMap pmB
def stepO (a : List Mach × List Int) (i : Nat) (d : Int) : (List Mach × List Int) × Bool := match a.1[i]? with
  | some x => ((a.1.set i (x.1, (psStep listOps x.1 x.2 a.2 d).1), (psStep listOps x.1 x.2 a.2 d).2.1), (psStep listOps x.1 x.2 a.2 d).2.2)
  | none => (a, true)
theorem zip_set {α β : Type} (rs : List α) (L : List β) (i : Nat) (x : β) (h : i < rs.length) : rs.zip (L.set i x) = (rs.zip L).set i (rs[i], x) := by
  refine List.ext_getElem (by simp) fun k h1 h2 => ?_
  rw [List.getElem_set]
  simp only [List.getElem_zip, List.getElem_set]
  split
  · rename_i he; subst he; rfl
  · rfl
theorem step_ok {a : List Mach × List Int} {n : Nat} {i : Nat} {d : Int} (h : a.1.length = n ∧ (∀ x ∈ a.1, x.1.length ≤ 1000000)) : (stepO a i d).1.1.length = n ∧ (∀ x ∈ (stepO a i d).1.1, x.1.length ≤ 1000000) := by
  unfold stepO
  cases hx : a.1[i]? with
  | none => exact h
  | some x =>
    refine ⟨(List.length_set ..).trans h.1, fun y hy => ?_⟩
    rcases List.mem_or_eq_of_mem_set hy with hy | rfl
    · exact h.2 y hy
    · exact h.2 x (List.mem_of_getElem? hx)
end Go.Proofs.Ytiihcgmnmcdcfaa
