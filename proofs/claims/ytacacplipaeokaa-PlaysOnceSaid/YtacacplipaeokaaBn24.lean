/-
  Tplays: what the claim uses of them.
-/
import Derived.Test.YtacacplipaeokaaBn23
namespace Go.Proofs.Ytacacplipaeokaa
open Go.RowKit
set_option maxRecDepth 100000
theorem flatM_perm {α : Type} {f : α → Hp} {l : List α} {j : Nat} (h : j < l.length) : (l.flatMap f).Perm (f l[j] ++ (l.eraseIdx j).flatMap f) := by
  induction l generalizing j with
  | nil => simp at h
  | cons x l ih =>
    cases j with
    | zero => exact List.Perm.refl _
    | succ j =>
      rw [List.flatMap_cons]
      have := ih (j := j) (by simpa using h)
      refine (List.Perm.append_left _ this).trans ?_
      simp only [List.getElem_cons_succ, List.eraseIdx_cons_succ, List.flatMap_cons, ← List.append_assoc]
      exact List.Perm.append_right _ List.perm_append_comm
theorem flatM_set {α : Type} {f : α → Hp} {l : List α} {j : Nat} (h : j < l.length) (y : α) : ((l.set j y).flatMap f).Perm (f y ++ (l.eraseIdx j).flatMap f) := by
  have := flatM_perm (f := f) (l := l.set j y) (j := j) (by simpa using h)
  rw [List.getElem_set_self, List.eraseIdx_set_eq] at this
  exact this
end Go.Proofs.Ytacacplipaeokaa
