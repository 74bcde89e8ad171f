/-
  The world of step's programs over a Plain; sched.Run of it; the reference's Run.
-/
import Derived.Test.YtldiocdjgbehcaaSch
import Derived.Test.YtldiocdjgbehcaaSonce
namespace Go.Proofs.Ytldiocdjgbehcaa
open Go.RowKit
set_option maxRecDepth 100000
set_option maxHeartbeats 4000000
abbrev Mach : Type := List Ins × PS
def ifO : Option Nat → AV
  | some r => .iface 94 (.ptr r 0)
  | none => .nilif
def pmB (z : Option Nat × Mach) : Hp := match z.1 with
  | some r => [(r, pgC z.2.1 z.2.2)]
  | none => []
def blkO (rs : List (Option Nat)) (L : List Mach) : Hp := (rs.zip L).flatMap pmB
def stepO (a : List Mach × List Int) (i : Nat) (d : Int) : (List Mach × List Int) × Bool := match a.1[i]? with
  | some x => ((a.1.set i (x.1, (psStep listOps x.1 x.2 a.2 d).1), (psStep listOps x.1 x.2 a.2 d).2.1), (psStep listOps x.1 x.2 a.2 d).2.2)
  | none => (a, true)
theorem zip_set {α β : Type} (rs : List α) (L : List β) (i : Nat) (x : β) (h : i < rs.length) : rs.zip (L.set i x) = (rs.zip L).set i (rs[i], x) := by
  refine List.ext_getElem (by simp) fun k h1 h2 => ?_
  rw [List.getElem_set]
  simp only [List.getElem_zip, List.getElem_set]
  split
  · rename_i he; subst he; rfl
  · rfl
theorem step_ok {a : List Mach × List Int} {n : Nat} {i : Nat} {d : Int} (h : a.1.length = n ∧ (∀ x ∈ a.1, x.1.length ≤ 1000000)) : (stepO a i d).1.1.length = n ∧ (∀ x ∈ (stepO a i d).1.1, x.1.length ≤ 1000000) := by
  unfold stepO
  cases hx : a.1[i]? with
  | none => exact h
  | some x =>
    refine ⟨(List.length_set ..).trans h.1, fun y hy => ?_⟩
    rcases List.mem_or_eq_of_mem_set hy with hy | rfl
    · exact h.2 y hy
    · exact h.2 x (List.mem_of_getElem? hx)
theorem mStepP_ : Meth Try.prog 94 "Step" 64 := fun a w => by kernel_rfl
/-- A machine's Step among many. -/
theorem aStepAt {p q : Nat} {rs : List (Option Nat)} {L : List Mach} {ws : List Int} {i r : Nat} {d : Int} (σ : Hp) (hi : i < rs.length) (hr : rs[i] = some r) (hl : L.length = rs.length) (hs : ∀ x ∈ L, x.1.length ≤ 1000000) :
    ACalls Try.prog 64 [.ptr r 0, plI p, .int .i64 d] ((plH p q ws (blkO rs L)) ++ σ) (Ret (.bool (stepO (L, ws) i d).2) (plH p q (stepO (L, ws) i d).1.2 (blkO rs (stepO (L, ws) i d).1.1) ++ σ)) := by
  have hiL : i < L.length := by omega
  have hz : i < (rs.zip L).length := by simp; omega
  have hzi : (rs.zip L)[i] = (some r, L[i]) := by simp [hr]
  have e : stepO (L, ws) i d = ((L.set i (L[i].1, (psStep listOps L[i].1 L[i].2 ws d).1), (psStep listOps L[i].1 L[i].2 ws d).2.1), (psStep listOps L[i].1 L[i].2 ws d).2.2) := by
    unfold stepO
    show (match L[i]? with | some x => _ | none => _) = _
    rw [List.getElem?_eq_getElem hiL]
  rw [e]
  refine (aStepP (q := q) (((rs.zip L).eraseIdx i).flatMap pmB ++ σ) (hs _ (List.getElem_mem hiL)) rfl).perm2 ?_ ?_
  · have h1 := flatM_perm (f := pmB) hz
    rw [hzi] at h1
    refine (front_perm' [_, _] [(r, pgC L[i].1 L[i].2)] _).trans (List.Perm.append_left [_, _] ?_)
    show ([(r, pgC L[i].1 L[i].2)] ++ (((rs.zip L).eraseIdx i).flatMap pmB ++ σ)).Perm (blkO rs L ++ σ)
    rw [← List.append_assoc]
    exact List.Perm.append_right σ h1.symm
  · have h1 := flatM_set (f := pmB) hz (some r, (L[i].1, (psStep listOps L[i].1 L[i].2 ws d).1))
    refine List.Perm.trans (List.Perm.append_left [_, _] ?_) (front_perm' [_, _] [(r, pgC L[i].1 (psStep listOps L[i].1 L[i].2 ws d).1)] _).symm
    show (blkO rs (L.set i _) ++ σ).Perm ([(r, pgC L[i].1 (psStep listOps L[i].1 L[i].2 ws d).1)] ++ (((rs.zip L).eraseIdx i).flatMap pmB ++ σ))
    rw [← List.append_assoc]
    unfold blkO
    rw [zip_set _ _ _ _ hi, hr]
    exact List.Perm.append_right σ h1
def progW (p q : Nat) (rs : List (Option Nat)) : AWorld where
  A := List Mach × List Int
  S := List Mach × List Int
  abs x := x
  B x := plH p q x.2 (blkO rs x.1)
  L := rs.map ifO
  mt := 28
  mp := p
  step := stepO
  tell a _ := a
  free a := a.1.length = rs.length ∧ ∀ x ∈ a.1, x.1.length ≤ 1000000
  keeps a i d h _ := step_ok h
  told a _ h := h
  mach i h := by
    have hi : i < rs.length := by simpa using h
    cases hr : rs[i] with
    | none => exact .inl (by simp [hr, ifO])
    | some r => exact .inr ⟨94, r, by simp [hr, ifO], _, mStepP_, fun s d σ hf => (aStepAt σ hi hr hf.1 hf.2).mono fun x σ' h => ⟨_, rfl, h.1, h.2⟩⟩
end Go.Proofs.Ytldiocdjgbehcaa
