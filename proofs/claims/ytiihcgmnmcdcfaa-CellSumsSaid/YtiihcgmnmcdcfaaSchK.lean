/-
  Worlds of machines of one kind over a Plain, for sched.Each.
-/
import Derived.Test.YtiihcgmnmcdcfaaSchR
namespace Go.Proofs.Ytiihcgmnmcdcfaa
open Go.RowKit
set_option maxRecDepth 100000
set_option maxHeartbeats 4000000
/-- Machines of one kind, over the Plain at p. -/
structure Kind (p q : Nat) where
  X : Type
  C : X → List AV
  T : TypeId
  g : FuncId
  me : Meth Try.prog T "Step" g
  stp : X → List Int → Int → X × List Int × Bool
  good : X → Prop
  keep : ∀ x ws d, good x → good (stp x ws d).1
  call : ∀ (r : Nat) (x : X) (ws : List Int) (d : Int) (σ : Hp), good x → ACalls Try.prog g [.ptr r 0, plI p, .int .i64 d] ((r, C x) :: plH p q ws σ) (Ret (.bool (stp x ws d).2.2) ((r, C (stp x ws d).1) :: plH p q (stp x ws d).2.1 σ))
namespace Kind
variable {p q : Nat}
def blk (K : Kind p q) (z : Nat × K.X) : Hp := [(z.1, K.C z.2)]
def blks (K : Kind p q) (rs : List Nat) (L : List K.X) : Hp := (rs.zip L).flatMap K.blk
def step (K : Kind p q) (a : List K.X × List Int) (i : Nat) (d : Int) : (List K.X × List Int) × Bool := match a.1[i]? with
  | some x => ((a.1.set i (K.stp x a.2 d).1, (K.stp x a.2 d).2.1), (K.stp x a.2 d).2.2)
  | none => (a, true)
theorem step_at (K : Kind p q) {L : List K.X} {ws : List Int} {i : Nat} {d : Int} (h : i < L.length) : K.step (L, ws) i d = ((L.set i (K.stp L[i] ws d).1, (K.stp L[i] ws d).2.1), (K.stp L[i] ws d).2.2) := by
  unfold step
  show (match L[i]? with | some x => _ | none => _) = _
  rw [List.getElem?_eq_getElem h]
theorem step_ok (K : Kind p q) {a : List K.X × List Int} {n i : Nat} {d : Int} (h : a.1.length = n ∧ ∀ x ∈ a.1, K.good x) : (K.step a i d).1.1.length = n ∧ ∀ x ∈ (K.step a i d).1.1, K.good x := by
  unfold step
  cases hx : a.1[i]? with
  | none => exact h
  | some x =>
    refine ⟨(List.length_set ..).trans h.1, fun y hy => ?_⟩
    rcases List.mem_or_eq_of_mem_set hy with hy | rfl
    · exact h.2 y hy
    · exact K.keep _ _ _ (h.2 x (List.mem_of_getElem? hx))
theorem kStepAt (K : Kind p q) {rs : List Nat} {L : List K.X} {ws : List Int} {i : Nat} {d : Int} (σ : Hp) (hi : i < rs.length) (hl : L.length = rs.length) (hs : ∀ x ∈ L, K.good x) :
    ACalls Try.prog K.g [.ptr rs[i] 0, plI p, .int .i64 d] ((plH p q ws (K.blks rs L)) ++ σ) (Ret (.bool (K.step (L, ws) i d).2) (plH p q (K.step (L, ws) i d).1.2 (K.blks rs (K.step (L, ws) i d).1.1) ++ σ)) := by
  have hiL : i < L.length := by omega
  have hz : i < (rs.zip L).length := by simp; omega
  have hzi : (rs.zip L)[i] = (rs[i], L[i]) := by simp
  rw [K.step_at hiL]
  refine (K.call rs[i] L[i] ws d (((rs.zip L).eraseIdx i).flatMap K.blk ++ σ) (hs _ (List.getElem_mem hiL))).perm2 ?_ ?_
  · have h1 := flatM_perm (f := K.blk) hz
    rw [hzi] at h1
    refine (front_perm' [_, _] [(rs[i], K.C L[i])] _).trans (List.Perm.append_left [_, _] ?_)
    show ([(rs[i], K.C L[i])] ++ (((rs.zip L).eraseIdx i).flatMap K.blk ++ σ)).Perm (K.blks rs L ++ σ)
    rw [← List.append_assoc]
    exact List.Perm.append_right σ h1.symm
  · have h1 := flatM_set (f := K.blk) hz (rs[i], (K.stp L[i] ws d).1)
    refine List.Perm.trans (List.Perm.append_left [_, _] ?_) (front_perm' [_, _] [(rs[i], K.C (K.stp L[i] ws d).1)] _).symm
    show (K.blks rs (L.set i _) ++ σ).Perm ([(rs[i], K.C (K.stp L[i] ws d).1)] ++ (((rs.zip L).eraseIdx i).flatMap K.blk ++ σ))
    rw [← List.append_assoc]
    unfold blks
    rw [zip_set _ _ _ _ hi]
    exact List.Perm.append_right σ h1
def world (K : Kind p q) (rs : List Nat) : AWorld where
  A := List K.X × List Int
  S := List K.X × List Int
  abs x := x
  B x := plH p q x.2 (K.blks rs x.1)
  L := rs.map fun r => .iface K.T (.ptr r 0)
  mt := 24
  mp := p
  step := K.step
  tell a _ := a
  free a := a.1.length = rs.length ∧ ∀ x ∈ a.1, K.good x
  keeps a i d h _ := K.step_ok h
  told a _ h := h
  mach i h := by
    have hi : i < rs.length := by simpa using h
    exact .inr ⟨K.T, rs[i], by simp, _, K.me, fun s d σ hf => (K.kStepAt σ hi hf.1 hf.2).mono fun x σ' h => ⟨_, rfl, h.1, h.2⟩⟩
end Kind
theorem Kind.blks_snoc {p q : Nat} (K : Kind p q) {rs : List Nat} {L : List K.X} (h : rs.length = L.length) (r : Nat) (x : K.X) : K.blks (rs ++ [r]) (L ++ [x]) = K.blks rs L ++ [(r, K.C x)] := by
  unfold Kind.blks
  rw [List.zip_append h, List.flatMap_append]
  rfl
theorem Kind.blks_at {p q : Nat} (K : Kind p q) {rs : List Nat} {L : List K.X} (h : rs.length = L.length) {i : Nat} (hi : i < rs.length) (hj : i < L.length) : (K.blks rs L)[i]? = some (rs[i], K.C L[i]) := by
  have e : K.blks rs L = (rs.zip L).map fun z => (z.1, K.C z.2) := by
    show (rs.zip L).flatMap (fun z => [(z.1, K.C z.2)]) = _
    exact List.map_eq_flatMap.symm
  rw [e, List.getElem?_map, List.getElem?_eq_getElem (by simp; omega)]
  simp
/-- What is kept by each Step is kept by a run. -/
theorem goS_inv {A : Type} {step : A → Nat → Int → A × Bool} {tell : A → Nat → A} {n : Nat} (P : A → List Bool → Prop) (htell : ∀ a k, tell a k = a) (hn : 0 < n)
    (hstep : ∀ a dn i d, i < n → dn.length = n → P a dn → dn[i]? = some false → P (step a i d).1 (dn.set i (step a i d).2)) : ∀ (l : List (Int × Int × Unit)) (x : SSt A), x.dn.length = n → P x.a x.dn → (goS step tell n l x).dn.length = n ∧ P (goS step tell n l x).a (goS step tell n l x).dn
  | [], x, h1, h2 => ⟨h1, h2⟩
  | p :: ps, x, h1, h2 => by
    rw [goS]
    split
    · exact ⟨h1, h2⟩
    · refine goS_inv P htell hn hstep ps (pickS step tell n x p) ?_ ?_
      · unfold pickS
        split
        · exact h1
        · exact (List.length_set ..).trans h1
      · unfold pickS
        split
        · show P (tell x.a _) x.dn
          rw [htell]; exact h2
        · rename_i h
          have hw := whoS_lt (p := p.1) hn
          show P (tell (step x.a _ _).1 _) (x.dn.set _ _)
          rw [htell]
          refine hstep _ _ _ _ hw h1 h2 ?_
          rw [List.getD_eq_getElem?_getD] at h
          rw [List.getElem?_eq_getElem (by omega)] at h ⊢
          simpa using h
end Go.Proofs.Ytiihcgmnmcdcfaa
