/-
  Dqm: what the claim uses of them.
-/
import Derived.Test.YtacacplipaeokaaBn27
namespace Go.Proofs.Ytacacplipaeokaa
open Go.RowKit
set_option maxRecDepth 100000
set_option maxHeartbeats 4000000
def NN (ws : List Int) : Prop := ∀ z ∈ ws, 0 ≤ z
theorem load_nn {ws : List Int} (h : NN ws) (a : Int) : 0 ≤ mLoad ws a := by
  unfold mLoad
  split
  · exact Int.le_refl _
  · rw [List.getD_eq_getElem?_getD]
    cases hq : ws[a.toNat]? with
    | none => exact Int.le_refl _
    | some x => exact h x (List.mem_of_getElem? hq)
theorem store_nn {ws : List Int} (h : NN ws) (a : Int) {x : Int} (hx : 0 ≤ x) : NN (mStore ws a x) := by
  unfold mStore
  split
  · exact h
  · intro z hz
    rcases List.mem_or_eq_of_mem_set hz with hz | rfl
    · exact h z hz
    · exact hx
theorem casTo_nn {ws : List Int} (h : NN ws) (a o : Int) {x : Int} (hx : 0 ≤ x) : NN (mCasTo ws a o x) := by
  unfold mCasTo
  split
  · exact store_nn h a hx
  · exact h
def DQ.good (q : DQ) : Prop := q.at_ ≤ 6 ∧ (q.ended = false → q.at_ ≤ 5) ∧ 0 ≤ q.b ∧ 0 ≤ q.t ∧ 0 ≤ q.n ∧ 0 ≤ q.x
def okE (k : Int) (q : DQ) : Prop := k ≠ 2 → q.ok = true → q.ended = true
theorem dq_keeps {k : Int} {q : DQ} {ws : List Int} (hq : q.good) (hw : NN ws) (ho : okE k q) {q' : DQ} {ws' : List Int} {e : Bool} (h : dqStep k listOps q ws = (q', ws', e)) : q'.good ∧ NN ws' ∧ ws'.length = ws.length ∧ okE k q' := by
  obtain ⟨base, cap, n, ok, ended, at_, b, t, x⟩ := q
  obtain ⟨h1, h2, h3, h4, h5, h6⟩ := hq
  simp only [DQ.good, okE] at *
  cases ended with
  | true =>
    have e1 : q' = ⟨base, cap, n, ok, true, at_, b, t, x⟩ ∧ ws' = ws := by
      unfold dqStep pushStep popStep stealStep at h
      simp only [if_true] at h
      repeat' split at h
      all_goals cases h; exact ⟨rfl, rfl⟩
    obtain ⟨rfl, rfl⟩ := e1
    exact ⟨⟨h1, h2, h3, h4, h5, h6⟩, hw, rfl, ho⟩
  | false =>
    have h2 := h2 rfl
    have l1 := fun a => load_nn hw a
    have s1 := fun a {x} (hx : 0 ≤ x) => store_nn hw a hx
    have c1 := fun a o {x} (hx : 0 ≤ x) => casTo_nn hw a o hx
    unfold dqStep at h
    split at h
    · rename_i hk
      unfold pushStep at h
      dsimp only at h
      repeat' split at h
      all_goals
        cases h
        refine ⟨⟨?_, ?_, ?_, ?_, ?_, ?_⟩, ?_, ?_, ?_⟩
      all_goals
        try dsimp only
        all_goals first
          | contradiction
          | omega
          | assumption
          | exact l1 _
          | exact wu_nn _
          | rfl
          | exact mStore_length _ _ _
          | exact mCasTo_length _ _ _ _
          | exact s1 _ (by first | assumption | exact wu_nn _)
          | exact c1 _ _ (wu_nn _)
          | (intro; omega)
          | (intro; contradiction)
          | (intros; rfl)
          | (intro h _; exact absurd hk h)
          | (split <;> first | assumption | exact l1 _)
    · split at h
      · rename_i hk
        unfold popStep at h
        dsimp only at h
        repeat' split at h
        all_goals
          cases h
          refine ⟨⟨?_, ?_, ?_, ?_, ?_, ?_⟩, ?_, ?_, ?_⟩
        all_goals
          try dsimp only
          all_goals first
            | contradiction
            | omega
            | assumption
            | exact l1 _
            | exact wu_nn _
            | rfl
            | exact mStore_length _ _ _
            | exact mCasTo_length _ _ _ _
            | exact s1 _ (by first | assumption | exact wu_nn _)
            | exact c1 _ _ (wu_nn _)
            | (intro; omega)
            | (intro; contradiction)
            | (intros; rfl)
            | (intro h _; exact absurd hk h)
            | (split <;> first | assumption | exact l1 _)
      · rename_i hk
        unfold stealStep at h
        dsimp only at h
        repeat' split at h
        all_goals
          cases h
          refine ⟨⟨?_, ?_, ?_, ?_, ?_, ?_⟩, ?_, ?_, ?_⟩
        all_goals
          try dsimp only
          all_goals first
            | contradiction
            | omega
            | assumption
            | exact l1 _
            | exact wu_nn _
            | rfl
            | exact mStore_length _ _ _
            | exact mCasTo_length _ _ _ _
            | exact s1 _ (by first | assumption | exact wu_nn _)
            | exact c1 _ _ (wu_nn _)
            | (intro; omega)
            | (intro; contradiction)
            | (intros; rfl)
            | (intro h _; exact absurd hk h)
            | (split <;> first | assumption | exact l1 _)
/-- An op of the law: the program's machine, and the reference's. -/
structure OD where
  k : Int
  r : Nat
  rr : Nat
  q : DQ
def OD.val (o : OD) : List AV := if o.k = 1 then [.ptr o.r 0, .nilp, .nilp, .ptr o.rr 0] else if o.k = 2 then [.nilp, .ptr o.r 0, .nilp, .ptr o.rr 0] else [.nilp, .nilp, .ptr o.r 0, .ptr o.rr 0]
def OD.ok (o : OD) : Prop := o.q.good ∧ okE o.k o.q
theorem aPushP (p q r : Nat) (x : DQ) (ws : List Int) (d : Int) (σ : Hp) (hx : x.good) {x' : DQ} {ws' : List Int} {b : Bool} (h : dqStep 1 listOps x ws = (x', ws', b)) : ACalls Try.prog 110 [.ptr r 0, plI p, .int .i64 d] ((r, dqC x) :: plH p q ws σ) (Ret (.bool b) ((r, dqC x') :: plH p q ws' σ)) :=
  ofMPost (aPush (plainM p q) r x ws d σ trivial (by have := hx.1; omega) hx.2.2.1) (by rw [dqStep, if_pos rfl] at h; exact h)
theorem aPopP (p q r : Nat) (x : DQ) (ws : List Int) (d : Int) (σ : Hp) (hx : x.good) {x' : DQ} {ws' : List Int} {b : Bool} (h : dqStep 2 listOps x ws = (x', ws', b)) : ACalls Try.prog 111 [.ptr r 0, plI p, .int .i64 d] ((r, dqC x) :: plH p q ws σ) (Ret (.bool b) ((r, dqC x') :: plH p q ws' σ)) :=
  ofMPost (aPop (plainM p q) r x ws d σ trivial (by have := hx.1; omega) hx.2.2.1) (by rw [dqStep, if_neg (by decide), if_pos rfl] at h; exact h)
theorem aStealP (p q r : Nat) (k : Int) (h1 : ¬ k = 1) (h2 : ¬ k = 2) (x : DQ) (ws : List Int) (d : Int) (σ : Hp) (hx : x.good) {x' : DQ} {ws' : List Int} {b : Bool} (h : dqStep k listOps x ws = (x', ws', b)) : ACalls Try.prog 109 [.ptr r 0, plI p, .int .i64 d] ((r, dqC x) :: plH p q ws σ) (Ret (.bool b) ((r, dqC x') :: plH p q ws' σ)) :=
  ofMPost (aSteal (plainM p q) r x ws d σ trivial (by have := hx.1; omega) hx.2.2.2.1) (by rw [dqStep, if_neg h1, if_neg h2] at h; exact h)
end Go.Proofs.Ytacacplipaeokaa
