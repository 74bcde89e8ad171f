/-
  soughlaw27: begin, step1; what an op's machine knows.
-/
import Derived.Test.YtldiocdjgbehcaaDql
namespace Go.Proofs.Ytldiocdjgbehcaa
open Go.RowKit
set_option maxRecDepth 100000
set_option maxHeartbeats 4000000
def NN (ws : List Int) : Prop := ∀ z ∈ ws, 0 ≤ z
theorem load_nn {ws : List Int} (h : NN ws) (a : Int) : 0 ≤ mLoad ws a := by
  unfold mLoad
  split
  · exact Int.le_refl _
  · rw [List.getD_eq_getElem?_getD]
    cases hq : ws[a.toNat]? with
    | none => exact Int.le_refl _
    | some x => exact h x (List.mem_of_getElem? hq)
theorem store_nn {ws : List Int} (h : NN ws) (a : Int) {x : Int} (hx : 0 ≤ x) : NN (mStore ws a x) := by
  unfold mStore
  split
  · exact h
  · intro z hz
    rcases List.mem_or_eq_of_mem_set hz with hz | rfl
    · exact h z hz
    · exact hx
theorem casTo_nn {ws : List Int} (h : NN ws) (a o : Int) {x : Int} (hx : 0 ≤ x) : NN (mCasTo ws a o x) := by
  unfold mCasTo
  split
  · exact store_nn h a hx
  · exact h
def DQ.good (q : DQ) : Prop := q.at_ ≤ 6 ∧ (q.ended = false → q.at_ ≤ 5) ∧ 0 ≤ q.b ∧ 0 ≤ q.t ∧ 0 ≤ q.n ∧ 0 ≤ q.x
def okE (k : Int) (q : DQ) : Prop := k ≠ 2 → q.ok = true → q.ended = true
theorem dq_keeps {k : Int} {q : DQ} {ws : List Int} (hq : q.good) (hw : NN ws) (ho : okE k q) {q' : DQ} {ws' : List Int} {e : Bool} (h : dqStep k listOps q ws = (q', ws', e)) : q'.good ∧ NN ws' ∧ ws'.length = ws.length ∧ okE k q' := by
  obtain ⟨base, cap, n, ok, ended, at_, b, t, x⟩ := q
  obtain ⟨h1, h2, h3, h4, h5, h6⟩ := hq
  simp only [DQ.good, okE] at *
  cases ended with
  | true =>
    have e1 : q' = ⟨base, cap, n, ok, true, at_, b, t, x⟩ ∧ ws' = ws := by
      unfold dqStep pushStep popStep stealStep at h
      simp only [if_true] at h
      repeat' split at h
      all_goals cases h; exact ⟨rfl, rfl⟩
    obtain ⟨rfl, rfl⟩ := e1
    exact ⟨⟨h1, h2, h3, h4, h5, h6⟩, hw, rfl, ho⟩
  | false =>
    have h2 := h2 rfl
    have l1 := fun a => load_nn hw a
    have s1 := fun a {x} (hx : 0 ≤ x) => store_nn hw a hx
    have c1 := fun a o {x} (hx : 0 ≤ x) => casTo_nn hw a o hx
    unfold dqStep at h
    split at h
    · rename_i hk
      unfold pushStep at h
      dsimp only at h
      repeat' split at h
      all_goals
        cases h
        refine ⟨⟨?_, ?_, ?_, ?_, ?_, ?_⟩, ?_, ?_, ?_⟩
      all_goals
        try dsimp only
        all_goals first
          | contradiction
          | omega
          | assumption
          | exact l1 _
          | exact wu_nn _
          | rfl
          | exact mStore_length _ _ _
          | exact mCasTo_length _ _ _ _
          | exact s1 _ (by first | assumption | exact wu_nn _)
          | exact c1 _ _ (wu_nn _)
          | (intro; omega)
          | (intro; contradiction)
          | (intros; rfl)
          | (intro h _; exact absurd hk h)
          | (split <;> first | assumption | exact l1 _)
    · split at h
      · rename_i hk
        unfold popStep at h
        dsimp only at h
        repeat' split at h
        all_goals
          cases h
          refine ⟨⟨?_, ?_, ?_, ?_, ?_, ?_⟩, ?_, ?_, ?_⟩
        all_goals
          try dsimp only
          all_goals first
            | contradiction
            | omega
            | assumption
            | exact l1 _
            | exact wu_nn _
            | rfl
            | exact mStore_length _ _ _
            | exact mCasTo_length _ _ _ _
            | exact s1 _ (by first | assumption | exact wu_nn _)
            | exact c1 _ _ (wu_nn _)
            | (intro; omega)
            | (intro; contradiction)
            | (intros; rfl)
            | (intro h _; exact absurd hk h)
            | (split <;> first | assumption | exact l1 _)
      · rename_i hk
        unfold stealStep at h
        dsimp only at h
        repeat' split at h
        all_goals
          cases h
          refine ⟨⟨?_, ?_, ?_, ?_, ?_, ?_⟩, ?_, ?_, ?_⟩
        all_goals
          try dsimp only
          all_goals first
            | contradiction
            | omega
            | assumption
            | exact l1 _
            | exact wu_nn _
            | rfl
            | exact mStore_length _ _ _
            | exact mCasTo_length _ _ _ _
            | exact s1 _ (by first | assumption | exact wu_nn _)
            | exact c1 _ _ (wu_nn _)
            | (intro; omega)
            | (intro; contradiction)
            | (intros; rfl)
            | (intro h _; exact absurd hk h)
            | (split <;> first | assumption | exact l1 _)
/-- An op of the law: the program's machine, and the reference's. -/
structure OD where
  k : Int
  r : Nat
  rr : Nat
  q : DQ
def OD.val (o : OD) : List AV := if o.k = 1 then [.ptr o.r 0, .nilp, .nilp, .ptr o.rr 0] else if o.k = 2 then [.nilp, .ptr o.r 0, .nilp, .ptr o.rr 0] else [.nilp, .nilp, .ptr o.r 0, .ptr o.rr 0]
def OD.blk (o : OD) : Hp := [(o.r, dqC o.q), (o.rr, rqC o.k o.q)]
def OD.ok (o : OD) : Prop := o.q.good ∧ okE o.k o.q
theorem OD.val_len (o : OD) : o.val.length = 4 := by unfold OD.val; split; rfl; split <;> rfl
theorem aPushP (p q r : Nat) (x : DQ) (ws : List Int) (d : Int) (σ : Hp) (hx : x.good) {x' : DQ} {ws' : List Int} {b : Bool} (h : dqStep 1 listOps x ws = (x', ws', b)) : ACalls Try.prog 69 [.ptr r 0, plI p, .int .i64 d] ((r, dqC x) :: plH p q ws σ) (Ret (.bool b) ((r, dqC x') :: plH p q ws' σ)) :=
  ofMPost (aPush (plainM p q) r x ws d σ trivial (by have := hx.1; omega) hx.2.2.1) (by rw [dqStep, if_pos rfl] at h; exact h)
theorem aPopP (p q r : Nat) (x : DQ) (ws : List Int) (d : Int) (σ : Hp) (hx : x.good) {x' : DQ} {ws' : List Int} {b : Bool} (h : dqStep 2 listOps x ws = (x', ws', b)) : ACalls Try.prog 70 [.ptr r 0, plI p, .int .i64 d] ((r, dqC x) :: plH p q ws σ) (Ret (.bool b) ((r, dqC x') :: plH p q ws' σ)) :=
  ofMPost (aPop (plainM p q) r x ws d σ trivial (by have := hx.1; omega) hx.2.2.1) (by rw [dqStep, if_neg (by decide), if_pos rfl] at h; exact h)
theorem aStealP (p q r : Nat) (k : Int) (h1 : ¬ k = 1) (h2 : ¬ k = 2) (x : DQ) (ws : List Int) (d : Int) (σ : Hp) (hx : x.good) {x' : DQ} {ws' : List Int} {b : Bool} (h : dqStep k listOps x ws = (x', ws', b)) : ACalls Try.prog 71 [.ptr r 0, plI p, .int .i64 d] ((r, dqC x) :: plH p q ws σ) (Ret (.bool b) ((r, dqC x') :: plH p q ws' σ)) :=
  ofMPost (aSteal (plainM p q) r x ws d σ trivial (by have := hx.1; omega) hx.2.2.2.1) (by rw [dqStep, if_neg h1, if_neg h2] at h; exact h)
theorem aBegin27 (k n s base cap : Int) (σ : Hp) (hn : 0 ≤ n) : ACalls Try.prog 88 [.agg [.int .i64 k, .int .u64 n, .int .u8 s], .agg [.int .i64 base, .int .i64 cap]] σ (fun x σ' => ∃ o : OD, o.ok ∧ x = .agg o.val ∧ σ' = o.blk ++ σ) := by
  refine okF Try.func88 (by kernel_rfl) ?_
  intro bl1
  intro bl2
  intro bl3
  refine LoadAt.mk 1 _ _ rfl rfl ?_
  refine LoadAt.mk 1 _ _ rfl rfl ?_
  intro bl4
  intro bl5
  refine StoreAt.mk 0 _ _ rfl rfl ?_
  refine LoadAt.mk 4 _ _ rfl rfl ?_
  refine bcond_dec (fun c6 => ?_) (fun c6 => ?_)
  · have c6 : k = 1 := c6
    refine LoadAt.mk 3 _ _ rfl rfl ?_
    refine LoadAt.mk 4 _ _ rfl rfl ?_
    intro bl7
    refine StoreAt.mk 1 _ _ rfl rfl ?_
    refine LoadAt.mk 1 _ _ rfl rfl ?_
    refine StoreAt.mk 2 _ _ rfl rfl ?_
    refine LoadAt.mk 1 _ _ rfl rfl ?_
    refine LoadAt.mk 5 _ _ rfl rfl ?_
    refine StoreAt.mk 2 _ _ rfl rfl ?_
    refine LoadAt.mk 1 _ _ rfl rfl ?_
    refine StoreAt.mk 3 _ _ rfl rfl ?_
    refine LoadAt.mk 3 _ _ rfl rfl ?_
    exact .drop 1 1 (.drop 2 3 (.done ⟨⟨1, bl7, bl4, ⟨base, cap, n, false, false, 0, 0, 0, 0⟩⟩, ⟨⟨by show 0 ≤ 6; decide, fun _ => by show 0 ≤ 5; decide, Int.le_refl _, Int.le_refl _, hn, Int.le_refl _⟩, fun _ h => by cases h⟩, rfl, rfl⟩))
  · have c6 : ¬ (k = 1) := c6
    refine bcond_dec (fun c8 => ?_) (fun c8 => ?_)
    · have c8 : k = 2 := c8
      refine LoadAt.mk 3 _ _ rfl rfl ?_
      intro bl9
      refine StoreAt.mk 1 _ _ rfl rfl ?_
      refine LoadAt.mk 1 _ _ rfl rfl ?_
      refine StoreAt.mk 2 _ _ rfl rfl ?_
      refine LoadAt.mk 1 _ _ rfl rfl ?_
      refine StoreAt.mk 3 _ _ rfl rfl ?_
      refine LoadAt.mk 3 _ _ rfl rfl ?_
      exact .drop 1 1 (.drop 2 3 (.done ⟨⟨2, bl9, bl4, ⟨base, cap, 0, false, false, 0, 0, 0, 0⟩⟩, ⟨⟨by show 0 ≤ 6; decide, fun _ => by show 0 ≤ 5; decide, Int.le_refl _, Int.le_refl _, Int.le_refl _, Int.le_refl _⟩, fun _ h => by cases h⟩, rfl, rfl⟩))
    · have c8 : ¬ (k = 2) := c8
      refine LoadAt.mk 3 _ _ rfl rfl ?_
      intro bl10
      refine StoreAt.mk 1 _ _ rfl rfl ?_
      refine LoadAt.mk 1 _ _ rfl rfl ?_
      refine StoreAt.mk 3 _ _ rfl rfl ?_
      refine LoadAt.mk 3 _ _ rfl rfl ?_
      exact .drop 1 1 (.drop 2 3 (.done ⟨⟨3, bl10, bl4, ⟨base, cap, 0, false, false, 0, 0, 0, 0⟩⟩, ⟨⟨by show 0 ≤ 6; decide, fun _ => by show 0 ≤ 5; decide, Int.le_refl _, Int.le_refl _, Int.le_refl _, Int.le_refl _⟩, fun _ h => by cases h⟩, rfl, rfl⟩))
theorem aStep27 (o : OD) (p q m q2 : Nat) (ws : List Int) (σ : Hp) (h : o.ok) (hw : NN ws) : ACalls Try.prog 89 [.agg o.val, .ptr p 0, .ptr m 0] (o.blk ++ plH p q ws (reH m q2 ws σ)) (fun x σ' => ∃ (q' : DQ) (ws' : List Int), OD.ok ⟨o.k, o.r, o.rr, q'⟩ ∧ NN ws' ∧ ws'.length = ws.length ∧ x = .bool true ∧ σ' = OD.blk ⟨o.k, o.r, o.rr, q'⟩ ++ plH p q ws' (reH m q2 ws' σ)) := by
  obtain ⟨k, r, rr, x⟩ := o
  obtain ⟨hg, hk⟩ := h
  obtain ⟨x', ws', e, hst⟩ : ∃ x' ws' e, dqStep k listOps x ws = (x', ws', e) := ⟨_, _, _, rfl⟩
  obtain ⟨g1, g2, g3, g4⟩ := dq_keeps hg hw hk hst
  have hfine : x.fine := ⟨by have : x.at_ ≤ 6 := hg.1; omega, hg.2.2.1, hg.2.2.2.1⟩
  have hR := fun σ => aRStep27 rr m q2 k x ws σ hfine hst
  have he : e = x'.ended := by
    cases hxe : x.ended with
    | false => have := dq_ended (k := k) (O := listOps) (q := x) (a := ws) hxe; rw [hst] at this; exact this
    | true =>
      have : dqStep k listOps x ws = (x, ws, true) := by
        unfold dqStep pushStep popStep stealStep
        rw [hxe]
        simp only [if_true]
        repeat' split
        all_goals rfl
      rw [hst] at this
      cases this
      exact hxe.symm
  subst he
  obtain ⟨b1, c1, n1, ok1, en1, at1, bb, tt, xx⟩ := x'
  by_cases h1 : k = 1
  · subst h1
    have hS := fun σ => aPushP p q r x ws 0 σ hg hst
    have hok : ok1 = true → en1 = true := g4 (show (1 : Int) ≠ 2 by decide)
    cases en1
    · cases ok1
      · refine okF Try.func89 (by kernel_rfl) ?_
        intro bl
        repeat refine LoadAt.mk 0 _ _ rfl rfl ?_
        refine callR [3, 4, 4] (hS _) ?_
        refine .quiet (by kernel_rfl) ?_
        repeat' first
          | refine LoadAt.mk 3 _ _ rfl rfl ?_
          | refine LoadAt.mk 0 _ _ rfl rfl ?_
          | refine callR [6, 6, 6] (hR _) ?_
          | refine LoadAt.mk 6 _ _ rfl rfl ?_
          | refine bcond_dec (fun _ => ?_) (fun h => absurd rfl h)
          | exact .drop 6 1 (.pull [5, 4, 5, 5, 2, 2] (.done ⟨_, ws', ⟨g1, g4⟩, g2, g3, rfl, rfl⟩))
      · exact absurd (hok rfl) (by decide)
    · cases ok1
      · refine okF Try.func89 (by kernel_rfl) ?_
        intro bl
        repeat refine LoadAt.mk 0 _ _ rfl rfl ?_
        refine callR [3, 4, 4] (hS _) ?_
        refine .quiet (by kernel_rfl) ?_
        repeat' first
          | refine LoadAt.mk 3 _ _ rfl rfl ?_
          | refine LoadAt.mk 0 _ _ rfl rfl ?_
          | refine callR [6, 6, 6] (hR _) ?_
          | refine LoadAt.mk 6 _ _ rfl rfl ?_
          | refine bcond_dec (fun _ => ?_) (fun h => absurd rfl h)
          | exact .drop 6 1 (.pull [5, 4, 5, 5, 2, 2] (.done ⟨_, ws', ⟨g1, g4⟩, g2, g3, rfl, rfl⟩))
      · refine okF Try.func89 (by kernel_rfl) ?_
        intro bl
        repeat refine LoadAt.mk 0 _ _ rfl rfl ?_
        refine callR [3, 4, 4] (hS _) ?_
        refine .quiet (by kernel_rfl) ?_
        repeat' first
          | refine LoadAt.mk 3 _ _ rfl rfl ?_
          | refine LoadAt.mk 0 _ _ rfl rfl ?_
          | refine callR [6, 6, 6] (hR _) ?_
          | refine LoadAt.mk 6 _ _ rfl rfl ?_
          | refine bcond_dec (fun _ => ?_) (fun h => absurd rfl h)
          | exact .drop 6 1 (.pull [5, 4, 5, 5, 2, 2] (.done ⟨_, ws', ⟨g1, g4⟩, g2, g3, rfl, rfl⟩))
  by_cases h2 : k = 2
  · subst h2
    have hS := fun σ => aPopP p q r x ws 0 σ hg hst
    cases en1
    · cases ok1
      · refine okF Try.func89 (by kernel_rfl) ?_
        intro bl
        repeat refine LoadAt.mk 0 _ _ rfl rfl ?_
        refine callR [3, 4, 4] (hS _) ?_
        refine .quiet (by kernel_rfl) ?_
        repeat' first
          | refine LoadAt.mk 3 _ _ rfl rfl ?_
          | refine LoadAt.mk 0 _ _ rfl rfl ?_
          | refine callR [6, 6, 6] (hR _) ?_
          | refine LoadAt.mk 6 _ _ rfl rfl ?_
          | refine bcond_dec (fun _ => ?_) (fun h => absurd rfl h)
          | exact .drop 6 1 (.pull [5, 4, 5, 5, 2, 2] (.done ⟨_, ws', ⟨g1, g4⟩, g2, g3, rfl, rfl⟩))
      · refine okF Try.func89 (by kernel_rfl) ?_
        intro bl
        repeat refine LoadAt.mk 0 _ _ rfl rfl ?_
        refine callR [3, 4, 4] (hS _) ?_
        refine .quiet (by kernel_rfl) ?_
        repeat' first
          | refine LoadAt.mk 3 _ _ rfl rfl ?_
          | refine LoadAt.mk 0 _ _ rfl rfl ?_
          | refine callR [6, 6, 6] (hR _) ?_
          | refine LoadAt.mk 6 _ _ rfl rfl ?_
          | refine bcond_dec (fun _ => ?_) (fun h => absurd rfl h)
          | exact .drop 6 1 (.pull [5, 4, 5, 5, 2, 2] (.done ⟨_, ws', ⟨g1, g4⟩, g2, g3, rfl, rfl⟩))
    · cases ok1
      · refine okF Try.func89 (by kernel_rfl) ?_
        intro bl
        repeat refine LoadAt.mk 0 _ _ rfl rfl ?_
        refine callR [3, 4, 4] (hS _) ?_
        refine .quiet (by kernel_rfl) ?_
        repeat' first
          | refine LoadAt.mk 3 _ _ rfl rfl ?_
          | refine LoadAt.mk 0 _ _ rfl rfl ?_
          | refine callR [6, 6, 6] (hR _) ?_
          | refine LoadAt.mk 6 _ _ rfl rfl ?_
          | refine bcond_dec (fun _ => ?_) (fun h => absurd rfl h)
          | exact .drop 6 1 (.pull [5, 4, 5, 5, 2, 2] (.done ⟨_, ws', ⟨g1, g4⟩, g2, g3, rfl, rfl⟩))
      · refine okF Try.func89 (by kernel_rfl) ?_
        intro bl
        repeat refine LoadAt.mk 0 _ _ rfl rfl ?_
        refine callR [3, 4, 4] (hS _) ?_
        refine .quiet (by kernel_rfl) ?_
        repeat' first
          | refine LoadAt.mk 3 _ _ rfl rfl ?_
          | refine LoadAt.mk 0 _ _ rfl rfl ?_
          | refine callR [6, 6, 6] (hR _) ?_
          | refine LoadAt.mk 6 _ _ rfl rfl ?_
          | refine bcond_dec (fun _ => ?_) (fun h => absurd rfl h)
          | exact .drop 6 1 (.pull [5, 4, 5, 5, 2, 2] (.done ⟨_, ws', ⟨g1, g4⟩, g2, g3, rfl, rfl⟩))
  · have hS := fun σ => aStealP p q r k h1 h2 x ws 0 σ hg hst
    have hok : ok1 = true → en1 = true := g4 h2
    have hv : OD.val ⟨k, r, rr, x⟩ = [.nilp, .nilp, .ptr r 0, .ptr rr 0] := by unfold OD.val; rw [if_neg h1, if_neg h2]
    rw [hv]
    cases en1
    · cases ok1
      · refine okF Try.func89 (by kernel_rfl) ?_
        intro bl
        repeat refine LoadAt.mk 0 _ _ rfl rfl ?_
        refine callR [3, 4, 4] (hS _) ?_
        refine .quiet (by kernel_rfl) ?_
        repeat' first
          | refine LoadAt.mk 3 _ _ rfl rfl ?_
          | refine LoadAt.mk 0 _ _ rfl rfl ?_
          | refine callR [6, 6, 6] (hR _) ?_
          | refine LoadAt.mk 6 _ _ rfl rfl ?_
          | refine bcond_dec (fun _ => ?_) (fun h => absurd rfl h)
          | exact .drop 6 1 (.pull [5, 4, 5, 5, 2, 2] (.done ⟨_, ws', ⟨g1, g4⟩, g2, g3, rfl, rfl⟩))
      · exact absurd (hok rfl) (by decide)
    · cases ok1
      · refine okF Try.func89 (by kernel_rfl) ?_
        intro bl
        repeat refine LoadAt.mk 0 _ _ rfl rfl ?_
        refine callR [3, 4, 4] (hS _) ?_
        refine .quiet (by kernel_rfl) ?_
        repeat' first
          | refine LoadAt.mk 3 _ _ rfl rfl ?_
          | refine LoadAt.mk 0 _ _ rfl rfl ?_
          | refine callR [6, 6, 6] (hR _) ?_
          | refine LoadAt.mk 6 _ _ rfl rfl ?_
          | refine bcond_dec (fun _ => ?_) (fun h => absurd rfl h)
          | exact .drop 6 1 (.pull [5, 4, 5, 5, 2, 2] (.done ⟨_, ws', ⟨g1, g4⟩, g2, g3, rfl, rfl⟩))
      · refine okF Try.func89 (by kernel_rfl) ?_
        intro bl
        repeat refine LoadAt.mk 0 _ _ rfl rfl ?_
        refine callR [3, 4, 4] (hS _) ?_
        refine .quiet (by kernel_rfl) ?_
        repeat' first
          | refine LoadAt.mk 3 _ _ rfl rfl ?_
          | refine LoadAt.mk 0 _ _ rfl rfl ?_
          | refine callR [6, 6, 6] (hR _) ?_
          | refine LoadAt.mk 6 _ _ rfl rfl ?_
          | refine bcond_dec (fun _ => ?_) (fun h => absurd rfl h)
          | exact .drop 6 1 (.pull [5, 4, 5, 5, 2, 2] (.done ⟨_, ws', ⟨g1, g4⟩, g2, g3, rfl, rfl⟩))
end Go.Proofs.Ytldiocdjgbehcaa
