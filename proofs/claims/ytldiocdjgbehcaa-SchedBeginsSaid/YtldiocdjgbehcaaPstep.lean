/-
  (*step.Prog).Step over any memory, by the abstract walk.
-/
import Derived.Test.YtldiocdjgbehcaaPs
namespace Go.Proofs.Ytldiocdjgbehcaa
open Go.RowKit
set_option maxRecDepth 100000
theorem nextPut (l : List Ins) (s : PS) (h : -9223372036854775808 ≤ s.at_ + 1 ∧ s.at_ + 1 ≤ 9223372036854775807) : writeAs ⟨.int .i64, 1, 8, [.int .i64 0]⟩ (pgC l s) (0 + 5) (.int .i64 (IntKind.i64.wrap (s.at_ + 1))) = some (pgC l s.next) := by
  rw [show IntKind.i64.wrap (s.at_ + 1) = s.at_ + 1 by rw [IntKind.wrap_i64]; omega]
  rfl
theorem and3n (R : Int) : IntKind.i64.wrap (R + 1) % 4 = (R % 4 + 1) % 4 := by rw [IntKind.wrap_i64]; omega
theorem PS.set_set (s : PS) (k x y : Int) : (s.set k x).set k y = s.set k y := by
  unfold PS.set
  split
  · rfl
  · split
    · rfl
    · split <;> rfl
/-- What a Step leads to. -/
def StepPost (M : AMem) (r : Nat) (l : List Ins) (s : PS) (m : M.S) (d : Int) (σ : Hp) : AV → Hp → Prop :=
  fun x σ' => ∃ m', M.abs m' = (psStep M.O l s (M.abs m) d).2.1 ∧ x = .bool (psStep M.O l s (M.abs m) d).2.2 ∧ σ' = (r, pgC l (psStep M.O l s (M.abs m) d).1) :: (M.B m' ++ σ)
theorem stepPost {M : AMem} {r : Nat} {l : List Ins} {s : PS} {m m' : M.S} {d : Int} {σ : Hp} {X : PS} {Y : M.O.A} {i : Ins} (h0 : psDone l s.at_ = false) (h1 : l[s.at_.toNat]? = some i) (h : psDo M.O i s (M.abs m) d = (X, Y)) (hm : M.abs m' = Y) : StepPost M r l s m d σ (.bool (psDone l X.at_)) ((r, pgC l X) :: (M.B m' ++ σ)) := by
  have e : psStep M.O l s (M.abs m) d = (X, Y, psDone l X.at_) := by simp [psStep, h0, insAt, h1, h]
  exact ⟨m', by rw [e]; exact hm, by rw [e], by rw [e]⟩
theorem stepPostF {M : AMem} {r : Nat} {l : List Ins} {s : PS} {m m' : M.S} {d : Int} {σ : Hp} {X : PS} {Y : M.O.A} {i : Ins} (h0 : psDone l s.at_ = false) (h1 : l[s.at_.toNat]? = some i) (h : psDo M.O i s (M.abs m) d = (X, Y)) (hm : M.abs m' = Y) : Fin (StepPost M r l s m d σ) (.bool (psDone l X.at_)) ((r, pgC l X) :: (M.B m' ++ σ)) := .done (stepPost h0 h1 h hm)
theorem aStep (M : AMem) (r : Nat) (l : List Ins) (s : PS) (m : M.S) (d : Int) (σ : Hp) (hf : M.O.free (M.abs m)) (hl : l.length ≤ 1000000) : ACalls Try.prog 64 [.ptr r 0, M.v, .int .i64 d] ((r, pgC l s) :: (M.B m ++ σ)) (StepPost M r l s m d σ) := by
  refine okF Try.func64 (by kernel_rfl) ?_
  refine callB [] (aDone r l s _) (fun hD => ?_) (fun hD => ?_)
  · have hst : psStep M.O l s (M.abs m) d = (s, M.abs m, true) := by simp [psStep, hD]
    exact .done ⟨m, by rw [hst], by rw [hst]; rfl, by rw [hst]⟩
  have hlt : 0 ≤ s.at_ ∧ s.at_.toNat < l.length ∧ s.at_ < 1000000 := by
    simp [psDone] at hD; omega
  obtain ⟨i, hi⟩ : ∃ i, l[s.at_.toNat]? = some i := ⟨_, List.getElem?_eq_getElem hlt.2.1⟩
  refine .meet (S := Nat) (fun b => [(0, .ptr r 0), (1, M.v), (2, .int .i64 d), (6, .bool false), (7, .ptr b 0)]) (fun b => (b, insC i) :: (r, pgC l s) :: (M.B m ++ σ)) (by kernel_rfl) ?_ ?_
  · repeat' first
      | exact Meet.mk _ ⟨rfl, rfl, rfl, rfl, rfl, trivial⟩ (shed_eq rfl)
      | refine And.intro ?_ ?_
      | refine LoadAt.mk 0 _ _ rfl rfl ?_
      | refine LoadAt.mk 1 _ _ rfl rfl ?_
      | refine With.mk rfl (IdxF.mk _ hlt.1 hi ?_)
      | refine StoreAt.mk 0 _ _ rfl rfl ?_
      | intro b
  intro b g
  refine callR [] (aOr _ _ _) ?_
  refine .quiet (by kernel_rfl) ?_
  refine LoadAt.mk 0 _ _ rfl rfl ?_
  refine With.mk (and3r _) ?_
  refine LoadAt.mk 0 _ _ rfl rfl ?_
  refine With.mk (and3r _) ?_
  refine LoadAt.mk 1 _ _ rfl (regGet l s _) ?_
  refine LoadAt.mk 0 _ _ rfl rfl ?_
  have hb : ∀ s' : PS, s'.at_ = s.at_ → -9223372036854775808 ≤ s'.at_ + 1 ∧ s'.at_ + 1 ≤ 9223372036854775807 := fun s' h => by omega
  refine bcond_dec (fun h1 => ?_) (fun h1 => ?_)
  · have h1 : i.1 = 1 := h1
    have e : psDo M.O i s (M.abs m) d = ((s.set (i.2.1 % 4) (M.O.ld (M.abs m) i.2.2.1).1).next, (M.O.ld (M.abs m) i.2.2.1).2) := by simp [psDo, h1]
    refine LoadAt.mk 0 _ _ rfl rfl ?_
    refine M.aLoad [_, _] hf fun m' hm => ?_
    refine StoreAt.mk 1 _ _ rfl (regPut l s _ _) ?_
    refine LoadAt.mk 1 _ _ rfl rfl ?_
    refine StoreAt.mk 1 _ _ rfl (nextPut l _ (hb _ (by first | rfl | exact PS.set_at _ _ _ | exact (PS.set_at _ _ _).trans (PS.set_at _ _ _)))) ?_
    refine callR [1] (aDone r l _ _) ?_
    exact .drop 1 1 (stepPostF hD hi e hm)
  refine bcond_dec (fun h2 => ?_) (fun h2 => ?_)
  · have h2 : i.1 = 2 := h2
    have e : psDo M.O i s (M.abs m) d = (s.next, M.O.st (M.abs m) i.2.2.1 (s.get (i.2.1 % 4))) := by simp [psDo, h2]
    refine .each (by kernel_rfl) ?_
    refine LoadAt.mk 0 _ _ rfl rfl ?_
    refine LoadAt.mk 1 _ _ rfl (regGet l s _) ?_
    refine AheadAt.mk M.hS ?_
    refine M.aStore [_, _] hf fun m' hm => ?_
    refine LoadAt.mk 1 _ _ rfl rfl ?_
    refine StoreAt.mk 1 _ _ rfl (nextPut l _ (hb _ (by first | rfl | exact PS.set_at _ _ _ | exact (PS.set_at _ _ _).trans (PS.set_at _ _ _)))) ?_
    refine callR [1] (aDone r l _ _) ?_
    exact .drop 1 1 (stepPostF hD hi e hm)
  refine bcond_dec (fun h3 => ?_) (fun h3 => ?_)
  · have h3 : i.1 = 3 := h3
    refine .each (by kernel_rfl) ?_
    refine LoadAt.mk 0 _ _ rfl rfl ?_
    refine LoadAt.mk 1 _ _ rfl (regGet l s _) ?_
    refine AheadAt.mk M.hC ?_
    refine M.aCasB [_, _] hf (fun m' hm ho => ?_) (fun m' hm ho => ?_) <;> refine StoreAt.mk 1 _ _ rfl (regPut l s _ _) ?_
    · refine StoreAt.mk 1 _ _ rfl (regPut l _ _ _) ?_
      rw [and3n, Int.emod_add_emod] at ho
      have e : psDo M.O i s (M.abs m) d = (((s.set (i.2.1 % 4) 0).set (i.2.1 % 4) 1).next, (M.O.cs (M.abs m) i.2.2.1 (s.get (i.2.1 % 4)) (s.get (IntKind.i64.wrap (i.2.1 + 1) % 4))).2) := by
        rw [and3n]
        simp [psDo, h3, ho, PS.set_set]
      refine LoadAt.mk 1 _ _ rfl rfl ?_
      refine StoreAt.mk 1 _ _ rfl (nextPut l _ (hb _ (by first | rfl | exact PS.set_at _ _ _ | exact (PS.set_at _ _ _).trans (PS.set_at _ _ _)))) ?_
      refine callR [1] (aDone r l _ _) ?_
      exact .drop 1 1 (stepPostF hD hi e hm)
    · rw [and3n, Int.emod_add_emod] at ho
      have e : psDo M.O i s (M.abs m) d = ((s.set (i.2.1 % 4) 0).next, (M.O.cs (M.abs m) i.2.2.1 (s.get (i.2.1 % 4)) (s.get (IntKind.i64.wrap (i.2.1 + 1) % 4))).2) := by
        rw [and3n]
        simp [psDo, h3, ho]
      refine LoadAt.mk 1 _ _ rfl rfl ?_
      refine StoreAt.mk 1 _ _ rfl (nextPut l _ (hb _ (by first | rfl | exact PS.set_at _ _ _ | exact (PS.set_at _ _ _).trans (PS.set_at _ _ _)))) ?_
      refine callR [1] (aDone r l _ _) ?_
      exact .drop 1 1 (stepPostF hD hi e hm)
  refine bcond_dec (fun h4 => ?_) (fun h4 => ?_)
  · have h4 : i.1 = 4 := h4
    have e : psDo M.O i s (M.abs m) d = ((s.set (i.2.1 % 4) (M.O.ad (M.abs m) i.2.2.1 i.2.2.2.1).1).next, (M.O.ad (M.abs m) i.2.2.1 i.2.2.2.1).2) := by simp [psDo, h4]
    refine LoadAt.mk 0 _ _ rfl rfl ?_
    refine LoadAt.mk 0 _ _ rfl rfl ?_
    refine M.aAdd [_, _] hf fun m' hm => ?_
    refine StoreAt.mk 1 _ _ rfl (regPut l s _ _) ?_
    refine LoadAt.mk 1 _ _ rfl rfl ?_
    refine StoreAt.mk 1 _ _ rfl (nextPut l _ (hb _ (by first | rfl | exact PS.set_at _ _ _ | exact (PS.set_at _ _ _).trans (PS.set_at _ _ _)))) ?_
    refine callR [1] (aDone r l _ _) ?_
    exact .drop 1 1 (stepPostF hD hi e hm)
  refine bcond_dec (fun h5 => ?_) (fun h5 => ?_)
  · have h5 : i.1 = 5 := h5
    have e : psDo M.O i s (M.abs m) d = ((s.set (i.2.1 % 4) i.2.2.2.1).next, M.abs m) := by simp [psDo, h5]
    refine LoadAt.mk 0 _ _ rfl rfl ?_
    refine StoreAt.mk 1 _ _ rfl (regPut l s _ _) ?_
    refine LoadAt.mk 1 _ _ rfl rfl ?_
    refine StoreAt.mk 1 _ _ rfl (nextPut l _ (hb _ (by first | rfl | exact PS.set_at _ _ _ | exact (PS.set_at _ _ _).trans (PS.set_at _ _ _)))) ?_
    refine callR [1] (aDone r l _ _) ?_
    exact .drop 1 1 (stepPostF hD hi e rfl)
  refine bcond_dec (fun h6 => ?_) (fun h6 => ?_)
  · have h6 : i.1 = 6 := h6
    have e : psDo M.O i s (M.abs m) d = ((s.set (i.2.1 % 4) (IntKind.u64.wrap (s.get (i.2.1 % 4) + i.2.2.2.1))).next, M.abs m) := by rw [IntKind.wrap_u64]; simp [psDo, h6]
    refine .each (by kernel_rfl) ?_
    refine LoadAt.mk 1 _ _ rfl (regGet l s _) ?_
    refine LoadAt.mk 0 _ _ rfl rfl ?_
    refine StoreAt.mk 1 _ _ rfl (regPut l s _ _) ?_
    refine LoadAt.mk 1 _ _ rfl rfl ?_
    refine StoreAt.mk 1 _ _ rfl (nextPut l _ (hb _ (by first | rfl | exact PS.set_at _ _ _ | exact (PS.set_at _ _ _).trans (PS.set_at _ _ _)))) ?_
    refine callR [1] (aDone r l _ _) ?_
    exact .drop 1 1 (stepPostF hD hi e rfl)
  refine bcond_dec (fun h9 => ?_) (fun h9 => ?_)
  · have h9 : i.1 = 9 := h9
    have e : psDo M.O i s (M.abs m) d = ((s.set (i.2.1 % 4) (IntKind.u64.wrap d)).next, M.abs m) := by rw [IntKind.wrap_u64]; simp [psDo, h9]
    refine StoreAt.mk 1 _ _ rfl (regPut l s _ _) ?_
    refine LoadAt.mk 1 _ _ rfl rfl ?_
    refine StoreAt.mk 1 _ _ rfl (nextPut l _ (hb _ (by first | rfl | exact PS.set_at _ _ _ | exact (PS.set_at _ _ _).trans (PS.set_at _ _ _)))) ?_
    refine callR [1] (aDone r l _ _) ?_
    exact .drop 1 1 (stepPostF hD hi e rfl)
  refine bcond_dec (fun h7 => ?_) (fun h7 => ?_)
  · have h7 : i.1 = 7 := h7
    have e : psDo M.O i s (M.abs m) d = ({ s with at_ := i.2.2.1 }, M.abs m) := by simp [psDo, h7]
    refine .fwd 1 ?_
    refine LoadAt.mk 0 _ _ rfl rfl ?_
    refine StoreAt.mk 1 _ _ rfl rfl ?_
    refine callR [1] (aDone r l { s with at_ := i.2.2.1 } _) ?_
    exact .drop 1 1 (stepPostF hD hi e rfl)
  refine bcond_dec (fun h8 => ?_) (fun h8 => ?_)
  · have h8 : i.1 = 8 := h8
    refine LoadAt.mk 1 _ _ rfl (regGet l s _) ?_
    refine bcond_dec (fun hz => ?_) (fun hz => ?_)
    · have hz : s.get (i.2.1 % 4) = 0 := hz
      have e : psDo M.O i s (M.abs m) d = ({ s with at_ := i.2.2.1 }, M.abs m) := by simp [psDo, h8, hz]
      refine .fwd 1 ?_
      refine LoadAt.mk 0 _ _ rfl rfl ?_
      refine StoreAt.mk 1 _ _ rfl rfl ?_
      refine callR [1] (aDone r l { s with at_ := i.2.2.1 } _) ?_
      exact .drop 1 1 (stepPostF hD hi e rfl)
    · have hz : ¬ s.get (i.2.1 % 4) = 0 := hz
      have e : psDo M.O i s (M.abs m) d = (s.next, M.abs m) := by simp [psDo, h8, hz]
      refine LoadAt.mk 1 _ _ rfl rfl ?_
      refine StoreAt.mk 1 _ _ rfl (nextPut l _ (hb _ (by first | rfl | exact PS.set_at _ _ _ | exact (PS.set_at _ _ _).trans (PS.set_at _ _ _)))) ?_
      refine callR [1] (aDone r l _ _) ?_
      exact .drop 1 1 (stepPostF hD hi e rfl)
  · have h1 : ¬ i.1 = 1 := h1
    have h2 : ¬ i.1 = 2 := h2
    have h3 : ¬ i.1 = 3 := h3
    have h4 : ¬ i.1 = 4 := h4
    have h5 : ¬ i.1 = 5 := h5
    have h6 : ¬ i.1 = 6 := h6
    have h7 : ¬ i.1 = 7 := h7
    have h8 : ¬ i.1 = 8 := h8
    have h9 : ¬ i.1 = 9 := h9
    have e : psDo M.O i s (M.abs m) d = (s.next, M.abs m) := by simp [psDo, h1, h2, h3, h4, h5, h6, h7, h8, h9]
    refine LoadAt.mk 1 _ _ rfl rfl ?_
    refine StoreAt.mk 1 _ _ rfl (nextPut l _ (hb _ (by first | rfl | exact PS.set_at _ _ _ | exact (PS.set_at _ _ _).trans (PS.set_at _ _ _)))) ?_
    refine callR [1] (aDone r l _ _) ?_
    exact .drop 1 1 (stepPostF hD hi e rfl)

theorem aOrNil (σ : Hp) : ACalls Try.prog 41 [.nilif] σ (fun r σ' => ∃ p q, r = plI p ∧ σ' = (p, plC q 0) :: (q, woC []) :: σ) := by
  refine okF Try.func41 (by kernel_rfl) ?_
  refine .mk [] _ (aNew 0 σ) ?_
  rintro _ _ ⟨p, q, rfl, rfl⟩
  exact .done ⟨p, q, rfl, rfl⟩
/-- What a Step over no memory leads to. -/
def NilPost (r : Nat) (l : List Ins) (σ : Hp) : AV → Hp → Prop :=
  fun x σ' => ∃ s' : PS, x = .bool (psDone l s'.at_) ∧ σ' = (r, pgC l s') :: σ
theorem nilPost {r p q : Nat} {l : List Ins} {s : PS} {m' : List Int} {d : Int} {σ : Hp} {X : PS} {Y : List Int} {i : Ins} (_ : psDone l s.at_ = false) (_ : l[s.at_.toNat]? = some i) (_ : psDo (plainM p q).O i s ((plainM p q).abs ([] : List Int)) d = (X, Y)) (_ : (plainM p q).abs m' = Y) : Fin (NilPost r l σ) (.bool (psDone l X.at_)) ((r, pgC l X) :: ((plainM p q).B m' ++ σ)) :=
  .drop 1 2 (.done ⟨X, rfl, rfl⟩)
theorem aStepNil (r : Nat) (l : List Ins) (s : PS) (d : Int) (σ : Hp) (hl : l.length ≤ 1000000) : ACalls Try.prog 64 [.ptr r 0, .nilif, .int .i64 d] ((r, pgC l s) :: σ) (NilPost r l σ) := by
  refine okF Try.func64 (by kernel_rfl) ?_
  refine callB [] (aDone r l s _) (fun hD => ?_) (fun hD => ?_)
  · exact .done ⟨s, by rw [hD]; rfl, rfl⟩
  have hlt : 0 ≤ s.at_ ∧ s.at_.toNat < l.length ∧ s.at_ < 1000000 := by
    simp [psDone] at hD; omega
  obtain ⟨i, hi⟩ : ∃ i, l[s.at_.toNat]? = some i := ⟨_, List.getElem?_eq_getElem hlt.2.1⟩
  refine .meet (S := Nat) (fun b => [(0, .ptr r 0), (1, .nilif), (2, .int .i64 d), (6, .bool false), (7, .ptr b 0)]) (fun b => (b, insC i) :: (r, pgC l s) :: σ) (by kernel_rfl) ?_ ?_
  · repeat' first
      | exact Meet.mk _ ⟨rfl, rfl, rfl, rfl, rfl, trivial⟩ (shed_eq rfl)
      | refine And.intro ?_ ?_
      | refine LoadAt.mk 0 _ _ rfl rfl ?_
      | refine LoadAt.mk 1 _ _ rfl rfl ?_
      | refine With.mk rfl (IdxF.mk _ hlt.1 hi ?_)
      | refine StoreAt.mk 0 _ _ rfl rfl ?_
      | intro b
  intro b g
  refine .perm _ (List.Perm.refl _) (aOrNil _) ?_
  rintro _ _ ⟨p, q, rfl, rfl⟩
  refine ⟨(b, insC i) :: (r, pgC l s) :: ((plainM p q).B ([] : List Int) ++ σ), (front_perm' [_, _] [_, _] σ).symm, ?_⟩
  have hf : (plainM p q).O.free ((plainM p q).abs ([] : List Int)) := trivial
  refine .quiet (by kernel_rfl) ?_
  refine LoadAt.mk 0 _ _ rfl rfl ?_
  refine With.mk (and3r _) ?_
  refine LoadAt.mk 0 _ _ rfl rfl ?_
  refine With.mk (and3r _) ?_
  refine LoadAt.mk 1 _ _ rfl (regGet l s _) ?_
  refine LoadAt.mk 0 _ _ rfl rfl ?_
  have hb : ∀ s' : PS, s'.at_ = s.at_ → -9223372036854775808 ≤ s'.at_ + 1 ∧ s'.at_ + 1 ≤ 9223372036854775807 := fun s' h => by omega
  refine bcond_dec (fun h1 => ?_) (fun h1 => ?_)
  · have h1 : i.1 = 1 := h1
    have e : psDo (plainM p q).O i s ((plainM p q).abs ([] : List Int)) d = ((s.set (i.2.1 % 4) ((plainM p q).O.ld ((plainM p q).abs ([] : List Int)) i.2.2.1).1).next, ((plainM p q).O.ld ((plainM p q).abs ([] : List Int)) i.2.2.1).2) := by simp [psDo, h1]
    refine LoadAt.mk 0 _ _ rfl rfl ?_
    refine (plainM p q).aLoad [_, _] hf fun m' hm => ?_
    refine StoreAt.mk 1 _ _ rfl (regPut l s _ _) ?_
    refine LoadAt.mk 1 _ _ rfl rfl ?_
    refine StoreAt.mk 1 _ _ rfl (nextPut l _ (hb _ (by first | rfl | exact PS.set_at _ _ _ | exact (PS.set_at _ _ _).trans (PS.set_at _ _ _)))) ?_
    refine callR [1] (aDone r l _ _) ?_
    exact .drop 1 1 (nilPost hD hi e hm)
  refine bcond_dec (fun h2 => ?_) (fun h2 => ?_)
  · have h2 : i.1 = 2 := h2
    have e : psDo (plainM p q).O i s ((plainM p q).abs ([] : List Int)) d = (s.next, (plainM p q).O.st ((plainM p q).abs ([] : List Int)) i.2.2.1 (s.get (i.2.1 % 4))) := by simp [psDo, h2]
    refine .each (by kernel_rfl) ?_
    refine LoadAt.mk 0 _ _ rfl rfl ?_
    refine LoadAt.mk 1 _ _ rfl (regGet l s _) ?_
    refine AheadAt.mk (plainM p q).hS ?_
    refine (plainM p q).aStore [_, _] hf fun m' hm => ?_
    refine LoadAt.mk 1 _ _ rfl rfl ?_
    refine StoreAt.mk 1 _ _ rfl (nextPut l _ (hb _ (by first | rfl | exact PS.set_at _ _ _ | exact (PS.set_at _ _ _).trans (PS.set_at _ _ _)))) ?_
    refine callR [1] (aDone r l _ _) ?_
    exact .drop 1 1 (nilPost hD hi e hm)
  refine bcond_dec (fun h3 => ?_) (fun h3 => ?_)
  · have h3 : i.1 = 3 := h3
    refine .each (by kernel_rfl) ?_
    refine LoadAt.mk 0 _ _ rfl rfl ?_
    refine LoadAt.mk 1 _ _ rfl (regGet l s _) ?_
    refine AheadAt.mk (plainM p q).hC ?_
    refine (plainM p q).aCasB [_, _] hf (fun m' hm ho => ?_) (fun m' hm ho => ?_) <;> refine StoreAt.mk 1 _ _ rfl (regPut l s _ _) ?_
    · refine StoreAt.mk 1 _ _ rfl (regPut l _ _ _) ?_
      rw [and3n, Int.emod_add_emod] at ho
      have e : psDo (plainM p q).O i s ((plainM p q).abs ([] : List Int)) d = (((s.set (i.2.1 % 4) 0).set (i.2.1 % 4) 1).next, ((plainM p q).O.cs ((plainM p q).abs ([] : List Int)) i.2.2.1 (s.get (i.2.1 % 4)) (s.get (IntKind.i64.wrap (i.2.1 + 1) % 4))).2) := by
        rw [and3n]
        simp [psDo, h3, ho, PS.set_set]
      refine LoadAt.mk 1 _ _ rfl rfl ?_
      refine StoreAt.mk 1 _ _ rfl (nextPut l _ (hb _ (by first | rfl | exact PS.set_at _ _ _ | exact (PS.set_at _ _ _).trans (PS.set_at _ _ _)))) ?_
      refine callR [1] (aDone r l _ _) ?_
      exact .drop 1 1 (nilPost hD hi e hm)
    · rw [and3n, Int.emod_add_emod] at ho
      have e : psDo (plainM p q).O i s ((plainM p q).abs ([] : List Int)) d = ((s.set (i.2.1 % 4) 0).next, ((plainM p q).O.cs ((plainM p q).abs ([] : List Int)) i.2.2.1 (s.get (i.2.1 % 4)) (s.get (IntKind.i64.wrap (i.2.1 + 1) % 4))).2) := by
        rw [and3n]
        simp [psDo, h3, ho]
      refine LoadAt.mk 1 _ _ rfl rfl ?_
      refine StoreAt.mk 1 _ _ rfl (nextPut l _ (hb _ (by first | rfl | exact PS.set_at _ _ _ | exact (PS.set_at _ _ _).trans (PS.set_at _ _ _)))) ?_
      refine callR [1] (aDone r l _ _) ?_
      exact .drop 1 1 (nilPost hD hi e hm)
  refine bcond_dec (fun h4 => ?_) (fun h4 => ?_)
  · have h4 : i.1 = 4 := h4
    have e : psDo (plainM p q).O i s ((plainM p q).abs ([] : List Int)) d = ((s.set (i.2.1 % 4) ((plainM p q).O.ad ((plainM p q).abs ([] : List Int)) i.2.2.1 i.2.2.2.1).1).next, ((plainM p q).O.ad ((plainM p q).abs ([] : List Int)) i.2.2.1 i.2.2.2.1).2) := by simp [psDo, h4]
    refine LoadAt.mk 0 _ _ rfl rfl ?_
    refine LoadAt.mk 0 _ _ rfl rfl ?_
    refine (plainM p q).aAdd [_, _] hf fun m' hm => ?_
    refine StoreAt.mk 1 _ _ rfl (regPut l s _ _) ?_
    refine LoadAt.mk 1 _ _ rfl rfl ?_
    refine StoreAt.mk 1 _ _ rfl (nextPut l _ (hb _ (by first | rfl | exact PS.set_at _ _ _ | exact (PS.set_at _ _ _).trans (PS.set_at _ _ _)))) ?_
    refine callR [1] (aDone r l _ _) ?_
    exact .drop 1 1 (nilPost hD hi e hm)
  refine bcond_dec (fun h5 => ?_) (fun h5 => ?_)
  · have h5 : i.1 = 5 := h5
    have e : psDo (plainM p q).O i s ((plainM p q).abs ([] : List Int)) d = ((s.set (i.2.1 % 4) i.2.2.2.1).next, (plainM p q).abs ([] : List Int)) := by simp [psDo, h5]
    refine LoadAt.mk 0 _ _ rfl rfl ?_
    refine StoreAt.mk 1 _ _ rfl (regPut l s _ _) ?_
    refine LoadAt.mk 1 _ _ rfl rfl ?_
    refine StoreAt.mk 1 _ _ rfl (nextPut l _ (hb _ (by first | rfl | exact PS.set_at _ _ _ | exact (PS.set_at _ _ _).trans (PS.set_at _ _ _)))) ?_
    refine callR [1] (aDone r l _ _) ?_
    exact .drop 1 1 (nilPost hD hi e rfl)
  refine bcond_dec (fun h6 => ?_) (fun h6 => ?_)
  · have h6 : i.1 = 6 := h6
    have e : psDo (plainM p q).O i s ((plainM p q).abs ([] : List Int)) d = ((s.set (i.2.1 % 4) (IntKind.u64.wrap (s.get (i.2.1 % 4) + i.2.2.2.1))).next, (plainM p q).abs ([] : List Int)) := by rw [IntKind.wrap_u64]; simp [psDo, h6]
    refine .each (by kernel_rfl) ?_
    refine LoadAt.mk 1 _ _ rfl (regGet l s _) ?_
    refine LoadAt.mk 0 _ _ rfl rfl ?_
    refine StoreAt.mk 1 _ _ rfl (regPut l s _ _) ?_
    refine LoadAt.mk 1 _ _ rfl rfl ?_
    refine StoreAt.mk 1 _ _ rfl (nextPut l _ (hb _ (by first | rfl | exact PS.set_at _ _ _ | exact (PS.set_at _ _ _).trans (PS.set_at _ _ _)))) ?_
    refine callR [1] (aDone r l _ _) ?_
    exact .drop 1 1 (nilPost hD hi e rfl)
  refine bcond_dec (fun h9 => ?_) (fun h9 => ?_)
  · have h9 : i.1 = 9 := h9
    have e : psDo (plainM p q).O i s ((plainM p q).abs ([] : List Int)) d = ((s.set (i.2.1 % 4) (IntKind.u64.wrap d)).next, (plainM p q).abs ([] : List Int)) := by rw [IntKind.wrap_u64]; simp [psDo, h9]
    refine StoreAt.mk 1 _ _ rfl (regPut l s _ _) ?_
    refine LoadAt.mk 1 _ _ rfl rfl ?_
    refine StoreAt.mk 1 _ _ rfl (nextPut l _ (hb _ (by first | rfl | exact PS.set_at _ _ _ | exact (PS.set_at _ _ _).trans (PS.set_at _ _ _)))) ?_
    refine callR [1] (aDone r l _ _) ?_
    exact .drop 1 1 (nilPost hD hi e rfl)
  refine bcond_dec (fun h7 => ?_) (fun h7 => ?_)
  · have h7 : i.1 = 7 := h7
    have e : psDo (plainM p q).O i s ((plainM p q).abs ([] : List Int)) d = ({ s with at_ := i.2.2.1 }, (plainM p q).abs ([] : List Int)) := by simp [psDo, h7]
    refine .fwd 1 ?_
    refine LoadAt.mk 0 _ _ rfl rfl ?_
    refine StoreAt.mk 1 _ _ rfl rfl ?_
    refine callR [1] (aDone r l { s with at_ := i.2.2.1 } _) ?_
    exact .drop 1 1 (nilPost hD hi e rfl)
  refine bcond_dec (fun h8 => ?_) (fun h8 => ?_)
  · have h8 : i.1 = 8 := h8
    refine LoadAt.mk 1 _ _ rfl (regGet l s _) ?_
    refine bcond_dec (fun hz => ?_) (fun hz => ?_)
    · have hz : s.get (i.2.1 % 4) = 0 := hz
      have e : psDo (plainM p q).O i s ((plainM p q).abs ([] : List Int)) d = ({ s with at_ := i.2.2.1 }, (plainM p q).abs ([] : List Int)) := by simp [psDo, h8, hz]
      refine .fwd 1 ?_
      refine LoadAt.mk 0 _ _ rfl rfl ?_
      refine StoreAt.mk 1 _ _ rfl rfl ?_
      refine callR [1] (aDone r l { s with at_ := i.2.2.1 } _) ?_
      exact .drop 1 1 (nilPost hD hi e rfl)
    · have hz : ¬ s.get (i.2.1 % 4) = 0 := hz
      have e : psDo (plainM p q).O i s ((plainM p q).abs ([] : List Int)) d = (s.next, (plainM p q).abs ([] : List Int)) := by simp [psDo, h8, hz]
      refine LoadAt.mk 1 _ _ rfl rfl ?_
      refine StoreAt.mk 1 _ _ rfl (nextPut l _ (hb _ (by first | rfl | exact PS.set_at _ _ _ | exact (PS.set_at _ _ _).trans (PS.set_at _ _ _)))) ?_
      refine callR [1] (aDone r l _ _) ?_
      exact .drop 1 1 (nilPost hD hi e rfl)
  · have h1 : ¬ i.1 = 1 := h1
    have h2 : ¬ i.1 = 2 := h2
    have h3 : ¬ i.1 = 3 := h3
    have h4 : ¬ i.1 = 4 := h4
    have h5 : ¬ i.1 = 5 := h5
    have h6 : ¬ i.1 = 6 := h6
    have h7 : ¬ i.1 = 7 := h7
    have h8 : ¬ i.1 = 8 := h8
    have h9 : ¬ i.1 = 9 := h9
    have e : psDo (plainM p q).O i s ((plainM p q).abs ([] : List Int)) d = (s.next, (plainM p q).abs ([] : List Int)) := by simp [psDo, h1, h2, h3, h4, h5, h6, h7, h8, h9]
    refine LoadAt.mk 1 _ _ rfl rfl ?_
    refine StoreAt.mk 1 _ _ rfl (nextPut l _ (hb _ (by first | rfl | exact PS.set_at _ _ _ | exact (PS.set_at _ _ _).trans (PS.set_at _ _ _)))) ?_
    refine callR [1] (aDone r l _ _) ?_
    exact .drop 1 1 (nilPost hD hi e rfl)

/-! ### Of nobody, or of nothing -/
theorem aDoneNil (σ : Hp) : ACalls Try.prog 65 [.nilp] σ (Ret (.bool true) σ) := by
  refine okF Try.func65 (by kernel_rfl) ?_
  refine .quiet (by kernel_rfl) ?_
  exact .done ⟨rfl, rfl⟩
theorem aStepNone (x : AV) (d : Int) (σ : Hp) : ACalls Try.prog 64 [.nilp, x, .int .i64 d] σ (Ret (.bool true) σ) := by
  refine okF Try.func64 (by kernel_rfl) ?_
  refine callR [] (aDoneNil _) ?_
  exact .done ⟨rfl, rfl⟩
theorem aAtNil (σ : Hp) : ACalls Try.prog 66 [.nilp] σ (Ret (.int .i64 0) σ) := by
  refine okF Try.func66 (by kernel_rfl) ?_
  exact .done ⟨rfl, rfl⟩
theorem aRegsNil (σ : Hp) : ACalls Try.prog 67 [.nilp] σ (Ret (.agg [.int .u64 0, .int .u64 0, .int .u64 0, .int .u64 0]) σ) := by
  refine okF Try.func67 (by kernel_rfl) ?_
  intro b
  refine StoreAt.mk 0 _ _ rfl rfl ?_
  refine LoadAt.mk 0 _ _ rfl rfl ?_
  exact .drop 0 1 (.done ⟨rfl, rfl⟩)
/-- A machine that nobody gave instructions. -/
def bareC : List AV := [.nils, .int .u64 0, .int .u64 0, .int .u64 0, .int .u64 0, .int .i64 0]
theorem aDoneBare (r : Nat) (σ : Hp) : ACalls Try.prog 65 [.ptr r 0] ((r, bareC) :: σ) (Ret (.bool true) ((r, bareC) :: σ)) := by
  refine okF Try.func65 (by kernel_rfl) ?_
  refine .quiet (by kernel_rfl) ?_
  refine LoadAt.mk 0 _ _ rfl rfl ?_
  refine LoadAt.mk 0 _ _ rfl rfl ?_
  refine LoadAt.mk 0 _ _ rfl rfl ?_
  exact .done ⟨rfl, rfl⟩
theorem aStepBare (r : Nat) (x : AV) (d : Int) (σ : Hp) : ACalls Try.prog 64 [.ptr r 0, x, .int .i64 d] ((r, bareC) :: σ) (Ret (.bool true) ((r, bareC) :: σ)) := by
  refine okF Try.func64 (by kernel_rfl) ?_
  refine callR [] (aDoneBare _ _) ?_
  exact .done ⟨rfl, rfl⟩
end Go.Proofs.Ytldiocdjgbehcaa
