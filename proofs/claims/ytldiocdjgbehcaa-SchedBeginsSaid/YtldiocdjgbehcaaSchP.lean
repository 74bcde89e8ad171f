/-
  A script's beginning: what a run comes to, of take and drop. Plain.
-/
import Derived.Test.YtldiocdjgbehcaaSchA
namespace Go.Proofs.Ytldiocdjgbehcaa
open Go.RowKit
abbrev St25 : Type := SSt (List Mach × List Int)
abbrev go25 (n : Nat) (scr : List (Int × Int × Unit)) (x : St25) : St25 := goS stepO (fun a _ => a) n scr x
theorem ps_done {l : List Ins} {s : PS} {ws : List Int} {d : Int} (h : psDone l s.at_ = true) : psStep listOps l s ws d = (s, ws, true) := by
  unfold psStep; rw [if_pos h]
theorem ps_true {l : List Ins} {s : PS} {ws : List Int} {d : Int} (h : (psStep listOps l s ws d).2.2 = true) : psDone l (psStep listOps l s ws d).1.at_ = true := by
  unfold psStep at h ⊢
  split
  · assumption
  · rename_i hn; rw [if_neg hn] at h; exact h
def inert (a : List Mach × List Int) (i : Nat) : Prop := ∀ x, a.1[i]? = some x → psDone x.1 x.2.at_ = true
theorem inert_step {a : List Mach × List Int} {i : Nat} (h : inert a i) (d : Int) : stepO a i d = (a, true) := by
  unfold stepO
  cases hx : a.1[i]? with
  | none => rfl
  | some x =>
    dsimp only
    rw [ps_done (h x hx)]
    have : a.1.set i (x.1, x.2) = a.1 := by
      refine List.ext_getElem? fun k => ?_
      rw [List.getElem?_set]
      split
      · rename_i hk; subst hk
        split
        · rw [hx]
        · rename_i hlt; rw [List.getElem?_eq_none (by omega)] at hx; cases hx
      · rfl
    rw [this]
theorem step_inert {a : List Mach × List Int} {i : Nat} {d : Int} (h : (stepO a i d).2 = true) : inert (stepO a i d).1 i := by
  unfold stepO at h ⊢
  cases hx : a.1[i]? with
  | none => intro x hx2; dsimp only at hx2; rw [hx] at hx2; cases hx2
  | some x =>
    rw [hx] at h
    intro y hy
    dsimp only at hy h
    have hi : i < a.1.length := by
      rcases Nat.lt_or_ge i a.1.length with h | h
      · exact h
      · rw [List.getElem?_eq_none h] at hx; cases hx
    rw [List.getElem?_set, if_pos rfl, if_pos hi] at hy
    cases hy
    exact ps_true h
theorem step_keep {a : List Mach × List Int} {i j : Nat} (d : Int) (h : inert a j) : inert (stepO a i d).1 j := by
  by_cases hij : i = j
  · subst hij; rw [inert_step h]; exact h
  · unfold stepO
    cases hx : a.1[i]? with
    | none => exact h
    | some x =>
      intro y hy
      dsimp only at hy
      rw [List.getElem?_set, if_neg hij] at hy
      exact h y hy
theorem getD_set {α : Type} (l : List α) (i j : Nat) (x d : α) : (l.set i x).getD j d = if i = j ∧ j < l.length then x else l.getD j d := by
  rw [List.getD_eq_getElem?_getD, List.getElem?_set, List.getD_eq_getElem?_getD]
  by_cases h : i = j
  · subst h
    by_cases h2 : i < l.length
    · simp [h2]
    · simp [h2]
  · simp [h]
theorem getD_in {l : List Bool} {i : Nat} (h : l.getD i true = false) : i < l.length := by
  rcases Nat.lt_or_ge i l.length with h2 | h2
  · exact h2
  · rw [List.getD_eq_getElem?_getD, List.getElem?_eq_none h2] at h; cases h
theorem all_dn {l : List Bool} : l.all id = true ↔ ∀ i, l.getD i true = true := by
  constructor
  · intro h i
    cases hi : l.getD i true with
    | true => rfl
    | false =>
      have hlt := getD_in hi
      have := List.all_eq_true.1 h _ (List.getElem_mem hlt)
      rw [List.getD_eq_getElem?_getD, List.getElem?_eq_getElem hlt] at hi
      exact (this.symm.trans hi).symm ▸ rfl
  · intro h
    refine List.all_eq_true.2 fun x hx => ?_
    obtain ⟨i, hi, rfl⟩ := List.mem_iff_getElem.1 hx
    have := h i
    rw [List.getD_eq_getElem?_getD, List.getElem?_eq_getElem hi] at this
    exact this
theorem go_append {n : Nat} : ∀ (s1 s2 : List (Int × Int × Unit)) (x : St25), go25 n (s1 ++ s2) x = go25 n s2 (go25 n s1 x)
  | [], s2, x => rfl
  | p :: ps, s2, x => by
    show goS _ _ _ (p :: (ps ++ s2)) x = goS _ _ _ s2 (goS _ _ _ (p :: ps) x)
    cases h : x.dn.all id with
    | true => rw [goS_all _ h, goS_all _ h, goS_all _ h]
    | false => rw [goS_next _ _ h, goS_next _ _ h]; exact go_append ps s2 _
/-- What a pick makes. -/
theorem pick_skip {n : Nat} {x : St25} {p : Int × Int × Unit} (h : x.dn.getD (whoS p.1 n) true = true) : pickS stepO (fun a _ => a) n x p = ⟨x.a, x.st, x.dn, x.us + 1⟩ := by
  unfold pickS; rw [if_pos h]
theorem pick_step {n : Nat} {x : St25} {p : Int × Int × Unit} (h : x.dn.getD (whoS p.1 n) true = false) : pickS stepO (fun a _ => a) n x p = ⟨(stepO x.a (whoS p.1 n) p.2.1).1, x.st.set (whoS p.1 n) (wr (x.st.getD (whoS p.1 n) 0 + 1)), x.dn.set (whoS p.1 n) (stepO x.a (whoS p.1 n) p.2.1).2, x.us + 1⟩ := by
  unfold pickS; rw [if_neg (by rw [h]; decide)]
def IN (x : St25) : Prop := ∀ i, x.dn.getD i true = true → inert x.a i
theorem pick_IN {n : Nat} {x : St25} (p : Int × Int × Unit) (h : IN x) : IN (pickS stepO (fun a _ => a) n x p) := by
  cases hd : x.dn.getD (whoS p.1 n) true with
  | true => rw [pick_skip hd]; exact h
  | false =>
    rw [pick_step hd]
    intro j hj
    dsimp only at hj ⊢
    rw [getD_set] at hj
    split at hj
    · rename_i hij
      obtain ⟨rfl, _⟩ := hij
      exact step_inert hj
    · exact step_keep _ (h j hj)
theorem go_IN {n : Nat} : ∀ (s : List (Int × Int × Unit)) (x : St25), IN x → IN (go25 n s x)
  | [], x, h => h
  | p :: ps, x, h => by
    show IN (goS _ _ _ (p :: ps) x)
    cases ha : x.dn.all id with
    | true => rw [goS_all _ ha]; exact h
    | false => rw [goS_next _ _ ha]; exact go_IN ps _ (pick_IN p h)
theorem go_inert {n : Nat} : ∀ (s : List (Int × Int × Unit)) (x : St25), (∀ i, inert x.a i) → (go25 n s x).a = x.a
  | [], x, h => rfl
  | p :: ps, x, h => by
    show (goS _ _ _ (p :: ps) x).a = x.a
    cases ha : x.dn.all id with
    | true => rw [goS_all _ ha]
    | false =>
      rw [goS_next _ _ ha]
      have e : (pickS stepO (fun a _ => a) n x p).a = x.a := by
        cases hd : x.dn.getD (whoS p.1 n) true with
        | true => rw [pick_skip hd]
        | false => rw [pick_step hd, inert_step (h _)]
      exact (go_inert ps _ (by rw [e]; exact h)).trans e
/-- Two runs that know the same, of which the second one has forgotten who is done. -/
theorem sim {n : Nat} : ∀ (s : List (Int × Int × Unit)) (v w : St25), v.a = w.a → (∀ i, w.dn.getD i true = true → v.dn.getD i true = true) → IN v → (go25 n s v).a = (go25 n s w).a
  | [], v, w, h1, _, _ => h1
  | p :: ps, v, w, h1, h2, h3 => by
    show (goS _ _ _ (p :: ps) v).a = (goS _ _ _ (p :: ps) w).a
    cases hv : v.dn.all id with
    | true =>
      rw [goS_all _ hv]
      have := go_inert (n := n) (p :: ps) w (by rw [← h1]; exact fun i => h3 i (all_dn.1 hv i))
      exact h1.trans this.symm
    | false =>
      have hw : w.dn.all id = false := by
        cases hw : w.dn.all id with
        | false => rfl
        | true => rw [all_dn.2 (fun i => h2 i (all_dn.1 hw i))] at hv; cases hv
      rw [goS_next _ _ hv, goS_next _ _ hw]
      refine sim ps _ _ ?_ ?_ (pick_IN p h3)
      · cases hd : v.dn.getD (whoS p.1 n) true with
        | true =>
          rw [pick_skip hd]
          cases hd2 : w.dn.getD (whoS p.1 n) true with
          | true => rw [pick_skip hd2]; exact h1
          | false => rw [pick_step hd2, ← h1, inert_step (h3 _ hd)]
        | false =>
          have hd2 : w.dn.getD (whoS p.1 n) true = false := by
            cases hd2 : w.dn.getD (whoS p.1 n) true with
            | false => rfl
            | true => rw [h2 _ hd2] at hd; cases hd
          rw [pick_step hd, pick_step hd2, h1]
      · intro i hi
        cases hd : v.dn.getD (whoS p.1 n) true with
        | true =>
          rw [pick_skip hd]
          cases hd2 : w.dn.getD (whoS p.1 n) true with
          | true => rw [pick_skip hd2] at hi; exact h2 i hi
          | false =>
            rw [pick_step hd2] at hi
            dsimp only at hi ⊢
            rw [getD_set] at hi
            split at hi
            · rename_i hij; rw [← hij.1]; exact hd
            · exact h2 i hi
        | false =>
          have hd2 : w.dn.getD (whoS p.1 n) true = false := by
            cases hd2 : w.dn.getD (whoS p.1 n) true with
            | false => rfl
            | true => rw [h2 _ hd2] at hd; cases hd
          rw [pick_step hd2] at hi
          rw [pick_step hd]
          dsimp only at hi ⊢
          rw [getD_set] at hi ⊢
          have l1 := getD_in hd
          have l2 := getD_in hd2
          by_cases hij : whoS p.1 n = i
          · subst hij
            rw [if_pos ⟨rfl, l2⟩] at hi
            rw [if_pos ⟨rfl, l1⟩, h1]; exact hi
          · rw [if_neg (fun h => hij h.1)] at hi
            rw [if_neg (fun h => hij h.1)]
            exact h2 i hi
def BB (x : St25) : Prop := ∀ i, 0 ≤ x.st.getD i 0 ∧ x.st.getD i 0 ≤ x.us
theorem go_mono {n : Nat} : ∀ (s : List (Int × Int × Unit)) (x : St25), BB x → x.us + s.length ≤ 1000 →
    x.us ≤ (go25 n s x).us ∧ (go25 n s x).us ≤ x.us + s.length ∧ (∀ i, x.st.getD i 0 ≤ (go25 n s x).st.getD i 0) ∧ (∀ i, x.dn.getD i true = true → (go25 n s x).dn.getD i true = true) ∧ ((go25 n s x).us = x.us + s.length ∨ (go25 n s x).dn.all id = true) ∧ BB (go25 n s x)
  | [], x, hb, _ => ⟨Nat.le_refl _, Nat.le_refl _, fun _ => Int.le_refl _, fun _ h => h, .inl rfl, hb⟩
  | p :: ps, x, hb, hl => by
    have hl : x.us + (ps.length + 1) ≤ 1000 := hl
    show _ ≤ (goS _ _ _ (p :: ps) x).us ∧ (goS _ _ _ (p :: ps) x).us ≤ _ ∧ (∀ i, _ ≤ (goS _ _ _ (p :: ps) x).st.getD i 0) ∧ (∀ i, _ → (goS _ _ _ (p :: ps) x).dn.getD i true = true) ∧ ((goS _ _ _ (p :: ps) x).us = _ ∨ (goS _ _ _ (p :: ps) x).dn.all id = true) ∧ BB (goS _ _ _ (p :: ps) x)
    cases ha : x.dn.all id with
    | true => rw [goS_all _ ha]; exact ⟨Nat.le_refl _, Nat.le_add_right _ _, fun _ => Int.le_refl _, fun _ h => h, .inr ha, hb⟩
    | false =>
      rw [goS_next _ _ ha]
      have hp : (pickS stepO (fun a _ => a) n x p).us = x.us + 1 ∧ (∀ i, x.st.getD i 0 ≤ (pickS stepO (fun a _ => a) n x p).st.getD i 0) ∧ (∀ i, x.dn.getD i true = true → (pickS stepO (fun a _ => a) n x p).dn.getD i true = true) ∧ BB (pickS stepO (fun a _ => a) n x p) := by
        cases hd : x.dn.getD (whoS p.1 n) true with
        | true =>
          rw [pick_skip hd]
          exact ⟨rfl, fun _ => Int.le_refl _, fun _ h => h, fun i => ⟨(hb i).1, by have := (hb i).2; show x.st.getD i 0 ≤ ((x.us + 1 : Nat) : Int); omega⟩⟩
        | false =>
          rw [pick_step hd]
          have hw := hb (whoS p.1 n)
          have e : wr (x.st.getD (whoS p.1 n) 0 + 1) = x.st.getD (whoS p.1 n) 0 + 1 := by
            show IntKind.i64.wrap _ = _
            rw [IntKind.wrap_i64]; omega
          refine ⟨rfl, fun i => ?_, fun i hi => ?_, fun i => ?_⟩
          · dsimp only
            rw [getD_set]
            split
            · rename_i hij; rw [← hij.1, e]; omega
            · exact Int.le_refl _
          · dsimp only
            rw [getD_set]
            split
            · rename_i hij; rw [← hij.1, hd] at hi; cases hi
            · exact hi
          · dsimp only
            rw [getD_set]
            split
            · rw [e]; omega
            · have := hb i; omega
      obtain ⟨q1, q2, q3, q4⟩ := hp
      have hm := go_mono (n := n) ps _ q4 (by rw [q1]; omega)
      unfold go25 at hm
      obtain ⟨r1, r2, r3, r4, r5, r6⟩ := hm
      rw [q1] at r1 r2 r5
      refine ⟨by omega, by show _ ≤ x.us + (ps.length + 1); omega, fun i => Int.le_trans (q2 i) (r3 i), fun i h => r4 i (q3 i h), ?_, r6⟩
      rcases r5 with r5 | r5
      · exact .inl (by show _ = x.us + (ps.length + 1); omega)
      · exact .inr r5
end Go.Proofs.Ytldiocdjgbehcaa
