/-
  Regions: in the text's order; in any order, of operations that leave the memory alone. Over any program.
-/
import Derived.Test.YtiihcgmnmcdcfaaAm
import Derived.Orders
namespace Go.Proofs.Ytiihcgmnmcdcfaa
open Go.RowKit
section
variable {P : Program} {TT : TypeId → Option TI}

/-- A frame, known. -/
structure SRel (n : Nat) (F : Nat → Prop) (w : World) (t : Tm) (σ : Hp) (a : Act) : Prop where
  tm : TRel F w t a
  hp : RelHp F w σ
  size : n ≤ a.tmps.size
  defers : a.defers = []
theorem put_size (a : Act) (d : Option Tmp) (v : Value) : (a.put d v).tmps.size = a.tmps.size := by cases d <;> simp [Act.put]
theorem put_def (a : Act) (d : Option Tmp) (v : Value) : (a.put d v).defers = a.defers := by cases d <;> rfl
theorem SRel.put {n : Nat} {F F' : Nat → Prop} {w w' : World} {t : Tm} {σ σ' : Hp} {a : Act} (h : SRel n F w t σ a) (hst : Stp F w F' w') (hp : RelHp F' w' σ') {d : Option Tmp} {x : AV} {v : Value} (hx : VRel F' w' x v) (hd : ∀ i, d = some i → i < n) : SRel n F' w' (put t d x) σ' (a.put d v) :=
  ⟨(h.tm.mono hst).put hx (fun i e => Nat.lt_of_lt_of_le (hd i e) h.size), hp, by rw [put_size]; exact h.size, by rw [put_def]; exact h.defers⟩

theorem RelHp.shed {F : Nat → Prop} {w : World} {σ σ' : Hp} (h : RelHp F w σ) (hs : Shed σ σ') : RelHp F w σ' := by
  induction hs with
  | refl => exact h
  | pull js _ ih => exact ih (h.perm (pulls_perm js _))
  | perm hp _ ih => exact ih (h.perm hp)
  | @drop k n σ σ2 _ ih =>
    refine ih (h.sub ?_)
    have h1 : (σ.drop (k + n)).Sublist (σ.drop k) := by
      rw [← List.drop_drop]
      exact List.drop_sublist _ _
    have h2 := (List.Sublist.refl (σ.take k)).append h1
    rwa [List.take_append_drop] at h2
theorem SRel.shed {n : Nat} {F : Nat → Prop} {w : World} {t : Tm} {σ σ' : Hp} {a : Act} (h : SRel n F w t σ a) (hs : Shed σ σ') : SRel n F w t σ' a := ⟨h.tm, h.hp.shed hs, h.size, h.defers⟩

/-- What a guard says. -/
def guardIs (ops : List Oper) (o : Oper) (t : Tm) (b : Bool) : Prop :=
  (o.guard = none ∧ b = true) ∨ ∃ j want d x, o.guard = some (j, want) ∧ (ops[j]?).bind (·.dst) = some d ∧ ((t d = .bool x ∧ b = (x == want)) ∨ (t d = .tup [] ∧ b = false))
theorem guardW_get {ops : List Oper} {o : Oper} {t : Tm} {A B : Prop} (h : guardW ops o t A B) : (guardIs ops o t true ∧ A) ∨ (guardIs ops o t false ∧ B) := by
  unfold guardW at h
  split at h
  · rename_i hg
    exact .inl ⟨.inl ⟨hg, rfl⟩, h⟩
  · rename_i j want hg
    split at h
    · rename_i d hd
      split at h
      · rename_i b hb
        cases want <;> cases b
        · exact .inl ⟨.inr ⟨j, _, d, _, hg, hd, .inl ⟨hb, rfl⟩⟩, h⟩
        · exact .inr ⟨.inr ⟨j, _, d, _, hg, hd, .inl ⟨hb, rfl⟩⟩, h⟩
        · exact .inr ⟨.inr ⟨j, _, d, _, hg, hd, .inl ⟨hb, rfl⟩⟩, h⟩
        · exact .inl ⟨.inr ⟨j, _, d, _, hg, hd, .inl ⟨hb, rfl⟩⟩, h⟩
      · rename_i hb
        exact .inr ⟨.inr ⟨j, _, d, false, hg, hd, .inr ⟨hb, rfl⟩⟩, h⟩
      · exact h.elim
    · exact h.elim
theorem vrel_undef {F : Nat → Prop} {w : World} : VRel F w (.tup []) undef := .tup _ _ rfl (fun i x h => by simp at h)
theorem vrel_tup0 {F : Nat → Prop} {w : World} {u : Value} (h : VRel F w (.tup []) u) : u = .tuple #[] := by
  cases h with
  | tup _ vs hs h => rw [Array.size_eq_zero_iff.1 hs.symm]
theorem wanted_of {ops : List Oper} {o : Oper} {t : Tm} {a : Act} {b : Bool} (h : guardIs ops o t b) (hr : ∀ d, (∃ j want, o.guard = some (j, want) ∧ (ops[j]?).bind (·.dst) = some d) → ∃ F w, VRel F w (t d) (a.tmps.getD d undef)) : Region.wanted o (yielded ops.toArray a.tmps) = b := by
  rcases h with ⟨hg, rfl⟩ | ⟨j, want, d, x, hg, h1, ⟨h2, rfl⟩ | ⟨h2, rfl⟩⟩
  · simp [Region.wanted, hg]
  · obtain ⟨F, w, h3⟩ := hr d ⟨j, want, hg, h1⟩
    rw [h2] at h3
    have h3 := h3.boolv
    have h4 : a.tmps[d]? = some (.bool x) := by
      rw [Array.getD_eq_getD_getElem?] at h3
      cases hq : a.tmps[d]? with
      | none => rw [hq] at h3; simp [undef] at h3
      | some v => rw [hq] at h3; simpa using h3
    have h5 : yielded ops.toArray a.tmps j = some x := by
      unfold yielded
      simp only [List.getElem?_toArray, h1, Option.bind_some, h4]
    simp [Region.wanted, hg, h5]
  · obtain ⟨F, w, h3⟩ := hr d ⟨j, want, hg, h1⟩
    rw [h2] at h3
    have h3 := vrel_tup0 h3
    have h5 : yielded ops.toArray a.tmps j = none := by
      unfold yielded
      simp only [List.getElem?_toArray, h1, Option.bind_some]
      rw [Array.getD_eq_getD_getElem?] at h3
      cases hq : a.tmps[d]? with
      | none => rfl
      | some v => rw [hq] at h3; simp at h3; rw [h3]
    simp [Region.wanted, hg, h5]

theorem opsW_sound (ok : TTok P TT) {n : Nat} {ops : List Oper} {Q : Exit → Act → World → Prop} : ∀ (l : List Oper) (t : Tm) (σ : Hp) (K : Tm → Hp → Prop) (F : Nat → Prop) (w : World) (a : Act), (∀ o ∈ l, ∀ d, o.dst = some d → d < n) → opsW P TT ops l t σ K → SRel n F w t σ a →
    (∀ t' σ' F' w' a', Stp F w F' w' → SRel n F' w' t' σ' a' → K t' σ' → Q .normal a' w') → wpList P ops.toArray Q l a w
  | [], t, σ, K, F, w, a, _, h, hs, hq => hq t σ F w a (.refl _ _) hs h
  | o :: l, t, σ, K, F, w, a, hd, h, hs, hq => by
    have hw : ∀ {b : Bool}, guardIs ops o t b → Region.wanted o (yielded ops.toArray a.tmps) = b := fun hg => wanted_of hg fun d _ => ⟨F, w, hs.tm d⟩
    rcases guardW_get h with ⟨hg, h⟩ | ⟨hg, h⟩
    · unfold wpList
      rw [if_pos (hw hg)]
      refine .inl (opW_sound ok h a F w (fun x _ => hs.tm.eval x) hs.hp _ Q ?_)
      intro v av σ' F' w' h1 h2 h3 h4
      exact opsW_sound ok l _ σ' K F' w' _ (fun o ho => hd o (List.mem_cons_of_mem _ ho)) h4 (hs.put h1 h2 h3 (hd o (List.mem_cons_self ..))) (fun t' σ'' F'' w'' a' k1 k2 k3 => hq t' σ'' F'' w'' a' (h1.trans k1) k2 k3)
    · unfold wpList
      rw [if_neg (by rw [hw hg]; simp)]
      exact opsW_sound ok l _ σ K F w _ (fun o ho => hd o (List.mem_cons_of_mem _ ho)) h (hs.put (.refl _ _) hs.hp vrel_undef (hd o (List.mem_cons_self ..))) hq

/-- What a quiet operation leads to: one value. -/
def LeadsQ (P : Program) (o : Oper) (ρ : Operand → AV) (σ : Hp) (v : AV) : Prop :=
  ∀ (a : Act) (F : Nat → Prop) (w : World), (∀ x ∈ o.op.operands.toList, VRel F w (ρ x) (a.eval x)) → RelHp F w σ → ∀ (next : Act → World → Prop) (Q : Exit → Act → World → Prop),
    (∀ u F' w', Stp F w F' w' → RelHp F' w' σ → VRel F' w' v u → next (a.put o.dst u) w') → o.wp P a w next Q

theorem opQ_sound (ok : TTok P TT) {o : Oper} {ρ : Operand → AV} {σ : Hp} {K : AV → Prop} (h : opQ P TT o.op ρ σ K) : ∃ v, K v ∧ LeadsQ P o ρ σ v := by
  have dd : opD P TT o.op ρ σ K → ∃ v, K v ∧ LeadsQ P o ρ σ v := fun h => by
    obtain ⟨v, h1, h2⟩ := opD_sound ok h
    refine ⟨v, h1, fun a F w hx hσ next Q hn => ?_⟩
    obtain ⟨v', h3, h4⟩ := h2 a.eval F w o rfl hx hσ
    unfold Oper.wp
    rw [h3]
    exact hn v' F w (.refl _ _) hσ h4
  generalize hop : o.op = op at h dd
  unfold opQ at h
  split at h
  · exact dd h
  · obtain ⟨f, xs, hc, hrun⟩ := callee_sound hop h
    cases hc with
    | mk js r call go =>
      obtain ⟨hent, hcall⟩ := call
      refine ⟨r, go, fun a F w hx hσ next Q hn => ?_⟩
      obtain ⟨vs, hvs, hr⟩ := hrun a.eval F w hx
      unfold Oper.wp
      rw [hr hent]
      refine (hcall F w vs hvs (hσ.perm (pulls_perm js σ))).mono ?_
      rintro e w' ⟨r', v, σ', F', rfl, h1, h2, h3, rfl, rfl⟩
      exact hn v F' w' h1 (h2.perm (pulls_perm js σ).symm) h3
    | perm hp r call go =>
      obtain ⟨hent, hcall⟩ := call
      refine ⟨r, go, fun a F w hx hσ next Q hn => ?_⟩
      obtain ⟨vs, hvs, hr⟩ := hrun a.eval F w hx
      unfold Oper.wp
      rw [hr hent]
      refine (hcall F w vs hvs (hσ.perm hp)).mono ?_
      rintro e w' ⟨r', v, σ', F', rfl, h1, h2, h3, rfl, hp'⟩
      exact hn v F' w' h1 (h2.perm (hp.symm.trans hp')) h3
  · exact dd h
end
end Go.Proofs.Ytiihcgmnmcdcfaa
