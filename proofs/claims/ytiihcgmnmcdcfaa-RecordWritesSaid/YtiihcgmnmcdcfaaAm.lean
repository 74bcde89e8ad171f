/-
  Calls do what the walk says; all operations ('opW_sound'); regions in the text's order. Over any program.
-/
import Derived.Test.YtiihcgmnmcdcfaaAf
import Derived.Test.YtiihcgmnmcdcfaaAx
namespace Go.Proofs.Ytiihcgmnmcdcfaa
open Go.RowKit
section
variable {P : Program} {TT : TypeId → Option TI}

theorem vrels_args {F : Nat → Prop} {w : World} {xs : Array Operand} {ρ : Operand → AV} {η : Operand → Value} (h : ∀ x ∈ xs.toList, VRel F w (ρ x) (η x)) : VRels F w (xs.toList.map ρ) (xs.map η) := by
  refine ⟨by simp, fun i x hi => ?_⟩
  simp only [List.getElem?_map, Option.map_eq_some_iff] at hi
  obtain ⟨a, h1, rfl⟩ := hi
  have hlt : i < xs.size := by have := (List.getElem?_eq_some_iff.1 h1).1; simpa using this
  have : xs[i] = a := by simpa [hlt] using h1
  simpa [Array.getD, hlt, this] using h a (List.mem_of_getElem? h1)
theorem vrels_append {F : Nat → Prop} {w : World} {xs ys : List AV} {us vs : Array Value} (h : VRels F w xs us) (k : VRels F w ys vs) : VRels F w (xs ++ ys) (us ++ vs) := by
  refine ⟨by simp [h.1, k.1], fun i x hi => ?_⟩
  rw [Array.getD_eq_getD_getElem?]
  by_cases hlt : i < xs.length
  · rw [List.getElem?_append_left hlt] at hi
    rw [Array.getElem?_append_left (by rw [← h.1]; exact hlt), ← Array.getD_eq_getD_getElem?]
    exact h.2 i x hi
  · rw [List.getElem?_append_right (by omega)] at hi
    rw [Array.getElem?_append_right (by rw [← h.1]; omega), ← Array.getD_eq_getD_getElem?, ← h.1]
    exact k.2 _ x hi
theorem vrels_one {F : Nat → Prop} {w : World} {x : AV} {v : Value} (h : VRel F w x v) : VRels F w [x] #[v] := ⟨rfl, fun i y hi => by cases i <;> simp at hi; subst hi; exact h⟩

theorem leads_unvia {o : Oper} {ρ : Operand → AV} {σ : Hp} {K : AV → Hp → Prop} (h : Leads P o (fun x => unvia (ρ x)) σ K) : Leads P o ρ σ K := fun a F w hx => h a F w (fun x hm => (hx x hm).unvia)
theorem callee_sound {o : Oper} {c : Call} (ho : o.op = .call c) {ρ : Operand → AV} {K : FuncId → List AV → Prop} (h : calleeW P c ρ K) :
    ∃ f xs, K f xs ∧ ∀ (η : Operand → Value) (F : Nat → Prop) (w : World), (∀ x ∈ o.op.operands.toList, VRel F w (ρ x) (η x)) → ∃ vs, VRels F w xs vs ∧ (Enters P f → (execOp η o).run P w = .ok (.enter f vs) w) := by
  unfold calleeW at h
  split at h
  · rename_i f0 hc
    split at h
    · rename_i g first cap hf
      refine ⟨g, _, h, fun η F w hx => ?_⟩
      have h1 := hx f0 (by simp [ho, Op.operands, Call.operands, hc])
      rw [hf] at h1
      have h2 := vrels_args (xs := c.args) (ρ := fun x => unvia (ρ x)) (η := η) (F := F) (w := w) (fun x hm => (hx x (by simp only [ho, Op.operands, Call.operands, hc, Array.toList_append, List.mem_append]; exact .inr hm)).unvia)
      cases hv : η f0 with
      | func f' v1 v2 =>
        rw [hv] at h1
        obtain ⟨rfl, r1, r2⟩ : f' = .func g ∧ VRels F w first v1 ∧ VRels F w cap v2 := by cases h1 with | fn _ _ _ _ _ hs1 hs2 h1 h2 => exact ⟨rfl, ⟨hs1, h1⟩, ⟨hs2, h2⟩⟩
        refine ⟨v1 ++ c.args.map η ++ v2, vrels_append (vrels_append r1 h2) r2, fun he => ?_⟩
        simp only [execOp, ho, resolve, hc, Deferred.ofValue, hv, Sem.run_bind, Sem.run_pure, Result.andThen_ok, invoke]
        exact he _ _
      | _ => rw [hv] at h1; cases h1
    · exact h.elim
  · rename_i r m hc
    have fin : ∀ (t : TypeId) (v : AV), ρ r = .iface t v → (∀ F w u, VRel F w v u → ∃ ad, u = .pointer (some ad)) → InvAt P t m (fun g => K g (v :: c.args.toList.map fun x => unvia (ρ x))) →
        ∃ f xs, K f xs ∧ ∀ (η : Operand → Value) (F : Nat → Prop) (w : World), (∀ x ∈ o.op.operands.toList, VRel F w (ρ x) (η x)) → ∃ vs, VRels F w xs vs ∧ (Enters P f → (execOp η o).run P w = .ok (.enter f vs) w) := by
      rintro t v hr hp ⟨g, hm, go⟩
      refine ⟨g, _, go, fun η F w hx => ?_⟩
      have h1 := hx r (by simp [ho, Op.operands, Call.operands, hc])
      rw [hr] at h1
      have h2 := vrels_args (xs := c.args) (ρ := fun x => unvia (ρ x)) (η := η) (F := F) (w := w) (fun x hm => (hx x (by simp only [ho, Op.operands, Call.operands, hc, Array.toList_append, List.mem_append]; exact .inr hm)).unvia)
      cases hv : η r with
      | iface t' u =>
        rw [hv] at h1
        obtain ⟨rfl, hu⟩ : t' = t ∧ VRel F w v u := by cases h1 with | iface _ _ _ h => exact ⟨rfl, h⟩
        obtain ⟨ad, rfl⟩ := hp F w u hu
        refine ⟨#[.pointer (some ad)] ++ c.args.map η, (show VRels F w ([v] ++ c.args.toList.map fun x => unvia (ρ x)) _ from vrels_append (vrels_one hu) h2), fun he => ?_⟩
        have hex : (#[η r] ++ c.args.map η).extract 1 (#[η r] ++ c.args.map η).size = c.args.map η := by
          apply Array.ext'
          simp
          exact List.take_of_length_le (by simp)
        have h0 : (#[η r] ++ c.args.map η)[0]? = some (η r) := by rw [Array.getElem?_append_left (by simp)]; rfl
        have hinv : invoke (.fn (.method m) #[]) (#[η r] ++ c.args.map η) = callMethod (η r) m (c.args.map η) := by
          unfold invoke
          simp only [h0]
          exact congrArg (callMethod (η r) m) hex
        have hcm : (callMethod (η r) m (c.args.map η)).run P w = .ok (.enter g (#[.pointer (some ad)] ++ c.args.map η)) w := by
          rw [hv]
          unfold callMethod
          have hm' := hm ad w
          simp only [Sem.run_bind, run_program, Result.andThen_ok, hm']
          exact he _ _
        simp only [execOp, ho, resolve, hc, Sem.run_bind, Sem.run_pure, Result.andThen_ok, hinv, hcm]
      | _ => rw [hv] at h1; cases h1
    split at h
    · rename_i t b o' hr
      exact fin t _ hr (fun F w u hu => ⟨_, hu.ptrv⟩) h
    · rename_i t cs hr
      exact fin t _ hr (fun F w u hu => by obtain ⟨b, o', e, _⟩ := hu.eptr_at; exact ⟨_, e⟩) h
    · exact h.elim
  · exact h.elim

/-- A cell that leads to what is frozen reads as a list. -/
theorem frz_cell {F F' : Nat → Prop} {w : World} {σ : Hp} (hσ : RelHp F' w σ) {b off len es : Nat} {e : Sh} {l : List e.T} (hh : ∀ v, VRel F w (.mref b off len es) v → VRel F' w (.fsl e l) v) {i k b' : Nat} {cs : List AV} (hi : σ[i]? = some (b', cs)) (hk : cs[k]? = some (.mref b off len es)) : RelHp F' w (σ.set i (b', cs.set k (.fsl e l))) := by
  have hlt : i < σ.length := (List.getElem?_eq_some_iff.1 hi).1
  have hkeys : (σ.set i (b', cs.set k (.fsl e l))).map Prod.fst = σ.map Prod.fst := by
    rw [List.map_set]
    apply List.ext_getElem?
    intro n
    rw [List.getElem?_set]
    split
    · rename_i e; subst e
      have := (List.getElem?_eq_some_iff.1 hi).2
      simp [hlt, this]
    · rfl
  refine ⟨hkeys ▸ hσ.nodup, fun p hm => ?_, hσ.low⟩
  rcases List.mem_or_eq_of_mem_set hm with hm | rfl
  · exact hσ.holds p hm
  · obtain ⟨hF, c, T, h1, h2, h3⟩ := hσ.holds _ (List.mem_of_getElem? hi)
    refine ⟨hF, c, T, h1, by simpa using h2, fun n x hn => ?_⟩
    rw [List.getElem?_set] at hn
    split at hn
    · rename_i e; subst e
      split at hn
      · cases hn
        refine ⟨rfl, hh _ ?_⟩
        have := (h3 k _ hk).2
        revert this
        generalize c.getD k undef = v
        intro this
        cases this with
        | mref _ _ _ _ a cap h => exact .mref _ _ _ _ a cap h
      · cases hn
    · exact h3 n x hn
theorem callAt_get {f : FuncId} {xs : List AV} {σ : Hp} {K : AV → Hp → Prop} (h : CallAt P f K xs σ) : ACalls P f xs σ K := by
  induction h with
  | mk js R call go =>
    obtain ⟨hent, hcall⟩ := call
    refine ⟨hent, fun F w vs hvs hσ => (hcall F w vs hvs (hσ.perm (pulls_perm js _))).mono ?_⟩
    rintro e w' ⟨r, v, σ', F', rfl, h1, h2, h3, h4⟩
    exact ⟨r, v, σ', F', rfl, h1, h2, h3, go r σ' h4⟩
  | perm R hp call go =>
    obtain ⟨hent, hcall⟩ := call
    refine ⟨hent, fun F w vs hvs hσ => (hcall F w vs hvs (hσ.perm hp)).mono ?_⟩
    rintro e w' ⟨r, v, σ', F', rfl, h1, h2, h3, h4⟩
    obtain ⟨σ3, k1, k2⟩ := go r σ' h4
    exact ⟨r, v, σ3, F', rfl, h1, h2.perm k1, h3, k2⟩
  | frzc j b off len es cs e l h1 h2 h3 i k b' cs' hi hk h ih =>
    obtain ⟨hent, hcall⟩ := ih
    refine ⟨hent, fun F w vs hvs hσ => ?_⟩
    obtain ⟨hst, hσ', hh⟩ := frz_hp hσ h1 h2 h3
    refine (hcall _ w vs (hvs.mono hst) (frz_cell hσ' hh hi hk)).mono ?_
    rintro e w' ⟨r, v, σ', F', rfl, q1, q2, q3, q4⟩
    exact ⟨r, v, σ', F', rfl, hst.trans q1, q2, q3, q4⟩
  | frz j b off len es cs e l h1 h2 h3 h4 h ih =>
    obtain ⟨hent, hcall⟩ := ih
    refine ⟨hent, fun F w vs hvs hσ => ?_⟩
    obtain ⟨hst, hσ', hh⟩ := frz_hp hσ h1 h2 h3
    have hv := frzrel_sound hst hh h4 (.tuple vs) (.tup _ _ hvs.1 hvs.2)
    cases hv with
    | tup _ _ hs hr =>
      refine (hcall _ w vs ⟨hs, hr⟩ hσ').mono ?_
      rintro e w' ⟨r, v, σ', F', rfl, h1, h2, h3, h4⟩
      exact ⟨r, v, σ', F', rfl, hst.trans h1, h2, h3, h4⟩
theorem callAt_sound {o : Oper} {c : Call} (ho : o.op = .call c) {ρ : Operand → AV} {σ : Hp} {K : AV → Hp → Prop} (h : calleeW P c ρ fun f xs => CallAt P f K xs σ) : Leads P o ρ σ K := by
  obtain ⟨f, xs, hc, hrun⟩ := callee_sound ho h
  obtain ⟨hent, hcall⟩ := callAt_get hc
  intro a F w hx hσ next Q hn
  obtain ⟨vs, hvs, hr⟩ := hrun a.eval F w hx
  unfold Oper.wp
  rw [hr hent]
  refine (hcall F w vs hvs hσ).mono ?_
  rintro e w' ⟨r, v, σ', F', rfl, h1, h2, h3, h4⟩
  exact hn v r σ' F' w' h1 h2 h3 h4

theorem opW_sound (ok : TTok P TT) {o : Oper} {ρ : Operand → AV} {σ : Hp} {K : AV → Hp → Prop} (h : opW P TT o.op ρ σ K) : Leads P o ρ σ K := by
  have dd : opD P TT o.op ρ σ (fun v => K v σ) → Leads P o ρ σ K := fun h => by
    obtain ⟨v, h1, h2⟩ := opD_sound ok h
    exact leads_of_says h2 h1
  generalize hop : o.op = op at h dd
  unfold opW at h
  split at h
  · split at h
    · rename_i cs hc; exact box_sound hop hc h
    · exact h.elim
  · split at h
    · rename_i i hi; exact alloc_sound ok hop hi h
    · exact h.elim
  · split at h
    · rename_i e sz by' z0 ht
      split at h
      · rename_i i hi
        split at h
        · rename_i cs hf hs1 hs2
          exact buildSlice_sound ok hop ht rfl hi hf (Nat.le_of_ble_eq_true hs1) (Nat.le_of_ble_eq_true hs2) h
        · exact h.elim
      · exact h.elim
    · exact h.elim
  · split at h
    · rename_i e sz by' z0 k n k' m ht hl hc
      split at h
      · rename_i i hi
        exact makeSlice_sound ok hop ht rfl hi hl hc h.fact h.go
      · exact h.elim
    · exact h.elim
  · split at h
    · rename_i i hi
      split at h
      · rename_i b off hp; exact store_sound ok hop hi hp h
      · exact h.elim
    · exact h.elim
  · rename_i args tys
    split at h
    · rename_i s x t t' hargs htys
      obtain rfl : args = #[s, x] := by cases args; simp_all
      obtain rfl : tys = #[t, t'] := by cases tys; simp_all
      split at h
      · rename_i e s1 b1 z1 e' s2 b2 z2 ht ht'
        split at h
        · rename_i i hi; exact leads_unvia (append_sound ok hop ht rfl ht' rfl hi (ρ := fun x => unvia (ρ x)) h)
        · exact h.elim
      · exact h.elim
    · exact h.elim
  · rename_i args tys
    split at h
    · rename_i s t hargs htys
      obtain rfl : args = #[s] := by cases args; simp_all
      obtain rfl : tys = #[t] := by cases tys; simp_all
      split at h
      · rename_i e s1 b1 z1 ht
        split at h
        · rename_i i hi; exact leads_unvia (clear_sound ok hop ht rfl hi (ρ := fun x => unvia (ρ x)) h)
        · exact h.elim
      · exact h.elim
    · exact h.elim
  · rename_i args tys
    split at h
    · rename_i d x t t' hargs htys
      obtain rfl : args = #[d, x] := by cases args; simp_all
      obtain rfl : tys = #[t, t'] := by cases tys; simp_all
      split at h
      · rename_i e s1 b1 z1 e' s2 b2 z2 ht ht'
        split at h
        · rename_i i hi; exact leads_unvia (copy_sound ok hop ht rfl ht' rfl hi (ρ := fun x => unvia (ρ x)) h)
        · exact h.elim
      · exact h.elim
    · exact h.elim
  · exact dd h
  · exact callAt_sound hop h
  · exact dd h

/-! ### Regions -/
/-- The temporaries, known. -/
def TRel (F : Nat → Prop) (w : World) (t : Tm) (a : Act) : Prop := ∀ i, VRel F w (t i) (a.tmps.getD i undef)
theorem TRel.mono {F F' : Nat → Prop} {w w' : World} {t : Tm} {a : Act} (h : TRel F w t a) (hst : Stp F w F' w') : TRel F' w' t a := fun i => (h i).mono hst
theorem TRel.put {F : Nat → Prop} {w : World} {t : Tm} {a : Act} (h : TRel F w t a) {d : Option Tmp} {x : AV} {v : Value} (hx : VRel F w x v) (hd : ∀ i, d = some i → i < a.tmps.size) : TRel F w (put t d x) (a.put d v) := by
  cases d with
  | none => exact h
  | some d =>
    intro i
    show VRel F w (match Nat.beq i d with | true => x | false => t i) ((a.tmps.setIfInBounds d v).getD i undef)
    have hdl := hd d rfl
    cases hb : Nat.beq i d with
    | true =>
      have := Nat.eq_of_beq_eq_true hb
      subst this
      simpa [Array.getD, hdl] using hx
    | false =>
      have hne : d ≠ i := fun e => by subst e; rw [Nat.beq_refl] at hb; cases hb
      have := h i
      rw [Array.getD_eq_getD_getElem?] at this ⊢
      rw [Array.getElem?_setIfInBounds_ne hne]
      exact this
theorem ofLeaf_rel {F : Nat → Prop} {w : World} (v : Value) : VRel F w (ofLeaf v) v := by
  cases v with
  | int k n => exact .int _ _
  | bool b => exact .bool _
  | string s => exact .str _
  | pointer a => cases a <;> first | exact .nilp | exact .any _
  | slice a l c => cases a <;> cases l <;> cases c <;> first | exact .nils | exact .any _
  | nilIface => exact .nilif
  | nilFunc => exact .nilfn
  | _ => exact .any _
theorem eval_rel {F : Nat → Prop} {w : World} {t : Tm} {a : Act} (x : Operand) (h : ∀ i, x = .tmp i → VRel F w (t i) (a.tmps.getD i undef)) : VRel F w (ev t x) (a.eval x) := by
  cases x with
  | tmp i => exact h i rfl
  | const v =>
    show VRel F w (ofVal v) v
    cases v with
    | agg cs =>
      show VRel F w (match (cs.toList.map ofLeaf).all AV.leaf with | true => .agg (cs.toList.map ofLeaf) | false => .any) _
      split
      · rename_i hl
        refine .agg _ _ (by simp) (fun i x hx => ?_) (fun i x hx => ?_)
        · exact List.all_eq_true.1 hl x (List.mem_of_getElem? hx)
        · simp only [List.getElem?_map, Option.map_eq_some_iff] at hx
          obtain ⟨v, hv, rfl⟩ := hx
          have hlt : i < cs.size := by have := (List.getElem?_eq_some_iff.1 hv).1; simpa using this
          have : cs[i] = v := by simpa [hlt] using hv
          simpa [Array.getD, hlt, this] using ofLeaf_rel v
      · exact .any _
    | tuple vs =>
      show VRel F w (match vs.toList with | [] => .tup [] | _ => .any) _
      split
      · rename_i h0
        exact .tup _ _ (by simp at h0; simp [h0]) (fun i x h => by simp at h)
      · exact .any _
    | int k n => exact ofLeaf_rel (.int k n)
    | bool b => exact ofLeaf_rel (.bool b)
    | string x => exact ofLeaf_rel (.string x)
    | float k b => exact ofLeaf_rel (.float k b)
    | complex k b c => exact ofLeaf_rel (.complex k b c)
    | pointer x => exact ofLeaf_rel (.pointer x)
    | slice x l c => exact ofLeaf_rel (.slice x l c)
    | map x => exact ofLeaf_rel (.map x)
    | chan x => exact ofLeaf_rel (.chan x)
    | func f x y => exact ofLeaf_rel (.func f x y)
    | nilFunc => exact ofLeaf_rel .nilFunc
    | iface t x => exact ofLeaf_rel (.iface t x)
    | nilIface => exact ofLeaf_rel .nilIface
  | global g => exact .any _
  | func f => exact .fn _ _ _ _ _ rfl rfl (fun i x h => by simp at h) (fun i x h => by simp at h)
theorem TRel.eval {F : Nat → Prop} {w : World} {t : Tm} {a : Act} (h : TRel F w t a) (x : Operand) : VRel F w (ev t x) (a.eval x) := eval_rel x fun i _ => h i
end
end Go.Proofs.Ytiihcgmnmcdcfaa
