/-
  Az: what the claim uses of them.
-/
import Derived.Test.YtegpahamenjiaaaGreatBn7
import Derived.Test.YtegpahamenjiaaaGreatBn8
namespace Go.Proofs.YtegpahamenjiaaaGreat
open Go.RowKit
section
variable {P : Program} {TT : TypeId → Option TI}
def dstOk (n : Nat) (o : Oper) : Bool := match o.dst with | some d => Nat.blt d n | none => true
def codeOk (n : Nat) : Code → Bool
  | .region _ ops _ => ops.toList.all (dstOk n)
  | .seq a b => codeOk n a && codeOk n b
  | .cond _ a b => codeOk n a && codeOk n b
  | .block _ c => codeOk n c
  | .loop c => codeOk n c
  | .scope c => codeOk n c
  | _ => true
theorem label_ok {n : Nat} : ∀ (c : Code) (l : Nat) (r : Code), findLabel c l = some r → codeOk n c = true → codeOk n r = true := by
  intro c
  induction c with
  | seq a b iha ihb =>
    intro l r h hc
    simp only [codeOk, Bool.and_eq_true] at hc
    simp only [findLabel] at h
    split at h
    · rename_i rest hr
      cases h
      simp only [codeOk, Bool.and_eq_true]
      exact ⟨iha l _ hr hc.1, hc.2⟩
    · exact ihb l r h hc.2
  | label l' =>
    intro l r h _
    simp only [findLabel] at h
    split at h
    · cases h; rfl
    · cases h
  | _ => intro l r h; simp [findLabel] at h
theorem dst_of {n : Nat} {ops : List Oper} (h : ops.all (dstOk n) = true) : ∀ o ∈ ops, ∀ d, o.dst = some d → d < n := fun o ho d hd => by
  have := List.all_eq_true.1 h o ho
  unfold dstOk at this
  rw [hd] at this
  exact Nat.le_of_ble_eq_true this
theorem wp_loop_rel {c : Code} {Q : Exit → Act → World → Prop} {a : Act} {w : World} (J : Nat → Act → World → Prop) (m : Nat) (h₀ : J m a w)
    (round : ∀ m a w, J m a w → c.wp P (Exit.then (fun a' w' => ∃ m', m' < m ∧ J m' a' w') Q) a w) : (Code.loop c).wp P Q a w := by
  intro b k cs
  have key : ∀ n a w, J n a w → ∃ e a' w', Q e a' w' ∧ Arrives P (lone (b.at a (.code c :: .inLoop c :: k)) cs w) b k cs e a' w' := by
    intro n
    induction n using Nat.strongRecOn with
    | _ n ih =>
      intro a w hI
      obtain ⟨e, a₁, w₁, hq, harr⟩ := round n a w hI b (.inLoop c :: k) cs
      cases e with
      | normal =>
        obtain ⟨m', hlt, hI₁⟩ := hq
        obtain ⟨e₂, a₂, w₂, hq₂, harr₂⟩ := ih m' hlt a₁ w₁ hI₁
        exact ⟨e₂, a₂, w₂, hq₂, .of_steps (Steps.trans harr (.one step_inLoop)) harr₂⟩
      | exit id => exact ⟨_, a₁, w₁, hq, .pass (x := .inLoop c) rfl (fun _ _ => .inl (by simp)) harr⟩
      | goto l => exact ⟨_, a₁, w₁, hq, .pass (x := .inLoop c) rfl (fun _ _ => .inl (by simp)) harr⟩
      | ret => exact ⟨_, a₁, w₁, hq, .pass (x := .inLoop c) rfl (fun _ _ => .inl (by simp)) harr⟩
      | panic ch => exact ⟨_, a₁, w₁, hq, .pass (x := .inLoop c) rfl (fun _ _ => .inl (by simp)) harr⟩
      | outgrown => exact ⟨_, a₁, w₁, hq, .pass (x := .inLoop c) rfl (fun _ _ => .inl (by simp)) harr⟩
  obtain ⟨e, a', w', hq, harr⟩ := key m a w h₀
  exact ⟨e, a', w', hq, .of_steps (.one step_loop) harr⟩
def Ex.up : Ex → Exit
  | .normal => .normal
  | .exit id => .exit id
  | .goto l => .goto l
  | .ret => .ret
/-- A scope, whatever its jumps lead to. -/
inductive Jumps (P : Program) (c : Code) (Q : Exit → Act → World → Prop) : Exit → Act → World → Prop where
  | normal {a : Act} {w : World} (h : Q .normal a w) : Jumps P c Q .normal a w
  | exit {id : Nat} {a : Act} {w : World} (h : Q (.exit id) a w) : Jumps P c Q (.exit id) a w
  | ret {a : Act} {w : World} (h : Q .ret a w) : Jumps P c Q .ret a w
  | goto {l : Nat} {a : Act} {w : World} (n : Nat) (J : Nat → Nat → Act → World → Prop) (h : J n l a w) (hr : ∀ n l a w, J n l a w → ∃ r, findLabel c l = some r ∧ r.wp P (fun e a' w' => match e with | .goto l' => ∃ n', n' < n ∧ J n' l' a' w' | .panic _ => False | .outgrown => False | e => Q e a' w') a w) : Jumps P c Q (.goto l) a w
theorem wp_scope_rel {c : Code} {Q : Exit → Act → World → Prop} {a : Act} {w : World} (h : c.wp P (Jumps P c Q) a w) : (Code.scope c).wp P Q a w := by
  intro b k cs
  obtain ⟨e, a₁, w₁, hq, harr⟩ := h b (.inScope c :: k) cs
  have top : Steps P (lone (b.at a (.code (.scope c) :: k)) cs w) (lone (b.at a (.code c :: .inScope c :: k)) cs w) := .one step_scope
  cases hq with
  | normal h => exact ⟨.normal, a₁, w₁, h, .of_steps top (Steps.trans harr (.one step_inScope))⟩
  | exit h => exact ⟨.exit _, a₁, w₁, h, .of_steps top (fun k' hk => harr k' (by simp [exitTo, hk]))⟩
  | ret h => exact ⟨_, a₁, w₁, h, .of_steps top harr⟩
  | @goto l _ _ n J hJ hr =>
    have key : ∀ (n l : Nat) (a : Act) (w : World), J n l a w → ∃ rest, findLabel c l = some rest ∧ ∃ e a' w', Q e a' w' ∧ Arrives P (lone (b.at a (.code rest :: .inScope c :: k)) cs w) b k cs e a' w' := by
      intro n
      induction n using Nat.strongRecOn with
      | _ n ih =>
        intro l a w hI
        obtain ⟨r, hl, hwp⟩ := hr n l a w hI
        refine ⟨r, hl, ?_⟩
        obtain ⟨e, a₂, w₂, hq₂, harr₂⟩ := hwp b (.inScope c :: k) cs
        cases e with
        | normal => exact ⟨.normal, a₂, w₂, hq₂, Steps.trans harr₂ (.one step_inScope)⟩
        | exit id => exact ⟨.exit id, a₂, w₂, hq₂, fun k' hk => harr₂ k' (by simp [exitTo, hk])⟩
        | goto l' =>
          obtain ⟨n', hlt, hJ'⟩ := hq₂
          obtain ⟨rest, hf, e₃, a₃, w₃, hq₃, harr₃⟩ := ih n' hlt l' a₂ w₂ hJ'
          have hg : gotoIn l' (.inScope c :: k) = some (.code rest :: .inScope c :: k) := by simp [gotoIn, hf]
          exact ⟨e₃, a₃, w₃, hq₃, .of_steps (harr₂ _ hg) harr₃⟩
        | ret => exact ⟨_, a₂, w₂, hq₂, harr₂⟩
        | panic ch => exact hq₂.elim
        | outgrown => exact hq₂.elim
    obtain ⟨rest, hf, e₃, a₃, w₃, hq₃, harr₃⟩ := key n l a₁ w₁ hJ
    have hg : gotoIn l (.inScope c :: k) = some (.code rest :: .inScope c :: k) := by simp [gotoIn, hf]
    exact ⟨e₃, a₃, w₃, hq₃, .of_steps top (.of_steps (harr _ hg) harr₃)⟩
theorem SRel.frz {n : Nat} {F : Nat → Prop} {w : World} {t t' : Tm} {σ : Hp} {a : Act} (hs : SRel n F w t σ a) {j b off len es : Nat} {cs : List AV} {e : Sh} {l : List e.T} (h1 : σ[j]? = some (b, cs)) (h2 : (cs.drop off).take (len * es) = l.flatMap e.cells) (h3 : l.length = len ∧ e.size = es ∧ 0 < es) (h4 : ∀ i, FrzRel b off len es e l (t i) (t' i)) :
    ∃ F', Stp F w F' w ∧ SRel n F' w t' (σ.eraseIdx j) a := by
  obtain ⟨hst, hσ', hh⟩ := frz_hp hs.hp h1 h2 h3
  exact ⟨_, hst, fun i => frzrel_sound hst hh (h4 i) _ (hs.tm i), hσ', hs.size, hs.defers⟩
theorem SRel.wrap {n : Nat} {F : Nat → Prop} {w : World} {t : Tm} {σ : Hp} {a : Act} (hs : SRel n F w t σ a) {k : Nat} {v : AV} (h1 : t k = v) (h2 : v.leaf = true) : SRel n F w (upd t [(k, .via v)]) σ a :=
  ⟨fun i => by
    show VRel F w (match Nat.beq i k with | true => .via v | false => t i) _
    cases hb : Nat.beq i k with
    | true => rw [Nat.eq_of_beq_eq_true hb]; exact .via _ _ h2 (h1 ▸ hs.tm k)
    | false => exact hs.tm i, hs.hp, hs.size, hs.defers⟩
theorem draw_sound (ok : TTok P TT) (hm : P.follows .mixedOrders = true) {n : Nat} {ops : Array Oper} {K : Tm → Hp → Prop} {Q : Exit → Act → World → Prop} {t : Tm} {σ : Hp} (hd : ∀ o ∈ ops.toList, ∀ d, o.dst = some d → d < n) (h : DrawW P TT ops.toList K t σ) : ∀ {F : Nat → Prop} {w : World} {a : Act} {id : Nat}, SRel n F w t σ a →
    (∀ t' σ' F' w' a', Stp F w F' w' → SRel n F' w' t' σ' a' → K t' σ' → Q .normal a' w') → (Code.region id ops true).wp P Q a w := by
  induction h with
  | quiet h0 h => exact fun hs hq => quiet_sound ok hm h0 h hd hs (fun t' F' w' a' h1 h2 h3 => hq t' _ F' w' a' h1 h2 h3)
  | each h0 h => exact fun hs hq => each_sound ok hm h0 h hd hs (fun t' σ' F' w' a' h1 h2 h3 => hq t' σ' F' w' a' h1 h2 h3)
  | sched Q0 s h0 h => exact fun hs hq => sched_sound ok hm h0 h hd hs (fun t' σ' F' w' a' h1 h2 h3 => hq t' σ' F' w' a' h1 h2 h3)
  | meet L H h0 h go =>
    intro F w a id hs hq
    refine each_sound ok hm h0 h hd hs (fun t' σ' F' w' a' h1 h2 h3 => ?_)
    obtain ⟨s, k1, k2⟩ := h3
    refine hq t' (H s) F' w' a' h1 (h2.shed k2) ?_
    rw [upd_self k1]
    exact go s t'
  | meetS Q0 s0 L H h0 h go =>
    intro F w a id hs hq
    refine sched_sound ok hm h0 h hd hs (fun t' σ' F' w' a' h1 h2 h3 => ?_)
    obtain ⟨s, k1, k2⟩ := h3
    refine hq t' (H s) F' w' a' h1 (h2.shed k2) ?_
    rw [upd_self k1]
    exact go s t'
  | frz j b off len es cs e l h1 h2 h3 h4 h ih =>
    intro F w a id hs hq
    obtain ⟨F1, k1, k2⟩ := hs.frz h1 h2 h3 h4
    exact ih k2 (fun t' σ' F' w' a' q1 q2 q3 => hq t' σ' F' w' a' (k1.trans q1) q2 q3)
  | shed h1 h ih =>
    intro F w a id hs hq
    exact ih (hs.shed h1) hq
theorem loop_sound {n : Nat} {c : Code} {body : Tm → Hp → (Ex → Tm → Hp → Prop) → Prop} (hb : ∀ (t : Tm) (σ : Hp) (K : Ex → Tm → Hp → Prop) (F : Nat → Prop) (w : World) (a : Act) (Q : Exit → Act → World → Prop), body t σ K → SRel n F w t σ a →
      (∀ e t' σ' F' w' a', Stp F w F' w' → SRel n F' w' t' σ' a' → K e t' σ' → Q e.up a' w') → c.wp P Q a w) {K : Ex → Tm → Hp → Prop} {t : Tm} {σ : Hp} (h : LoopW body K t σ) : ∀ {F : Nat → Prop} {w : World} {a : Act} {Q : Exit → Act → World → Prop}, SRel n F w t σ a →
    (∀ e t' σ' F' w' a', Stp F w F' w' → SRel n F' w' t' σ' a' → K e t' σ' → Q e.up a' w') → (Code.loop c).wp P Q a w := by
  induction h with
  | @mk t σ S L H p μ s0 h0 hr =>
    intro F w a Q hs hq
    refine wp_loop_rel (fun m a' w' => ∃ t' σ' F', Stp F w F' w' ∧ SRel n F' w' t' σ' a' ∧ Head L H p μ m t' σ') (μ s0) ⟨t, σ, F, .refl _ _, hs, s0, t, rfl, h0.1, upd_self h0.2.1, h0.2.2⟩ ?_
    rintro m a1 w1 ⟨_, _, F1, s1, r1, ss, g, rfl, hp, rfl, rfl⟩
    refine hb _ _ _ F1 w1 a1 _ (hr ss g hp) r1 ?_
    intro e t' σ' F' w' a' h1 h2 h3
    cases e with
    | normal =>
      obtain ⟨s', k1, k2, k3, k4⟩ := h3
      exact ⟨_, k1, t', _, F', s1.trans h1, h2.shed k4, s', t', rfl, k2, upd_self k3, rfl⟩
    | exit id => exact hq (.exit id) t' σ' F' w' a' (s1.trans h1) h2 h3
    | goto l => exact hq (.goto l) t' σ' F' w' a' (s1.trans h1) h2 h3
    | ret => exact hq .ret t' σ' F' w' a' (s1.trans h1) h2 h3
  | frz j b off len es cs e l h1 h2 h3 h4 h ih =>
    intro F w a Q hs hq
    obtain ⟨F1, k1, k2⟩ := hs.frz h1 h2 h3 h4
    exact ih k2 (fun e t' σ' F' w' a' q1 q2 q3 => hq e t' σ' F' w' a' (k1.trans q1) q2 q3)
  | shed h1 h ih =>
    intro F w a Q hs hq
    exact ih (hs.shed h1) hq
  | wrap k v h1 h2 h ih =>
    intro F w a Q hs hq
    exact ih (hs.wrap h1 h2) hq
theorem goto_sound {n : Nat} {c : Code} {R : Nat → Tm → Hp → (Ex → Tm → Hp → Prop) → Prop} (hR : ∀ (l : Nat) (t : Tm) (σ : Hp) (K : Ex → Tm → Hp → Prop) (F : Nat → Prop) (w : World) (a : Act) (Q : Exit → Act → World → Prop), R l t σ K → SRel n F w t σ a →
      (∀ e t' σ' F' w' a', Stp F w F' w' → SRel n F' w' t' σ' a' → K e t' σ' → Q e.up a' w') → ∃ r, findLabel c l = some r ∧ r.wp P Q a w) {l : Nat} {K : Ex → Tm → Hp → Prop} {t : Tm} {σ : Hp} (h : GotoW R l K t σ) : ∀ {F : Nat → Prop} {w : World} {a : Act} {Q : Exit → Act → World → Prop}, SRel n F w t σ a →
    (∀ e t' σ' F' w' a', Stp F w F' w' → SRel n F' w' t' σ' a' → K e t' σ' → (∀ l, e ≠ .goto l) → Q e.up a' w') → Jumps P c Q (.goto l) a w := by
  induction h with
  | @fwd t σ k h =>
    intro F w a Q hs hq
    refine .goto k (fun k l a' w' => ∃ t' σ' F', Stp F w F' w' ∧ SRel n F' w' t' σ' a' ∧ gotoW R k l t' σ' K) ⟨t, σ, F, .refl _ _, hs, h⟩ ?_
    rintro k l a1 w1 ⟨t1, σ1, F1, s1, r1, h⟩
    cases k with
    | zero => exact h.elim
    | succ k =>
      refine hR l t1 σ1 _ F1 w1 a1 _ h r1 ?_
      intro e t' σ' F' w' a' h1 h2 h3
      cases e with
      | normal => exact hq .normal t' σ' F' w' a' (s1.trans h1) h2 h3 (by simp)
      | exit id => exact hq (.exit id) t' σ' F' w' a' (s1.trans h1) h2 h3 (by simp)
      | goto l => exact ⟨k, Nat.lt_succ_self _, t', σ', F', s1.trans h1, h2, h3⟩
      | ret => exact hq .ret t' σ' F' w' a' (s1.trans h1) h2 h3 (by simp)
  | @loop t σ S lab L H p μ s0 h0 hr =>
    intro F w a Q hs hq
    refine .goto (μ s0) (fun m l a' w' => ∃ s g F', Stp F w F' w' ∧ SRel n F' w' (upd g (L s)) (H s) a' ∧ m = μ s ∧ l = lab s ∧ p s) ⟨s0, t, F, .refl _ _, ?_, rfl, h0.1, h0.2.1⟩ ?_
    · rw [← upd_self h0.2.2.1]; exact hs.shed h0.2.2.2
    rintro m l a1 w1 ⟨s, g, F1, s1, r1, rfl, rfl, hp⟩
    refine hR (lab s) _ _ _ F1 w1 a1 _ (hr s g hp) r1 ?_
    intro e t' σ' F' w' a' h1 h2 h3
    cases e with
    | normal => exact hq .normal t' σ' F' w' a' (s1.trans h1) h2 h3 (by simp)
    | exit id => exact hq (.exit id) t' σ' F' w' a' (s1.trans h1) h2 h3 (by simp)
    | goto l =>
      obtain ⟨s', k0, k1, k2, k3, k4⟩ := h3
      refine ⟨_, k1, s', t', F', s1.trans h1, ?_, rfl, k0, k2⟩
      rw [← upd_self k3]
      exact h2.shed k4
    | ret => exact hq .ret t' σ' F' w' a' (s1.trans h1) h2 h3 (by simp)
  | frz j b off len es cs e l h1 h2 h3 h4 h ih =>
    intro F w a Q hs hq
    obtain ⟨F1, k1, k2⟩ := hs.frz h1 h2 h3 h4
    exact ih k2 (fun e t' σ' F' w' a' q1 q2 q3 q4 => hq e t' σ' F' w' a' (k1.trans q1) q2 q3 q4)
  | shed h1 h ih =>
    intro F w a Q hs hq
    exact ih (hs.shed h1) hq
  | wrap k v h1 h2 h ih =>
    intro F w a Q hs hq
    exact ih (hs.wrap h1 h2) hq
theorem codeW_sound (ok : TTok P TT) (hm : P.follows .mixedOrders = true) {n : Nat} : ∀ (fuel : Nat) (c : Code) (t : Tm) (σ : Hp) (K : Ex → Tm → Hp → Prop) (F : Nat → Prop) (w : World) (a : Act) (Q : Exit → Act → World → Prop), codeOk n c = true → codeW P TT fuel c t σ K → SRel n F w t σ a →
    (∀ e t' σ' F' w' a', Stp F w F' w' → SRel n F' w' t' σ' a' → K e t' σ' → Q e.up a' w') → c.wp P Q a w := by
  intro fuel
  induction fuel with
  | zero => intro c t σ K F w a Q _ h; exact h.elim
  | succ fuel ih =>
    intro c t σ K F w a Q hc h hs hq
    cases c with
    | skip => exact wp_skip (hq .normal t σ F w a (.refl _ _) hs h)
    | label l => exact wp_label (hq .normal t σ F w a (.refl _ _) hs h)
    | exit id => exact wp_exit (hq (.exit id) t σ F w a (.refl _ _) hs h)
    | goto l => exact wp_goto (hq (.goto l) t σ F w a (.refl _ _) hs h)
    | ret => exact wp_ret (hq .ret t σ F w a (.refl _ _) hs h)
    | region id ops draw =>
      have hd := dst_of (n := n) (ops := ops.toList) hc
      cases draw with
      | false => exact wp_region_list (opsW_sound ok ops.toList t σ _ F w a hd h hs (fun t' σ' F' w' a' h1 h2 h3 => hq .normal t' σ' F' w' a' h1 h2 h3))
      | true =>
        have h : DrawW P TT ops.toList (K .normal) t σ := h
        exact draw_sound ok hm hd h hs (fun t' σ' F' w' a' h1 h2 h3 => hq .normal t' σ' F' w' a' h1 h2 h3)
    | seq x y =>
      simp only [codeOk, Bool.and_eq_true] at hc
      refine wp_seq (ih x t σ _ F w a _ hc.1 h hs ?_)
      intro e t' σ' F' w' a' h1 h2 h3
      cases e with
      | normal => exact ih y t' σ' K F' w' a' Q hc.2 h3 h2 (fun e t'' σ'' F'' w'' a'' k1 k2 k3 => hq e t'' σ'' F'' w'' a'' (h1.trans k1) k2 k3)
      | exit id => exact hq (.exit id) t' σ' F' w' a' h1 h2 h3
      | goto l => exact hq (.goto l) t' σ' F' w' a' h1 h2 h3
      | ret => exact hq .ret t' σ' F' w' a' h1 h2 h3
    | cond x y z =>
      simp only [codeOk, Bool.and_eq_true] at hc
      have h : (match ev t x with | .bool b => (match b with | true => codeW P TT fuel y t σ K | false => codeW P TT fuel z t σ K) | _ => False) := h
      have hx := hs.tm.eval x
      split at h
      · rename_i b hb
        rw [hb] at hx
        refine wp_cond (t := b) hx.boolv ?_
        cases b with
        | true => exact ih y t σ K F w a Q hc.1 h hs hq
        | false => exact ih z t σ K F w a Q hc.2 h hs hq
      · exact h.elim
    | block id c =>
      refine wp_block (ih c t σ _ F w a _ hc h hs ?_)
      intro e t' σ' F' w' a' h1 h2 h3
      cases e with
      | normal => exact hq .normal t' σ' F' w' a' h1 h2 h3
      | exit i =>
        show (if i = id then Q .normal a' w' else Q (.exit i) a' w')
        have h3 : (match Nat.beq i id with | true => K .normal t' σ' | false => K (.exit i) t' σ') := h3
        cases hb : Nat.beq i id with
        | true => rw [hb] at h3; rw [if_pos (Nat.eq_of_beq_eq_true hb)]; exact hq .normal t' σ' F' w' a' h1 h2 h3
        | false =>
          rw [hb] at h3
          rw [if_neg (fun e => by subst e; rw [Nat.beq_refl] at hb; cases hb)]
          exact hq (.exit i) t' σ' F' w' a' h1 h2 h3
      | goto l => exact hq (.goto l) t' σ' F' w' a' h1 h2 h3
      | ret => exact hq .ret t' σ' F' w' a' h1 h2 h3
    | loop c =>
      have h : LoopW (fun t σ Q => codeW P TT fuel c t σ Q) K t σ := h
      exact loop_sound (fun t σ K F w a Q h hs hq => ih c t σ K F w a Q hc h hs hq) h hs hq
    | scope c =>
      refine wp_scope_rel (ih c t σ _ F w a _ hc h hs ?_)
      intro e t' σ' F' w' a' h1 h2 h3
      cases e with
      | normal => exact .normal (hq .normal t' σ' F' w' a' h1 h2 h3)
      | exit i => exact .exit (hq (.exit i) t' σ' F' w' a' h1 h2 h3)
      | ret => exact .ret (hq .ret t' σ' F' w' a' h1 h2 h3)
      | goto l =>
        have h3 : GotoW (fun l t σ Q => match findLabel c l with | some r => codeW P TT fuel r t σ Q | none => False) l K t' σ' := h3
        exact goto_sound (fun l t σ K F w a Q h hs hq => by
          have h : (match findLabel c l with | some r => codeW P TT fuel r t σ K | none => False) := h
          split at h
          · rename_i r hr
            exact ⟨r, hr, ih r t σ K F w a Q (label_ok c l r hr hc) h hs hq⟩
          · exact h.elim) h3 h2 (fun e t'' σ'' F'' w'' a'' k1 k2 k3 k4 => hq e t'' σ'' F'' w'' a'' (h1.trans k1) k2 k3)
    | rangeFunc => exact h.elim
    | refuse => exact h.elim
inductive Fin (R : AV → Hp → Prop) : AV → Hp → Prop where
  | done {r : AV} {σ : Hp} (h : R r σ) : Fin R r σ
  | pull {r : AV} {σ : Hp} (js : List Nat) (h : Fin R r (pulls js σ)) : Fin R r σ
  | drop {r : AV} {σ : Hp} (k n : Nat) (h : Fin R r (σ.take k ++ σ.drop (k + n))) : Fin R r σ
  | perm {r : AV} {σ σ2 : Hp} (hp : σ2.Perm σ) (h : Fin R r σ2) : Fin R r σ
  | frz {r r' : AV} {σ : Hp} (j b off len es : Nat) (cs : List AV) (e : Sh) (l : List e.T) (h1 : σ[j]? = some (b, cs)) (h2 : (cs.drop off).take (len * es) = l.flatMap e.cells) (h3 : l.length = len ∧ e.size = es ∧ 0 < es) (h4 : FrzRel b off len es e l r r') (h : Fin R r' (σ.eraseIdx j)) : Fin R r σ
  | nil {r r' : AV} {σ : Hp} (h4 : FrzRel 0 0 0 0 .bool [] r r') (h : Fin R r' σ) : Fin R r σ
theorem fin_sound {R : AV → Hp → Prop} {r : AV} {σ : Hp} (h : Fin R r σ) : ∀ (F : Nat → Prop) (w : World) (v : Value), RelHp F w σ → VRel F w r v → ∃ r' σ' F', Stp F w F' w ∧ RelHp F' w σ' ∧ VRel F' w r' v ∧ R r' σ' := by
  induction h with
  | done h => exact fun F w v hσ hv => ⟨_, _, F, .refl _ _, hσ, hv, h⟩
  | pull js h ih => exact fun F w v hσ hv => ih F w v (hσ.perm (pulls_perm js _)) hv
  | perm hp h ih => exact fun F w v hσ hv => ih F w v (hσ.perm hp) hv
  | @drop r σ k n h ih =>
    intro F w v hσ hv
    refine ih F w v (hσ.sub ?_) hv
    have h1 : (σ.drop (k + n)).Sublist (σ.drop k) := by
      rw [← List.drop_drop]
      exact List.drop_sublist _ _
    have h2 := (List.Sublist.refl (σ.take k)).append h1
    rwa [List.take_append_drop] at h2
  | @frz r r' σ j b off len es cs e l h1 h2 h3 h4 h ih =>
    intro F w v hσ hv
    obtain ⟨hst, hσ', hh⟩ := frz_hp hσ h1 h2 h3
    obtain ⟨r'', σ'', F'', k1, k2, k3, k4⟩ := ih _ w v hσ' (frzrel_sound hst hh h4 v hv)
    exact ⟨r'', σ'', F'', hst.trans k1, k2, k3, k4⟩
  | nil h4 h ih =>
    intro F w v hσ hv
    refine ih F w v hσ (frzrel_sound (.refl _ _) (fun v hv => ?_) h4 v hv)
    obtain ⟨a, cap, rfl, c, T, fz, m1, m2, m3, m4⟩ := hv.mrefv
    exact .fsl _ _ _ ⟨some a, cap, rfl, m2, m3, (fun e => by cases e), fun hne => absurd rfl hne⟩
def t0 (xs : List AV) : Tm := fun i => match xs[i]? with | some x => x | none => .any
def retV : List AV → AV
  | [v] => v
  | vs => .tup vs
def resW (TT : TypeId → Option TI) (l : List ResultVar) : Tm → Hp → (List AV → Prop) → Prop :=
  List.rec (motive := fun _ => Tm → Hp → (List AV → Prop) → Prop) (fun _ _ K => K [])
    (fun x _ ih t σ K => match x with
      | .tmp d => strict (t d) fun v => ih t σ fun vs => K (unvia v :: vs)
      | .cell d ty => match TT ty with | some i => loadW i (t d) σ fun v => ih t σ fun vs => K (v :: vs) | none => False) l
def exitW (TT : TypeId → Option TI) (rs : List ResultVar) (R : AV → Hp → Prop) (e : Ex) (t : Tm) (σ : Hp) : Prop :=
  match e with
  | .normal | .ret => resW TT rs t σ fun vs => Fin R (retV vs) σ
  | _ => False
def bodyW (P : Program) (TT : TypeId → Option TI) (fn : Func) (xs : List AV) (σ : Hp) (R : AV → Hp → Prop) : Prop :=
  match fn.body with
  | some c => codeW P TT 1000 c (t0 xs) σ (exitW TT fn.results.toList R)
  | none => False
def funcOk (fn : Func) : Bool := (match fn.body with | some c => codeOk fn.ntmps c | none => false) && !(fn.name == "runtime.NumGoroutine")
theorem enters_of {f : FuncId} {fn : Func} (hf : P.funcs[f]? = some fn) (h : funcOk fn = true) : Enters P f := by
  unfold funcOk at h
  simp only [Bool.and_eq_true, Bool.not_eq_true'] at h
  obtain ⟨h1, h2⟩ := h
  have hb : fn.body.isNone = false := by
    cases hb : fn.body with
    | none => rw [hb] at h1; cases h1
    | some c => rfl
  intro args w
  unfold callFunc
  simp only [Sem.run_bind, run_program, Result.andThen_ok, hf, h2, hb]
  rfl
theorem loadW_sound (ok : TTok P TT) {ty : TypeId} {i : TI} (hi : TT ty = some i) {x : AV} {σ : Hp} {K : AV → Prop} (h : loadW i x σ K) : ∃ v, K v ∧ ∀ (F : Nat → Prop) (w : World) (u : Value), VRel F w x u → RelHp F w σ → ∃ v', (do loadVar ty (← asAddr u) : Sem Value).run P w = .ok v' w ∧ VRel F w v v' := by
  unfold loadW at h
  split at h
  · split at h
    · rename_i v hv
      refine ⟨v, h, fun F w u hu hσ => ?_⟩
      obtain ⟨b, o', rfl, hF, hat⟩ := hu.eptr_at
      obtain ⟨v', h1, h2⟩ := read_sound ok hi hat hv
      rw [Nat.add_zero] at h1
      exact ⟨v', by simp [asAddr, h1], h2⟩
    · exact h.elim
  · obtain ⟨j, cs, v, h1, h2, go⟩ := h
    refine ⟨v, go, fun F w u hu hσ => ?_⟩
    obtain rfl := hu.ptrv
    obtain ⟨v', h3, h4⟩ := read_sound ok hi (hσ.at_ h1) h2
    rw [Nat.zero_add] at h3
    exact ⟨v', by simp [asAddr, h3], h4⟩
  · exact h.elim
def resOne (tmps : Array Value) : ResultVar → Sem Value
  | .tmp t => pure (tmps.getD t undef)
  | .cell d t => do loadVar t (← asAddr (tmps.getD d undef))
theorem ret_rel {F : Nat → Prop} {w : World} : ∀ (vs : List AV) (us : List Value), vs.length = us.length → (∀ (i : Nat) (x : AV), vs[i]? = some x → VRel F w x (us.getD i undef)) → VRel F w (retV vs) (if h : us.toArray.size = 1 then us.toArray[0] else .tuple us.toArray)
  | [v], [u], _, h => by simpa [retV] using h 0 v rfl
  | [], [], _, _ => .tup _ _ rfl (fun i x h => by simp at h)
  | v :: v2 :: vs, u :: u2 :: us, hl, h => by
    rw [dif_neg (by simp)]
    refine .tup _ _ (by simpa using hl) (fun i x hx => ?_)
    have := h i x hx
    rw [List.getD_eq_getElem?_getD] at this
    rw [Array.getD_eq_getD_getElem?, List.getElem?_toArray]
    exact this
  | [], _ :: _, hl, _ => by simp at hl
  | _ :: _, [], hl, _ => by simp at hl
  | [_], _ :: _ :: _, hl, _ => by simp at hl
  | _ :: _ :: _, [_], hl, _ => by simp at hl
theorem resW_sound (ok : TTok P TT) : ∀ (rs : List ResultVar) (t : Tm) (σ : Hp) (K : List AV → Prop), resW TT rs t σ K → ∀ (F : Nat → Prop) (w : World) (a : Act), TRel F w t a → RelHp F w σ →
    ∃ vs us, K vs ∧ (rs.mapM (resOne a.tmps)).run P w = .ok us w ∧ vs.length = us.length ∧ ∀ (i : Nat) (x : AV), vs[i]? = some x → VRel F w x (us.getD i undef)
  | [], t, σ, K, h, F, w, a, _, _ => ⟨[], [], h, rfl, rfl, fun i x h => by simp at h⟩
  | .tmp d :: rs, t, σ, K, h, F, w, a, ht, hσ => by
    have h : strict (t d) fun v => resW TT rs t σ fun vs => K (unvia v :: vs) := h
    rw [strict_eq] at h
    obtain ⟨vs, us, h1, h2, h3, h4⟩ := resW_sound ok rs t σ _ h F w a ht hσ
    refine ⟨_, a.tmps.getD d undef :: us, h1, ?_, by simp [h3], fun i x hi => ?_⟩
    · rw [List.mapM_cons]
      simp only [resOne, Sem.run_bind, Sem.run_pure, Result.andThen_ok, h2]
    · cases i with
      | zero => simp at hi; subst hi; exact (ht d).unvia
      | succ i => simpa using h4 i x (by simpa using hi)
  | .cell d ty :: rs, t, σ, K, h, F, w, a, ht, hσ => by
    have h : (match TT ty with | some i => loadW i (t d) σ fun v => resW TT rs t σ fun vs => K (v :: vs) | none => False) := h
    split at h
    · rename_i i hi
      obtain ⟨v, h, hv⟩ := loadW_sound ok hi h
      obtain ⟨v', k1, k2⟩ := hv F w _ (ht d) hσ
      obtain ⟨vs, us, h1, h2, h3, h4⟩ := resW_sound ok rs t σ _ h F w a ht hσ
      refine ⟨_, v' :: us, h1, ?_, by simp [h3], fun i x hi => ?_⟩
      · have k1' : (resOne a.tmps (.cell d ty)).run P w = .ok v' w := k1
        rw [List.mapM_cons]
        simp only [Sem.run_bind, k1', Sem.run_pure, Result.andThen_ok, h2]
      · cases i with
        | zero => simp at hi; subst hi; exact k2
        | succ i => simpa using h4 i x (by simpa using hi)
    · exact h.elim
theorem acalls_of (ok : TTok P TT) (hm : P.follows .mixedOrders = true) {f : FuncId} {fn : Func} {xs : List AV} {σ : Hp} {R : AV → Hp → Prop} (hf : P.funcs[f]? = some fn) (hok : funcOk fn = true) (h : bodyW P TT fn xs σ R) : ACalls P f xs σ R := by
  refine ⟨enters_of hf hok, fun F w vs hvs hσ => ?_⟩
  unfold funcOk at hok
  simp only [Bool.and_eq_true] at hok
  unfold bodyW at h
  cases hb : fn.body with
  | none => rw [hb] at h; exact h.elim
  | some c =>
    rw [hb] at h
    have hc : codeOk fn.ntmps c = true := by have := hok.1; rw [hb] at this; exact this
    refine calls_of_wp hf hb (codeW_sound ok hm 1000 c (t0 xs) σ _ F w _ _ hc h ⟨fun i => ?_, hσ, by simp; omega, rfl⟩ ?_)
    · show VRel F w (match xs[i]? with | some x => x | none => .any) ((vs ++ Array.replicate (fn.ntmps - vs.size) undef).getD i undef)
      cases hi : xs[i]? with
      | none => exact .any _
      | some x =>
        have hlt : i < vs.size := by rw [← hvs.1]; exact (List.getElem?_eq_some_iff.1 hi).1
        have := hvs.2 i x hi
        rw [Array.getD_eq_getD_getElem?] at this ⊢
        rw [Array.getElem?_append_left hlt]
        exact this
    · intro e t' σ' F' w' a' h1 h2 h3
      have fin : resW TT fn.results.toList t' σ' (fun vs => Fin R (retV vs) σ') → a'.defers = [] ∧ ∃ v, (results fn a'.tmps).run P w' = .ok v w' ∧ ∃ r v' σ'' F'', Ending.returned v = .returned v' ∧ Stp F w F'' w' ∧ RelHp F'' w' σ'' ∧ VRel F'' w' r v' ∧ R r σ'' := by
        intro h3
        obtain ⟨vs', us, k1, k2, k3, k4⟩ := resW_sound ok _ _ _ _ h3 F' w' a' h2.tm h2.hp
        have hres : (results fn a'.tmps).run P w' = .ok (if h : us.toArray.size = 1 then us.toArray[0] else .tuple us.toArray) w' := by
          rw [show results fn a'.tmps = (do let vs ← fn.results.mapM (resOne a'.tmps); pure (if h : vs.size = 1 then vs[0] else .tuple vs)) from rfl]
          rw [Sem.run_bind, Array.mapM_eq_mapM_toList]
          simp only [Sem.run_map, k2, Result.andThen_ok]
          rfl
        have hrel := ret_rel vs' us k3 k4
        obtain ⟨r', σ'', F'', q1, q2, q3, q4⟩ := fin_sound k1 F' w' _ h2.hp hrel
        exact ⟨h2.defers, _, hres, r', _, σ'', F'', rfl, h1.trans q1, q2, q3, q4⟩
      cases e with
      | normal => exact fin h3
      | ret => exact fin h3
      | exit i => exact h3.elim
      | goto l => exact h3.elim
theorem ACalls.mono {f : FuncId} {xs : List AV} {σ : Hp} {R R' : AV → Hp → Prop} (h : ACalls P f xs σ R) (hr : ∀ r σ', R r σ' → R' r σ') : ACalls P f xs σ R' :=
  ⟨h.1, fun F w vs hv hσ => (h.2 F w vs hv hσ).mono fun _ _ ⟨r, v, σ', F', h1, h2, h3, h4, h5⟩ => ⟨r, v, σ', F', h1, h2, h3, h4, hr _ _ h5⟩⟩
theorem ACalls.fin {f : FuncId} {xs : List AV} {σ : Hp} {R R' : AV → Hp → Prop} (h : ACalls P f xs σ R) (hr : ∀ r σ', R r σ' → Fin R' r σ') : ACalls P f xs σ R' :=
  ⟨h.1, fun F w vs hv hσ => (h.2 F w vs hv hσ).mono fun _ _ ⟨r, v, σ', F', h1, h2, h3, h4, h5⟩ => by
    obtain ⟨r', σ'', F'', q1, q2, q3, q4⟩ := fin_sound (hr _ _ h5) F' _ v h3 h4
    exact ⟨r', v, σ'', F'', h1, h2.trans q1, q2, q3, q4⟩⟩
theorem ACalls.perm {f : FuncId} {xs : List AV} {σ σ2 : Hp} {R : AV → Hp → Prop} (h : ACalls P f xs σ R) (hp : σ.Perm σ2) : ACalls P f xs σ2 R :=
  ⟨h.1, fun F w vs hv hσ => h.2 F w vs hv (hσ.perm hp)⟩
/-- Out of an argument's reading: frozen, all of it. -/
def Sh.pos : Sh → Bool
  | .slice e => decide (0 < e.size) && e.pos
  | .field f r => f.pos && r.pos
  | _ => true
theorem freads_of {w : World} : ∀ (s : Sh) (cs : List Value) (d : s.T), s.pos = true → Reads w s cs d → FReads (fun b => b < w.heap.size) w s cs d := by
  intro s
  induction s with
  | int k => exact fun _ _ _ h => h.1
  | bool => exact fun _ _ _ h => h
  | str => exact fun _ _ _ h => h.1
  | nil => exact fun _ _ _ h => h
  | slice e ih =>
    rintro cs l hp ⟨a, c, h1, h2, h3, h0, h4⟩
    simp only [Sh.pos, Bool.and_eq_true, decide_eq_true_eq] at hp
    refine ⟨a, c, h1, h2, h3, h0, fun hne => ?_⟩
    obtain ⟨b, o, rfl, hi⟩ := h4 hne
    have hpos : 0 < l.length := List.length_pos_iff.2 hne
    refine ⟨b, o, rfl, ?_, fun i h => ?_⟩
    · obtain ⟨cs', q1, q2, q3⟩ := hi 0 hpos
      cases cs' with
      | nil => simp at q1; omega
      | cons u cs' => exact World.block_lt_of_cell? w _ (q2 0 u rfl)
    · obtain ⟨cs', q1, q2, q3⟩ := hi i h
      exact ⟨cs', q1, q2, ih _ _ hp.2 q3⟩
  | field f r ihf ihr =>
    rintro cs d hp ⟨c1, c2, h1, h2, h3, h4⟩
    simp only [Sh.pos, Bool.and_eq_true] at hp
    exact ⟨c1, c2, h1, h2, ihf _ _ hp.1 h3, ihr _ _ hp.2 h4⟩
/-- A law, out of its walk. -/
theorem law_of {f : FuncId} {xs : List AV} (h : ACalls P f xs [] (fun r _ => r = .bool true)) {w : World} {vs : Array Value} (hv : VRels (fun b => b < w.heap.size) w xs vs) :
    Calls P f vs w fun e w' => e = .returned (.bool true) ∧ Below w.heap.size w w' := by
  refine (h.2 _ w vs hv ⟨by simp, (fun p hp => by cases hp), fun _ h => h⟩).mono ?_
  rintro e w' ⟨r, v, σ', F', rfl, h1, h2, h3, rfl⟩
  rw [h3.boolv]
  exact ⟨rfl, h1.os, h1.tape, h1.output, h1.size, fun k hk => h1.fix k hk⟩
end
end Go.Proofs.YtegpahamenjiaaaGreat
