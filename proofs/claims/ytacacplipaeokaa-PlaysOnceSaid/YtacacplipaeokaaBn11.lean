/-
  Az: what the claim uses of them.
-/
import Derived.Test.YtacacplipaeokaaBn9
import Derived.Test.YtacacplipaeokaaBn10
namespace Go.Proofs.Ytacacplipaeokaa
open Go.RowKit
section
variable {P : Program} {TT : TypeId → Option TI}
def dstOk (n : Nat) (o : Oper) : Bool := (match o.dst with | some d => Nat.blt d n | none => true) && (match o.op with | .defer _ => false | _ => true)
/-- Does code write its own temporaries alone (rd: in a round)? -/
def codeOk (n : Nat) : Bool → Code → Bool
  | _, .region _ ops _ => ops.toList.all (dstOk n)
  | rd, .seq a b => codeOk n rd a && codeOk n rd b
  | rd, .cond _ a b => codeOk n rd a && codeOk n rd b
  | rd, .block _ c => codeOk n rd c
  | rd, .loop c => codeOk n rd c
  | rd, .scope c => !rd && codeOk n false c
  | rd, .rangeFunc _ ps a b => !rd && ps.toList.all (fun p => Nat.blt p n) && codeOk n true a && codeOk n true b
  | _, _ => true
theorem label_ok {n : Nat} {rd : Bool} : ∀ (c : Code) (l : Nat) (r : Code), findLabel c l = some r → codeOk n rd c = true → codeOk n rd r = true := by
  intro c
  induction c with
  | seq a b iha ihb =>
    intro l r h hc
    simp only [codeOk, Bool.and_eq_true] at hc
    simp only [findLabel] at h
    split at h
    · rename_i rest hr
      cases h
      simp only [codeOk, Bool.and_eq_true]
      exact ⟨iha l _ hr hc.1, hc.2⟩
    · exact ihb l r h hc.2
  | label l' =>
    intro l r h _
    simp only [findLabel] at h
    split at h
    · cases h; rfl
    · cases h
  | _ => intro l r h; simp [findLabel] at h
theorem dst_of {n : Nat} {ops : List Oper} (h : ops.all (dstOk n) = true) : ∀ o ∈ ops, ∀ d, o.dst = some d → d < n := fun o ho d hd => by
  have := List.all_eq_true.1 h o ho
  unfold dstOk at this
  rw [hd, Bool.and_eq_true] at this
  exact Nat.le_of_ble_eq_true this.1
theorem nd_of {n : Nat} {ops : List Oper} (h : ops.all (dstOk n) = true) : ∀ o ∈ ops, ∀ c, o.op ≠ .defer c := fun o ho c hc => by
  have := List.all_eq_true.1 h o ho
  unfold dstOk at this
  rw [hc, Bool.and_eq_true] at this
  cases this.2
theorem wpIn_loop_rel {F : Fence} {n : Nat} {c : Code} {Q : Exit → Act → World → Prop} {a : Act} {w : World} (J : Nat → Act → World → Prop) (m : Nat) (h₀ : J m a w)
    (round : ∀ m a w, J m a w → c.wpIn F n P (Exit.then (fun a' w' => ∃ m', m' < m ∧ J m' a' w') Q) a w) : (Code.loop c).wpIn F n P Q a w := by
  intro b k cs hro hb hr
  have key : ∀ n a w, J n a w → ∃ e a' w', Q e a' w' ∧ ArrivesIn (Machine.fenced P F) P (lone (b.atR a (.code c :: .inLoop c :: k)) cs w) b k cs e a' w' := by
    intro n
    induction n using Nat.strongRecOn with
    | _ n ih =>
      intro a w hI
      obtain ⟨e, a₁, w₁, hq, harr⟩ := round n a w hI b (.inLoop c :: k) cs hro hb hr
      cases e with
      | normal =>
        obtain ⟨m', hlt, hI₁⟩ := hq
        obtain ⟨e₂, a₂, w₂, hq₂, harr₂⟩ := ih m' hlt a₁ w₁ hI₁
        exact ⟨e₂, a₂, w₂, hq₂, .of_steps (StepsIn.trans harr (.one (fenced_calm hb hr rfl) stepR_inLoop)) harr₂⟩
      | exit id => exact ⟨_, a₁, w₁, hq, .pass (x := .inLoop c) rfl (fun _ _ => .inl (by simp)) harr⟩
      | goto l => exact ⟨_, a₁, w₁, hq, .pass (x := .inLoop c) rfl (fun _ _ => .inl (by simp)) harr⟩
      | ret => exact ⟨_, a₁, w₁, hq, .pass (x := .inLoop c) rfl (fun _ _ => .inl (by simp)) harr⟩
      | panic ch => exact ⟨_, a₁, w₁, hq, .pass (x := .inLoop c) rfl (fun _ _ => .inl (by simp)) harr⟩
      | outgrown => exact ⟨_, a₁, w₁, hq, .pass (x := .inLoop c) rfl (fun _ _ => .inl (by simp)) harr⟩
  obtain ⟨e, a', w', hq, harr⟩ := key m a w h₀
  exact ⟨e, a', w', hq, .of_steps (.one (fenced_calm hb hr rfl) stepR_loop) harr⟩
def Ex.up : Ex → Exit
  | .normal => .normal
  | .exit id => .exit id
  | .goto l => .goto l
  | .ret => .ret
/-- A scope, whatever its jumps lead to. -/
inductive Jumps (P : Program) (c : Code) (Q : Exit → Act → World → Prop) : Exit → Act → World → Prop where
  | normal {a : Act} {w : World} (h : Q .normal a w) : Jumps P c Q .normal a w
  | exit {id : Nat} {a : Act} {w : World} (h : Q (.exit id) a w) : Jumps P c Q (.exit id) a w
  | ret {a : Act} {w : World} (h : Q .ret a w) : Jumps P c Q .ret a w
  | goto {l : Nat} {a : Act} {w : World} (n : Nat) (J : Nat → Nat → Act → World → Prop) (h : J n l a w) (hr : ∀ n l a w, J n l a w → ∃ r, findLabel c l = some r ∧ r.wp P (fun e a' w' => match e with | .goto l' => ∃ n', n' < n ∧ J n' l' a' w' | .panic _ => False | .outgrown => False | e => Q e a' w') a w) : Jumps P c Q (.goto l) a w
theorem wp_scope_rel {c : Code} {Q : Exit → Act → World → Prop} {a : Act} {w : World} (h : c.wp P (Jumps P c Q) a w) : (Code.scope c).wp P Q a w := by
  intro b k cs
  obtain ⟨e, a₁, w₁, hq, harr⟩ := h b (.inScope c :: k) cs
  have top : Steps P (lone (b.at a (.code (.scope c) :: k)) cs w) (lone (b.at a (.code c :: .inScope c :: k)) cs w) := .one step_scope
  cases hq with
  | normal h => exact ⟨.normal, a₁, w₁, h, .of_steps top (Steps.trans harr (.one step_inScope))⟩
  | exit h => exact ⟨.exit _, a₁, w₁, h, .of_steps top (fun k' hk => harr k' (by simp [exitTo, hk]))⟩
  | ret h => exact ⟨_, a₁, w₁, h, .of_steps top harr⟩
  | @goto l _ _ n J hJ hr =>
    have key : ∀ (n l : Nat) (a : Act) (w : World), J n l a w → ∃ rest, findLabel c l = some rest ∧ ∃ e a' w', Q e a' w' ∧ Arrives P (lone (b.at a (.code rest :: .inScope c :: k)) cs w) b k cs e a' w' := by
      intro n
      induction n using Nat.strongRecOn with
      | _ n ih =>
        intro l a w hI
        obtain ⟨r, hl, hwp⟩ := hr n l a w hI
        refine ⟨r, hl, ?_⟩
        obtain ⟨e, a₂, w₂, hq₂, harr₂⟩ := hwp b (.inScope c :: k) cs
        cases e with
        | normal => exact ⟨.normal, a₂, w₂, hq₂, Steps.trans harr₂ (.one step_inScope)⟩
        | exit id => exact ⟨.exit id, a₂, w₂, hq₂, fun k' hk => harr₂ k' (by simp [exitTo, hk])⟩
        | goto l' =>
          obtain ⟨n', hlt, hJ'⟩ := hq₂
          obtain ⟨rest, hf, e₃, a₃, w₃, hq₃, harr₃⟩ := ih n' hlt l' a₂ w₂ hJ'
          have hg : gotoIn l' (.inScope c :: k) = some (.code rest :: .inScope c :: k) := by simp [gotoIn, hf]
          exact ⟨e₃, a₃, w₃, hq₃, .of_steps (harr₂ _ hg) harr₃⟩
        | ret => exact ⟨_, a₂, w₂, hq₂, harr₂⟩
        | panic ch => exact hq₂.elim
        | outgrown => exact hq₂.elim
    obtain ⟨rest, hf, e₃, a₃, w₃, hq₃, harr₃⟩ := key n l a₁ w₁ hJ
    have hg : gotoIn l (.inScope c :: k) = some (.code rest :: .inScope c :: k) := by simp [gotoIn, hf]
    exact ⟨e₃, a₃, w₃, hq₃, .of_steps top (.of_steps (harr _ hg) harr₃)⟩
theorem SRel.frz {B n : Nat} {F : Nat → Prop} {w : World} {t t' : Tm} {σ : Hp} {a : Act} (hs : SRel B n F w t σ a) {j b off len es : Nat} {cs : List AV} {e : Sh} {l : List e.T} (h1 : σ[j]? = some (b, cs)) (h2 : (cs.drop off).take (len * es) = l.flatMap e.cells) (h3 : l.length = len ∧ e.size = es ∧ 0 < es) (h4 : ∀ i, FrzRel b off len es e l (t i) (t' i)) :
    ∃ F', Stp F w F' w ∧ SRel B n F' w t' (σ.eraseIdx j) a := by
  obtain ⟨hst, hσ', hh⟩ := frz_hp hs.hp h1 h2 h3
  exact ⟨_, hst, fun i => frzrel_sound hst hh (h4 i) _ (hs.tm i), hσ', hs.size, hs.defers.mono hst⟩
theorem SRel.wrap {B n : Nat} {F : Nat → Prop} {w : World} {t : Tm} {σ : Hp} {a : Act} (hs : SRel B n F w t σ a) {k : Nat} {v : AV} (h1 : t k = v) (h2 : v.leaf = true) : SRel B n F w (upd t [(k, .via v)]) σ a :=
  ⟨fun i => by
    show VRel F w (match Nat.beq i k with | true => .via v | false => t i) _
    cases hb : Nat.beq i k with
    | true => rw [Nat.eq_of_beq_eq_true hb]; exact .via _ _ h2 (h1 ▸ hs.tm k)
    | false => exact hs.tm i, hs.hp, hs.size, hs.defers⟩
theorem draw_sound (ok : TTok P TT) (hm : P.follows .mixedOrders = true) {r : Option Nat} {B n : Nat} {ops : Array Oper} {K : Tm → Hp → Prop} {Q : Exit → Act → World → Prop} {t : Tm} {σ : Hp} (hd : ∀ o ∈ ops.toList, ∀ d, o.dst = some d → d < n) (hnd : ∀ o ∈ ops.toList, ∀ c, o.op ≠ .defer c) (h : DrawW P TT ops.toList K t σ) : ∀ {F : Nat → Prop} {w : World} {a : Act} {id : Nat}, SRel B n F w t σ a →
    (∀ t' σ' F' w' a', Stp F w F' w' → SRel B n F' w' t' σ' a' → K t' σ' → Q .normal a' w') → (Code.region id ops true).wpIn (FW r) 0 P Q a w := by
  induction h with
  | quiet h0 h => exact fun hs hq => quiet_sound ok hm h0 h hd hnd hs (fun t' F' w' a' h1 h2 h3 => hq t' _ F' w' a' h1 h2 h3)
  | each h0 h => exact fun hs hq => each_sound ok hm h0 h hd hnd hs (fun t' σ' F' w' a' h1 h2 h3 => hq t' σ' F' w' a' h1 h2 h3)
  | sched Q0 s h0 h => exact fun hs hq => sched_sound ok hm h0 h hd hnd hs (fun t' σ' F' w' a' h1 h2 h3 => hq t' σ' F' w' a' h1 h2 h3)
  | meet L H h0 h go =>
    intro F w a id hs hq
    refine each_sound ok hm h0 h hd hnd hs (fun t' σ' F' w' a' h1 h2 h3 => ?_)
    obtain ⟨s, k1, k2⟩ := h3
    refine hq t' (H s) F' w' a' h1 (h2.shed k2) ?_
    rw [upd_self k1]
    exact go s t'
  | meetS Q0 s0 L H h0 h go =>
    intro F w a id hs hq
    refine sched_sound ok hm h0 h hd hnd hs (fun t' σ' F' w' a' h1 h2 h3 => ?_)
    obtain ⟨s, k1, k2⟩ := h3
    refine hq t' (H s) F' w' a' h1 (h2.shed k2) ?_
    rw [upd_self k1]
    exact go s t'
  | frz j b off len es cs e l h1 h2 h3 h4 h ih =>
    intro F w a id hs hq
    obtain ⟨F1, k1, k2⟩ := hs.frz h1 h2 h3 h4
    exact ih k2 (fun t' σ' F' w' a' q1 q2 q3 => hq t' σ' F' w' a' (k1.trans q1) q2 q3)
  | shed h1 h ih =>
    intro F w a id hs hq
    exact ih (hs.shed h1) hq
theorem SRel.frzc {B n : Nat} {F : Nat → Prop} {w : World} {t : Tm} {σ : Hp} {a : Act} (hs : SRel B n F w t σ a) {j b off len es : Nat} {cs : List AV} {e : Sh} {l : List e.T} (h1 : σ[j]? = some (b, cs)) (h2 : (cs.drop off).take (len * es) = l.flatMap e.cells) (h3 : l.length = len ∧ e.size = es ∧ 0 < es) {i k b' : Nat} {cs' : List AV} (hi : (σ.eraseIdx j)[i]? = some (b', cs')) (hk : cs'[k]? = some (.mref b off len es)) :
    ∃ F', Stp F w F' w ∧ SRel B n F' w t ((σ.eraseIdx j).set i (b', cs'.set k (.fsl e l))) a := by
  obtain ⟨hst, hσ', hh⟩ := frz_hp hs.hp h1 h2 h3
  exact ⟨_, hst, fun i => (hs.tm i).mono hst, frz_cell hσ' hh hi hk, hs.size, hs.defers.mono hst⟩
theorem SRel.nil {B n : Nat} {F : Nat → Prop} {w : World} {t t' : Tm} {σ : Hp} {a : Act} (hs : SRel B n F w t σ a) (h4 : ∀ i, FrzRel 0 0 0 0 .bool [] (t i) (t' i)) : SRel B n F w t' σ a :=
  ⟨fun i => frzrel_sound (.refl _ _) (fun v hv => by
    obtain ⟨a, cap, rfl, c, T, fz, m1, m2, m3, m4⟩ := hv.mrefv
    exact .fsl _ _ _ ⟨some a, cap, rfl, m2, m3, (fun e => by cases e), fun hne => absurd rfl hne⟩) (h4 i) _ (hs.tm i), hs.hp, hs.size, hs.defers⟩
theorem nextR_get {B n : Nat} {S : Type} {L : S → List (Nat × AV)} {H : S → Hp} {p : S → Prop} {μ : S → Nat} {s : S} {t' : Tm} {σ' : Hp} (h : NextR L H p μ s t' σ') : ∀ {F : Nat → Prop} {w : World} {a : Act}, SRel B n F w t' σ' a →
    ∃ F' t2 s', Stp F w F' w ∧ SRel B n F' w t2 (H s') a ∧ μ s' < μ s ∧ p s' ∧ agree t2 (L s') := by
  induction h with
  | mk s' h1 h2 h3 h4 => exact fun hs => ⟨_, _, s', .refl _ _, hs.shed h4, h1, h2, h3⟩
  | frz j b off len es cs e l h1 h2 h3 h4 h ih =>
    intro F w a hs
    obtain ⟨F1, k1, k2⟩ := hs.frz h1 h2 h3 h4
    obtain ⟨F2, t2, s', q1, q2, q3⟩ := ih k2
    exact ⟨F2, t2, s', k1.trans q1, q2, q3⟩
  | frzc j b off len es cs e l h1 h2 h3 i k b' cs' hi hk h ih =>
    intro F w a hs
    obtain ⟨F1, k1, k2⟩ := hs.frzc h1 h2 h3 hi hk
    obtain ⟨F2, t2, s', q1, q2, q3⟩ := ih k2
    exact ⟨F2, t2, s', k1.trans q1, q2, q3⟩
  | shed h1 h ih => exact fun hs => ih (hs.shed h1)
  | nil h4 h ih => exact fun hs => ih (hs.nil h4)
theorem nextG_get {B n : Nat} {S : Type} {lab : S → Nat} {L : S → List (Nat × AV)} {H : S → Hp} {p : S → Prop} {μ : S → Nat} {s : S} {l : Nat} {t' : Tm} {σ' : Hp} (h : NextG lab L H p μ s l t' σ') : ∀ {F : Nat → Prop} {w : World} {a : Act}, SRel B n F w t' σ' a →
    ∃ F' t2 s', Stp F w F' w ∧ SRel B n F' w t2 (H s') a ∧ l = lab s' ∧ μ s' < μ s ∧ p s' ∧ agree t2 (L s') := by
  induction h with
  | mk s' h0 h1 h2 h3 h4 => exact fun hs => ⟨_, _, s', .refl _ _, hs.shed h4, h0, h1, h2, h3⟩
  | frz j b off len es cs e l h1 h2 h3 h4 h ih =>
    intro F w a hs
    obtain ⟨F1, k1, k2⟩ := hs.frz h1 h2 h3 h4
    obtain ⟨F2, t2, s', q1, q2, q3⟩ := ih k2
    exact ⟨F2, t2, s', k1.trans q1, q2, q3⟩
  | frzc j b off len es cs e l h1 h2 h3 i k b' cs' hi hk h ih =>
    intro F w a hs
    obtain ⟨F1, k1, k2⟩ := hs.frzc h1 h2 h3 hi hk
    obtain ⟨F2, t2, s', q1, q2, q3⟩ := ih k2
    exact ⟨F2, t2, s', k1.trans q1, q2, q3⟩
  | shed h1 h ih => exact fun hs => ih (hs.shed h1)
  | nil h4 h ih => exact fun hs => ih (hs.nil h4)
theorem loop_sound {r : Option Nat} {B n : Nat} {c : Code} {body : Tm → Hp → (Ex → Tm → Hp → Prop) → Prop} (hb : ∀ (t : Tm) (σ : Hp) (K : Ex → Tm → Hp → Prop) (F : Nat → Prop) (w : World) (a : Act) (Q : Exit → Act → World → Prop), body t σ K → SRel B n F w t σ a →
      (∀ e t' σ' F' w' a', Stp F w F' w' → SRel B n F' w' t' σ' a' → K e t' σ' → Q e.up a' w') → c.wpIn (FW r) 0 P Q a w) {K : Ex → Tm → Hp → Prop} {t : Tm} {σ : Hp} (h : LoopW body K t σ) : ∀ {F : Nat → Prop} {w : World} {a : Act} {Q : Exit → Act → World → Prop}, SRel B n F w t σ a →
    (∀ e t' σ' F' w' a', Stp F w F' w' → SRel B n F' w' t' σ' a' → K e t' σ' → Q e.up a' w') → (Code.loop c).wpIn (FW r) 0 P Q a w := by
  induction h with
  | @mk t σ S L H p μ s0 h0 hr =>
    intro F w a Q hs hq
    refine wpIn_loop_rel (fun m a' w' => ∃ t' σ' F', Stp F w F' w' ∧ SRel B n F' w' t' σ' a' ∧ Head L H p μ m t' σ') (μ s0) ⟨t, σ, F, .refl _ _, hs, s0, t, rfl, h0.1, upd_self h0.2.1, h0.2.2⟩ ?_
    rintro m a1 w1 ⟨_, _, F1, s1, r1, ss, g, rfl, hp, rfl, rfl⟩
    refine hb _ _ _ F1 w1 a1 _ (hr ss g hp) r1 ?_
    intro e t' σ' F' w' a' h1 h2 h3
    cases e with
    | normal =>
      obtain ⟨F2, t2, s', q1, q2, k1, k2, k3⟩ := nextR_get h3 h2
      exact ⟨_, k1, t2, _, F2, s1.trans (h1.trans q1), q2, s', t2, rfl, k2, upd_self k3, rfl⟩
    | exit id => exact hq (.exit id) t' σ' F' w' a' (s1.trans h1) h2 h3
    | goto l => exact hq (.goto l) t' σ' F' w' a' (s1.trans h1) h2 h3
    | ret => exact hq .ret t' σ' F' w' a' (s1.trans h1) h2 h3
  | frz j b off len es cs e l h1 h2 h3 h4 h ih =>
    intro F w a Q hs hq
    obtain ⟨F1, k1, k2⟩ := hs.frz h1 h2 h3 h4
    exact ih k2 (fun e t' σ' F' w' a' q1 q2 q3 => hq e t' σ' F' w' a' (k1.trans q1) q2 q3)
  | shed h1 h ih =>
    intro F w a Q hs hq
    exact ih (hs.shed h1) hq
  | wrap k v h1 h2 h ih =>
    intro F w a Q hs hq
    exact ih (hs.wrap h1 h2) hq
  | nil h4 h ih =>
    intro F w a Q hs hq
    exact ih (hs.nil h4) hq
theorem goto_sound {B n : Nat} {c : Code} {R : Nat → Tm → Hp → (Ex → Tm → Hp → Prop) → Prop} (hR : ∀ (l : Nat) (t : Tm) (σ : Hp) (K : Ex → Tm → Hp → Prop) (F : Nat → Prop) (w : World) (a : Act) (Q : Exit → Act → World → Prop), R l t σ K → SRel B n F w t σ a →
      (∀ e t' σ' F' w' a', Stp F w F' w' → SRel B n F' w' t' σ' a' → K e t' σ' → Q e.up a' w') → ∃ r, findLabel c l = some r ∧ r.wp P Q a w) {l : Nat} {K : Ex → Tm → Hp → Prop} {t : Tm} {σ : Hp} (h : GotoW R l K t σ) : ∀ {F : Nat → Prop} {w : World} {a : Act} {Q : Exit → Act → World → Prop}, SRel B n F w t σ a →
    (∀ e t' σ' F' w' a', Stp F w F' w' → SRel B n F' w' t' σ' a' → K e t' σ' → (∀ l, e ≠ .goto l) → Q e.up a' w') → Jumps P c Q (.goto l) a w := by
  induction h with
  | @fwd t σ k h =>
    intro F w a Q hs hq
    refine .goto k (fun k l a' w' => ∃ t' σ' F', Stp F w F' w' ∧ SRel B n F' w' t' σ' a' ∧ gotoW R k l t' σ' K) ⟨t, σ, F, .refl _ _, hs, h⟩ ?_
    rintro k l a1 w1 ⟨t1, σ1, F1, s1, r1, h⟩
    cases k with
    | zero => exact h.elim
    | succ k =>
      refine hR l t1 σ1 _ F1 w1 a1 _ h r1 ?_
      intro e t' σ' F' w' a' h1 h2 h3
      cases e with
      | normal => exact hq .normal t' σ' F' w' a' (s1.trans h1) h2 h3 (by simp)
      | exit id => exact hq (.exit id) t' σ' F' w' a' (s1.trans h1) h2 h3 (by simp)
      | goto l => exact ⟨k, Nat.lt_succ_self _, t', σ', F', s1.trans h1, h2, h3⟩
      | ret => exact hq .ret t' σ' F' w' a' (s1.trans h1) h2 h3 (by simp)
  | @loop t σ S lab L H p μ s0 h0 hr =>
    intro F w a Q hs hq
    refine .goto (μ s0) (fun m l a' w' => ∃ s g F', Stp F w F' w' ∧ SRel B n F' w' (upd g (L s)) (H s) a' ∧ m = μ s ∧ l = lab s ∧ p s) ⟨s0, t, F, .refl _ _, ?_, rfl, h0.1, h0.2.1⟩ ?_
    · rw [← upd_self h0.2.2.1]; exact hs.shed h0.2.2.2
    rintro m l a1 w1 ⟨s, g, F1, s1, r1, rfl, rfl, hp⟩
    refine hR (lab s) _ _ _ F1 w1 a1 _ (hr s g hp) r1 ?_
    intro e t' σ' F' w' a' h1 h2 h3
    cases e with
    | normal => exact hq .normal t' σ' F' w' a' (s1.trans h1) h2 h3 (by simp)
    | exit id => exact hq (.exit id) t' σ' F' w' a' (s1.trans h1) h2 h3 (by simp)
    | goto l =>
      obtain ⟨F2, t2, s', q1, q2, k0, k1, k2, k3⟩ := nextG_get h3 h2
      refine ⟨_, k1, s', t2, F2, s1.trans (h1.trans q1), ?_, rfl, k0, k2⟩
      rw [← upd_self k3]
      exact q2
    | ret => exact hq .ret t' σ' F' w' a' (s1.trans h1) h2 h3 (by simp)
  | frz j b off len es cs e l h1 h2 h3 h4 h ih =>
    intro F w a Q hs hq
    obtain ⟨F1, k1, k2⟩ := hs.frz h1 h2 h3 h4
    exact ih k2 (fun e t' σ' F' w' a' q1 q2 q3 q4 => hq e t' σ' F' w' a' (k1.trans q1) q2 q3 q4)
  | shed h1 h ih =>
    intro F w a Q hs hq
    exact ih (hs.shed h1) hq
  | wrap k v h1 h2 h ih =>
    intro F w a Q hs hq
    exact ih (hs.wrap h1 h2) hq
/-- From (F, w) to (F', w'): no block of cells turns, none of F's is lost. -/
structure NC (F : Nat → Prop) (w : World) (F' : Nat → Prop) (w' : World) : Prop where
  sub : ∀ b, FC F w b → F' b
  cells : ∀ b, CellsAt w b → w'.heap[b]? = w.heap[b]?
theorem NC.at_ {F F' : Nat → Prop} {w w' : World} (h : NC F w F' w') {b : Nat} (hc : CellsAt w b) : CellsAt w' b := by
  obtain ⟨c, T, fz, e⟩ := hc
  exact ⟨c, T, fz, (h.cells b ⟨c, T, fz, e⟩).trans e⟩
theorem NC.fc {F F' : Nat → Prop} {w w' : World} (h : NC F w F' w') {b : Nat} (hf : FC F w b) : FC F' w' b := ⟨h.sub b hf, h.at_ hf.2⟩
theorem FReads.nc {F F' : Nat → Prop} {w w' : World} (hn : NC F w F' w') : ∀ (s : Sh) (cs : List Value) (d : s.T), FReads F w s cs d → FReads F' w' s cs d := by
  intro s
  induction s with
  | int k => exact fun _ _ h => h
  | bool => exact fun _ _ h => h
  | str => exact fun _ _ h => h
  | nil => exact fun _ _ h => h
  | slice e ih =>
    rintro cs l ⟨a, c, h1, h2, h3, h0, h4⟩
    refine ⟨a, c, h1, h2, h3, h0, fun hne => ?_⟩
    obtain ⟨b, o, rfl, hF, hi⟩ := h4 hne
    refine ⟨b, o, rfl, hn.fc hF, fun i h => ?_⟩
    obtain ⟨cs', q1, q2, q3⟩ := hi i h
    exact ⟨cs', q1, q2.fix (hn.cells b hF.2), ih _ _ q3⟩
  | field f r ihf ihr =>
    rintro cs d ⟨c1, c2, h1, h2, h3, h4⟩
    exact ⟨c1, c2, h1, h2, ihf _ _ h3, ihr _ _ h4⟩
theorem VRel.nc {F F' : Nat → Prop} {w w' : World} (hn : NC F w F' w') {x : AV} {v : Value} (h : VRel F w x v) : VRel F' w' x v := by
  induction h with
  | int k n => exact .int k n
  | bool b => exact .bool b
  | str s => exact .str s
  | fsl e l v h => exact .fsl e l v (FReads.nc hn _ _ _ h)
  | zsl a => exact .zsl a
  | esl a c h => exact .esl a c h
  | nils => exact .nils
  | mref b off len e a cap h =>
    obtain ⟨c, T, fz, h1, h2⟩ := h
    exact .mref b off len e a cap ⟨c, T, fz, (hn.cells b ⟨c, T, fz, h1⟩).trans h1, h2⟩
  | nilp => exact .nilp
  | ptr b off h => exact .ptr b off (hn.at_ h)
  | mapr b => exact .mapr b
  | itr b => exact .itr b
  | eptr cs b o f hF h1 hl h ih => exact .eptr cs b o f (hn.fc hF) (fun i x hx => (cell_fix (hn.cells b hF.2) _).trans (h1 i x hx)) hl ih
  | agg cs vs hs hl h ih => exact .agg cs vs hs hl ih
  | tup cs vs hs h ih => exact .tup cs vs hs ih
  | iface t a v h ih => exact .iface t a v ih
  | nilif => exact .nilif
  | fn f c1 c2 v1 v2 hs1 hs2 h1 h2 ih1 ih2 => exact .fn f c1 c2 v1 v2 hs1 hs2 ih1 ih2
  | nilfn => exact .nilfn
  | nilm => exact .nilm
  | flt n b h => exact .flt n b h
  | cpx n m a b h1 h2 => exact .cpx n m a b h1 h2
  | any v => exact .any v
  | via x v hl h ih => exact .via x v hl ih
theorem Holds.nc {F F' : Nat → Prop} {w w' : World} (hn : NC F w F' w') {b : Nat} {cs : List AV} (h : Holds F w b cs) (hb : w'.heap[b]? = w.heap[b]?) (hF : ¬ F' b) : Holds F' w' b cs := by
  obtain ⟨_, ⟨c, T, h1, h2, h3⟩ | ⟨x, o, h1, h2, h3⟩ | ⟨L, t, h1, h2, h3⟩⟩ := h
  · exact ⟨hF, .inl ⟨c, T, hb.trans h1, h2, fun i x hx => ⟨(h3 i x hx).1, (h3 i x hx).2.nc hn⟩⟩⟩
  · exact ⟨hF, .inr (.inl ⟨x, o, h1, hb.trans h2, h3⟩)⟩
  · exact ⟨hF, .inr (.inr ⟨L, t, h1, hb.trans h2, fun i => (h3 i).nc hn⟩)⟩
theorem RelHp.nc {F F' : Nat → Prop} {w w' : World} {σ : Hp} (h : RelHp F w σ) (hn : NC F w F' w') (hk : ∀ p ∈ σ, w'.heap[p.1]? = w.heap[p.1]? ∧ ¬ F' p.1) (hlow : ∀ b, F' b → b < w'.heap.size) : RelHp F' w' σ :=
  ⟨h.nodup, fun p hp => (h.holds p hp).nc hn (hk p hp).1 (hk p hp).2, hlow⟩
theorem RelHp.out {F : Nat → Prop} {w : World} {σ : Hp} (h : RelHp F w σ) {b : Nat} (hb : F b) : ∀ p ∈ σ, p.1 ≠ b := fun p hp e => (h.holds p hp).1 (e ▸ hb)
/-- Another record in a loop's block. -/
theorem nc_put {F F' : Nat → Prop} {w : World} {l : Nat} {L L' : Loop} (hl : w.heap[l]? = some (.loop L)) (hs : ∀ b, b ≠ l → F b → F' b) : NC F w F' (w.putObj l (.loop L')) where
  sub := fun b ⟨hF, c, T, fz, hc⟩ => hs b (fun e => by subst e; rw [hl] at hc; cases hc) hF
  cells := fun b ⟨c, T, fz, hc⟩ => World.putObj_heap_other (fun e => by subst e; rw [hl] at hc; cases hc)
theorem rows_put {w : World} {l : Nat} {L L' : Loop} (hl : w.heap[l]? = some (.loop L)) (b : Nat) (c : Array Value) (T : TypeId) (fz : Nat × Nat) (h : w.heap[b]? = some (.cells c T fz)) : (w.putObj l (.loop L')).heap[b]? = some (.cells c T fz) :=
  (World.putObj_heap_other (fun e => by subst e; rw [hl] at h; cases h)).trans h
def jumpC : Ex → Code
  | .normal => .skip
  | .exit i => .exit i
  | .goto l => .goto l
  | .ret => .ret
/-- The record of a loop that is ready; of one that was left by e. -/
def recL (fn : FuncId) (tm : Array Value) (ps : Array Tmp) (asg body : Code) (D : Nat) (st : LoopState) (pe : Option Code) : Loop := { state := st, pending := pe, fn, tmps := tm, params := ps, assign := asg, body, defers := D }
theorem ps_rel {n : Nat} {F : Nat → Prop} {w : World} : ∀ (ps : List Tmp) (xs : List AV) (us : List Value) (t : Tm) (tm : Array Value), xs.length = us.length → ps.all (fun p => Nat.blt p n) = true → n ≤ tm.size → (∀ i, VRel F w (t i) (tm.getD i undef)) → (∀ (i : Nat) (x : AV), xs[i]? = some x → VRel F w x (us.getD i undef)) →
    n ≤ ((ps.zip us).foldl (fun t p => t.setIfInBounds p.1 p.2) tm).size ∧ ∀ i, VRel F w (psT ps xs t i) (((ps.zip us).foldl (fun t p => t.setIfInBounds p.1 p.2) tm).getD i undef)
  | [], xs, us, t, tm, _, _, hs, ht, _ => by cases xs <;> exact ⟨hs, ht⟩
  | p :: ps, [], us, t, tm, hl, _, hs, ht, _ => by cases us with
    | nil => exact ⟨hs, ht⟩
    | cons u us => cases hl
  | p :: ps, x :: xs, [], t, tm, hl, _, _, _, _ => by cases hl
  | p :: ps, x :: xs, u :: us, t, tm, hl, hp, hs, ht, hx => by
    simp only [List.all_cons, Bool.and_eq_true] at hp
    have hpn : p < n := Nat.le_of_ble_eq_true hp.1
    refine ps_rel ps xs us (put t (some p) x) (tm.setIfInBounds p u) (by simpa using hl) hp.2 (by simpa using hs) (fun i => ?_) (fun i y hy => by simpa using hx (i + 1) y (by simpa using hy))
    show VRel F w (match Nat.beq i p with | true => x | false => t i) _
    cases hb : Nat.beq i p with
    | true =>
      obtain rfl := Nat.eq_of_beq_eq_true hb
      have hi : i < tm.size := Nat.lt_of_lt_of_le hpn hs
      simpa [Array.getD, hi] using hx 0 x rfl
    | false =>
      have hne : p ≠ i := fun e => by subst e; rw [Nat.beq_refl] at hb; cases hb
      have := ht i
      rw [Array.getD_eq_getD_getElem?] at this ⊢
      rw [Array.getElem?_setIfInBounds_ne hne]
      exact this
/-- What is asked of a part of a round. -/
def PartOk (P : Program) (B n l : Nat) (c : Code) (R : Tm → Hp → (Ex → Tm → Hp → Prop) → Prop) : Prop :=
  ∀ (t : Tm) (σ : Hp) (K : Ex → Tm → Hp → Prop) (F : Nat → Prop) (w : World) (a : Act) (Q : Exit → Act → World → Prop), R t σ K → SRel B n F w t σ a →
    (∀ e t' σ' F' w' a', Stp F w F' w' → SRel B n F' w' t' σ' a' → K e t' σ' → Q e.up a' w') → c.wpIn (FW (some l)) 0 P Q a w
theorem round_sound {B n l D : Nat} {fn : FuncId} {tm : Array Value} {ps : Array Tmp} {asg body : Code} {t : Tm} {rA rB : Tm → Hp → (Ex → Tm → Hp → Prop) → Prop} (hB : B ≤ l) (hn : n ≤ tm.size) (hps : ps.toList.all (fun p => Nat.blt p n) = true)
    (hA : PartOk P B n l asg rA) (hb : PartOk P B n l body rB) {xs : List AV} {σ1 : Hp} {R1 : Ex → Hp → Prop} (hxs : xs.length = ps.size)
    (h : rA (psT ps.toList xs t) σ1 fun e t' σ' => match e with | .normal => rB t' σ' (fun e _ σ'' => R1 e σ'') | _ => False) :
    YCalls P l xs ((l, [.loopc (recL fn tm ps asg body D .ready none) t]) :: σ1) (YPost l (.loopc (recL fn tm ps asg body D .ready none) t) (fun e => .loopc (recL fn tm ps asg body D .done (some (jumpC e))) t) R1) := by
  intro F w vs hvs hσ
  obtain ⟨hFl, hl, htm⟩ := (hσ.holds _ (List.mem_cons_self ..)).loopv
  have hnd := hσ.nodup
  simp only [List.map_cons, List.nodup_cons] at hnd
  have hll : l < w.heap.size := at_lt hl
  have hsz : vs.size = ps.size := hvs.1.symm.trans hxs
  refine ⟨fn, _, asg, body, run_yield hl hsz, roundIn_of_wpIn trivial ?_⟩
  -- l is kept while the round is under way
  have st0 : Stp F w (fun b => F b ∨ b = l) w := ⟨rfl, rfl, rfl, Nat.le_refl _, fun _ h => .inl h, fun _ _ => rfl, fun _ c _ fz h => ⟨c, fz, h, rfl⟩, Nat.le_refl _⟩
  have hne : ∀ p ∈ σ1, p.1 ≠ l := fun p hp e => hnd.1 (List.mem_map.2 ⟨p, hp, e⟩)
  have hσ1 : RelHp (fun b => F b ∨ b = l) w σ1 := ⟨hnd.2, fun p hp => (hσ.holds p (List.mem_cons_of_mem _ hp)).mono st0 rfl (fun h => h.elim (hσ.holds p (List.mem_cons_of_mem _ hp)).1 (hne p hp)), fun b h => h.elim (hσ.low b) (fun e => e ▸ hll)⟩
  have hz : (ps.zip vs).foldl (fun tmps (t, a) => tmps.setIfInBounds t a) tm = (ps.toList.zip vs.toList).foldl (fun t p => t.setIfInBounds p.1 p.2) tm := by
    rw [← Array.foldl_toList, Array.toList_zip]
  obtain ⟨k1, k2⟩ := ps_rel (n := n) (F := fun b => F b ∨ b = l) (w := w) ps.toList xs vs.toList t tm (by rw [Array.length_toList]; exact hvs.1) hps hn (fun i => (htm i).mono st0) (fun i x hx => by
    have := (hvs.2 i x hx).mono st0
    rw [Array.getD_eq_getD_getElem?] at this
    rw [List.getD_eq_getElem?_getD, Array.getElem?_toList]
    exact this)
  refine hA _ _ _ _ w { tmps := (ps.zip vs).foldl (fun tmps (t, a) => tmps.setIfInBounds t a) tm, defers := [] } _ h ⟨fun i => by rw [hz]; exact k2 i, hσ1, by rw [hz]; exact k1, ⟨by omega, .nil, fun d hd => by cases hd⟩⟩ ?_
  intro e t1 σ2 F1 w1 a1 st1 s1 h1
  cases e with
  | exit i => exact h1.elim
  | goto i => exact h1.elim
  | ret => exact h1.elim
  | normal =>
    have hl1 : w1.heap[l]? = some (.loop (recL fn tm ps asg body D .ready none)) := (st1.fix l (.inr rfl)).trans hl
    have hF1 : F1 l := st1.sub l (.inr rfl)
    have hll1 : l < w1.heap.size := at_lt hl1
    refine ⟨_, run_beginRound hl1 rfl, ?_⟩
    have hb1 : ({ recL fn tm ps asg body D .ready none with state := LoopState.busy } : Loop) = recL fn tm ps asg body D .busy none := rfl
    rw [hb1]
    have nc1 : NC F1 w1 F1 (w1.putObj l (.loop (recL fn tm ps asg body D .busy none))) := nc_put hl1 fun _ _ h => h
    have hat2 : (w1.putObj l (.loop (recL fn tm ps asg body D .busy none))).heap[l]? = some (.loop (recL fn tm ps asg body D .busy none)) := World.putObj_heap_same hll1
    refine hb t1 σ2 _ F1 _ a1 _ h1 ⟨fun i => (s1.tm i).nc nc1, s1.hp.nc nc1 (fun p hp => ⟨World.putObj_heap_other (s1.hp.out hF1 p hp), (s1.hp.holds p hp).1⟩) (fun b hb => by rw [World.putObj_size]; exact s1.hp.low b hb), s1.size, ⟨by rw [World.putObj_size]; exact s1.defers.low, s1.defers.nodup, fun d hd => by
      obtain ⟨D', q1, q2, q3, q4⟩ := s1.defers.is d hd
      refine ⟨D', q1, q2, q3, (World.putObj_heap_other (fun e => ?_)).trans q4⟩
      subst e; rw [hl1] at q4; cases q4⟩⟩ ?_
    intro e t3 σ3 F3 w3 a3 st3 s3 h3
    have hF3 : F3 l := st3.sub l hF1
    have hl3 : w3.heap[l]? = some (.loop (recL fn tm ps asg body D .busy none)) := (st3.fix l hF1).trans hat2
    have hll3 : l < w3.heap.size := at_lt hl3
    have fin : ∀ L' : Loop, Stp F w (fun b => F3 b ∧ b ≠ l) (w3.putObj l (.loop L')) ∧ ((∀ i, L'.tmps.getD i undef = tm.getD i undef) → RelHp (fun b => F3 b ∧ b ≠ l) (w3.putObj l (.loop L')) ((l, [.loopc L' t]) :: σ3)) := by
      intro L'
      have nc3 : NC F3 w3 (fun b => F3 b ∧ b ≠ l) (w3.putObj l (.loop L')) := nc_put hl3 fun b hb h => ⟨h, hb⟩
      have stw : Stp F w (fun b => F3 b ∧ b ≠ l) (w3.putObj l (.loop L')) := {
        os := st3.os.trans st1.os
        tape := st3.tape.trans st1.tape
        output := st3.output.trans st1.output
        size := by
          have q1 := st1.size
          have q3 := st3.size
          rw [World.putObj_size] at q3 ⊢
          omega
        sub := fun b hF => ⟨st3.sub b (st1.sub b (.inl hF)), fun e => hFl (e ▸ hF)⟩
        fix := fun b hF => by
          have hbl : b ≠ l := fun e => hFl (e ▸ hF)
          rw [World.putObj_heap_other hbl, st3.fix b (st1.sub b (.inl hF)), World.putObj_heap_other hbl, st1.fix b (.inl hF)]
        rows := fun b c T fz hc => by
          obtain ⟨c1, fz1, q1, q2⟩ := st1.rows b c T fz hc
          obtain ⟨c3, fz3, q3, q4⟩ := st3.rows b c1 T fz1 (rows_put hl1 b c1 T fz1 q1)
          exact ⟨c3, fz3, rows_put hl3 b c3 T fz3 q3, q4.trans q2⟩
        drawn := Nat.le_trans st1.drawn st3.drawn }
      refine ⟨stw, fun htms => ⟨?_, fun p hp => ?_, fun b hb => ?_⟩⟩
      · simp only [List.map_cons, List.nodup_cons]
        exact ⟨fun hm => by obtain ⟨p, hp, e⟩ := List.mem_map.1 hm; exact s3.hp.out hF3 p hp e, s3.hp.nodup⟩
      · rcases List.mem_cons.1 hp with rfl | hp
        · exact ⟨fun h => h.2 rfl, .inr (.inr ⟨L', t, rfl, World.putObj_heap_same hll3, fun i => by rw [htms]; exact (htm i).mono stw⟩)⟩
        · exact (s3.hp.holds p hp).nc nc3 (World.putObj_heap_other (s3.hp.out hF3 p hp)) (fun h => (s3.hp.holds p hp).1 h.1)
      · rw [World.putObj_size]; exact s3.hp.low b hb.1
    have left_ : ∀ e : Ex, e ≠ .normal → R1 e σ3 → ∃ v w', (Instr.endRound l (some (jumpC e))).run P w3 = .ok v w' ∧ ∃ r v' σ' F', Ending.returned v = .returned v' ∧ Stp F w F' w' ∧ RelHp F' w' σ' ∧ VRel F' w' r v' ∧ YPost l (.loopc (recL fn tm ps asg body D .ready none) t) (fun e => .loopc (recL fn tm ps asg body D .done (some (jumpC e))) t) R1 r σ' := fun e he hr => by
      obtain ⟨q1, q2⟩ := fin (recL fn tm ps asg body D .done (some (jumpC e)))
      exact ⟨_, _, run_endRound _ hl3, .bool false, _, _, _, rfl, q1, q2 (fun _ => rfl), .bool _, .inr ⟨rfl, e, σ3, he, rfl, hr⟩⟩
    cases e with
    | normal =>
      obtain ⟨q1, q2⟩ := fin (recL fn tm ps asg body D .ready none)
      exact ⟨_, _, run_endRound none hl3, .bool true, _, _, _, rfl, q1, q2 (fun _ => rfl), .bool _, .inl ⟨rfl, σ3, rfl, h3⟩⟩
    | exit i => exact left_ (.exit i) (by simp) h3
    | goto i => exact left_ (.goto i) (by simp) h3
    | ret => exact left_ .ret (by simp) h3
/-- A range over a function. -/
theorem range_sound {B n : Nat} {g : Operand} {ps : Array Tmp} {asg body : Code} {t : Tm} {gf : FuncId} {cap : List AV} {rA rB : Tm → Hp → (Ex → Tm → Hp → Prop) → Prop} (hg : ev t g = .fn (.func gf) [] cap) (hps : ps.toList.all (fun p => Nat.blt p n) = true)
    (hA : ∀ l, PartOk P B n l asg rA) (hb : ∀ l, PartOk P B n l body rB) {K : Ex → Hp → Prop} {σ : Hp}
    (h : RangeW P gf cap ps.size (fun xs σ1 R1 => rA (psT ps.toList xs t) σ1 fun e t' σ' => match e with | .normal => rB t' σ' (fun e _ σ'' => R1 e σ'') | _ => False) K σ) : ∀ {F : Nat → Prop} {w : World} {a : Act} {Q : Exit → Act → World → Prop}, SRel B n F w t σ a →
    (∀ e σ' F' w' a', Stp F w F' w' → SRel B n F' w' t σ' a' → K e σ' → Q e.up a' w') → (Code.rangeFunc g ps asg body).wpIn (FW none) 0 P Q a w := by
  induction h with
  | shed h1 h ih => exact fun hs hq => ih (hs.shed h1) hq
  | @mk σ go =>
    intro F w a Q hs hq
    have hgv := hs.tm.eval g
    rw [hg] at hgv
    cases hv : a.eval g with
    | func f' v1 lb =>
      rw [hv] at hgv
      obtain ⟨rfl, rfl, hcap⟩ : f' = .func gf ∧ v1 = #[] ∧ VRels F w cap lb := by cases hgv with | fn _ _ _ _ _ hs1 hs2 h1 h2 => exact ⟨rfl, Array.size_eq_zero_iff.1 hs1.symm, hs2, h2⟩
      refine wpIn_rangeFunc ?_
      intro fn _
      have e1 := run_enterLoop_outer (P := P) (w := w) fn a.tmps ps asg body
      obtain ⟨l, hle⟩ : ∃ l, l = w.heap.size + 1 := ⟨_, rfl⟩
      obtain ⟨D, hD⟩ : ∃ D, D = w.heap.size := ⟨_, rfl⟩
      obtain ⟨W1, hW1⟩ : ∃ W1, W1 = (w.alloc (.deferred (some []))).alloc (.loop (recL fn a.tmps ps asg body D .ready none)) := ⟨_, rfl⟩
      have hlW : W1.heap[l]? = some (.loop (recL fn a.tmps ps asg body D .ready none)) := by
        rw [hW1, hle]; have := World.alloc_heap_new (w.alloc (.deferred (some []))) (.loop (recL fn a.tmps ps asg body D .ready none)); rwa [World.size_alloc] at this
      have hDW : W1.heap[D]? = some (.deferred (some [])) := by
        rw [hW1, hD]; exact (Below.heap_alloc _ _ _ (by simp)).trans (World.alloc_heap_new w _)
      have hold : ∀ b, b < w.heap.size → W1.heap[b]? = w.heap[b]? := fun b hb => by
        rw [hW1]; exact (Below.heap_alloc _ _ b (by simp; omega)).trans (Below.heap_alloc _ _ b hb)
      have hsz : W1.heap.size = w.heap.size + 2 := by rw [hW1]; simp
      have st1 : Stp F w (fun b => F b ∨ b = D) W1 := ⟨by rw [hW1]; rfl, by rw [hW1]; rfl, by rw [hW1]; rfl, by omega, fun _ h => .inl h, fun b hb => hold b (hs.hp.low b hb), fun b c _ fz hc => ⟨c, fz, (hold b (at_lt hc)).trans hc, rfl⟩, by rw [hW1]; exact Nat.le_refl _⟩
      obtain ⟨hent, hcall⟩ := go l (.loopc (recL fn a.tmps ps asg body D .ready none) t) (fun e => .loopc (recL fn a.tmps ps asg body D .done (some (jumpC e))) t) (fun xs σ1 R1 hxs hbd => round_sound (by have := hs.defers.low; omega) hs.size hps (hA l) (hb l) hxs hbd)
      have hσ1 : RelHp (fun b => F b ∨ b = D) W1 ((l, [.loopc (recL fn a.tmps ps asg body D .ready none) t]) :: σ) := by
        refine ⟨?_, fun p hp => ?_, fun b hb => ?_⟩
        · simp only [List.map_cons, List.nodup_cons]
          refine ⟨fun hm => ?_, hs.hp.nodup⟩
          obtain ⟨p, hp, e⟩ := List.mem_map.1 hm
          have := (hs.hp.holds p hp).lt
          omega
        · rcases List.mem_cons.1 hp with rfl | hp
          · exact ⟨fun h => h.elim (fun h => by have : l < w.heap.size := hs.hp.low l h; omega) (fun h => by have : l = D := h; omega), .inr (.inr ⟨_, t, rfl, hlW, fun i => (hs.tm i).mono st1⟩)⟩
          · have hlt := (hs.hp.holds p hp).lt
            exact (hs.hp.holds p hp).mono st1 (hold _ hlt) (fun h => h.elim (hs.hp.holds p hp).1 (fun e => by omega))
        · rcases hb with hb | hb
          · have := hs.hp.low b hb; omega
          · omega
      have hvs : VRels (fun b => F b ∨ b = D) W1 (.fn (.yield l) [] [] :: cap) (#[.func (.yield l) #[] #[]] ++ lb) :=
        show VRels _ _ ([.fn (.yield l) [] []] ++ cap) _ from vrels_append (vrels_one (.fn _ _ _ _ _ rfl rfl (fun i x h => by simp at h) (fun i x h => by simp at h))) (hcap.mono st1)
      have hno : ∀ d ∈ a.defers, d ≠ { target := .collected D, args := #[] } := fun d hd e => by
        obtain ⟨D', q1, _, _, q4⟩ := hs.defers.is d hd
        rw [q1] at e
        cases e
        have := at_lt q4
        omega
      refine ⟨l, [{ target := .collected D, args := #[] }], W1, { target := .fn (.func gf) lb, args := #[.func (.yield l) #[] #[]] }, W1, gf, #[.func (.yield l) #[] #[]] ++ lb, W1, ?_, ?_, fun _ _ => trivial, ?_, fun hd => (by cases hd), ?_⟩
      · rw [hW1, hle, hD]; exact e1
      · simp only [resolve, hv]
        simp [go_sem]
      · have := hent (#[.func (.yield l) #[] #[]] ++ lb) W1
        simpa [invoke] using this
      · refine callsIn_wide.2 ((hcall _ W1 _ hvs hσ1).mono ?_)
        rintro e w3 ⟨rv, v, σ', F', rfl, st3, hσ3, _, hR⟩
        have stw3 := st1.trans st3
        have fin : ∀ (L' : Loop) (σ2 : Hp), σ' = (l, [.loopc L' t]) :: σ2 → L'.state ≠ .busy → ∃ w4, (Instr.endLoop l).run P w3 = .ok L'.pending w4 ∧ Stp F w F' w4 ∧ SRel B n F' w4 t σ2 { a with defers := [{ target := .collected D, args := #[] }] ++ a.defers } := by
          intro L' σ2 e hst
          subst e
          obtain ⟨hFl, hl3, _⟩ := (hσ3.holds _ (List.mem_cons_self ..)).loopv
          have hnd := hσ3.nodup
          simp only [List.map_cons, List.nodup_cons] at hnd
          have hne : ∀ p ∈ σ2, p.1 ≠ l := fun p hp e => hnd.1 (List.mem_map.2 ⟨p, hp, e⟩)
          have nc : NC F' w3 F' (w3.putObj l (.loop { L' with state := .exhausted })) := nc_put hl3 fun _ _ h => h
          have hDF : F' D := st3.sub D (.inr rfl)
          have st4 : Stp F' w3 F' (w3.putObj l (.loop { L' with state := .exhausted })) := ⟨rfl, rfl, rfl, by rw [World.putObj_size]; exact Nat.le_refl _, fun _ h => h, fun b hb => World.putObj_heap_other (fun e => hFl (e ▸ hb)), fun b c T fz hc => ⟨c, fz, rows_put hl3 b c T fz hc, rfl⟩, Nat.le_refl _⟩
          refine ⟨_, run_endLoop hl3 hst, stw3.trans st4, fun i => ((hs.tm i).mono stw3).nc nc, ?_, hs.size, ?_⟩
          · exact ⟨hnd.2, fun p hp => (hσ3.holds p (List.mem_cons_of_mem _ hp)).nc nc (World.putObj_heap_other (hne p hp)) (hσ3.holds p (List.mem_cons_of_mem _ hp)).1, fun b hb => by rw [World.putObj_size]; exact hσ3.low b hb⟩
          · have hm := hs.defers.mono (stw3.trans st4)
            refine ⟨hm.low, ?_, fun d hd => ?_⟩
            · simp only [List.cons_append, List.nil_append, List.nodup_cons]
              exact ⟨fun h => hno _ h rfl, hm.nodup⟩
            · rcases List.mem_cons.1 hd with rfl | hd
              · exact ⟨D, rfl, by have := hs.defers.low; omega, hDF, (st4.fix D hDF).trans ((st3.fix D (.inr rfl)).trans hDW)⟩
              · exact hm.is d hd
        rcases hR with ⟨σ2, e, hk⟩ | ⟨ex, σ2, hne, e, hk⟩
        · obtain ⟨w4, k1, k2, k3⟩ := fin _ σ2 e (by simp [recL])
          exact ⟨none, w4, k1, hq .normal σ2 F' w4 _ k2 k3 hk⟩
        · obtain ⟨w4, k1, k2, k3⟩ := fin _ σ2 e (by simp [recL])
          refine ⟨some (jumpC ex), w4, k1, ?_⟩
          have hqq := hq ex σ2 F' w4 _ k2 k3 hk
          cases ex with
          | normal => exact absurd rfl hne
          | exit i => exact wpIn_exit hqq
          | goto i => exact wpIn_goto hqq
          | ret => exact wpIn_ret hqq
    | _ => rw [hv] at hgv; cases hgv
theorem codeW_sound (ok : TTok P TT) (hm : P.follows .mixedOrders = true) {B n : Nat} : ∀ (fuel : Nat) (c : Code) (t : Tm) (σ : Hp) (K : Ex → Tm → Hp → Prop) (F : Nat → Prop) (w : World) (a : Act) (Q : Exit → Act → World → Prop) (r : Option Nat), codeOk n r.isSome c = true → codeW P TT fuel c t σ K → SRel B n F w t σ a →
    (∀ e t' σ' F' w' a', Stp F w F' w' → SRel B n F' w' t' σ' a' → K e t' σ' → Q e.up a' w') → c.wpIn (FW r) 0 P Q a w := by
  intro fuel
  induction fuel with
  | zero => intro c t σ K F w a Q r _ h; exact h.elim
  | succ fuel ih =>
    intro c t σ K F w a Q r hc h hs hq
    cases c with
    | skip => exact wpIn_skip (hq .normal t σ F w a (.refl _ _) hs h)
    | label l => exact wpIn_label (hq .normal t σ F w a (.refl _ _) hs h)
    | exit id => exact wpIn_exit (hq (.exit id) t σ F w a (.refl _ _) hs h)
    | goto l => exact wpIn_goto (hq (.goto l) t σ F w a (.refl _ _) hs h)
    | ret => exact wpIn_ret (hq .ret t σ F w a (.refl _ _) hs h)
    | region id ops draw =>
      have hd := dst_of (n := n) (ops := ops.toList) hc
      have hnd := nd_of (n := n) (ops := ops.toList) hc
      cases draw with
      | false => exact region_list hnd (opsW_sound ok ops.toList t σ _ F w a hd h hs (fun t' σ' F' w' a' h1 h2 h3 => hq .normal t' σ' F' w' a' h1 h2 h3))
      | true =>
        have h : DrawW P TT ops.toList (K .normal) t σ := h
        exact draw_sound ok hm hd hnd h hs (fun t' σ' F' w' a' h1 h2 h3 => hq .normal t' σ' F' w' a' h1 h2 h3)
    | seq x y =>
      simp only [codeOk, Bool.and_eq_true] at hc
      refine wpIn_seq (ih x t σ _ F w a _ r hc.1 h hs ?_)
      intro e t' σ' F' w' a' h1 h2 h3
      cases e with
      | normal => exact ih y t' σ' K F' w' a' Q r hc.2 h3 h2 (fun e t'' σ'' F'' w'' a'' k1 k2 k3 => hq e t'' σ'' F'' w'' a'' (h1.trans k1) k2 k3)
      | exit id => exact hq (.exit id) t' σ' F' w' a' h1 h2 h3
      | goto l => exact hq (.goto l) t' σ' F' w' a' h1 h2 h3
      | ret => exact hq .ret t' σ' F' w' a' h1 h2 h3
    | cond x y z =>
      simp only [codeOk, Bool.and_eq_true] at hc
      have h : (match ev t x with | .bool b => (match b with | true => codeW P TT fuel y t σ K | false => codeW P TT fuel z t σ K) | _ => False) := h
      have hx := hs.tm.eval x
      split at h
      · rename_i b hb
        rw [hb] at hx
        refine wpIn_cond (t := b) hx.boolv ?_
        cases b with
        | true => exact ih y t σ K F w a Q r hc.1 h hs hq
        | false => exact ih z t σ K F w a Q r hc.2 h hs hq
      · exact h.elim
    | block id c =>
      refine wpIn_block (ih c t σ _ F w a _ r hc h hs ?_)
      intro e t' σ' F' w' a' h1 h2 h3
      cases e with
      | normal => exact hq .normal t' σ' F' w' a' h1 h2 h3
      | exit i =>
        show (if i = id then Q .normal a' w' else Q (.exit i) a' w')
        have h3 : (match Nat.beq i id with | true => K .normal t' σ' | false => K (.exit i) t' σ') := h3
        cases hb : Nat.beq i id with
        | true => rw [hb] at h3; rw [if_pos (Nat.eq_of_beq_eq_true hb)]; exact hq .normal t' σ' F' w' a' h1 h2 h3
        | false =>
          rw [hb] at h3
          rw [if_neg (fun e => by subst e; rw [Nat.beq_refl] at hb; cases hb)]
          exact hq (.exit i) t' σ' F' w' a' h1 h2 h3
      | goto l => exact hq (.goto l) t' σ' F' w' a' h1 h2 h3
      | ret => exact hq .ret t' σ' F' w' a' h1 h2 h3
    | loop c =>
      have h : LoopW (fun t σ Q => codeW P TT fuel c t σ Q) K t σ := h
      exact loop_sound (fun t σ K F w a Q h hs hq => ih c t σ K F w a Q r hc h hs hq) h hs hq
    | scope c =>
      simp only [codeOk, Bool.and_eq_true, Bool.not_eq_true'] at hc
      obtain ⟨hr, hc⟩ := hc
      obtain rfl : r = none := by cases r with | none => rfl | some l => cases hr
      refine wpIn_wide.2 (wp_scope_rel (wpIn_wide.1 (ih c t σ _ F w a _ none hc h hs ?_)))
      intro e t' σ' F' w' a' h1 h2 h3
      cases e with
      | normal => exact .normal (hq .normal t' σ' F' w' a' h1 h2 h3)
      | exit i => exact .exit (hq (.exit i) t' σ' F' w' a' h1 h2 h3)
      | ret => exact .ret (hq .ret t' σ' F' w' a' h1 h2 h3)
      | goto l =>
        have h3 : GotoW (fun l t σ Q => match findLabel c l with | some r => codeW P TT fuel r t σ Q | none => False) l K t' σ' := h3
        exact goto_sound (fun l t σ K F w a Q h hs hq => by
          have h : (match findLabel c l with | some r => codeW P TT fuel r t σ K | none => False) := h
          split at h
          · rename_i r hr
            exact ⟨r, hr, wpIn_wide.1 (ih r t σ K F w a Q none (label_ok c l r hr hc) h hs hq)⟩
          · exact h.elim) h3 h2 (fun e t'' σ'' F'' w'' a'' k1 k2 k3 k4 => hq e t'' σ'' F'' w'' a'' (h1.trans k1) k2 k3)
    | rangeFunc g ps asg body =>
      simp only [codeOk, Bool.and_eq_true, Bool.not_eq_true'] at hc
      obtain ⟨⟨⟨hr, hps⟩, hc1⟩, hc2⟩ := hc
      obtain rfl : r = none := by cases r with | none => rfl | some l => cases hr
      have h : (match ev t g with | .fn (.func gf) [] cap => RangeW P gf cap ps.size (fun xs σ1 R1 => codeW P TT fuel asg (psT ps.toList xs t) σ1 fun e t' σ' => match e with | .normal => codeW P TT fuel body t' σ' (fun e _ σ'' => R1 e σ'') | _ => False) (fun e σ' => K e t σ') σ | _ => False) := h
      split at h
      · rename_i gf cap hg
        exact range_sound hg hps (fun l t σ K F w a Q h hs hq => ih asg t σ K F w a Q (some l) hc1 h hs hq) (fun l t σ K F w a Q h hs hq => ih body t σ K F w a Q (some l) hc2 h hs hq) h hs (fun e σ' F' w' a' k1 k2 k3 => hq e t σ' F' w' a' k1 k2 k3)
      · exact h.elim
    | refuse => exact h.elim
inductive Fin (R : AV → Hp → Prop) : AV → Hp → Prop where
  | done {r : AV} {σ : Hp} (h : R r σ) : Fin R r σ
  | pull {r : AV} {σ : Hp} (js : List Nat) (h : Fin R r (pulls js σ)) : Fin R r σ
  | drop {r : AV} {σ : Hp} (k n : Nat) (h : Fin R r (σ.take k ++ σ.drop (k + n))) : Fin R r σ
  | perm {r : AV} {σ σ2 : Hp} (hp : σ2.Perm σ) (h : Fin R r σ2) : Fin R r σ
  | frz {r r' : AV} {σ : Hp} (j b off len es : Nat) (cs : List AV) (e : Sh) (l : List e.T) (h1 : σ[j]? = some (b, cs)) (h2 : (cs.drop off).take (len * es) = l.flatMap e.cells) (h3 : l.length = len ∧ e.size = es ∧ 0 < es) (h4 : FrzRel b off len es e l r r') (h : Fin R r' (σ.eraseIdx j)) : Fin R r σ
  | nil {r r' : AV} {σ : Hp} (h4 : FrzRel 0 0 0 0 .bool [] r r') (h : Fin R r' σ) : Fin R r σ
  | shed {r : AV} {σ σ2 : Hp} (h1 : Shed σ σ2) (h : Fin R r σ2) : Fin R r σ
  | frzc {r : AV} {σ : Hp} (j b off len es : Nat) (cs : List AV) (e : Sh) (l : List e.T) (h1 : σ[j]? = some (b, cs)) (h2 : (cs.drop off).take (len * es) = l.flatMap e.cells) (h3 : l.length = len ∧ e.size = es ∧ 0 < es) (i k b' : Nat) (cs' : List AV) (hi : (σ.eraseIdx j)[i]? = some (b', cs')) (hk : cs'[k]? = some (.mref b off len es)) (h : Fin R r ((σ.eraseIdx j).set i (b', cs'.set k (.fsl e l)))) : Fin R r σ
theorem fin_sound {R : AV → Hp → Prop} {r : AV} {σ : Hp} (h : Fin R r σ) : ∀ (F : Nat → Prop) (w : World) (v : Value), RelHp F w σ → VRel F w r v → ∃ r' σ' F', Stp F w F' w ∧ RelHp F' w σ' ∧ VRel F' w r' v ∧ R r' σ' := by
  induction h with
  | done h => exact fun F w v hσ hv => ⟨_, _, F, .refl _ _, hσ, hv, h⟩
  | pull js h ih => exact fun F w v hσ hv => ih F w v (hσ.perm (pulls_perm js _)) hv
  | perm hp h ih => exact fun F w v hσ hv => ih F w v (hσ.perm hp) hv
  | @drop r σ k n h ih =>
    intro F w v hσ hv
    refine ih F w v (hσ.sub ?_) hv
    have h1 : (σ.drop (k + n)).Sublist (σ.drop k) := by
      rw [← List.drop_drop]
      exact List.drop_sublist _ _
    have h2 := (List.Sublist.refl (σ.take k)).append h1
    rwa [List.take_append_drop] at h2
  | @frz r r' σ j b off len es cs e l h1 h2 h3 h4 h ih =>
    intro F w v hσ hv
    obtain ⟨hst, hσ', hh⟩ := frz_hp hσ h1 h2 h3
    obtain ⟨r'', σ'', F'', k1, k2, k3, k4⟩ := ih _ w v hσ' (frzrel_sound hst hh h4 v hv)
    exact ⟨r'', σ'', F'', hst.trans k1, k2, k3, k4⟩
  | shed h1 h ih => exact fun F w v hσ hv => ih F w v (hσ.shed h1) hv
  | frzc j b off len es cs e l h1 h2 h3 i k b' cs' hi hk h ih =>
    intro F w v hσ hv
    obtain ⟨hst, hσ', hh⟩ := frz_hp hσ h1 h2 h3
    obtain ⟨r'', σ'', F'', k1, k2, k3, k4⟩ := ih _ w v (frz_cell hσ' hh hi hk) (hv.mono hst)
    exact ⟨r'', σ'', F'', hst.trans k1, k2, k3, k4⟩
  | nil h4 h ih =>
    intro F w v hσ hv
    refine ih F w v hσ (frzrel_sound (.refl _ _) (fun v hv => ?_) h4 v hv)
    obtain ⟨a, cap, rfl, c, T, fz, m1, m2, m3, m4⟩ := hv.mrefv
    exact .fsl _ _ _ ⟨some a, cap, rfl, m2, m3, (fun e => by cases e), fun hne => absurd rfl hne⟩
def t0 (xs : List AV) : Tm := fun i => match xs[i]? with | some x => x | none => .any
def retV : List AV → AV
  | [v] => v
  | vs => .tup vs
def resW (TT : TypeId → Option TI) (l : List ResultVar) : Tm → Hp → (List AV → Prop) → Prop :=
  List.rec (motive := fun _ => Tm → Hp → (List AV → Prop) → Prop) (fun _ _ K => K [])
    (fun x _ ih t σ K => match x with
      | .tmp d => strict (t d) fun v => ih t σ fun vs => K (unvia v :: vs)
      | .cell d ty => match TT ty with | some i => loadW i (t d) σ fun v => ih t σ fun vs => K (v :: vs) | none => False) l
def exitW (TT : TypeId → Option TI) (rs : List ResultVar) (R : AV → Hp → Prop) (e : Ex) (t : Tm) (σ : Hp) : Prop :=
  match e with
  | .normal | .ret => resW TT rs t σ fun vs => Fin R (retV vs) σ
  | _ => False
def bodyW (P : Program) (TT : TypeId → Option TI) (fn : Func) (xs : List AV) (σ : Hp) (R : AV → Hp → Prop) : Prop :=
  match fn.body with
  | some c => codeW P TT 1000 c (t0 xs) σ (exitW TT fn.results.toList R)
  | none => False
def funcOk (fn : Func) : Bool := (match fn.body with | some c => codeOk fn.ntmps false c | none => false) && !(fn.name == "runtime.NumGoroutine")
theorem enters_of {f : FuncId} {fn : Func} (hf : P.funcs[f]? = some fn) (h : funcOk fn = true) : Enters P f := by
  unfold funcOk at h
  simp only [Bool.and_eq_true, Bool.not_eq_true'] at h
  obtain ⟨h1, h2⟩ := h
  have hb : fn.body.isNone = false := by
    cases hb : fn.body with
    | none => rw [hb] at h1; cases h1
    | some c => rfl
  intro args w
  unfold callFunc
  simp only [Sem.run_bind, run_program, Result.andThen_ok, hf, h2, hb]
  rfl
theorem loadW_sound (ok : TTok P TT) {ty : TypeId} {i : TI} (hi : TT ty = some i) {x : AV} {σ : Hp} {K : AV → Prop} (h : loadW i x σ K) : ∃ v, K v ∧ ∀ (F : Nat → Prop) (w : World) (u : Value), VRel F w x u → RelHp F w σ → ∃ v', (do loadVar ty (← asAddr u) : Sem Value).run P w = .ok v' w ∧ VRel F w v v' := by
  unfold loadW at h
  split at h
  · split at h
    · rename_i v hv
      refine ⟨v, h, fun F w u hu hσ => ?_⟩
      obtain ⟨b, o', rfl, hF, hat⟩ := hu.eptr_at
      obtain ⟨v', h1, h2⟩ := read_sound ok hi hat hv
      rw [Nat.add_zero] at h1
      exact ⟨v', by simp [asAddr, h1], h2⟩
    · exact h.elim
  · obtain ⟨j, cs, v, h1, h2, go⟩ := h
    refine ⟨v, go, fun F w u hu hσ => ?_⟩
    have hca := hu.ptr_cells
    obtain rfl := hu.ptrv
    obtain ⟨v', h3, h4⟩ := read_sound ok hi (hσ.at_ h1 hca) h2
    rw [Nat.zero_add] at h3
    exact ⟨v', by simp [asAddr, h3], h4⟩
  · exact h.elim
def resOne (tmps : Array Value) : ResultVar → Sem Value
  | .tmp t => pure (tmps.getD t undef)
  | .cell d t => do loadVar t (← asAddr (tmps.getD d undef))
theorem ret_rel {F : Nat → Prop} {w : World} : ∀ (vs : List AV) (us : List Value), vs.length = us.length → (∀ (i : Nat) (x : AV), vs[i]? = some x → VRel F w x (us.getD i undef)) → VRel F w (retV vs) (if h : us.toArray.size = 1 then us.toArray[0] else .tuple us.toArray)
  | [v], [u], _, h => by simpa [retV] using h 0 v rfl
  | [], [], _, _ => .tup _ _ rfl (fun i x h => by simp at h)
  | v :: v2 :: vs, u :: u2 :: us, hl, h => by
    rw [dif_neg (by simp)]
    refine .tup _ _ (by simpa using hl) (fun i x hx => ?_)
    have := h i x hx
    rw [List.getD_eq_getElem?_getD] at this
    rw [Array.getD_eq_getD_getElem?, List.getElem?_toArray]
    exact this
  | [], _ :: _, hl, _ => by simp at hl
  | _ :: _, [], hl, _ => by simp at hl
  | [_], _ :: _ :: _, hl, _ => by simp at hl
  | _ :: _ :: _, [_], hl, _ => by simp at hl
theorem resW_sound (ok : TTok P TT) : ∀ (rs : List ResultVar) (t : Tm) (σ : Hp) (K : List AV → Prop), resW TT rs t σ K → ∀ (F : Nat → Prop) (w : World) (a : Act), TRel F w t a → RelHp F w σ →
    ∃ vs us, K vs ∧ (rs.mapM (resOne a.tmps)).run P w = .ok us w ∧ vs.length = us.length ∧ ∀ (i : Nat) (x : AV), vs[i]? = some x → VRel F w x (us.getD i undef)
  | [], t, σ, K, h, F, w, a, _, _ => ⟨[], [], h, rfl, rfl, fun i x h => by simp at h⟩
  | .tmp d :: rs, t, σ, K, h, F, w, a, ht, hσ => by
    have h : strict (t d) fun v => resW TT rs t σ fun vs => K (unvia v :: vs) := h
    rw [strict_eq] at h
    obtain ⟨vs, us, h1, h2, h3, h4⟩ := resW_sound ok rs t σ _ h F w a ht hσ
    refine ⟨_, a.tmps.getD d undef :: us, h1, ?_, by simp [h3], fun i x hi => ?_⟩
    · rw [List.mapM_cons]
      simp only [resOne, Sem.run_bind, Sem.run_pure, Result.andThen_ok, h2]
    · cases i with
      | zero => simp at hi; subst hi; exact (ht d).unvia
      | succ i => simpa using h4 i x (by simpa using hi)
  | .cell d ty :: rs, t, σ, K, h, F, w, a, ht, hσ => by
    have h : (match TT ty with | some i => loadW i (t d) σ fun v => resW TT rs t σ fun vs => K (v :: vs) | none => False) := h
    split at h
    · rename_i i hi
      obtain ⟨v, h, hv⟩ := loadW_sound ok hi h
      obtain ⟨v', k1, k2⟩ := hv F w _ (ht d) hσ
      obtain ⟨vs, us, h1, h2, h3, h4⟩ := resW_sound ok rs t σ _ h F w a ht hσ
      refine ⟨_, v' :: us, h1, ?_, by simp [h3], fun i x hi => ?_⟩
      · have k1' : (resOne a.tmps (.cell d ty)).run P w = .ok v' w := k1
        rw [List.mapM_cons]
        simp only [Sem.run_bind, k1', Sem.run_pure, Result.andThen_ok, h2]
      · cases i with
        | zero => simp at hi; subst hi; exact k2
        | succ i => simpa using h4 i x (by simpa using hi)
    · exact h.elim
/-- A function's marks, taken. -/
def shut (w : World) (ds : List Deferred) : World := ds.foldl (fun w d => match d.target with | .collected D => w.putObj D (.deferred none) | _ => w) w
def isMark (D : Nat) (ds : List Deferred) : Prop := ({ target := .collected D, args := #[] } : Deferred) ∈ ds
theorem shut_other {ds : List Deferred} : ∀ {w : World}, (∀ d ∈ ds, ∃ D, d = { target := .collected D, args := #[] }) → ∀ b, ¬ isMark b ds → (shut w ds).heap[b]? = w.heap[b]? := by
  induction ds with
  | nil => exact fun _ _ _ => rfl
  | cons d ds ih =>
    intro w hd b hb
    obtain ⟨D, rfl⟩ := hd d (List.mem_cons_self ..)
    have hbD : b ≠ D := fun e => hb (by subst e; exact List.mem_cons_self ..)
    exact (ih (w := w.putObj D (.deferred none)) (fun d h => hd d (List.mem_cons_of_mem _ h)) b (fun h => hb (List.mem_cons_of_mem _ h))).trans (World.putObj_heap_other hbD)
theorem shut_same {ds : List Deferred} : ∀ {w : World}, (shut w ds).os = w.os ∧ (shut w ds).tape = w.tape ∧ (shut w ds).output = w.output ∧ (shut w ds).heap.size = w.heap.size ∧ (shut w ds).drawn = w.drawn := by
  induction ds with
  | nil => exact fun {w} => ⟨rfl, rfl, rfl, rfl, rfl⟩
  | cons d ds ih =>
    intro w
    obtain ⟨t, asg⟩ := d
    cases t with
    | collected D =>
      obtain ⟨h1, h2, h3, h4, h5⟩ := ih (w := w.putObj D (.deferred none))
      exact ⟨h1, h2, h3, h4.trans World.putObj_size, h5⟩
    | _ => exact ih
theorem leaves_marks {fn : Func} {tm : Array Value} {R : Ending → World → Prop} : ∀ (ds : List Deferred) (w : World), ds.Nodup → (∀ d ∈ ds, ∃ D, d = { target := .collected D, args := #[] } ∧ w.heap[D]? = some (.deferred (some []))) →
    (∃ v, (results fn tm).run P (shut w ds) = .ok v (shut w ds) ∧ R (.returned v) (shut w ds)) → LeavesInM Fence.wide 0 P fn tm R ds .returning w
  | [], _, _, _, h => h
  | d :: ds, w, hnd, hd, h => by
    obtain ⟨D, rfl, hw⟩ := hd d (List.mem_cons_self ..)
    obtain ⟨hn1, hn2⟩ := List.nodup_cons.1 hnd
    refine ⟨by simp, .inl ⟨D, _, rfl, run_takeDeferred hw, leaves_marks ds _ hn2 (fun d hm => ?_) h⟩⟩
    obtain ⟨D', rfl, hw'⟩ := hd d (List.mem_cons_of_mem _ hm)
    exact ⟨D', rfl, (World.putObj_heap_other (fun e => hn1 (by subst e; exact hm))).trans hw'⟩
theorem acalls_of (ok : TTok P TT) (hm : P.follows .mixedOrders = true) {f : FuncId} {fn : Func} {xs : List AV} {σ : Hp} {R : AV → Hp → Prop} (hf : P.funcs[f]? = some fn) (hok : funcOk fn = true) (h : bodyW P TT fn xs σ R) : ACalls P f xs σ R := by
  refine ⟨enters_of hf hok, fun F w vs hvs hσ => ?_⟩
  unfold funcOk at hok
  simp only [Bool.and_eq_true] at hok
  unfold bodyW at h
  cases hb : fn.body with
  | none => rw [hb] at h; exact h.elim
  | some c =>
    rw [hb] at h
    have hc : codeOk fn.ntmps false c = true := by have := hok.1; rw [hb] at this; exact this
    refine callsIn_wide.1 (callsIn_of_wp_marks (n := 0) hf hb trivial (codeW_sound (B := w.heap.size) ok hm 1000 c (t0 xs) σ _ F w _ _ none hc h ⟨fun i => ?_, hσ, by simp; omega, ⟨Nat.le_refl _, .nil, fun d hd => by cases hd⟩⟩ ?_))
    · show VRel F w (match xs[i]? with | some x => x | none => .any) ((vs ++ Array.replicate (fn.ntmps - vs.size) undef).getD i undef)
      cases hi : xs[i]? with
      | none => exact .any _
      | some x =>
        have hlt : i < vs.size := by rw [← hvs.1]; exact (List.getElem?_eq_some_iff.1 hi).1
        have := hvs.2 i x hi
        rw [Array.getD_eq_getD_getElem?] at this ⊢
        rw [Array.getElem?_append_left hlt]
        exact this
    · intro e t' σ' F' w' a' h1 h2 h3
      have fin : resW TT fn.results.toList t' σ' (fun vs => Fin R (retV vs) σ') → LeavesInM Fence.wide 0 P fn a'.tmps (fun e w' => ∃ r v σ' F', e = .returned v ∧ Stp F w F' w' ∧ RelHp F' w' σ' ∧ VRel F' w' r v ∧ R r σ') a'.defers .returning w' := by
        intro h3
        have hmk : ∀ d ∈ a'.defers, ∃ D, d = { target := .collected D, args := #[] } := fun d hd => (h2.defers.is d hd).imp fun _ h => h.1
        refine leaves_marks a'.defers w' h2.defers.nodup (fun d hd => (h2.defers.is d hd).imp fun _ h => ⟨h.1, h.2.2.2⟩) ?_
        have hD : ∀ b, isMark b a'.defers → w.heap.size ≤ b ∧ F' b ∧ w'.heap[b]? = some (.deferred (some [])) := fun b hb => by
          obtain ⟨D, q1, q2, q3, q4⟩ := h2.defers.is _ hb
          cases q1
          exact ⟨q2, q3, q4⟩
        have hoth := shut_other (w := w') hmk
        obtain ⟨z1, z2, z3, z4, z5⟩ := shut_same (w := w') (ds := a'.defers)
        obtain ⟨w2, hw2⟩ : ∃ w2, w2 = shut w' a'.defers := ⟨_, rfl⟩
        rw [← hw2] at hoth z1 z2 z3 z4 z5 ⊢
        have hcell : ∀ b, CellsAt w' b → ¬ isMark b a'.defers := fun b ⟨c, T, fz, hc⟩ hb => by
          rw [(hD b hb).2.2] at hc; cases hc
        have nc : NC F' w' (fun b => F' b ∧ ¬ isMark b a'.defers) w2 := ⟨fun b hb => ⟨hb.1, hcell b hb.2⟩, fun b hb => hoth b (hcell b hb)⟩
        have st2 : Stp F w (fun b => F' b ∧ ¬ isMark b a'.defers) w2 := {
          os := z1.trans h1.os
          tape := z2.trans h1.tape
          output := z3.trans h1.output
          size := by rw [z4]; exact h1.size
          sub := fun b hF => ⟨h1.sub b hF, fun hb => by have := (hD b hb).1; have := hσ.low b hF; omega⟩
          fix := fun b hF => by
            rw [hoth b (fun hb => by have := (hD b hb).1; have := hσ.low b hF; omega)]
            exact h1.fix b hF
          rows := fun b c T fz hc => by
            obtain ⟨c', fz', q1, q2⟩ := h1.rows b c T fz hc
            exact ⟨c', fz', (hoth b (hcell b ⟨c', T, fz', q1⟩)).trans q1, q2⟩
          drawn := by rw [z5]; exact h1.drawn }
        have hσ2 : RelHp (fun b => F' b ∧ ¬ isMark b a'.defers) w2 σ' := h2.hp.nc nc (fun p hp => ⟨hoth p.1 (fun hb => (h2.hp.holds p hp).1 (hD p.1 hb).2.1), fun h => (h2.hp.holds p hp).1 h.1⟩) (fun b hb => by rw [z4]; exact h2.hp.low b hb.1)
        obtain ⟨vs', us, k1, k2, k3, k4⟩ := resW_sound ok _ _ _ _ h3 _ w2 a' (fun i => (h2.tm i).nc nc) hσ2
        have hres : (results fn a'.tmps).run P w2 = .ok (if h : us.toArray.size = 1 then us.toArray[0] else .tuple us.toArray) w2 := by
          rw [show results fn a'.tmps = (do let vs ← fn.results.mapM (resOne a'.tmps); pure (if h : vs.size = 1 then vs[0] else .tuple vs)) from rfl]
          rw [Sem.run_bind, Array.mapM_eq_mapM_toList]
          simp only [Sem.run_map, k2, Result.andThen_ok]
          rfl
        have hrel := ret_rel vs' us k3 k4
        obtain ⟨r', σ'', F'', q1, q2, q3, q4⟩ := fin_sound k1 _ w2 _ hσ2 hrel
        exact ⟨_, hres, r', _, σ'', F'', rfl, st2.trans q1, q2, q3, q4⟩
      cases e with
      | normal => exact fin h3
      | ret => exact fin h3
      | exit i => exact h3.elim
      | goto l => exact h3.elim
theorem ACalls.mono {f : FuncId} {xs : List AV} {σ : Hp} {R R' : AV → Hp → Prop} (h : ACalls P f xs σ R) (hr : ∀ r σ', R r σ' → R' r σ') : ACalls P f xs σ R' :=
  ⟨h.1, fun F w vs hv hσ => (h.2 F w vs hv hσ).mono fun _ _ ⟨r, v, σ', F', h1, h2, h3, h4, h5⟩ => ⟨r, v, σ', F', h1, h2, h3, h4, hr _ _ h5⟩⟩
theorem ACalls.fin {f : FuncId} {xs : List AV} {σ : Hp} {R R' : AV → Hp → Prop} (h : ACalls P f xs σ R) (hr : ∀ r σ', R r σ' → Fin R' r σ') : ACalls P f xs σ R' :=
  ⟨h.1, fun F w vs hv hσ => (h.2 F w vs hv hσ).mono fun _ _ ⟨r, v, σ', F', h1, h2, h3, h4, h5⟩ => by
    obtain ⟨r', σ'', F'', q1, q2, q3, q4⟩ := fin_sound (hr _ _ h5) F' _ v h3 h4
    exact ⟨r', v, σ'', F'', h1, h2.trans q1, q2, q3, q4⟩⟩
theorem ACalls.perm {f : FuncId} {xs : List AV} {σ σ2 : Hp} {R : AV → Hp → Prop} (h : ACalls P f xs σ R) (hp : σ.Perm σ2) : ACalls P f xs σ2 R :=
  ⟨h.1, fun F w vs hv hσ => h.2 F w vs hv (hσ.perm hp)⟩
/-- Out of an argument's reading: frozen, all of it. -/
def Sh.pos : Sh → Bool
  | .slice e => decide (0 < e.size) && e.pos
  | .field f r => f.pos && r.pos
  | _ => true
theorem freads_of {w : World} : ∀ (s : Sh) (cs : List Value) (d : s.T), s.pos = true → Reads w s cs d → FReads (fun b => b < w.heap.size) w s cs d := by
  intro s
  induction s with
  | int k => exact fun _ _ _ h => h.1
  | bool => exact fun _ _ _ h => h
  | str => exact fun _ _ _ h => h.1
  | nil => exact fun _ _ _ h => h
  | slice e ih =>
    rintro cs l hp ⟨a, c, h1, h2, h3, h0, h4⟩
    simp only [Sh.pos, Bool.and_eq_true, decide_eq_true_eq] at hp
    refine ⟨a, c, h1, h2, h3, h0, fun hne => ?_⟩
    obtain ⟨b, o, rfl, hi⟩ := h4 hne
    have hpos : 0 < l.length := List.length_pos_iff.2 hne
    refine ⟨b, o, rfl, ?_, fun i h => ?_⟩
    · obtain ⟨cs', q1, q2, q3⟩ := hi 0 hpos
      cases cs' with
      | nil => simp at q1; omega
      | cons u cs' =>
        have hcell := q2 0 u rfl
        unfold World.cell? at hcell
        cases ho : w.heap[b]? with
        | none => simp [ho] at hcell
        | some x =>
          cases x with
          | cells c T fz => exact ⟨at_lt ho, c, T, fz, ho⟩
          | _ => simp [ho] at hcell
    · obtain ⟨cs', q1, q2, q3⟩ := hi i h
      exact ⟨cs', q1, q2, ih _ _ hp.2 q3⟩
  | field f r ihf ihr =>
    rintro cs d hp ⟨c1, c2, h1, h2, h3, h4⟩
    simp only [Sh.pos, Bool.and_eq_true] at hp
    exact ⟨c1, c2, h1, h2, ihf _ _ hp.1 h3, ihr _ _ hp.2 h4⟩
/-- A law, out of its walk. -/
theorem law_of {f : FuncId} {xs : List AV} (h : ACalls P f xs [] (fun r _ => r = .bool true)) {w : World} {vs : Array Value} (hv : VRels (fun b => b < w.heap.size) w xs vs) :
    Calls P f vs w fun e w' => e = .returned (.bool true) ∧ Below w.heap.size w w' := by
  refine (h.2 _ w vs hv ⟨by simp, (fun p hp => by cases hp), fun _ h => h⟩).mono ?_
  rintro e w' ⟨r, v, σ', F', rfl, h1, h2, h3, rfl⟩
  rw [h3.boolv]
  exact ⟨rfl, h1.os, h1.tape, h1.output, h1.size, fun k hk => h1.fix k hk⟩
end
end Go.Proofs.Ytacacplipaeokaa
