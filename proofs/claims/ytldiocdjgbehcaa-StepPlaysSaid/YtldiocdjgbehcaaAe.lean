/-
  A region that draws its order, whatever its operations: every order that may be picked; of those that look at no memory the first one first. Over any program.
-/
import Derived.Test.YtldiocdjgbehcaaAy
import Derived.OrdersHeld
namespace Go.Proofs.Ytldiocdjgbehcaa
open Go.RowKit
section
variable {P : Program} {TT : TypeId → Option TI}

def noPan (Q : Exit → Act → World → Prop) : Exit → Act → World → Prop
  | .panic _, _, _ => False
  | e, a, w => Q e a w
theorem noPan_up {Q : Exit → Act → World → Prop} : ∀ (e : Exit) (a : Act) (w : World), noPan Q e a w → Q e a w := fun e a w h => by
  cases e <;> first | exact h | exact (h : False).elim

theorem ready_eq (ops : List Oper) (listed : List Bool) : Region.ready .any ops.toArray listed.toArray = readyA ops listed := by
  unfold Region.ready readyA
  simp only [List.size_toArray]
  apply List.filter_congr
  intro i hi
  have hi := List.mem_range.1 hi
  have e : ∀ d, listed.toArray.getD i d = listed.getD i d := fun d => by simp [Array.getD_eq_getD_getElem?, List.getD_eq_getElem?_getD]
  rw [e]
  congr 1
  simp only [List.getElem?_toArray, List.getElem?_eq_getElem hi, Option.map_some, Option.getD_some]
  rw [← Array.all_toList]
  congr 1
  funext x
  simp [Array.getD_eq_getD_getElem?, List.getD_eq_getElem?_getD]

theorem apart_get {ops : List Oper} (h : apartOk ops = true) : Region.noSelect ops.toArray = true ∧ ∀ (i j : Nat) (o p : Oper), ops[i]? = some o → ops[j]? = some p → i = j ∨ bindsA o j = true ∨ bindsA p i = true ∨ o.apart ops.toArray p = true := by
  unfold apartOk at h
  have hz : ∀ (i : Nat) (o : Oper), ops[i]? = some o → (o, i) ∈ ops.zipIdx := fun i o ho => by
    rw [List.mem_zipIdx_iff_getElem?]; exact ho
  refine ⟨?_, fun i j o p hi hj => ?_⟩
  · unfold Region.noSelect
    rw [← Array.all_toList]
    refine List.all_eq_true.2 fun o ho => ?_
    obtain ⟨i, hi⟩ := List.mem_iff_getElem?.1 ho
    have := List.all_eq_true.1 h (o, i) (hz i o (by simpa using hi))
    simp only [Bool.and_eq_true] at this
    exact this.1
  · have := List.all_eq_true.1 h (o, i) (hz i o hi)
    simp only [Bool.and_eq_true] at this
    have := List.all_eq_true.1 this.2 (p, j) (hz j p hj)
    simp only [Bool.or_eq_true] at this
    rcases this with ((h | h) | h) | h
    · exact .inl (Nat.eq_of_beq_eq_true h)
    · exact .inr (.inl h)
    · exact .inr (.inr (.inl h))
    · exact .inr (.inr (.inr h))

theorem free_of {ops : List Oper} (h : apartOk ops = true) {listed : Array Bool} {i : Nat} {o : Oper} (hi : ops[i]? = some o) (hr : ∀ e ∈ o.after, Region.binds .any e = true → listed.getD e.on false = true) : Region.free .any ops.toArray listed i = true := by
  unfold Region.free
  rw [show ops.toArray[i]? = some o by simpa using hi]
  simp only [List.all_eq_true, List.mem_range, List.size_toArray]
  intro j hj
  have hp : ops[j]? = some ops[j] := by simp [hj]
  rw [show ops.toArray[j]? = some ops[j] by simp [hj]]
  simp only [Bool.or_eq_true, beq_iff_eq]
  rcases (apart_get h).2 i j o _ hi hp with e | e | e | e
  · exact .inl (.inl e.symm)
  · obtain ⟨ed, h1, h2, rfl⟩ := bindsA_get e
    refine .inl (.inr ?_)
    have := hr ed h1 h2
    rw [Array.getD_eq_getD_getElem?] at this ⊢
    cases hq : listed[ed.on]? with
    | none => rw [hq] at this; simp at this
    | some b => rw [hq] at this; simpa using this
  · obtain ⟨ed, h1, h2, h3⟩ := bindsA_get e
    refine .inr (.inl ?_)
    exact Array.any_eq_true'.2 ⟨ed, h1, by simp [h2, h3]⟩
  · exact .inr (.inr e)

/-! ### The world stands till the first operation that may turn it -/
def noEff (ops : List Oper) (listed : Array Bool) : Prop := ∀ (j : Nat) (o : Oper), ops[j]? = some o → effB o.op = true → listed.getD j false = false
def wpAnyG (P : Program) (ops : List Oper) (Q : Exit → Act → World → Prop) (w0 : World) : Nat → Array Bool → Act → World → Prop
  | 0, listed, a, w => Region.ready .any ops.toArray listed = [] ∧ Q .normal a w
  | fuel + 1, listed, a, w => (Region.ready .any ops.toArray listed = [] → Q .normal a w) ∧
    ∀ i ∈ Region.ready .any ops.toArray listed, wpOp P ops.toArray Q i (fun a' w' => (noEff ops (listed.setIfInBounds i true) → w' = w0) ∧ wpAnyG P ops Q w0 fuel (listed.setIfInBounds i true) a' w') a w
theorem wpAny_of_G {ops : List Oper} {Q : Exit → Act → World → Prop} {w0 : World} : ∀ (fuel : Nat) (listed : Array Bool) (a : Act) (w : World), wpAnyG P ops Q w0 fuel listed a w → wpAny P .any ops.toArray Q fuel listed a w
  | 0, _, _, _, h => h
  | fuel + 1, _, _, _, h => ⟨h.1, fun i hi => wpOp_mono (fun a' w' h' => wpAny_of_G fuel _ a' w' h'.2) (h.2 i hi)⟩

/-- One that may be taken first: S says where its value is what it is. -/
theorem wpAnyG_first {ops : List Oper} {Q : Exit → Act → World → Prop} {w0 : World} (h0 : apartOk ops = true) {S : World → Prop} {i : Nat} {oi : Oper} {v : Value} (hi : ops[i]? = some oi) (hne : effB oi.op = false) (hS : (∀ w, S w) ∨ ((∀ w, S w ↔ w = w0) ∧ waitA ops i = true)) (hQ : ∀ c a w, Q (.panic c) (a.put oi.dst v) w → Q (.panic c) a w) :
    ∀ (fuel : Nat) (listed : Array Bool) (a : Act) (w : World), listed.size = ops.length → (∀ e ∈ oi.after, Region.binds .any e = true → listed.getD e.on false = true) → i ∈ Region.ready .any ops.toArray listed → YieldsIf P ops.toArray S oi v a → S w → ((∀ w, S w) ∨ noEff ops listed) → (noEff ops listed → w = w0) →
      wpAnyG P ops Q w0 fuel (listed.setIfInBounds i true) (a.put oi.dst v) w → wpAnyG P ops Q w0 (fuel + 1) listed a w := by
  have hi' : ops.toArray[i]? = some oi := by simpa using hi
  have hil : i < ops.length := (List.getElem?_eq_some_iff.1 hi).1
  have noE : ∀ (listed : Array Bool), noEff ops (listed.setIfInBounds i true) ↔ noEff ops listed := by
    intro listed
    constructor
    · intro h j o ho he
      by_cases hj : j = i
      · subst hj; rw [hi] at ho; cases ho; rw [hne] at he; cases he
      · rw [← getD_set_ne false (Ne.symm hj)]; exact h j o ho he
    · intro h j o ho he
      by_cases hj : j = i
      · subst hj; rw [hi] at ho; cases ho; rw [hne] at he; cases he
      · rw [getD_set_ne false (Ne.symm hj)]; exact h j o ho he
  have now : ∀ (fuel : Nat) (listed : Array Bool) (a : Act) (w : World), YieldsIf P ops.toArray S oi v a → S w → (noEff ops listed → w = w0) → wpAnyG P ops Q w0 fuel (listed.setIfInBounds i true) (a.put oi.dst v) w → wpOp P ops.toArray Q i (fun a' w' => (noEff ops (listed.setIfInBounds i true) → w' = w0) ∧ wpAnyG P ops Q w0 fuel (listed.setIfInBounds i true) a' w') a w :=
    fun fuel listed a w hy hSw hC H => hy.wpOp hi' hSw ⟨fun h => hC ((noE listed).1 h), H⟩
  intro fuel
  induction fuel with
  | zero =>
    intro listed a w hsz hre hr hy hSw hSn hC H
    refine ⟨fun h => (by rw [h] at hr; cases hr), fun j hj => ?_⟩
    by_cases hji : j = i
    · subst hji; exact now 0 listed a w hy hSw hC H
    · have := ready_mono hj hji
      rw [H.1] at this
      cases this
  | succ fuel ih =>
    intro listed a w hsz hre hr hy hSw hSn hC H
    refine ⟨fun h => (by rw [h] at hr; cases hr), fun j hj => ?_⟩
    by_cases hji : j = i
    · subst hji; exact now (fuel + 1) listed a w hy hSw hC H
    · have h1 := H.2 j (ready_mono hj hji)
      obtain ⟨hjun, oj, hoj, hall⟩ := mem_ready.1 hj
      have hiun := (mem_ready.1 hr).1
      have hnot : ¬ (bindsA oj i = true) := fun hb => by
        obtain ⟨e, he, hbd, e1⟩ := bindsA_get hb
        have := hall e he hbd
        rw [e1, getD_false_of hiun] at this
        cases this
      have hojl : ops[j]? = some oj := by simpa using hoj
      have hap : oi.apart ops.toArray oj = true := by
        rcases (apart_get h0).2 i j oi oj hi hojl with e | e | e | e
        · exact absurd e.symm hji
        · obtain ⟨ed, he, hbd, e1⟩ := bindsA_get e
          have := hre ed he hbd
          rw [e1, getD_false_of hjun] at this
          cases this
        · exact absurd e hnot
        · exact e
      have hsel := Region.noSelect_spec (apart_get h0).1
      have h2 := wpOp_putIf hoj hap (fun cs b => hsel i oi cs b hi') (fun cs b => hsel j oj cs b hoj) hQ hy h1
      have hcomm : (listed.setIfInBounds i true).setIfInBounds j true = (listed.setIfInBounds j true).setIfInBounds i true := by rw [Array.setIfInBounds_comm _ _ (Ne.symm hji)]
      refine wpOp_mono (fun a' w' h3 => ?_) h2
      obtain ⟨hy', hC', H'⟩ := h3
      have hC2 : noEff ops (listed.setIfInBounds j true) → w' = w0 := fun hn => hC' (by rw [hcomm]; exact (noE _).2 hn)
      have hSn' : (∀ w, S w) ∨ noEff ops (listed.setIfInBounds j true) := by
        rcases hSn with hSn | hSn
        · exact .inl hSn
        · rcases hS with hS | ⟨_, hwt⟩
          · exact .inl hS
          · refine .inr fun k o ho he => ?_
            by_cases hk : k = j
            · subst hk
              rw [hojl] at ho; cases ho
              have := List.all_eq_true.1 hwt oj (List.mem_of_getElem? hojl)
              rw [he] at this
              exact absurd (by simpa using this) hnot
            · rw [getD_set_ne false (Ne.symm hk)]; exact hSn k o ho he
      have hSw' : S w' := by
        rcases hS with hS | ⟨hS, _⟩
        · exact hS w'
        · rcases hSn' with h | h
          · exact h w'
          · exact (hS w').2 (hC2 h)
      refine ⟨hC2, ih (listed.setIfInBounds j true) a' w' (by simpa using hsz) (fun e he hb => getD_set_true (hre e he hb)) (ready_mono hr (Ne.symm hji)) hy' hSw' hSn' hC2 ?_⟩
      rw [← hcomm]
      exact H'

theorem blind_get {o : Op} (h : blind o = true) {ρ : Operand → AV} {σ : Hp} {K : AV → Hp → Prop} (hw : opW P TT o ρ σ K) : opD P TT o ρ σ (fun v => K v σ) ∧ blindB o = true := by
  unfold blind at h
  split at h <;> first | exact ⟨hw, rfl⟩ | cases h

theorem allW_get {f : Nat → Prop} : ∀ {l : List Nat}, allW f l → ∀ i ∈ l, f i
  | [], _, i, h => by cases h
  | [x], h, i, hi => by simp at hi; subst hi; exact h
  | x :: y :: r, h, i, hi => by
    rcases List.mem_cons.1 hi with rfl | hi
    · exact h.1
    · exact allW_get (l := y :: r) h.2 i hi

theorem noneff_get {o : Op} (h : effB o = false) {ρ : Operand → AV} {σ : Hp} {K : AV → Hp → Prop} (hw : opW P TT o ρ σ K) : opD P TT o ρ σ (fun v => K v σ) := by
  unfold effB at h
  simp only [Bool.not_eq_false', Bool.or_eq_true] at h
  rcases h with h | h
  · exact (blind_get h hw).1
  · cases o <;> first | exact hw | cases h

theorem each_any (ok : TTok P TT) {n : Nat} {ops : List Oper} (h0 : apartOk ops = true) (hd : ∀ o ∈ ops, ∀ d, o.dst = some d → d < n) {K : Tm → Hp → Prop} {Q : Exit → Act → World → Prop} {F0 : Nat → Prop} {w0 wS : World} (hq : ∀ t' σ' F' w' a', Stp F0 w0 F' w' → SRel n F' w' t' σ' a' → K t' σ' → Q .normal a' w') :
    ∀ (m : Nat) (listed : List Bool) (t : Tm) (σ : Hp) (F : Nat → Prop) (w : World) (a : Act), left listed.toArray ≤ m → listed.length = ops.length → anyW P TT ops (m + 1) listed t σ K → SRel n F w t σ a → Stp F0 w0 F w → (noEff ops listed.toArray → w = wS) → wpAnyG P ops (noPan Q) wS m listed.toArray a w := by
  intro m
  induction m with
  | zero =>
    intro listed t σ F w a hl hlen h hs hst hC
    have hr : readyA ops listed = [] := by
      rw [← ready_eq, List.eq_nil_iff_forall_not_mem]
      intro j hj
      have := (mem_ready.1 hj).1
      rw [left_zero (by omega)] at this
      cases this
    rw [anyW_succ] at h
    rw [hr] at h
    exact ⟨by rw [ready_eq]; exact hr, hq t σ F w a hst hs h⟩
  | succ m ih =>
    intro listed t σ F w a hl hlen h hs hst hC
    rw [anyW_succ] at h
    split at h
    · rename_i hr
      refine ⟨fun _ => hq t σ F w a hst hs h, fun i hi => ?_⟩
      rw [ready_eq, hr] at hi
      cases hi
    · rename_i i0 r0 hr
      have guard : ∀ {o : Oper} {b : Bool}, guardIs ops o t b → Region.wanted o (yielded ops.toArray a.tmps) = b := fun hg => wanted_of hg fun d _ => ⟨F, w, hs.tm d⟩
      have mem : ∀ j, j ∈ readyA ops listed → ∃ o, ops[j]? = some o ∧ listed.toArray.getD j true = false ∧ ∀ e ∈ o.after, Region.binds .any e = true → listed.toArray.getD e.on false = true := fun j hj => by
        rw [← ready_eq] at hj
        obtain ⟨h1, o, h2, h3⟩ := mem_ready.1 hj
        exact ⟨o, by simpa using h2, h1, h3⟩
      have hset : ∀ j, (listed.set j true).toArray = listed.toArray.setIfInBounds j true := fun j => by simp
      have hC2 : ∀ (j : Nat) (o : Oper), ops[j]? = some o → effB o.op = false → noEff ops (listed.toArray.setIfInBounds j true) → w = wS := fun j o ho he hn => hC fun k p hp hk => by
        by_cases e : k = j
        · subst e; rw [ho] at hp; cases hp; rw [he] at hk; cases hk
        · rw [← getD_set_ne false (Ne.symm e)]; exact hn k p hp hk
      split at h
      · rename_i j hj
        have hjm := List.mem_of_find?_eq_some hj
        have hjb := List.find?_some hj
        rw [← hr] at hjm
        obtain ⟨o, ho, hun, hre⟩ := mem j hjm
        unfold firstA at hjb
        rw [ho] at hjb
        have hlt : left (listed.toArray.setIfInBounds j true) ≤ m := by have := left_set hun; omega
        unfold oneW at h
        rw [ho] at h
        have hne : effB o.op = false := by
          unfold effB
          simp only [Bool.or_eq_true, Bool.and_eq_true] at hjb
          rcases hjb with hb | hb
          · simp [hb]
          · simp [hb.1.1]
        have hjr : j ∈ Region.ready .any ops.toArray listed.toArray := by rw [ready_eq]; exact hjm
        have take : ∀ (S : World → Prop) v, ((∀ w, S w) ∨ ((∀ w, S w ↔ w = wS) ∧ waitA ops j = true)) → ((∀ w, S w) ∨ noEff ops listed.toArray) → S w → YieldsIf P ops.toArray S o v a → wpAnyG P ops (noPan Q) wS m (listed.toArray.setIfInBounds j true) (a.put o.dst v) w → wpAnyG P ops (noPan Q) wS (m + 1) listed.toArray a w := fun S v hS hSn hSw hy hk =>
          wpAnyG_first h0 ho hne hS (fun c a w h => h) m listed.toArray a w (by simpa using hlen) hre hjr hy hSw hSn hC hk
        have goOn : ∀ (x : AV) (u : Value), VRel F w x u → anyW P TT ops (m + 1) (listed.set j true) (put t o.dst x) σ K → wpAnyG P ops (noPan Q) wS m (listed.toArray.setIfInBounds j true) (a.put o.dst u) w := fun x u hx hk => by
          rw [← hset]
          exact ih _ _ σ F w _ (by rw [hset]; exact hlt) (by simpa using hlen) hk (hs.put (.refl _ _) hs.hp hx (hd o (List.mem_of_getElem? ho))) hst (by rw [hset]; exact hC2 j o ho hne)
        rcases guardW_get h with ⟨hg, h⟩ | ⟨hg, h⟩
        · simp only [Bool.or_eq_true, Bool.and_eq_true] at hjb
          rcases hjb with hb | ⟨⟨hb, hn⟩, hwt⟩
          · obtain ⟨h1, h2⟩ := blind_get hb h
            obtain ⟨v, k1, k2⟩ := opD_blind ok h2 h1
            obtain ⟨u, r1, r2⟩ := k2 a.eval F w o rfl (fun x _ => hs.tm.eval x)
            exact take (fun _ => True) u (.inl fun _ => trivial) (.inl fun _ => trivial) trivial (.inl ⟨guard hg, fun w' _ => r1 w'⟩) (goOn v u r2 k1)
          · obtain ⟨v, k1, k2⟩ := opD_sound ok (noneff_get hne h)
            obtain ⟨u, r1, r2⟩ := k2 a.eval F w o rfl (fun x _ => hs.tm.eval x) hs.hp
            have hnE : noEff ops listed.toArray := fun k p hp hk => by
              have := List.all_eq_true.1 hn (p, k) (by rw [List.mem_zipIdx_iff_getElem?]; exact hp)
              simp only [hk, Bool.not_true, Bool.false_or, Bool.not_eq_true'] at this
              rw [Array.getD_eq_getD_getElem?, List.getElem?_toArray, ← List.getD_eq_getElem?_getD]
              exact this
            have hw := hC hnE
            subst hw
            exact take (fun x => x = w) u (.inr ⟨fun _ => Iff.rfl, hwt⟩) (.inr hnE) rfl (.inl ⟨guard hg, fun w' e => by subst e; exact r1⟩) (goOn v u r2 k1)
        · exact take (fun _ => True) undef (.inl fun _ => trivial) (.inl fun _ => trivial) trivial (.inr ⟨guard hg, rfl⟩) (goOn (.tup []) undef vrel_undef h)
      · refine ⟨fun h1 => absurd h1 (by rw [ready_eq, hr]; simp), fun j hj => ?_⟩
        rw [ready_eq] at hj
        obtain ⟨o, ho, hun, hre⟩ := mem j hj
        have h := allW_get h j (by rw [← hr]; exact hj)
        have hil : j < ops.length := (List.getElem?_eq_some_iff.1 ho).1
        have hlt : left (listed.toArray.setIfInBounds j true) ≤ m := by have := left_set hun; omega
        unfold oneW at h
        rw [ho] at h
        unfold wpOp
        rw [show ops.toArray[j]? = some o by simpa using ho]
        have goOn : ∀ (x : AV) (u : Value) (σ' : Hp) (F' : Nat → Prop) (w' : World), Stp F w F' w' → RelHp F' w' σ' → VRel F' w' x u → (noEff ops (listed.toArray.setIfInBounds j true) → w' = wS) → anyW P TT ops (m + 1) (listed.set j true) (put t o.dst x) σ' K → (noEff ops (listed.toArray.setIfInBounds j true) → w' = wS) ∧ wpAnyG P ops (noPan Q) wS m (listed.toArray.setIfInBounds j true) (a.put o.dst u) w' := fun x u σ' F' w' q1 q2 q3 q4 hk => by
          refine ⟨q4, ?_⟩
          rw [← hset]
          exact ih _ _ σ' F' w' _ (by rw [hset]; exact hlt) (by simpa using hlen) hk (hs.put q1 q2 q3 (hd o (List.mem_of_getElem? ho))) (hst.trans q1) (by rw [hset]; exact q4)
        have hself : (listed.toArray.setIfInBounds j true).getD j false = true := by simp [Array.getD, hlen, hil]
        cases he : effB o.op with
        | true =>
          have vac : noEff ops (listed.toArray.setIfInBounds j true) → False := fun hn => by
            have := hn j o ho he
            rw [hself] at this
            cases this
          rcases guardW_get h with ⟨hg, h⟩ | ⟨hg, h⟩
          · simp only [guard hg, if_true]
            refine .inl (opW_sound ok h a F w (fun x _ => hs.tm.eval x) hs.hp _ _ ?_)
            intro v av σ' F' w' q1 q2 q3 q4
            exact goOn av v σ' F' w' q1 q2 q3 (fun hn => (vac hn).elim) q4
          · simp only [guard hg, Bool.false_eq_true, if_false]
            exact goOn (.tup []) undef σ F w (.refl _ _) hs.hp vrel_undef (fun hn => (vac hn).elim) h
        | false =>
          rcases guardW_get h with ⟨hg, h⟩ | ⟨hg, h⟩
          · simp only [guard hg, if_true]
            obtain ⟨v, k1, k2⟩ := opD_sound ok (noneff_get he h)
            obtain ⟨u, r1, r2⟩ := k2 a.eval F w o rfl (fun x _ => hs.tm.eval x) hs.hp
            refine .inl ?_
            unfold Oper.wp
            rw [r1]
            exact goOn v u σ F w (.refl _ _) hs.hp r2 (hC2 j o ho he) k1
          · simp only [guard hg, Bool.false_eq_true, if_false]
            exact goOn (.tup []) undef σ F w (.refl _ _) hs.hp vrel_undef (hC2 j o ho he) h

theorem each_sound (ok : TTok P TT) (hm : P.follows .mixedOrders = true) {n id : Nat} {ops : Array Oper} {t : Tm} {σ : Hp} {K : Tm → Hp → Prop} {F : Nat → Prop} {w : World} {a : Act} {Q : Exit → Act → World → Prop} (h0 : apartOk ops.toList = true) (h : anyW P TT ops.toList (ops.toList.length + 1) (List.replicate ops.toList.length false) t σ K) (hd : ∀ o ∈ ops.toList, ∀ d, o.dst = some d → d < n) (hs : SRel n F w t σ a)
    (hq : ∀ t' σ' F' w' a', Stp F w F' w' → SRel n F' w' t' σ' a' → K t' σ' → Q .normal a' w') : (Code.region id ops true).wp P Q a w := by
  have hdrew : Stp F w F { w with drawn := w.drawn + 1 } := stp_of_same hs.hp.low rfl rfl rfl (Nat.le_refl _) (fun _ _ => rfl)
  refine Code.wp_mono noPan_up (wp_region_any hm ?_)
  have key := each_any (P := P) (Q := Q) ok h0 hd (F0 := F) (w0 := w) (wS := { w with drawn := w.drawn + 1 }) hq ops.toList.length (List.replicate ops.toList.length false) t σ F { w with drawn := w.drawn + 1 } a (by
      unfold left
      refine Nat.le_trans (List.length_filter_le _ _) (by simp)) (by simp) h ⟨hs.tm.mono hdrew, hs.hp.same hdrew (fun _ _ => rfl), hs.size, hs.defers⟩ hdrew (fun _ => rfl)
  simpa using wpAny_of_G _ _ _ _ key
end
end Go.Proofs.Ytldiocdjgbehcaa
