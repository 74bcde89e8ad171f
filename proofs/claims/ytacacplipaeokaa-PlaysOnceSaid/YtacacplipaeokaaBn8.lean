/-
  Ae: what the claim uses of them.
-/
import Derived.OrdersHeld
import Derived.Test.YtacacplipaeokaaBn7
namespace Go.Proofs.Ytacacplipaeokaa
open Go.RowKit
section
variable {P : Program} {TT : TypeId → Option TI}
def FactAt (P : Program) (ops : List Oper) (σ : Hp) (o : Oper) (t : Tm) (v : AV) : Prop := (guardIs ops o t true ∧ LeadsQ P o (ev t) σ v) ∨ (guardIs ops o t false ∧ v = .tup [])
def tmAt : Tm → List Oper → List AV → Nat → Tm
  | t, o :: l, v :: vs, i + 1 => tmAt (put t o.dst v) l vs i
  | t, _, _, _ => t
theorem opsQ_get (ok : TTok P TT) {ops : List Oper} {σ : Hp} {K : Tm → Prop} : ∀ (l : List Oper) (t : Tm), opsQ P TT ops l t σ K → ∃ vals : List AV, vals.length = l.length ∧ (∀ (i : Nat) (o : Oper) (v : AV), l[i]? = some o → vals[i]? = some v → FactAt P ops σ o (tmAt t l vals i) v) ∧ K (tmAt t l vals l.length)
  | [], t, h => ⟨[], rfl, fun i o v h => by simp at h, h⟩
  | o :: l, t, h => by
    have go : ∀ v, FactAt P ops σ o t v → opsQ P TT ops l (put t o.dst v) σ K → ∃ vals : List AV, vals.length = (o :: l).length ∧ (∀ (i : Nat) (o' : Oper) (v : AV), (o :: l)[i]? = some o' → vals[i]? = some v → FactAt P ops σ o' (tmAt t (o :: l) vals i) v) ∧ K (tmAt t (o :: l) vals (o :: l).length) := by
      intro v hv hk
      obtain ⟨vals, h1, h2, h3⟩ := opsQ_get ok l _ hk
      refine ⟨v :: vals, by simp [h1], fun i o' v' ho hv' => ?_, h3⟩
      cases i with
      | zero => simp at ho hv'; subst ho; subst hv'; exact hv
      | succ i => exact h2 i o' v' (by simpa using ho) (by simpa using hv')
    rcases guardW_get h with ⟨hg, h⟩ | ⟨hg, h⟩
    · obtain ⟨v, hk, hl⟩ := opQ_sound ok h
      exact go v (.inl ⟨hg, hl⟩) hk
    · exact go (.tup []) (.inr ⟨hg, rfl⟩) h
theorem tm_none {x : Tmp} : ∀ (l : List Oper) (vals : List AV) (t : Tm) (i : Nat), (∀ j, j < i → ∀ o, l[j]? = some o → o.dst ≠ some x) → tmAt t l vals i x = t x
  | [], _, _, i, _ => by cases i <;> rfl
  | _ :: _, [], _, i, _ => by cases i <;> rfl
  | o :: l, v :: vals, t, 0, _ => rfl
  | o :: l, v :: vals, t, i + 1, h => by
    have h0 := h 0 (by omega) o rfl
    rw [tmAt, tm_none l vals _ i (fun j hj o' ho => h (j + 1) (by omega) o' (by simpa using ho))]
    cases hd : o.dst with
    | none => rfl
    | some d =>
      have : Nat.beq x d = false := by
        cases hb : Nat.beq x d with
        | false => rfl
        | true => exact absurd (by rw [hd, Nat.eq_of_beq_eq_true hb]) h0
      show (match Nat.beq x d with | true => v | false => t x) = t x
      rw [this]
theorem tm_some {x : Tmp} {v : AV} {p : Oper} : ∀ (l : List Oper) (vals : List AV) (t : Tm) (i j : Nat), j < i → l[j]? = some p → p.dst = some x → (∀ k, k < i → k ≠ j → ∀ o, l[k]? = some o → o.dst ≠ some x) → vals[j]? = some v → tmAt t l vals i x = v
  | [], _, _, _, _, _, hp, _, _, _ => by simp at hp
  | _ :: _, [], _, _, _, _, _, _, _, hv => by simp at hv
  | _ :: _, _ :: _, _, 0, _, hj, _, _, _, _ => by omega
  | o :: l, u :: vals, t, i + 1, 0, _, hp, hx, hn, hv => by
    simp at hp hv
    subst hp; subst hv
    rw [tmAt, tm_none l vals _ i (fun k hk o' ho => hn (k + 1) (by omega) (by omega) o' (by simpa using ho))]
    simp [put, hx]
  | o :: l, u :: vals, t, i + 1, j + 1, hj, hp, hx, hn, hv =>
    tm_some l vals (put t o.dst u) i j (by omega) (by simpa using hp) hx (fun k hk hne o' ho => hn (k + 1) (by omega) (by omega) o' (by simpa using ho)) (by simpa using hv)
structure QOk (ops : List Oper) : Prop where
  back : ∀ (i : Nat) (o : Oper), ops[i]? = some o → ∀ e ∈ o.after, Region.binds .any e = true → e.on < i
  dist : ∀ (i j : Nat) (o p : Oper) (d : Tmp), ops[i]? = some o → ops[j]? = some p → p.dst = some d → o.dst = some d → i = j
  look : ∀ (i j : Nat) (o p : Oper) (d : Tmp), ops[i]? = some o → ops[j]? = some p → p.dst = some d → d ∈ looksA ops o → i = j ∨ (j < i ∧ bindsA o j = true) ∨ (i < j ∧ bindsA p i = true)
theorem qok_of {ops : List Oper} (h : quietOk ops = true) : QOk ops := by
  unfold quietOk at h
  have hz : ∀ (i : Nat) (o : Oper), ops[i]? = some o → (o, i) ∈ ops.zipIdx := fun i o ho => by
    rw [List.mem_zipIdx_iff_getElem?]; exact ho
  have hall := fun (i : Nat) (o : Oper) (ho : ops[i]? = some o) => List.all_eq_true.1 h (o, i) (hz i o ho)
  refine ⟨fun i o ho e he hb => ?_, fun i j o p d ho hp hpd hod => ?_, fun i j o p d ho hp hpd hd => ?_⟩
  · have h1 := hall i o ho
    simp only [Bool.and_eq_true] at h1
    have h2 := List.all_eq_true.1 h1.1 e (by simpa using he)
    simp only [hb, Bool.not_true, Bool.false_or] at h2
    exact Nat.le_of_ble_eq_true h2
  · have h1 := hall i o ho
    simp only [Bool.and_eq_true] at h1
    have h2 := List.all_eq_true.1 h1.2 (p, j) (hz j p hp)
    simp only [hpd, hod, Bool.and_eq_true, Bool.or_eq_true, Nat.beq_refl, Bool.not_true] at h2
    rcases h2.1 with h3 | h3
    · exact Nat.eq_of_beq_eq_true h3
    · cases h3
  · have h1 := hall i o ho
    simp only [Bool.and_eq_true] at h1
    have h2 := List.all_eq_true.1 h1.2 (p, j) (hz j p hp)
    simp only [hpd, Bool.and_eq_true, Bool.or_eq_true] at h2
    rcases h2.2 with ((h3 | h3) | h3) | h3
    · exfalso
      have : (looksA ops o).any (Nat.beq d) = true := List.any_eq_true.2 ⟨d, hd, Nat.beq_refl d⟩
      rw [this] at h3
      cases h3
    · exact .inl (Nat.eq_of_beq_eq_true h3)
    · exact .inr (.inl ⟨Nat.le_of_ble_eq_true h3.1, h3.2⟩)
    · exact .inr (.inr ⟨Nat.le_of_ble_eq_true h3.1, h3.2⟩)
theorem bindsA_get {o : Oper} {j : Nat} (h : bindsA o j = true) : ∃ e ∈ o.after, Region.binds .any e = true ∧ e.on = j := by
  obtain ⟨e, h1, h2⟩ := List.any_eq_true.1 h
  simp only [Bool.and_eq_true] at h2
  exact ⟨e, by simpa using h1, h2.1, Nat.eq_of_beq_eq_true h2.2⟩
/-- How many are left. -/
def left (listed : Array Bool) : Nat := (listed.toList.filter (fun b => !b)).length
theorem left_list : ∀ (l : List Bool) (i : Nat), l[i]? = some false → ((l.set i true).filter (fun b => !b)).length + 1 = (l.filter (fun b => !b)).length
  | [], i, h => by simp at h
  | b :: l, 0, h => by simp at h; subst h; simp
  | b :: l, i + 1, h => by
    have := left_list l i (by simpa using h)
    cases b <;> simp at this ⊢ <;> omega
theorem left_set {listed : Array Bool} {i : Nat} (h : listed.getD i true = false) : left (listed.setIfInBounds i true) + 1 = left listed := by
  unfold left
  rw [Array.toList_setIfInBounds]
  refine left_list _ i ?_
  rw [Array.getElem?_toList]
  rw [Array.getD_eq_getD_getElem?] at h
  cases hq : listed[i]? with
  | none => rw [hq] at h; simp at h
  | some b => rw [hq] at h; simp at h; rw [h]
theorem left_zero {listed : Array Bool} (h : left listed = 0) {i : Nat} : listed.getD i true = true := by
  cases hb : listed.getD i true with
  | true => rfl
  | false => have := left_set hb; omega
structure QInv (P : Program) (ops : List Oper) (t0 : Tm) (vals : List AV) (σ : Hp) (B n : Nat) (listed : Array Bool) (F : Nat → Prop) (w : World) (a : Act) : Prop where
  hp : RelHp F w σ
  size : n ≤ a.tmps.size
  defers : Marks B F w a.defers
  lsize : listed.size = ops.length
  closed : ∀ (j : Nat) (o : Oper), ops[j]? = some o → listed.getD j false = true → ∀ e ∈ o.after, Region.binds .any e = true → listed.getD e.on false = true
  inn : ∀ (j : Nat) (o : Oper) (v : AV) (d : Tmp), ops[j]? = some o → o.dst = some d → vals[j]? = some v → listed.getD j false = true → VRel F w v (a.tmps.getD d undef)
  out : ∀ d, (∀ (j : Nat) (o : Oper), ops[j]? = some o → o.dst = some d → listed.getD j false = false) → VRel F w (t0 d) (a.tmps.getD d undef)
theorem getD_false_of {listed : Array Bool} {i : Nat} (h : listed.getD i true = false) : listed.getD i false = false := by
  rw [Array.getD_eq_getD_getElem?] at h ⊢
  cases hq : listed[i]? with
  | none => rw [hq] at h; simp at h
  | some b => rw [hq] at h; simpa using h
theorem getD_true_of {listed : Array Bool} {i : Nat} (hi : i < listed.size) (h : listed.getD i true = true) : listed.getD i false = true := by
  rw [Array.getD_eq_getD_getElem?] at h ⊢
  rw [Array.getElem?_eq_getElem hi] at h ⊢
  simpa using h
section
variable {ops : List Oper} {t0 : Tm} {vals : List AV} {σ : Hp} {B n : Nat} {listed : Array Bool} {F : Nat → Prop} {w : World} {a : Act}
/-- A temporary that operation i looks at stands for what the walk says. -/
theorem QInv.look (hJ : QInv P ops t0 vals σ B n listed F w a) (ho : QOk ops) (hvl : vals.length = ops.length) {i : Nat} {o : Oper} (hi : ops[i]? = some o) (hun : listed.getD i true = false) (hre : ∀ e ∈ o.after, Region.binds .any e = true → listed.getD e.on false = true) {d : Tmp} (hd : d ∈ looksA ops o) :
    VRel F w (tmAt t0 ops vals i d) (a.tmps.getD d undef) := by
  by_cases hw : ∃ (j : Nat) (p : Oper), ops[j]? = some p ∧ p.dst = some d
  · obtain ⟨j, p, hp, hpd⟩ := hw
    have uniq : ∀ k, k ≠ j → ∀ o', ops[k]? = some o' → o'.dst ≠ some d := fun k hk o' ho' hod => hk (ho.dist k j o' p d ho' hp hpd hod)
    have out : listed.getD j false = false → (i ≤ j) → VRel F w (tmAt t0 ops vals i d) (a.tmps.getD d undef) := fun hl hij => by
      rw [tm_none ops vals t0 i (fun k hk o' ho' => uniq k (by omega) o' ho')]
      exact hJ.out d fun k o' ho' hod => by rw [ho.dist k j o' p d ho' hp hpd hod]; exact hl
    rcases ho.look i j o p d hi hp hpd hd with e | ⟨h1, h2⟩ | ⟨h1, h2⟩
    · subst e
      exact out (getD_false_of hun) (Nat.le_refl _)
    · obtain ⟨e, he, hb, rfl⟩ := bindsA_get h2
      have hl := hre e he hb
      have hjl : e.on < ops.length := (List.getElem?_eq_some_iff.1 hp).1
      have hv : vals[e.on]? = some vals[e.on] := List.getElem?_eq_getElem (by omega)
      rw [tm_some ops vals t0 i e.on h1 hp hpd (fun k _ hne => uniq k hne) hv]
      exact hJ.inn e.on p _ d hp hpd hv hl
    · obtain ⟨e, he, hb, rfl⟩ := bindsA_get h2
      refine out ?_ (by omega)
      cases hl : listed.getD j false with
      | false => rfl
      | true =>
        have := hJ.closed j p hp hl e he hb
        rw [getD_false_of hun] at this
        cases this
  · rw [tm_none ops vals t0 i (fun k _ o' ho' hod => hw ⟨k, o', ho', hod⟩)]
    exact hJ.out d fun j o' ho' hod => absurd ⟨j, o', ho', hod⟩ hw
theorem quiet_any (ho : QOk ops) (hvl : vals.length = ops.length) (hd : ∀ o ∈ ops, ∀ d, o.dst = some d → d < n) (hf : ∀ (i : Nat) (o : Oper) (v : AV), ops[i]? = some o → vals[i]? = some v → FactAt P ops σ o (tmAt t0 ops vals i) v) {Q : Exit → Act → World → Prop} {F0 : Nat → Prop} {w0 : World}
    (hq : ∀ F' w' a', Stp F0 w0 F' w' → SRel B n F' w' (tmAt t0 ops vals ops.length) σ a' → Q .normal a' w') :
    ∀ (fuel : Nat) (listed : Array Bool) (F : Nat → Prop) (w : World) (a : Act), left listed ≤ fuel → QInv P ops t0 vals σ B n listed F w a → Stp F0 w0 F w → wqAny P .any ops.toArray Q fuel listed a w := by
  have fin : ∀ (listed : Array Bool) (F : Nat → Prop) (w : World) (a : Act), QInv P ops t0 vals σ B n listed F w a → Stp F0 w0 F w → Region.ready .any ops.toArray listed = [] → Q .normal a w := by
    intro listed F w a hJ hst hr
    have all : ∀ j, j < ops.length → listed.getD j false = true := by
      intro j
      induction j using Nat.strongRecOn with
      | _ j ih =>
        intro hj
        cases hl : listed.getD j true with
        | true => exact getD_true_of (by rw [hJ.lsize]; exact hj) hl
        | false =>
          exfalso
          have hm : j ∈ Region.ready .any ops.toArray listed := by
            rw [mem_ready]
            refine ⟨hl, ops[j], by simp [hj], fun e he hb => ?_⟩
            have := ho.back j ops[j] (by simp [hj]) e he hb
            exact ih _ this (by omega)
          rw [hr] at hm
          cases hm
    refine hq F w a hst ⟨fun d => ?_, hJ.hp, hJ.size, hJ.defers⟩
    by_cases hw : ∃ (j : Nat) (p : Oper), ops[j]? = some p ∧ p.dst = some d
    · obtain ⟨j, p, hp, hpd⟩ := hw
      have hjl : j < ops.length := (List.getElem?_eq_some_iff.1 hp).1
      have hv : vals[j]? = some vals[j] := List.getElem?_eq_getElem (by omega)
      rw [tm_some ops vals t0 ops.length j hjl hp hpd (fun k _ hne o' ho' hod => hne (ho.dist k j o' p d ho' hp hpd hod)) hv]
      exact hJ.inn j p _ d hp hpd hv (all j hjl)
    · rw [tm_none ops vals t0 ops.length (fun k _ o' ho' hod => hw ⟨k, o', ho', hod⟩)]
      exact hJ.out d fun j o' ho' hod => absurd ⟨j, o', ho', hod⟩ hw
  intro fuel
  induction fuel with
  | zero =>
    intro listed F w a hl hJ hst
    have hr : Region.ready .any ops.toArray listed = [] := by
      rw [List.eq_nil_iff_forall_not_mem]
      intro j hj
      have := (mem_ready.1 hj).1
      rw [left_zero (by omega)] at this
      cases this
    exact ⟨hr, fin listed F w a hJ hst hr⟩
  | succ fuel ih =>
    intro listed F w a hl hJ hst
    refine ⟨fin listed F w a hJ hst, fun i hi => ?_⟩
    obtain ⟨hun, o, hoi, hre⟩ := mem_ready.1 hi
    have hoi : ops[i]? = some o := by simpa using hoi
    have hil : i < ops.length := (List.getElem?_eq_some_iff.1 hoi).1
    have hvi : vals[i]? = some vals[i] := List.getElem?_eq_getElem (by omega)
    have hlook := fun {d : Tmp} (hd : d ∈ looksA ops o) => hJ.look ho hvl hoi hun hre hd
    have hwant : ∀ {b : Bool}, guardIs ops o (tmAt t0 ops vals i) b → Region.wanted o (yielded ops.toArray a.tmps) = b := fun hg => wanted_of hg fun d ⟨j, want, h1, h2⟩ => ⟨F, w, hlook (d := d) (by unfold looksA; rw [h1]; simp [h2])⟩
    have next : ∀ (F' : Nat → Prop) (w' : World) (u : Value), Stp F w F' w' → RelHp F' w' σ → VRel F' w' vals[i] u → wqAny P .any ops.toArray Q fuel (listed.setIfInBounds i true) (a.put o.dst u) w' := by
      intro F' w' u h1 h2 h3
      have hne : ∀ j, j ≠ i → (listed.setIfInBounds i true).getD j false = listed.getD j false := fun j hj => getD_set_ne false (Ne.symm hj)
      have hself : (listed.setIfInBounds i true).getD i false = true := by simp [Array.getD, hJ.lsize, hil]
      refine ih _ F' w' _ (by have := left_set hun; omega) ⟨h2, by rw [put_size]; exact hJ.size, by rw [put_def]; exact hJ.defers.mono h1, by simp [hJ.lsize], fun j p hp hl e he hb => ?_, fun j p v d hp hpd hv hl => ?_, fun d hn => ?_⟩ (hst.trans h1)
      · refine getD_set_true ?_
        by_cases hj : j = i
        · subst hj
          rw [hoi] at hp
          cases hp
          exact hre e he hb
        · rw [hne j hj] at hl
          exact hJ.closed j p hp hl e he hb
      · by_cases hj : j = i
        · subst hj
          rw [hoi] at hp
          cases hp
          rw [hvi] at hv
          cases hv
          have hdl : d < a.tmps.size := Nat.lt_of_lt_of_le (hd o (List.mem_of_getElem? hoi) d hpd) hJ.size
          rw [hpd]
          simpa [Act.put, Array.getD, hdl] using h3
        · rw [hne j hj] at hl
          have h4 := (hJ.inn j p v d hp hpd hv hl).mono h1
          have hnd : o.dst ≠ some d := fun hod => hj (ho.dist j i p o d hp hoi hod hpd)
          cases hod : o.dst with
          | none => exact h4
          | some d' =>
            have hdd : d' ≠ d := fun e => hnd (by rw [hod, e])
            show VRel F' w' v ((a.tmps.setIfInBounds d' u).getD d undef)
            rw [Array.getD_eq_getD_getElem?] at h4 ⊢
            rw [Array.getElem?_setIfInBounds_ne hdd]
            exact h4
      · have hnd : o.dst ≠ some d := fun hod => by
          have := hn i o hoi hod
          rw [hself] at this
          cases this
        have h4 := (hJ.out d fun j p hp hpd => by
          by_cases hj : j = i
          · subst hj; rw [hoi] at hp; cases hp; exact absurd hpd hnd
          · rw [← hne j hj]; exact hn j p hp hpd).mono h1
        cases hod : o.dst with
        | none => exact h4
        | some d' =>
          have hdd : d' ≠ d := fun e => hnd (by rw [hod, e])
          show VRel F' w' (t0 d) ((a.tmps.setIfInBounds d' u).getD d undef)
          rw [Array.getD_eq_getD_getElem?] at h4 ⊢
          rw [Array.getElem?_setIfInBounds_ne hdd]
          exact h4
    unfold wqOp
    rw [show ops.toArray[i]? = some o by simpa using hoi]
    rcases hf i o vals[i] hoi hvi with ⟨hg, hl⟩ | ⟨hg, hv⟩
    · simp only [hwant hg, if_true]
      refine (hl a F w (fun x hx => eval_rel x fun d e => ?_) hJ.hp _ Q (fun u F' w' k1 k2 k3 => next F' w' u k1 k2 k3))
      subst e
      exact hlook (by unfold looksA; exact List.mem_append_left _ (List.mem_filterMap.2 ⟨.tmp d, hx, rfl⟩))
    · simp only [hwant hg, Bool.false_eq_true, if_false]
      exact next F w undef (.refl _ _) hJ.hp (by rw [hv]; exact vrel_undef)
end
theorem quiet_sound (ok : TTok P TT) (hm : P.follows .mixedOrders = true) {r : Option Nat} {B n id : Nat} {ops : Array Oper} {t : Tm} {σ : Hp} {K : Tm → Prop} {F : Nat → Prop} {w : World} {a : Act} {Q : Exit → Act → World → Prop} (h0 : quietOk ops.toList = true) (h : opsQ P TT ops.toList ops.toList t σ K) (hd : ∀ o ∈ ops.toList, ∀ d, o.dst = some d → d < n) (hnd : ∀ o ∈ ops.toList, ∀ c, o.op ≠ .defer c) (hs : SRel B n F w t σ a)
    (hq : ∀ t' F' w' a', Stp F w F' w' → SRel B n F' w' t' σ a' → K t' → Q .normal a' w') : (Code.region id ops true).wpIn (FW r) 0 P Q a w := by
  obtain ⟨vals, h1, h2, h3⟩ := opsQ_get ok _ _ h
  have hdrew : Stp F w F { w with drawn := w.drawn + 1 } := stp_of_same hs.hp.low rfl rfl rfl (Nat.le_refl _) (fun _ _ => rfl)
  refine region_any hm hnd ?_
  have key := quiet_any (P := P) (Q := Q) (t0 := t) (B := B) (n := n) (qok_of h0) h1 hd h2 (F0 := F) (w0 := w) (fun F' w' a' k1 k2 => hq _ F' w' a' k1 k2 h3) ops.size (Array.replicate ops.size false) F { w with drawn := w.drawn + 1 } a (by
      unfold left
      refine Nat.le_trans (List.length_filter_le _ _) (by simp)) ⟨hs.hp.same hdrew (fun _ _ => rfl), hs.size, hs.defers.mono hdrew, by simp, fun j o ho hl => ?_, fun j o v d ho hod hv hl => ?_, fun d _ => (hs.tm d).mono hdrew⟩ hdrew
  · simpa using key
  · by_cases hj : j < ops.size <;> simp [Array.getD, hj] at hl
  · by_cases hj : j < ops.size <;> simp [Array.getD, hj] at hl
end
section
variable {P : Program} {TT : TypeId → Option TI}
def noPan (Q : Exit → Act → World → Prop) : Exit → Act → World → Prop
  | .panic _, _, _ => False
  | e, a, w => Q e a w
theorem noPan_up {Q : Exit → Act → World → Prop} : ∀ (e : Exit) (a : Act) (w : World), noPan Q e a w → Q e a w := fun e a w h => by
  cases e <;> first | exact h | exact (h : False).elim
theorem ready_eq (ops : List Oper) (listed : List Bool) : Region.ready .any ops.toArray listed.toArray = readyA ops listed := by
  unfold Region.ready readyA
  simp only [List.size_toArray]
  apply List.filter_congr
  intro i hi
  have hi := List.mem_range.1 hi
  have e : ∀ d, listed.toArray.getD i d = listed.getD i d := fun d => by simp [Array.getD_eq_getD_getElem?, List.getD_eq_getElem?_getD]
  rw [e]
  congr 1
  simp only [List.getElem?_toArray, List.getElem?_eq_getElem hi, Option.map_some, Option.getD_some]
  rw [← Array.all_toList]
  congr 1
  funext x
  simp [Array.getD_eq_getD_getElem?, List.getD_eq_getElem?_getD]
theorem apart_get {ops : List Oper} (h : apartOk ops = true) : Region.noSelect ops.toArray = true ∧ ∀ (i j : Nat) (o p : Oper), ops[i]? = some o → ops[j]? = some p → i = j ∨ bindsA o j = true ∨ bindsA p i = true ∨ o.apart ops.toArray p = true := by
  unfold apartOk at h
  have hz : ∀ (i : Nat) (o : Oper), ops[i]? = some o → (o, i) ∈ ops.zipIdx := fun i o ho => by
    rw [List.mem_zipIdx_iff_getElem?]; exact ho
  refine ⟨?_, fun i j o p hi hj => ?_⟩
  · unfold Region.noSelect
    rw [← Array.all_toList]
    refine List.all_eq_true.2 fun o ho => ?_
    obtain ⟨i, hi⟩ := List.mem_iff_getElem?.1 ho
    have := List.all_eq_true.1 h (o, i) (hz i o (by simpa using hi))
    simp only [Bool.and_eq_true] at this
    exact this.1
  · have := List.all_eq_true.1 h (o, i) (hz i o hi)
    simp only [Bool.and_eq_true] at this
    have := List.all_eq_true.1 this.2 (p, j) (hz j p hj)
    simp only [Bool.or_eq_true] at this
    rcases this with ((h | h) | h) | h
    · exact .inl (Nat.eq_of_beq_eq_true h)
    · exact .inr (.inl h)
    · exact .inr (.inr (.inl h))
    · exact .inr (.inr (.inr h))
def Still (ops : List Oper) (i : Nat) : Prop := ∀ o, ops[i]? = some o → effB o.op = false
def wpAnyG (P : Program) (ops : List Oper) (Q : Exit → Act → World → Prop) : Nat → Array Bool → Act → World → Prop
  | 0, listed, a, w => Region.ready .any ops.toArray listed = [] ∧ Q .normal a w
  | fuel + 1, listed, a, w => (Region.ready .any ops.toArray listed = [] → Q .normal a w) ∧
    ∀ i ∈ Region.ready .any ops.toArray listed, wqOp P ops.toArray Q i (fun a' w' => (Still ops i → w' = w) ∧ wpAnyG P ops Q fuel (listed.setIfInBounds i true) a' w') a w
theorem wpAny_of_G {ops : List Oper} {Q : Exit → Act → World → Prop} : ∀ (fuel : Nat) (listed : Array Bool) (a : Act) (w : World), wpAnyG P ops Q fuel listed a w → wqAny P .any ops.toArray Q fuel listed a w
  | 0, _, _, _, h => h
  | fuel + 1, _, _, _, h => ⟨h.1, fun i hi => wqOp_mono (fun a' w' h' => wpAny_of_G fuel _ a' w' h'.2) (h.2 i hi)⟩
/-- What is listed has all that it waits for listed. -/
def Closed (ops : List Oper) (listed : Array Bool) : Prop := ∀ (j : Nat) (o : Oper), ops[j]? = some o → listed.getD j false = true → ∀ e ∈ o.after, Region.binds .any e = true → listed.getD e.on false = true
theorem Closed.set {ops : List Oper} {listed : Array Bool} (h : Closed ops listed) {j : Nat} {o : Oper} (ho : ops[j]? = some o) (hr : ∀ e ∈ o.after, Region.binds .any e = true → listed.getD e.on false = true) : Closed ops (listed.setIfInBounds j true) := by
  intro k p hp hk e he hb
  by_cases hkj : k = j
  · subst hkj
    rw [ho] at hp; cases hp
    exact getD_set_true (hr e he hb)
  · rw [getD_set_ne false (Ne.symm hkj)] at hk
    exact getD_set_true (h k p hp hk e he hb)
/-- One that may be taken first: S says where its value is what it is. -/
theorem wpAnyG_first {ops : List Oper} {Q : Exit → Act → World → Prop} (h0 : apartOk ops = true) {S : World → Prop} {i : Nat} {oi : Oper} {v : Value} (hi : ops[i]? = some oi) :
    ∀ (fuel : Nat) (listed : Array Bool) (a : Act) (w : World), listed.size = ops.length → Closed ops listed → (∀ e ∈ oi.after, Region.binds .any e = true → listed.getD e.on false = true) → i ∈ Region.ready .any ops.toArray listed → YieldsIf P ops.toArray S oi v a → S w → ((∀ w, S w) ∨ ∀ (j : Nat) (o : Oper), ops[j]? = some o → effB o.op = true → listed.getD j false = false → bindsA o i = true) →
      wpAnyG P ops Q fuel (listed.setIfInBounds i true) (a.put oi.dst v) w → wpAnyG P ops Q (fuel + 1) listed a w := by
  have hi' : ops.toArray[i]? = some oi := by simpa using hi
  have now : ∀ (fuel : Nat) (listed : Array Bool) (a : Act) (w : World), YieldsIf P ops.toArray S oi v a → S w → wpAnyG P ops Q fuel (listed.setIfInBounds i true) (a.put oi.dst v) w → wqOp P ops.toArray Q i (fun a' w' => (Still ops i → w' = w) ∧ wpAnyG P ops Q fuel (listed.setIfInBounds i true) a' w') a w :=
    fun fuel listed a w hy hSw H => yields_wqOp hi' hy hSw ⟨fun _ => rfl, H⟩
  intro fuel
  induction fuel with
  | zero =>
    intro listed a w hsz hc hre hr hy hSw hSn H
    refine ⟨fun h => (by rw [h] at hr; cases hr), fun j hj => ?_⟩
    by_cases hji : j = i
    · subst hji; exact now 0 listed a w hy hSw H
    · have := ready_mono hj hji
      rw [H.1] at this
      cases this
  | succ fuel ih =>
    intro listed a w hsz hc hre hr hy hSw hSn H
    refine ⟨fun h => (by rw [h] at hr; cases hr), fun j hj => ?_⟩
    by_cases hji : j = i
    · subst hji; exact now (fuel + 1) listed a w hy hSw H
    · have h1 := H.2 j (ready_mono hj hji)
      obtain ⟨hjun, oj, hoj, hall⟩ := mem_ready.1 hj
      have hiun := (mem_ready.1 hr).1
      have hnot : ¬ (bindsA oj i = true) := fun hb => by
        obtain ⟨e, he, hbd, e1⟩ := bindsA_get hb
        have := hall e he hbd
        rw [e1, getD_false_of hiun] at this
        cases this
      have hojl : ops[j]? = some oj := by simpa using hoj
      have hap : oi.apart ops.toArray oj = true := by
        rcases (apart_get h0).2 i j oi oj hi hojl with e | e | e | e
        · exact absurd e.symm hji
        · obtain ⟨ed, he, hbd, e1⟩ := bindsA_get e
          have := hre ed he hbd
          rw [e1, getD_false_of hjun] at this
          cases this
        · exact absurd e hnot
        · exact e
      have hsel := Region.noSelect_spec (apart_get h0).1
      have h2 := wqOp_swap hoj hap (fun cs b => hsel i oi cs b hi') (fun cs b => hsel j oj cs b hoj) hy h1
      have hcomm : (listed.setIfInBounds i true).setIfInBounds j true = (listed.setIfInBounds j true).setIfInBounds i true := by rw [Array.setIfInBounds_comm _ _ (Ne.symm hji)]
      refine wqOp_mono (fun a' w' h3 => ?_) h2
      obtain ⟨hy', hC', H'⟩ := h3
      have hSw' : S w' := by
        rcases hSn with hS | hwt
        · exact hS w'
        · cases he : effB oj.op with
          | true => exact absurd (hwt j oj hojl he (getD_false_of hjun)) hnot
          | false => rw [hC' (fun o ho => by rw [hojl] at ho; cases ho; exact he)]; exact hSw
      refine ⟨hC', ih (listed.setIfInBounds j true) a' w' (by simpa using hsz) (hc.set hojl hall) (fun e he hb => getD_set_true (hre e he hb)) (ready_mono hr (Ne.symm hji)) hy' hSw' ?_ ?_⟩
      · rcases hSn with hS | hwt
        · exact .inl hS
        · refine .inr fun k o ho he hk => ?_
          by_cases hkj : k = j
          · subst hkj
            have hjl : k < listed.size := by rw [hsz]; exact (List.getElem?_eq_some_iff.1 hojl).1
            simp [Array.getD, hjl] at hk
          · rw [getD_set_ne false (Ne.symm hkj)] at hk
            exact hwt k o ho he hk
      · rw [← hcomm]
        exact H'
theorem blind_get {o : Op} (h : blind o = true) {ρ : Operand → AV} {σ : Hp} {K : AV → Hp → Prop} (hw : opW P TT o ρ σ K) : opD P TT o ρ σ (fun v => K v σ) ∧ blindB o = true := by
  unfold blind at h
  split at h <;> first | exact ⟨hw, rfl⟩ | cases h
theorem allW_get {f : Nat → Prop} : ∀ {l : List Nat}, allW f l → ∀ i ∈ l, f i
  | [], _, i, h => by cases h
  | [x], h, i, hi => by simp at hi; subst hi; exact h
  | x :: y :: r, h, i, hi => by
    rcases List.mem_cons.1 hi with rfl | hi
    · exact h.1
    · exact allW_get (l := y :: r) h.2 i hi
theorem noneff_get {o : Op} (h : effB o = false) {ρ : Operand → AV} {σ : Hp} {K : AV → Hp → Prop} (hw : opW P TT o ρ σ K) : opD P TT o ρ σ (fun v => K v σ) := by
  unfold effB at h
  simp only [Bool.not_eq_false', Bool.or_eq_true] at h
  rcases h with h | h
  · exact (blind_get h hw).1
  · cases o <;> first | exact hw | cases h
theorem each_any (ok : TTok P TT) {B n : Nat} {ops : List Oper} (h0 : apartOk ops = true) (hd : ∀ o ∈ ops, ∀ d, o.dst = some d → d < n) {K : Tm → Hp → Prop} {Q : Exit → Act → World → Prop} {F0 : Nat → Prop} {w0 : World} (hq : ∀ t' σ' F' w' a', Stp F0 w0 F' w' → SRel B n F' w' t' σ' a' → K t' σ' → Q .normal a' w') :
    ∀ (m : Nat) (listed : List Bool) (t : Tm) (σ : Hp) (F : Nat → Prop) (w : World) (a : Act), left listed.toArray ≤ m → listed.length = ops.length → anyW P TT ops (m + 1) listed t σ K → SRel B n F w t σ a → Stp F0 w0 F w → Closed ops listed.toArray → wpAnyG P ops (noPan Q) m listed.toArray a w := by
  intro m
  induction m with
  | zero =>
    intro listed t σ F w a hl hlen h hs hst hC
    have hr : readyA ops listed = [] := by
      rw [← ready_eq, List.eq_nil_iff_forall_not_mem]
      intro j hj
      have := (mem_ready.1 hj).1
      rw [left_zero (by omega)] at this
      cases this
    rw [anyW_succ] at h
    rw [hr] at h
    exact ⟨by rw [ready_eq]; exact hr, hq t σ F w a hst hs h⟩
  | succ m ih =>
    intro listed t σ F w a hl hlen h hs hst hC
    rw [anyW_succ] at h
    split at h
    · rename_i hr
      refine ⟨fun _ => hq t σ F w a hst hs h, fun i hi => ?_⟩
      rw [ready_eq, hr] at hi
      cases hi
    · rename_i i0 r0 hr
      have guard : ∀ {o : Oper} {b : Bool}, guardIs ops o t b → Region.wanted o (yielded ops.toArray a.tmps) = b := fun hg => wanted_of hg fun d _ => ⟨F, w, hs.tm d⟩
      have mem : ∀ j, j ∈ readyA ops listed → ∃ o, ops[j]? = some o ∧ listed.toArray.getD j true = false ∧ ∀ e ∈ o.after, Region.binds .any e = true → listed.toArray.getD e.on false = true := fun j hj => by
        rw [← ready_eq] at hj
        obtain ⟨h1, o, h2, h3⟩ := mem_ready.1 hj
        exact ⟨o, by simpa using h2, h1, h3⟩
      have hset : ∀ j, (listed.set j true).toArray = listed.toArray.setIfInBounds j true := fun j => by simp
      split at h
      · rename_i j hj
        have hjm := List.mem_of_find?_eq_some hj
        have hjb := List.find?_some hj
        rw [← hr] at hjm
        obtain ⟨o, ho, hun, hre⟩ := mem j hjm
        unfold firstA at hjb
        rw [ho] at hjb
        have hlt : left (listed.toArray.setIfInBounds j true) ≤ m := by have := left_set hun; omega
        unfold oneW at h
        rw [ho] at h
        have hne : effB o.op = false := by
          unfold effB
          simp only [Bool.or_eq_true, Bool.and_eq_true] at hjb
          rcases hjb with hb | hb
          · simp [hb]
          · simp [hb.1]
        have hjr : j ∈ Region.ready .any ops.toArray listed.toArray := by rw [ready_eq]; exact hjm
        have take : ∀ (S : World → Prop) v, ((∀ w, S w) ∨ ∀ (k : Nat) (o : Oper), ops[k]? = some o → effB o.op = true → listed.toArray.getD k false = false → bindsA o j = true) → S w → YieldsIf P ops.toArray S o v a → wpAnyG P ops (noPan Q) m (listed.toArray.setIfInBounds j true) (a.put o.dst v) w → wpAnyG P ops (noPan Q) (m + 1) listed.toArray a w := fun S v hSn hSw hy hk =>
          wpAnyG_first h0 ho m listed.toArray a w (by simpa using hlen) hC hre hjr hy hSw hSn hk
        have goOn : ∀ (x : AV) (u : Value), VRel F w x u → anyW P TT ops (m + 1) (listed.set j true) (put t o.dst x) σ K → wpAnyG P ops (noPan Q) m (listed.toArray.setIfInBounds j true) (a.put o.dst u) w := fun x u hx hk => by
          rw [← hset]
          exact ih _ _ σ F w _ (by rw [hset]; exact hlt) (by simpa using hlen) hk (hs.put (.refl _ _) hs.hp hx (hd o (List.mem_of_getElem? ho))) hst (by rw [hset]; exact hC.set ho hre)
        rcases guardW_get h with ⟨hg, h⟩ | ⟨hg, h⟩
        · simp only [Bool.or_eq_true, Bool.and_eq_true] at hjb
          rcases hjb with hb | ⟨hb, hwt⟩
          · obtain ⟨h1, h2⟩ := blind_get hb h
            obtain ⟨v, k1, k2⟩ := opD_blind ok h2 h1
            obtain ⟨u, r1, r2⟩ := k2 a.eval F w o rfl (fun x _ => hs.tm.eval x)
            exact take (fun _ => True) u (.inl fun _ => trivial) trivial (.inl ⟨guard hg, fun w' _ => r1 w'⟩) (goOn v u r2 k1)
          · obtain ⟨v, k1, k2⟩ := opD_sound ok (noneff_get hne h)
            obtain ⟨u, r1, r2⟩ := k2 a.eval F w o rfl (fun x _ => hs.tm.eval x) hs.hp
            refine take (fun x => x = w) u (.inr fun k p hp hk hl => ?_) rfl (.inl ⟨guard hg, fun w' e => by subst e; exact r1⟩) (goOn v u r2 k1)
            have := List.all_eq_true.1 hwt (p, k) (by rw [List.mem_zipIdx_iff_getElem?]; exact hp)
            have hl' : listed.getD k false = false := by
              rw [Array.getD_eq_getD_getElem?, List.getElem?_toArray, ← List.getD_eq_getElem?_getD] at hl
              exact hl
            simpa only [hk, hl', Bool.not_true, Bool.false_or] using this
        · exact take (fun _ => True) undef (.inl fun _ => trivial) trivial (.inr ⟨guard hg, rfl⟩) (goOn (.tup []) undef vrel_undef h)
      · refine ⟨fun h1 => absurd h1 (by rw [ready_eq, hr]; simp), fun j hj => ?_⟩
        rw [ready_eq] at hj
        obtain ⟨o, ho, hun, hre⟩ := mem j hj
        have h := allW_get h j (by rw [← hr]; exact hj)
        have hil : j < ops.length := (List.getElem?_eq_some_iff.1 ho).1
        have hlt : left (listed.toArray.setIfInBounds j true) ≤ m := by have := left_set hun; omega
        unfold oneW at h
        rw [ho] at h
        unfold wqOp
        rw [show ops.toArray[j]? = some o by simpa using ho]
        have goOn : ∀ (x : AV) (u : Value) (σ' : Hp) (F' : Nat → Prop) (w' : World), Stp F w F' w' → RelHp F' w' σ' → VRel F' w' x u → (Still ops j → w' = w) → anyW P TT ops (m + 1) (listed.set j true) (put t o.dst x) σ' K → (Still ops j → w' = w) ∧ wpAnyG P ops (noPan Q) m (listed.toArray.setIfInBounds j true) (a.put o.dst u) w' := fun x u σ' F' w' q1 q2 q3 q4 hk => by
          refine ⟨q4, ?_⟩
          rw [← hset]
          exact ih _ _ σ' F' w' _ (by rw [hset]; exact hlt) (by simpa using hlen) hk (hs.put q1 q2 q3 (hd o (List.mem_of_getElem? ho))) (hst.trans q1) (by rw [hset]; exact hC.set ho hre)
        cases he : effB o.op with
        | true =>
          have vac : Still ops j → False := fun hn => by
            have := hn o ho
            rw [he] at this
            cases this
          rcases guardW_get h with ⟨hg, h⟩ | ⟨hg, h⟩
          · simp only [guard hg, if_true]
            refine (opW_sound ok h a F w (fun x _ => hs.tm.eval x) hs.hp _ _ ?_)
            intro v av σ' F' w' q1 q2 q3 q4
            exact goOn av v σ' F' w' q1 q2 q3 (fun hn => (vac hn).elim) q4
          · simp only [guard hg, Bool.false_eq_true, if_false]
            exact ⟨fun _ => trivial, (goOn (.tup []) undef σ F w (.refl _ _) hs.hp vrel_undef (fun _ => rfl) h).2⟩
        | false =>
          rcases guardW_get h with ⟨hg, h⟩ | ⟨hg, h⟩
          · simp only [guard hg, if_true]
            obtain ⟨v, k1, k2⟩ := opD_sound ok (noneff_get he h)
            obtain ⟨u, r1, r2⟩ := k2 a.eval F w o rfl (fun x _ => hs.tm.eval x) hs.hp
            unfold wq
            rw [r1]
            exact goOn v u σ F w (.refl _ _) hs.hp r2 (fun _ => rfl) k1
          · simp only [guard hg, Bool.false_eq_true, if_false]
            exact ⟨fun _ => trivial, (goOn (.tup []) undef σ F w (.refl _ _) hs.hp vrel_undef (fun _ => rfl) h).2⟩
theorem each_sound (ok : TTok P TT) (hm : P.follows .mixedOrders = true) {r : Option Nat} {B n id : Nat} {ops : Array Oper} {t : Tm} {σ : Hp} {K : Tm → Hp → Prop} {F : Nat → Prop} {w : World} {a : Act} {Q : Exit → Act → World → Prop} (h0 : apartOk ops.toList = true) (h : anyW P TT ops.toList (ops.toList.length + 1) (List.replicate ops.toList.length false) t σ K) (hd : ∀ o ∈ ops.toList, ∀ d, o.dst = some d → d < n) (hnd : ∀ o ∈ ops.toList, ∀ c, o.op ≠ .defer c) (hs : SRel B n F w t σ a)
    (hq : ∀ t' σ' F' w' a', Stp F w F' w' → SRel B n F' w' t' σ' a' → K t' σ' → Q .normal a' w') : (Code.region id ops true).wpIn (FW r) 0 P Q a w := by
  have hdrew : Stp F w F { w with drawn := w.drawn + 1 } := stp_of_same hs.hp.low rfl rfl rfl (Nat.le_refl _) (fun _ _ => rfl)
  refine wpIn_mono (region_any hm hnd ?_) noPan_up
  have key := each_any (P := P) (Q := Q) ok h0 hd (F0 := F) (w0 := w) hq ops.toList.length (List.replicate ops.toList.length false) t σ F { w with drawn := w.drawn + 1 } a (by
      unfold left
      refine Nat.le_trans (List.length_filter_le _ _) (by simp)) (by simp) h ⟨hs.tm.mono hdrew, hs.hp.same hdrew (fun _ _ => rfl), hs.size, hs.defers.mono hdrew⟩ hdrew (fun j o ho hl => by
        simp [Array.getD] at hl)
  simpa using wpAny_of_G _ _ _ _ key
end
end Go.Proofs.Ytacacplipaeokaa
