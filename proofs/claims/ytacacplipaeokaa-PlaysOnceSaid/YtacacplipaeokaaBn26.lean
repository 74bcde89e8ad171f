/-
  Px: what the claim uses of them.
-/
import Derived.Test.YtacacplipaeokaaBn22
import Derived.Test.YtacacplipaeokaaBn25
namespace Go.Proofs.Ytacacplipaeokaa
open Go.RowKit
set_option maxRecDepth 100000
set_option maxHeartbeats 4000000
/-- A play's run. -/
abbrev goP (cap : Int) (n : Nat) (scr : List (Int × Int × Unit)) (x : SSt PA) : SSt PA := goS (fun a i _ => stepP cap a i) tellP n scr x
theorem goP_inv {cap : Int} {n : Nat} : ∀ (scr : List (Int × Int × Unit)) (x : SSt PA), x.us + scr.length < 100000000 → x.a.us = x.us → okTodo x.a → (∃ T c ord, PI cap x.a x.us (x.us + 1) T c ord) →
    (goP cap n scr x).a.us = (goP cap n scr x).us ∧ okTodo (goP cap n scr x).a ∧ ∃ T c ord, PI cap (goP cap n scr x).a (goP cap n scr x).us ((goP cap n scr x).us + 1) T c ord
  | [], x, _, h1, h2, h3 => ⟨h1, h2, h3⟩
  | p :: ps, x, hl, h1, h2, h3 => by
    unfold goP goS
    split
    · exact ⟨h1, h2, h3⟩
    · obtain ⟨T, c, ord, hP⟩ := h3
      have hl : x.us + (ps.length + 1) < 100000000 := hl
      have hP0 := hP
      rw [← h1] at hP
      obtain ⟨k1, T', c', ord', k2⟩ := PI.step hP h2 (by omega) (by omega) (whoS p.1 n)
      rw [h1] at k2
      unfold pickS
      split
      · exact goP_inv ps _ (by show x.us + 1 + ps.length < _; omega) rfl (fun i y hy m hm => h2 i y hy m hm) ⟨T, c, ord, (PI.weak (u' := x.us + 1) (N' := x.us + 1 + 1) hP0 (by omega) (by omega)).tell _⟩
      · exact goP_inv ps _ (by show x.us + 1 + ps.length < _; omega) rfl (fun i y hy m hm => k1 i y hy m hm) ⟨T', c', ord', k2.tell _⟩
/-- The words at first. -/
def ws0P (cap : Int) : List Int := ((List.replicate (2 + rm cap) (0 : Int)).set 0 1).set 1 1
theorem PI.first {cap : Int} {W : List PW} (hW : ∀ x ∈ W, x.now = none) : PI cap ⟨ws0P cap, 0, [], W⟩ 0 1 1 [] [] := by
  have hr := rm_ok cap
  have hown : ownP ⟨ws0P cap, 0, [], W⟩ = none := by
    unfold ownP
    show (match W[0]? with | some x => nowO x.now | none => none) = none
    cases h : W[0]? with
    | none => rfl
    | some x => show nowO x.now = none; rw [hW _ (List.mem_of_getElem? h)]; rfl
  have hget : ∀ (i : Nat) (x : PW), W[i]? = some x → x.now = none := fun i x h => hW _ (List.mem_of_getElem? h)
  refine ⟨?_, by simp, .nil, by simp, (fun y hy => by cases hy), (fun j o ho => by cases ho), (fun y hy => by cases hy), fun i x k q hx hk => ?_, (fun j o ho => by cases ho), (fun j o ho => by cases ho), (fun j o ho => by cases ho), .nil⟩
  · rw [hown]
    refine ⟨⟨by simp [ws0P], ?_, by omega, ?_, by simp, (fun i hi => by cases hi)⟩, trivial, ?_⟩
    · unfold ws0P; rw [pd_get, if_neg (by omega), pd_get, if_pos ⟨rfl, by simp; omega⟩]; rfl
    · unfold ws0P; rw [pd_get, if_pos ⟨rfl, by simp; omega⟩]; rfl
    · rintro z ⟨i, x, _, hx, hz⟩
      have hx : W[i]? = some x := hx
      rw [hget i x hx] at hz; cases hz
  · have hx : W[i]? = some x := hx
    rw [hget i x hx] at hk; cases hk
def evPush (y : Nat × Evd) : Option Int := match y.2 with
  | .push n => some (wr (wu n))
  | _ => none
def evTake (y : Nat × Evd) : Option Int := match y.2 with
  | .pop x => some (wr x)
  | .steal x => some (wr x)
  | _ => none
theorem RunE.perm {R : Nat} {ord : List (Nat × Evd)} {c : List Int} (h : RunE R ord c) : (ord.filterMap evPush).Perm (ord.filterMap evTake ++ c.map wr) := by
  induction h with
  | nil => exact List.Perm.refl _
  | @snoc l c d h i e hr ih =>
    rw [List.filterMap_append, List.filterMap_append]
    cases e with
    | push n =>
      obtain ⟨_, rfl⟩ := hr
      show (List.filterMap evPush l ++ [wr (wu n)]).Perm ((List.filterMap evTake l ++ []) ++ (c ++ [wu n]).map wr)
      rw [List.append_nil, List.map_append, ← List.append_assoc]
      exact ih.append_right _
    | full =>
      obtain ⟨_, rfl⟩ := hr
      show (List.filterMap evPush l ++ []).Perm ((List.filterMap evTake l ++ []) ++ d.map wr)
      rw [List.append_nil, List.append_nil]; exact ih
    | pop x =>
      have hr : c = d ++ [x] := hr
      subst hr
      show (List.filterMap evPush l ++ []).Perm ((List.filterMap evTake l ++ [wr x]) ++ d.map wr)
      rw [List.append_nil, List.append_assoc]
      rw [List.map_append] at ih
      exact ih.trans (List.Perm.append_left _ List.perm_append_comm)
    | empty =>
      obtain ⟨rfl, rfl⟩ := hr
      show (List.filterMap evPush l ++ []).Perm ((List.filterMap evTake l ++ []) ++ _)
      rw [List.append_nil, List.append_nil]; exact ih
    | steal x =>
      have hr : c = x :: d := hr
      subst hr
      show (List.filterMap evPush l ++ []).Perm ((List.filterMap evTake l ++ [wr x]) ++ d.map wr)
      rw [List.append_nil, List.append_assoc]
      exact ih
    | miss =>
      have hr : d = c := hr
      subst hr
      show (List.filterMap evPush l ++ []).Perm ((List.filterMap evTake l ++ []) ++ d.map wr)
      rw [List.append_nil, List.append_nil]; exact ih
/-- What was pushed for sure; what was taken; how many Pops aren't ended. -/
def sureF (o : OpR) : Option Int := if o.kind = 1 ∧ o.en ≠ 0 ∧ o.ok = true then some o.n else none
def takenF (o : OpR) : Option Int := if o.kind ≠ 1 ∧ o.en ≠ 0 ∧ o.ok = true then some o.n else none
def popsF (l : List OpR) : Nat := l.countP fun o => decide (o.kind = 2 ∧ o.en = 0)
theorem fm_perm {α β : Type} [DecidableEq α] (g : α → Option β) {A B : List α} (hA : A.Nodup) (hB : B.Nodup) (h1 : ∀ j ∈ A, g j ≠ none → j ∈ B) (h2 : ∀ j ∈ B, g j ≠ none → j ∈ A) : (A.filterMap g).Perm (B.filterMap g) := by
  have e : ∀ L : List α, L.filterMap g = (L.filter fun j => (g j).isSome).filterMap g := fun L => by
    induction L with
    | nil => rfl
    | cons j L ih =>
      cases hg : g j with
      | none => simp [hg, ih]
      | some y => simp [hg, ih]
  rw [e A, e B]
  refine List.Perm.filterMap g ((List.perm_ext_iff_of_nodup (hA.filter _) (hB.filter _)).2 fun j => ?_)
  simp only [List.mem_filter]
  constructor
  · rintro ⟨ha, hs⟩
    exact ⟨h1 j ha (fun h => by rw [h] at hs; cases hs), hs⟩
  · rintro ⟨ha, hs⟩
    exact ⟨h2 j ha (fun h => by rw [h] at hs; cases hs), hs⟩
theorem fm_congr {α β : Type} {f g : α → Option β} : ∀ {l : List α}, (∀ y ∈ l, f y = g y) → l.filterMap f = l.filterMap g
  | [], _ => rfl
  | y :: l, h => by
    rw [List.filterMap_cons, List.filterMap_cons, h y (List.mem_cons_self ..), fm_congr fun z hz => h z (List.mem_cons_of_mem _ hz)]
theorem fm_len {α β : Type} {g : α → Option β} {p : α → Bool} : ∀ {l : List α}, (∀ y ∈ l, g y ≠ none → p y = true) → (l.filterMap g).length ≤ (l.filter p).length
  | [], _ => Nat.le_refl _
  | y :: l, h => by
    have ih := fm_len (g := g) (p := p) (l := l) fun z hz => h z (List.mem_cons_of_mem _ hz)
    have hy := h y (List.mem_cons_self ..)
    cases hg : g y with
    | none =>
      rw [List.filterMap_cons_none hg]
      exact Nat.le_trans ih (List.Sublist.length_le (List.Sublist.filter p (List.sublist_cons_self y l)))
    | some z =>
      rw [List.filterMap_cons_some hg, List.filter_cons_of_pos (hy (by rw [hg]; simp))]
      exact Nat.succ_le_succ ih
theorem fm_range {α β : Type} (f : α → Option β) (l : List α) : l.filterMap f = (List.range l.length).filterMap fun j => l[j]?.bind f := by
  induction l with
  | nil => rfl
  | cons x l ih =>
    rw [List.length_cons, List.range_succ_eq_map, List.filterMap_cons, List.filterMap_cons, List.filterMap_map]
    have e : ((fun j => (x :: l)[j]?.bind f) ∘ Nat.succ) = fun j => l[j]?.bind f := by funext j; simp
    rw [e, ← ih]
    simp
/-- A list of what is told of ops that are ended is one of the order. -/
theorem PI.ops_ord {cap : Int} {a : PA} {u N T : Nat} {c : List Int} {ord : List (Nat × Evd)} (h : PI cap a u N T c ord) (f : OpR → Option Int) (hf : ∀ o, o.en = 0 → f o = none) : (a.ops.filterMap f).Perm (ord.filterMap fun y => a.ops[y.1]?.bind f) := by
  rw [fm_range]
  have e : (ord.filterMap fun y => a.ops[y.1]?.bind f) = (ord.map (·.1)).filterMap fun j => a.ops[j]?.bind f := by rw [List.filterMap_map]; rfl
  rw [e]
  refine fm_perm _ List.nodup_range h.nodup (fun j hj hn => ?_) (fun j hj _ => ?_)
  · cases ho : a.ops[j]? with
    | none => rw [ho] at hn; exact absurd rfl hn
    | some o =>
      rw [ho] at hn
      exact h.done j o ho fun he => hn (hf o he)
  · obtain ⟨y, hy, rfl⟩ := List.mem_map.1 hj
    obtain ⟨o, ho, _⟩ := h.fit y hy
    exact List.mem_range.2 (get_lt ho)
/-- What is on its way: a Pop that did its CAS. -/
def onF (a : PA) (y : Nat × Evd) : Option Int := match a.ops[y.1]? with
  | some o => if o.en = 0 then evTake y else none
  | none => none
theorem fm_split {α β : Type} (g p q : α → Option β) (l : List α) (h : ∀ y ∈ l, (g y = p y ∧ q y = none) ∨ (g y = q y ∧ p y = none)) : (l.filterMap g).Perm (l.filterMap p ++ l.filterMap q) := by
  induction l with
  | nil => exact List.Perm.refl _
  | cons y l ih =>
    have ih := ih fun z hz => h z (List.mem_cons_of_mem _ hz)
    rw [List.filterMap_cons, List.filterMap_cons, List.filterMap_cons]
    rcases h y (List.mem_cons_self ..) with ⟨h1, h2⟩ | ⟨h1, h2⟩
    · rw [h1, h2]
      cases p y with
      | none => exact ih
      | some z => exact List.Perm.cons z ih
    · rw [h1, h2]
      cases q y with
      | none => exact ih
      | some z => exact (List.Perm.cons z ih).trans List.perm_middle.symm
/-- What is left, as the deque tells it; and what it doesn't tell. -/
theorem PI.whole {cap : Int} {a : PA} {u N T : Nat} {c : List Int} {ord : List (Nat × Evd)} (h : PI cap a u N T c ord) : ∃ rest : List Int, (a.ops.filterMap sureF).Perm (a.ops.filterMap takenF ++ ((c.take (c.length - lowO (ownP a))).map wr ++ rest)) ∧ rest.length ≤ popsF a.ops := by
  have h1 := h.ops_ord sureF fun o he => by unfold sureF; rw [if_neg (fun h => h.2.1 he)]
  have h2 := h.ops_ord takenF fun o he => by unfold takenF; rw [if_neg (fun h => h.2.1 he)]
  have e1 : (ord.filterMap fun y => a.ops[y.1]?.bind sureF) = ord.filterMap evPush := by
    refine fm_congr fun y hy => ?_
    obtain ⟨o, ho, hf⟩ := h.fit y hy
    rw [ho]
    obtain ⟨j, e⟩ := y
    cases e with
    | push n => obtain ⟨f1, f2, f3, f4, f5⟩ := hf; show sureF o = some _; unfold sureF; rw [if_pos ⟨f1, f2, f3⟩, f4, f5]
    | full => obtain ⟨f1, f2, f3⟩ := hf; show sureF o = none; unfold sureF; rw [if_neg (fun h => by rw [h.2.2] at f3; cases f3)]
    | pop x => obtain ⟨f1, _⟩ := hf; show sureF o = none; unfold sureF; rw [if_neg (fun h => by omega)]
    | empty => obtain ⟨f1, _⟩ := hf; show sureF o = none; unfold sureF; rw [if_neg (fun h => by omega)]
    | steal x => obtain ⟨f1, _⟩ := hf; show sureF o = none; unfold sureF; rw [if_neg (fun h => by omega)]
    | miss => obtain ⟨f1, _⟩ := hf; show sureF o = none; unfold sureF; rw [if_neg (fun h => by omega)]
  have e2 : (ord.filterMap evTake).Perm ((ord.filterMap fun y => a.ops[y.1]?.bind takenF) ++ ord.filterMap (onF a)) := by
    refine fm_split _ _ _ _ fun y hy => ?_
    obtain ⟨o, ho, hf⟩ := h.fit y hy
    unfold onF
    rw [ho]
    obtain ⟨j, e⟩ := y
    show (evTake (j, e) = takenF o ∧ (if o.en = 0 then evTake (j, e) else none) = none) ∨ (evTake (j, e) = (if o.en = 0 then evTake (j, e) else none) ∧ takenF o = none)
    unfold takenF
    cases e with
    | push n => obtain ⟨f1, f2, f3, _⟩ := hf; left; rw [if_neg (fun h => h.1 f1), if_neg f2]; exact ⟨rfl, rfl⟩
    | full => obtain ⟨f1, f2, f3⟩ := hf; left; rw [if_neg (fun h => h.1 f1), if_neg f2]; exact ⟨rfl, rfl⟩
    | pop x =>
      obtain ⟨f1, f2⟩ := hf
      by_cases h0 : o.en = 0
      · right; rw [if_pos h0, if_neg (fun h => h.2.1 h0)]; exact ⟨rfl, rfl⟩
      · rcases f2 with f2 | ⟨f2, f3⟩
        · exact absurd f2 h0
        · left; rw [if_pos ⟨by omega, h0, f2⟩, if_neg h0, f3]; exact ⟨rfl, rfl⟩
    | empty => obtain ⟨f1, f2, f3⟩ := hf; left; rw [if_neg (fun h => by rw [h.2.2] at f3; cases f3), if_neg f2]; exact ⟨rfl, rfl⟩
    | steal x => obtain ⟨f1, f2, f3, f4⟩ := hf; left; rw [if_pos ⟨by omega, f2, f3⟩, if_neg f2, f4]; exact ⟨rfl, rfl⟩
    | miss => obtain ⟨f1, f2, f3⟩ := hf; left; rw [if_neg (fun h => by rw [h.2.2] at f3; cases f3), if_neg f2]; exact ⟨rfl, rfl⟩
  have hrun := h.run.perm
  refine ⟨ord.filterMap (onF a) ++ (c.drop (c.length - lowO (ownP a))).map wr, ?_, ?_⟩
  · refine h1.trans ?_
    rw [e1]
    refine hrun.trans ?_
    have h3 : (List.filterMap evTake ord).Perm (a.ops.filterMap takenF ++ ord.filterMap (onF a)) := e2.trans (List.Perm.append_right _ h2.symm)
    refine (List.Perm.append_right _ h3).trans ?_
    rw [List.append_assoc]
    refine List.Perm.append_left _ ?_
    have e4 : c.map wr = (c.take (c.length - lowO (ownP a))).map wr ++ (c.drop (c.length - lowO (ownP a))).map wr := by rw [← List.map_append, List.take_append_drop]
    rw [e4]
    rw [← List.append_assoc, ← List.append_assoc]
    exact List.Perm.append_right _ List.perm_append_comm
  · -- none is on its way, and none is hidden, or the owner has a Pop that isn't ended
    have hon : ∀ y ∈ ord, onF a y ≠ none → ∃ (x : PW) (q : DQ), a.W[0]? = some x ∧ x.op = y.1 ∧ x.now = some (2, q) ∧ heldP 2 q := by
      intro y hy hn
      obtain ⟨o, ho, hf⟩ := h.fit y hy
      unfold onF at hn
      rw [ho] at hn
      have hn : (if o.en = 0 then evTake y else none) ≠ none := hn
      by_cases h0 : o.en = 0
      · obtain ⟨x, q, k1, k2, k3, k4, _⟩ := h.pend y hy o ho h0
        exact ⟨x, q, k1, k2, k3, k4⟩
      · rw [if_neg h0] at hn; exact absurd rfl hn
    have hpop : ∀ x q, a.W[0]? = some x → x.now = some (2, q) → 1 ≤ popsF a.ops := fun x q hx hk => by
      obtain ⟨⟨o, ho, k1, k2, k3, _⟩, _⟩ := h.link 0 x 2 q hx hk
      exact List.countP_pos_iff.2 ⟨o, List.mem_of_getElem? ho, by simp [k2, k3]⟩
    have hone : (ord.filterMap (onF a)).length ≤ 1 := by
      rcases hw : a.W[0]? with _ | x
      · have : ord.filterMap (onF a) = [] := List.filterMap_eq_nil_iff.2 fun y hy => Classical.byContradiction fun hn => by
          obtain ⟨x, q, k1, _⟩ := hon y hy hn
          rw [hw] at k1; cases k1
        rw [this]; simp
      · have h1 := fm_len (g := onF a) (p := fun y => y.1 == x.op) (l := ord) fun y hy hn => by
          obtain ⟨x', q, k1, k2, _⟩ := hon y hy hn
          rw [hw] at k1; cases k1
          simp [k2]
        have h2 : (ord.filter fun y => y.1 == x.op).length = (ord.map (·.1)).count x.op := by
          rw [List.count, List.countP_map, List.countP_eq_length_filter]; rfl
        have h3 := List.nodup_iff_count.1 h.nodup x.op
        omega
    have hlow : (c.drop (c.length - lowO (ownP a))).length ≤ lowO (ownP a) := by simp; omega
    have hl1 : lowO (ownP a) ≤ 1 := by unfold lowO; split <;> (try split) <;> omega
    by_cases hne : ord.filterMap (onF a) = []
    · rw [hne, List.nil_append, List.length_map]
      rcases Nat.eq_zero_or_pos (lowO (ownP a)) with h0 | h0
      · rw [h0] at hlow ⊢; omega
      · -- the owner pops
        have hex : ∃ x q, a.W[0]? = some x ∧ x.now = some (2, q) := by
          revert h0
          unfold ownP
          cases hw : a.W[0]? with
          | none => intro h0; simp [lowO] at h0
          | some x =>
            show 0 < lowO (nowO x.now) → _
            cases hn : x.now with
            | none => intro h0; simp [lowO, nowO] at h0
            | some kq =>
              obtain ⟨k, q⟩ := kq
              by_cases hk : k = 2
              · subst hk; intro _; exact ⟨x, q, rfl, hn⟩
              · intro h0; simp [lowO, nowO, hk] at h0
        obtain ⟨x, q, hx, hk⟩ := hex
        have := hpop x q hx hk
        omega
    · obtain ⟨z, hz⟩ := List.exists_mem_of_ne_nil _ hne
      obtain ⟨y, hy, hyz⟩ := List.mem_filterMap.1 hz
      obtain ⟨x, q, k1, k2, k3, k4⟩ := hon y hy (by rw [hyz]; simp)
      have hd := h.di
      rw [own_at k1 k3] at hd
      have hc : c = [] := (show PopO 0 cap (thP a) T c q from hd.ow).a5 k4.2.1
      have := hpop x q k1 k3
      subst hc
      simp
      omega
end Go.Proofs.Ytacacplipaeokaa
