/-
  Pn: what the claim uses of them.
-/
import Derived.Test.YtacacplipaeokaaBn39
import Derived.Test.YtacacplipaeokaaBn40
namespace Go.Proofs.Ytacacplipaeokaa
open Go.RowKit
set_option maxRecDepth 100000
set_option maxHeartbeats 4000000
def wkB (i : Nat) (cap : Int) (pl w r : Nat) (x : PW) : Hp := (w, wkP i cap pl x.todo (nwP r x.now) x.op) :: nbP r x.now
/-- A worker's place: its number and block; its machine's block, and itself. -/
def zB (cap : Int) (pl : Nat) (z : (Nat × Nat) × (Nat × PW)) : Hp := wkB z.1.1 cap pl z.1.2 z.2.1 z.2.2
def zBs (cap : Int) (pl : Nat) (I : List (Nat × Nat)) (Z : List (Nat × PW)) : Hp := (I.zip Z).flatMap (zB cap pl)
def sumT (W : List PW) : Nat := SX.sumL (fun x => x.todo.length) W
/-- What is kept of a worker. -/
def okPW (ops : List OpR) (x : PW) : Prop := match x.now with
  | none => True
  | some (k, q) => x.op < ops.length ∧ q.good ∧ okE k q ∧ (k = 1 ∨ k = 2 ∨ k = 3) ∧ (k = 1 → ∀ o, ops[x.op]? = some o → o.n = wr q.n) ∧ q.ended = false
structure FreeA (n : Nat) (a : PA) : Prop where
  len : a.W.length = n
  nn : NN a.ws
  ok : ∀ (i : Nat) (x : PW), a.W[i]? = some x → okPW a.ops x
  big : a.ops.length + sumT a.W ≤ 100000
  one : ∀ (i j : Nat) (x y : PW), a.W[i]? = some x → a.W[j]? = some y → x.now ≠ none → y.now ≠ none → x.op = y.op → i = j
  todo : okTodo a
theorem sumT_set (W : List PW) (i : Nat) (x y : PW) (h : W[i]? = some x) : sumT (W.set i y) + x.todo.length = sumT W + y.todo.length := SX.sum_set (fun x => x.todo.length) W i x y h
theorem q0_okE (k cap n : Int) : okE k (q0P cap n) := fun _ h => by cases h
theorem begK_kind (i : Nat) (n : Int) : begK i n = 1 ∨ begK i n = 2 ∨ begK i n = 3 := by unfold begK; (repeat' split) <;> simp
theorem push_n (O : MOps) (q : DQ) (a : O.A) : (pushStep O q a).1.n = q.n := by
  unfold pushStep; (repeat' split) <;> rfl
theorem get_set_some {α : Type} {l : List α} {i j : Nat} {x y : α} (h : (l.set i x)[j]? = some y) : (j = i ∧ y = x) ∨ (j ≠ i ∧ l[j]? = some y) := by
  rw [get_set] at h
  by_cases hij : i = j
  · rw [if_pos hij] at h
    split at h
    · cases h; exact .inl ⟨hij.symm, rfl⟩
    · cases h
  · rw [if_neg hij] at h; exact .inr ⟨fun e => hij e.symm, h⟩
/-- Ops that are ended or new turn nothing of another worker's. -/
theorem okPW_app {ops : List OpR} {x : PW} {o : OpR} (h : okPW ops x) : okPW (ops ++ [o]) x := by
  unfold okPW at h ⊢
  split
  · trivial
  · rename_i k q hn
    rw [hn] at h
    obtain ⟨h1, h2, h3, h4, h5, h6⟩ := h
    refine ⟨by simp; omega, h2, h3, h4, fun hk p hp => h5 hk p ?_, h6⟩
    rw [List.getElem?_append_left h1] at hp; exact hp
theorem okPW_set {ops : List OpR} {x : PW} {o : OpR} {j : Nat} (h : okPW ops x) (hj : x.now ≠ none → x.op ≠ j) : okPW (ops.set j o) x := by
  unfold okPW at h ⊢
  split
  · trivial
  · rename_i k q hn
    rw [hn] at h
    obtain ⟨h1, h2, h3, h4, h5, h6⟩ := h
    refine ⟨by simpa using h1, h2, h3, h4, fun hk p hp => h5 hk p ?_, h6⟩
    rcases get_set_some hp with ⟨he, _⟩ | ⟨_, hp⟩
    · exact absurd he (hj (by rw [hn]; simp))
    · exact hp
theorem dq_end {k : Int} {q : DQ} {ws : List Int} (hk : k = 1) (q' : DQ) (ws' : List Int) (e : Bool) (h : dqStep k listOps q ws = (q', ws', e)) : q'.n = q.n := by
  subst hk
  have := push_n listOps q ws
  have h : pushStep listOps q ws = (q', ws', e) := h
  rw [h] at this; exact this
/-- The Step of a worker that is at an op. -/
theorem FreeA.work {n : Nat} {a : PA} (h : FreeA n a) {i : Nat} {x : PW} (hx : a.W[i]? = some x) : FreeA n (workP a i x a.ops).1 := by
  have hi := get_lt hx
  obtain ⟨todo, now, op⟩ := x
  cases now with
  | none =>
    have e : a.W.set i ⟨todo, none, op⟩ = a.W := by
      refine List.ext_getElem? fun j => ?_
      rw [get_set]
      by_cases hj : i = j
      · subst hj; rw [if_pos rfl, if_pos hi, hx]
      · rw [if_neg hj]
    show FreeA n ⟨a.ws, a.us, a.ops, a.W.set i ⟨todo, none, op⟩⟩
    rw [e]; exact h
  | some kq =>
    obtain ⟨k, q⟩ := kq
    have hok : okPW a.ops ⟨todo, some (k, q), op⟩ := h.ok i _ hx
    obtain ⟨h1, h2, h3, h4, h5, h6⟩ := hok
    obtain ⟨q', ws', e, hst⟩ : ∃ q' ws' e, dqStep k listOps q a.ws = (q', ws', e) := ⟨_, _, _, rfl⟩
    obtain ⟨g1, g2, g3, g4⟩ := dq_keeps h2 h.nn h3 hst
    have ho : a.ops[op]? = some a.ops[op] := List.getElem?_eq_getElem h1
    have htodo : ∀ z : PW, z.todo = todo → ∀ ws us ops, okTodo ⟨ws, us, ops, a.W.set i z⟩ := fun z hz ws us ops => todo_set h.todo hx (by rw [hz]; exact fun n hn => hn)
    have hone : ∀ z : PW, (z.now ≠ none → z.op = op) → ∀ (i' j' : Nat) (x' y' : PW), (a.W.set i z)[i']? = some x' → (a.W.set i z)[j']? = some y' → x'.now ≠ none → y'.now ≠ none → x'.op = y'.op → i' = j' := by
      intro z hz i' j' x' y' hx' hy' hnx hny he
      rcases get_set_some hx' with ⟨e1, e2⟩ | ⟨hne, hx2⟩
      · rcases get_set_some hy' with ⟨e3, _⟩ | ⟨hne2, hy2⟩
        · rw [e1, e3]
        · rw [e1]
          exact h.one _ _ _ _ hx hy2 (by simp) hny (by rw [← he, e2]; exact (hz (e2 ▸ hnx)).symm)
      · rcases get_set_some hy' with ⟨e3, e4⟩ | ⟨hne2, hy2⟩
        · rw [e3]
          exact h.one _ _ _ _ hx2 hx hnx (by simp) (by rw [he, e4]; exact hz (e4 ▸ hny))
        · exact h.one _ _ _ _ hx2 hy2 hnx hny he
    unfold workP
    dsimp only
    rw [hst]
    cases e with
    | true =>
      rw [if_pos rfl, ho]
      refine ⟨by show (a.W.set i _).length = n; rw [List.length_set]; exact h.len, g2, ?_, ?_, hone _ (fun hn => absurd rfl hn), htodo _ rfl _ _ _⟩
      · intro j y hy
        rcases get_set_some hy with ⟨_, rfl⟩ | ⟨hne, hy⟩
        · trivial
        · exact okPW_set (h.ok j y hy) fun hn he => hne (h.one _ _ _ _ hy hx hn (by simp) he)
      · have h6 : sumT (a.W.set i ⟨todo, none, op⟩) + todo.length = sumT a.W + todo.length := sumT_set a.W i _ ⟨todo, none, op⟩ hx
        have h7 := h.big
        show (a.ops.set op _).length + sumT (a.W.set i ⟨todo, none, op⟩) ≤ 100000
        rw [List.length_set]
        omega
    | false =>
      rw [if_neg (by simp)]
      refine ⟨by show (a.W.set i _).length = n; rw [List.length_set]; exact h.len, g2, ?_, ?_, hone _ (fun _ => rfl), htodo _ rfl _ _ _⟩
      · intro j y hy
        rcases get_set_some hy with ⟨_, rfl⟩ | ⟨hne, hy⟩
        · have hend : q'.ended = false := by have := dq_ended (k := k) (O := listOps) (a := a.ws) h6; rw [hst] at this; exact this.symm
          exact ⟨h1, g1, g4, h4, (fun hk o ho => by rw [h5 hk o ho, dq_end hk _ _ _ hst]), hend⟩
        · exact h.ok j y hy
      · have h6 : sumT (a.W.set i ⟨todo, some (k, q'), op⟩) + todo.length = sumT a.W + todo.length := sumT_set a.W i _ ⟨todo, some (k, q'), op⟩ hx
        have h7 := h.big
        show a.ops.length + sumT (a.W.set i ⟨todo, some (k, q'), op⟩) ≤ 100000
        omega
theorem FreeA.beg {n : Nat} {a : PA} (h : FreeA n a) {i : Nat} {m : Int} {l : List Int} {op : Nat} (hx : a.W[i]? = some ⟨m :: l, none, op⟩) (cap bg : Int) : FreeA n ⟨a.ws, a.us, a.ops ++ [⟨i, begK i m, begN i m, bg, 0, false⟩], a.W.set i ⟨l, some (begK i m, q0P cap (wu (begN i m))), a.ops.length⟩⟩ := by
  have hi := get_lt hx
  have hn := h.todo i _ hx m (by simp)
  have hop : ∀ (j : Nat) (y : PW), a.W[j]? = some y → y.now ≠ none → y.op < a.ops.length := fun j y hy hn => by
    have := h.ok j y hy
    unfold okPW at this
    cases hnow : y.now with
    | none => exact absurd hnow hn
    | some kq => rw [hnow] at this; exact this.1
  refine ⟨by show (a.W.set i _).length = n; rw [List.length_set]; exact h.len, h.nn, ?_, ?_, ?_, todo_set h.todo hx fun z hz => List.mem_cons_of_mem _ hz⟩
  · intro j y hy
    rcases get_set_some hy with ⟨_, rfl⟩ | ⟨hne, hy⟩
    · refine ⟨by simp, q0_good _ _ (wu_nn _), q0_okE _ _ _, begK_kind _ _, fun hk o ho => ?_, rfl⟩
      have ho : (a.ops ++ [_])[a.ops.length]? = some o := ho
      rw [List.getElem?_concat_length] at ho
      cases ho
      exact hn.symm
    · exact okPW_app (h.ok j y hy)
  · have h6 : sumT (a.W.set i ⟨l, some (begK i m, q0P cap (wu (begN i m))), a.ops.length⟩) + (l.length + 1) = sumT a.W + l.length := sumT_set a.W i _ ⟨l, some (begK i m, q0P cap (wu (begN i m))), a.ops.length⟩ hx
    have h7 := h.big
    show (a.ops ++ [_]).length + sumT (a.W.set i ⟨l, some (begK i m, q0P cap (wu (begN i m))), a.ops.length⟩) ≤ 100000
    rw [List.length_append, List.length_singleton]
    omega
  · intro i' j' x' y' hx' hy' hnx hny he
    rcases get_set_some hx' with ⟨e1, e2⟩ | ⟨hne, hx2⟩
    · rcases get_set_some hy' with ⟨e3, _⟩ | ⟨hne2, hy2⟩
      · rw [e1, e3]
      · have := hop _ _ hy2 hny
        rw [e2] at he
        have he : a.ops.length = y'.op := he
        omega
    · rcases get_set_some hy' with ⟨e3, e4⟩ | ⟨hne2, hy2⟩
      · have := hop _ _ hx2 hnx
        rw [e4] at he
        have he : x'.op = a.ops.length := he
        omega
      · exact h.one _ _ _ _ hx2 hy2 hnx hny he
theorem FreeA.step {n : Nat} {a : PA} (h : FreeA n a) (cap : Int) (i : Nat) : FreeA n (stepP cap a i).1 := by
  unfold stepP
  cases hx : a.W[i]? with
  | none => exact h
  | some x =>
    show FreeA n (workP a i (begP cap a i x).1 (begP cap a i x).2).1
    obtain ⟨todo, now, op⟩ := x
    match now, todo, hx with
    | some kq, todo, hx => exact h.work hx
    | none, [], hx => exact h.work hx
    | none, m :: l, hx =>
      have hi := get_lt hx
      have hb := h.beg hx cap (wr (a.us + 1))
      have hW := hb.work (i := i) (x := ⟨l, some (begK i m, q0P cap (wu (begN i m))), a.ops.length⟩) (by
        show (a.W.set i _)[i]? = _
        rw [get_set, if_pos rfl, if_pos hi])
      have e : ∀ y ops', workP ⟨a.ws, a.us, ops', a.W.set i y⟩ i y ops' = workP a i y ops' := fun y ops' => by
        unfold workP
        simp only [List.set_set]
      show FreeA n (workP a i ⟨l, some (begK i m, q0P cap (wu (begN i m))), a.ops.length⟩ (a.ops ++ [⟨i, begK i m, begN i m, wr (a.us + 1), 0, false⟩])).1
      rw [← e]
      exact hW
end Go.Proofs.Ytacacplipaeokaa
