/-
  Pw: what the claim uses of them.
-/
import Derived.Test.YtacacplipaeokaaBn21
namespace Go.Proofs.Ytacacplipaeokaa
open Go.RowKit
set_option maxRecDepth 100000
set_option maxHeartbeats 4000000
/-- An op. -/
structure OpR where
  who : Int
  kind : Int
  n : Int
  bg : Int
  en : Int
  ok : Bool
/-- A worker: what it has to do, what it does, and where that stands. -/
structure PW where
  todo : List Int
  now : Option (Int × DQ)
  op : Nat
structure PA where
  ws : List Int
  us : Nat
  ops : List OpR
  W : List PW
def begK (i : Nat) (n : Int) : Int := if 0 < i then 3 else if 1 ≤ n then 1 else 2
def begN (i : Nat) (n : Int) : Int := if 0 < i then 0 else if 1 ≤ n then n else 0
def q0P (cap n : Int) : DQ := ⟨0, cap, n, false, false, 0, 0, 0, 0⟩
/-- What a worker begins. -/
def begP (cap : Int) (a : PA) (i : Nat) (x : PW) : PW × List OpR := match x.now, x.todo with
  | none, n :: l => (⟨l, some (begK i n, q0P cap (wu (begN i n))), a.ops.length⟩, a.ops ++ [⟨i, begK i n, begN i n, wr (a.us + 1), 0, false⟩])
  | _, _ => (x, a.ops)
def endP (o : OpR) (us : Nat) (q : DQ) : OpR := ⟨o.who, o.kind, wr q.n, o.bg, wr (us + 1), q.ok⟩
/-- A Step of what a worker does. -/
def workP (a : PA) (i : Nat) (x : PW) (ops : List OpR) : PA × Bool := match x.now with
  | none => (⟨a.ws, a.us, ops, a.W.set i x⟩, x.todo.isEmpty)
  | some (k, q) =>
    if (dqStep k listOps q a.ws).2.2 = true then
      (⟨(dqStep k listOps q a.ws).2.1, a.us, (match ops[x.op]? with | some o => ops.set x.op (endP o a.us (dqStep k listOps q a.ws).1) | none => ops), a.W.set i ⟨x.todo, none, x.op⟩⟩, x.todo.isEmpty)
    else (⟨(dqStep k listOps q a.ws).2.1, a.us, ops, a.W.set i ⟨x.todo, some (k, (dqStep k listOps q a.ws).1), x.op⟩⟩, false)
def stepP (cap : Int) (a : PA) (i : Nat) : PA × Bool := match a.W[i]? with
  | none => (a, true)
  | some x => workP a i (begP cap a i x).1 (begP cap a i x).2
def tellP (a : PA) (k : Nat) : PA := ⟨a.ws, k, a.ops, a.W⟩
inductive Evd where
  | push (n : Int)
  | full
  | pop (x : Int)
  | empty
  | steal (x : Int)
  | miss
def fitE (o : OpR) : Evd → Prop
  | .push n => o.kind = 1 ∧ o.en ≠ 0 ∧ o.ok = true ∧ o.n = n ∧ wr (wu n) = n
  | .full => o.kind = 1 ∧ o.en ≠ 0 ∧ o.ok = false
  | .pop x => o.kind = 2 ∧ (o.en = 0 ∨ (o.ok = true ∧ o.n = wr x))
  | .empty => o.kind = 2 ∧ o.en ≠ 0 ∧ o.ok = false
  | .steal x => o.kind = 3 ∧ o.en ≠ 0 ∧ o.ok = true ∧ o.n = wr x
  | .miss => o.kind = 3 ∧ o.en ≠ 0 ∧ o.ok = false
def runE (R : Nat) : Evd → List Int → List Int → Prop
  | .push n, c, d => c.length < R ∧ d = c ++ [wu n]
  | .full, c, d => R ≤ c.length ∧ d = c
  | .pop x, c, d => c = d ++ [x]
  | .empty, c, d => c = [] ∧ d = []
  | .steal x, c, d => c = x :: d
  | .miss, c, d => d = c
inductive RunE (R : Nat) : List (Nat × Evd) → List Int → Prop where
  | nil : RunE R [] []
  | snoc {l : List (Nat × Evd)} {c d : List Int} (h : RunE R l c) (i : Nat) (e : Evd) (hr : runE R e c d) : RunE R (l ++ [(i, e)]) d
def nowO : Option (Int × DQ) → Own
  | some (k, q) => some (decide (k = 2), q)
  | none => none
def ownP (a : PA) : Own := match a.W[0]? with
  | some x => nowO x.now
  | none => none
def thP (a : PA) (z : DQ) : Prop := ∃ (i : Nat) (x : PW), 0 < i ∧ a.W[i]? = some x ∧ x.now = some (3, z)
/-- Who did the CAS of a Pop. -/
def heldP (k : Int) (q : DQ) : Prop := k = 2 ∧ q.at_ = 5 ∧ q.ok = true
/-- What is kept; ops began, and ended, till u. -/
structure PI (cap : Int) (a : PA) (u N T : Nat) (c : List Int) (ord : List (Nat × Evd)) : Prop where
  di : DI 0 cap a.ws (ownP a) (thP a) T c
  sum : T + c.length ≤ N
  run : RunE (rm cap) ord c
  nodup : (ord.map (·.1)).Nodup
  fit : ∀ y ∈ ord, ∃ o, a.ops[y.1]? = some o ∧ fitE o y.2
  done : ∀ (j : Nat) (o : OpR), a.ops[j]? = some o → o.en ≠ 0 → j ∈ ord.map (·.1)
  pend : ∀ y ∈ ord, ∀ o, a.ops[y.1]? = some o → o.en = 0 → ∃ (x : PW) (q : DQ), a.W[0]? = some x ∧ x.op = y.1 ∧ x.now = some (2, q) ∧ heldP 2 q ∧ y.2 = .pop q.x
  link : ∀ (i : Nat) (x : PW) (k : Int) (q : DQ), a.W[i]? = some x → x.now = some (k, q) → (∃ o, a.ops[x.op]? = some o ∧ o.who = i ∧ o.kind = k ∧ o.en = 0 ∧ o.ok = false ∧ (k = 1 → q.n = wu o.n ∧ wr (wu o.n) = o.n)) ∧ (i = 0 → k = 1 ∨ k = 2) ∧ (0 < i → k = 3) ∧ q.ended = false ∧ (heldP k q → (x.op, Evd.pop q.x) ∈ ord) ∧ (¬ heldP k q → x.op ∉ ord.map (·.1))
  back : ∀ (j : Nat) (o : OpR), a.ops[j]? = some o → o.en = 0 → ∃ (i : Nat) (x : PW), a.W[i]? = some x ∧ x.now ≠ none ∧ x.op = j
  time : ∀ (j : Nat) (o : OpR), a.ops[j]? = some o → 1 ≤ o.bg ∧ o.bg ≤ u ∧ (o.en = 0 ∨ (o.bg ≤ o.en ∧ o.en ≤ u))
  kind : ∀ (j : Nat) (o : OpR), a.ops[j]? = some o → o.kind = 1 ∨ o.kind = 2 ∨ o.kind = 3
  pairs : ord.Pairwise fun y z => ∀ o p, a.ops[y.1]? = some o → a.ops[z.1]? = some p → p.en ≠ 0 → ¬ p.en < o.bg
theorem get_set {α : Type} (l : List α) (i j : Nat) (x : α) : (l.set i x)[j]? = if i = j then (if i < l.length then some x else none) else l[j]? := by
  rw [List.getElem?_set]
theorem get_snoc {α : Type} {l : List α} {j : Nat} {x y : α} (h : (l ++ [x])[j]? = some y) : l[j]? = some y ∨ (j = l.length ∧ y = x) := by
  by_cases hj : j < l.length
  · rw [List.getElem?_append_left hj] at h; exact .inl h
  · rw [List.getElem?_append_right (by omega)] at h
    rcases Nat.eq_or_lt_of_le (Nat.le_of_not_lt hj) with h2 | h2
    · rw [← h2] at h; simp at h; exact .inr ⟨h2.symm, h.symm⟩
    · rw [List.getElem?_eq_none (by simp; omega)] at h; cases h
theorem get_lt {α : Type} {l : List α} {j : Nat} {y : α} (h : l[j]? = some y) : j < l.length := (List.getElem?_eq_some_iff.1 h).1
theorem get_app {α : Type} {l : List α} {j : Nat} {y : α} (z : List α) (h : l[j]? = some y) : (l ++ z)[j]? = some y := by
  rw [List.getElem?_append_left (get_lt h)]; exact h
/-- A worker begins an op. -/
theorem PI.beg {cap : Int} {a : PA} {u N T : Nat} {c : List Int} {ord : List (Nat × Evd)} (h : PI cap a u N T c ord) (hu : u + 1 < 1000000000) {i : Nat} {x : PW} (hx : a.W[i]? = some x) (h0 : x.now = none) {n : Int} {l : List Int} (hn : wr (wu (begN i n)) = begN i n) :
    PI cap ⟨a.ws, a.us, a.ops ++ [⟨i, begK i n, begN i n, ((u + 1 : Nat) : Int), 0, false⟩], a.W.set i ⟨l, some (begK i n, q0P cap (wu (begN i n))), a.ops.length⟩⟩ (u + 1) N T c ord := by
  have hi := get_lt hx
  have hnot : a.ops.length ∉ ord.map (·.1) := by
    intro hm
    obtain ⟨y, hy, he⟩ := List.mem_map.1 hm
    obtain ⟨o, ho, _⟩ := h.fit y hy
    have := get_lt ho
    omega
  have hfix : ∀ y ∈ ord, ∀ o, (a.ops ++ [(⟨i, begK i n, begN i n, ((u + 1 : Nat) : Int), 0, false⟩ : OpR)])[y.1]? = some o → a.ops[y.1]? = some o := by
    intro y hy o ho
    obtain ⟨o', ho', _⟩ := h.fit y hy
    rw [List.getElem?_append_left (get_lt ho')] at ho
    exact ho
  refine ⟨?_, h.sum, h.run, h.nodup, ?_, ?_, ?_, ?_, ?_, ?_, ?_, ?_⟩
  · have hd := h.di
    rcases Nat.eq_zero_or_pos i with rfl | hi0
    · have ho : ownP a = none := by
        unfold ownP; rw [hx]; show nowO x.now = none; rw [h0]; rfl
      rw [ho] at hd
      have hT : ∀ z, thP ⟨a.ws, a.us, a.ops ++ [⟨(0 : Nat), begK 0 n, begN 0 n, ((u + 1 : Nat) : Int), 0, false⟩], a.W.set 0 ⟨l, some (begK 0 n, q0P cap (wu (begN 0 n))), a.ops.length⟩⟩ z → thP a z := by
        rintro z ⟨j, y, hj, hy, hz⟩
        refine ⟨j, y, hj, ?_, hz⟩
        have hy : (a.W.set 0 _)[j]? = some y := hy
        rw [get_set, if_neg (by omega)] at hy
        exact hy
      have e : ownP ⟨a.ws, a.us, a.ops ++ [⟨(0 : Nat), begK 0 n, begN 0 n, ((u + 1 : Nat) : Int), 0, false⟩], a.W.set 0 ⟨l, some (begK 0 n, q0P cap (wu (begN 0 n))), a.ops.length⟩⟩ = some (decide (begK 0 n = 2), q0P cap (wu (begN 0 n))) := by
        unfold ownP
        show (match (a.W.set 0 _)[0]? with | some x => nowO x.now | none => none) = _
        rw [get_set, if_pos rfl, if_pos hi]; rfl
      rw [e]
      refine DI.weak ?_ hT
      by_cases hk : 1 ≤ n
      · rw [show begK 0 n = 1 by simp [begK, hk]]
        exact hd.push rfl rfl rfl rfl rfl
      · rw [show begK 0 n = 2 by simp [begK, hk]]
        exact hd.pop rfl rfl rfl rfl rfl
    · have e : ownP ⟨a.ws, a.us, a.ops ++ [⟨i, begK i n, begN i n, ((u + 1 : Nat) : Int), 0, false⟩], a.W.set i ⟨l, some (begK i n, q0P cap (wu (begN i n))), a.ops.length⟩⟩ = ownP a := by
        unfold ownP
        show (match (a.W.set i _)[0]? with | some x => nowO x.now | none => none) = _
        rw [get_set, if_neg (by omega)]
      rw [e]
      refine (hd.rob (z := q0P cap (wu (begN i n))) rfl rfl rfl rfl).weak ?_
      rintro z ⟨j, y, hj, hy, hz⟩
      have hy : (a.W.set i _)[j]? = some y := hy
      rw [get_set] at hy
      by_cases hij : i = j
      · rw [if_pos hij, if_pos hi] at hy
        cases hy
        right
        simp at hz
        exact hz.2.symm
      · rw [if_neg hij] at hy
        exact .inl ⟨j, y, hj, hy, hz⟩
  · intro y hy
    obtain ⟨o, ho, hf⟩ := h.fit y hy
    exact ⟨o, get_app _ ho, hf⟩
  · intro j o ho he
    rcases get_snoc ho with ho | ⟨_, rfl⟩
    · exact h.done j o ho he
    · exact absurd rfl he
  · intro y hy o ho he
    obtain ⟨x', q, h1, h2, h3, h4, h5⟩ := h.pend y hy o (hfix y hy o ho) he
    refine ⟨x', q, ?_, h2, h3, h4, h5⟩
    show (a.W.set i _)[0]? = _
    rw [get_set, if_neg]
    · exact h1
    · rintro rfl
      rw [hx] at h1; cases h1; rw [h0] at h3; cases h3
  · intro j y k q hy hk
    have hy : (a.W.set i _)[j]? = some y := hy
    rw [get_set] at hy
    by_cases hij : i = j
    · subst hij
      rw [if_pos rfl, if_pos hi] at hy
      cases hy
      simp at hk
      obtain ⟨rfl, rfl⟩ := hk
      refine ⟨⟨_, List.getElem?_concat_length, rfl, rfl, rfl, rfl, fun _ => ⟨rfl, hn⟩⟩, ?_, ?_, rfl, ?_, fun _ => hnot⟩
      · rintro rfl; unfold begK; rw [if_neg (by omega)]; split <;> simp
      · intro h; unfold begK; rw [if_pos h]
      · rintro ⟨_, h5, _⟩; exact absurd h5 (by simp [q0P])
    · rw [if_neg hij] at hy
      obtain ⟨⟨o, ho, hr⟩, h2⟩ := h.link j y k q hy hk
      exact ⟨⟨o, get_app _ ho, hr⟩, h2⟩
  · intro j o ho he
    rcases get_snoc ho with ho | ⟨rfl, rfl⟩
    · obtain ⟨i', x', h1, h2, h3⟩ := h.back j o ho he
      refine ⟨i', x', ?_, h2, h3⟩
      show (a.W.set i _)[i']? = _
      rw [get_set, if_neg]
      · exact h1
      · rintro rfl
        rw [hx] at h1; cases h1; exact h2 h0
    · refine ⟨i, ⟨l, some (begK i n, q0P cap (wu (begN i n))), a.ops.length⟩, ?_, ?_, rfl⟩
      · show (a.W.set i _)[i]? = _
        rw [get_set, if_pos rfl, if_pos hi]
      · simp
  · intro j o ho
    rcases get_snoc ho with ho | ⟨rfl, rfl⟩
    · obtain ⟨h1, h2, h3⟩ := h.time j o ho
      exact ⟨h1, by omega, by omega⟩
    · exact ⟨by show (1 : Int) ≤ ((u + 1 : Nat) : Int); omega, Int.le_refl _, .inl rfl⟩
  · intro j o ho
    rcases get_snoc ho with ho | ⟨rfl, rfl⟩
    · exact h.kind j o ho
    · show begK i n = 1 ∨ begK i n = 2 ∨ begK i n = 3
      unfold begK
      split <;> (try split) <;> simp
  · refine h.pairs.imp_of_mem fun {y z} hy hz hyz o p ho hp he => hyz o p (hfix y hy o ho) (hfix z hz p hp) he
theorem PI.weak {cap : Int} {a : PA} {u u' N N' T : Nat} {c : List Int} {ord : List (Nat × Evd)} (h : PI cap a u N T c ord) (hu : u ≤ u') (hN : N ≤ N') : PI cap a u' N' T c ord :=
  ⟨h.di, Nat.le_trans h.sum hN, h.run, h.nodup, h.fit, h.done, h.pend, h.link, h.back, fun j o ho => by obtain ⟨h1, h2, h3⟩ := h.time j o ho; exact ⟨h1, by omega, by omega⟩, h.kind, h.pairs⟩
/-- A Step that doesn't end its op; it may be the one in which it takes place. -/
theorem PI.go {cap : Int} {a : PA} {u N T : Nat} {c : List Int} {ord : List (Nat × Evd)} (h : PI cap a u N T c ord) {i : Nat} {x : PW} (hx : a.W[i]? = some x) {k : Int} {q : DQ} (hk : x.now = some (k, q)) {q' : DQ} {ws' : List Int} {N' T' : Nat} {c' : List Int} {ext : List (Nat × Evd)}
    (hq : q'.ended = false) (hn : k = 1 → q'.n = q.n) (hh : ¬ heldP k q) (he : (ext = [] ∧ ¬ heldP k q') ∨ (ext = [(x.op, .pop q'.x)] ∧ heldP k q'))
    (hd : DI 0 cap ws' (ownP ⟨ws', a.us, a.ops, a.W.set i ⟨x.todo, some (k, q'), x.op⟩⟩) (thP ⟨ws', a.us, a.ops, a.W.set i ⟨x.todo, some (k, q'), x.op⟩⟩) T' c') (hs : T' + c'.length ≤ N') (hr : RunE (rm cap) (ord ++ ext) c') :
    PI cap ⟨ws', a.us, a.ops, a.W.set i ⟨x.todo, some (k, q'), x.op⟩⟩ u N' T' c' (ord ++ ext) := by
  have hi := get_lt hx
  obtain ⟨⟨o0, ho0, hwho, hkind, hen, hok, hkn⟩, hi0, hi1, hended, _, hnm⟩ := h.link i x k q hx hk
  have hnm := hnm hh
  have hext : ∀ y ∈ ext, y = (x.op, Evd.pop q'.x) ∧ heldP k q' := by
    rintro y hy
    rcases he with ⟨rfl, _⟩ | ⟨rfl, h2⟩
    · cases hy
    · exact ⟨List.mem_singleton.1 hy, h2⟩
  have hzero : heldP k q' → i = 0 := fun hp => by
    rcases Nat.eq_zero_or_pos i with h | h
    · exact h
    · have := hi1 h; have := hp.1; omega
  have hW : ∀ j y, j ≠ i → a.W[j]? = some y → (a.W.set i ⟨x.todo, some (k, q'), x.op⟩)[j]? = some y := fun j y hj hy => by
    rw [get_set, if_neg (fun h => hj h.symm)]; exact hy
  have hWi : (a.W.set i ⟨x.todo, some (k, q'), x.op⟩)[i]? = some ⟨x.todo, some (k, q'), x.op⟩ := by rw [get_set, if_pos rfl, if_pos hi]
  refine ⟨hd, hs, hr, ?_, ?_, ?_, ?_, ?_, ?_, h.time, h.kind, ?_⟩
  · rw [List.map_append, List.nodup_append]
    refine ⟨h.nodup, ?_, ?_⟩
    · rcases he with ⟨rfl, _⟩ | ⟨rfl, _⟩ <;> simp
    · intro j hj j' hj' hjj
      obtain ⟨y, hy, rfl⟩ := List.mem_map.1 hj'
      obtain ⟨rfl, _⟩ := hext y hy
      have hjj : j = x.op := hjj
      rw [hjj] at hj
      exact hnm hj
  · intro y hy
    rcases List.mem_append.1 hy with hy | hy
    · exact h.fit y hy
    · obtain ⟨rfl, hp⟩ := hext y hy
      exact ⟨o0, ho0, hkind.trans hp.1, .inl hen⟩
  · intro j o ho he
    rw [List.map_append]
    exact List.mem_append_left _ (h.done j o ho he)
  · intro y hy o ho heq
    rcases List.mem_append.1 hy with hy | hy
    · obtain ⟨x', p, h1, h2, h3, h4, h5⟩ := h.pend y hy o ho heq
      by_cases hi2 : i = 0
      · subst hi2
        rw [hx] at h1; cases h1
        rw [hk] at h3; cases h3
        exact absurd h4 hh
      · exact ⟨x', p, hW 0 x' (fun h => hi2 h.symm) h1, h2, h3, h4, h5⟩
    · obtain ⟨rfl, hp⟩ := hext y hy
      have := hzero hp
      subst this
      exact ⟨_, q', hWi, rfl, by rw [show k = 2 from hp.1], ⟨rfl, hp.2⟩, rfl⟩
  · intro j y k2 q2 hy hk2
    by_cases hj : j = i
    · subst hj
      rw [show (PA.W ⟨ws', a.us, a.ops, a.W.set j ⟨x.todo, some (k, q'), x.op⟩⟩) = a.W.set j ⟨x.todo, some (k, q'), x.op⟩ from rfl, hWi] at hy
      cases hy
      simp only [Option.some.injEq, Prod.mk.injEq] at hk2
      obtain ⟨rfl, rfl⟩ := hk2
      refine ⟨⟨o0, ho0, hwho, hkind, hen, hok, fun h1 => by rw [hn h1]; exact hkn h1⟩, hi0, hi1, hq, fun hp => ?_, fun hp => ?_⟩
      · rcases he with ⟨rfl, h2⟩ | ⟨rfl, h2⟩
        · exact absurd hp h2
        · simp
      · rcases he with ⟨rfl, h2⟩ | ⟨rfl, h2⟩
        · simpa using hnm
        · exact absurd h2 hp
    · have hy : (a.W.set i ⟨x.todo, some (k, q'), x.op⟩)[j]? = some y := hy
      rw [get_set, if_neg (fun h => hj h.symm)] at hy
      obtain ⟨⟨o, ho, h1, h2, h3, h4, h5⟩, h6, h7, h8, h9, h10⟩ := h.link j y k2 q2 hy hk2
      refine ⟨⟨o, ho, h1, h2, h3, h4, h5⟩, h6, h7, h8, fun hp => List.mem_append_left _ (h9 hp), fun hp hm => ?_⟩
      rw [List.map_append] at hm
      rcases List.mem_append.1 hm with hm | hm
      · exact h10 hp hm
      · obtain ⟨z, hz, hz2⟩ := List.mem_map.1 hm
        obtain ⟨rfl, _⟩ := hext z hz
        have hz2 : x.op = y.op := hz2
        rw [← hz2, ho0] at ho
        cases ho
        exact hj (by omega)
  · intro j o ho he2
    obtain ⟨i', x', h1, h2, h3⟩ := h.back j o ho he2
    by_cases hj : i' = i
    · subst hj
      rw [hx] at h1; cases h1
      exact ⟨i', _, hWi, by simp, h3⟩
    · exact ⟨i', x', hW i' x' hj h1, h2, h3⟩
  · rw [List.pairwise_append]
    refine ⟨h.pairs, ?_, fun y hy z hz o p ho hp hpe => ?_⟩
    · rcases he with ⟨rfl, _⟩ | ⟨rfl, _⟩ <;> simp
    · obtain ⟨rfl, _⟩ := hext z hz
      rw [ho0] at hp; cases hp
      exact absurd hen hpe
/-- A Step that ends its op. -/
theorem PI.fin {cap : Int} {a : PA} {u N T : Nat} {c : List Int} {ord : List (Nat × Evd)} (h : PI cap a u N T c ord) {i : Nat} {x : PW} (hx : a.W[i]? = some x) {k : Int} {q : DQ} (hk : x.now = some (k, q)) {n' : Int} {ok' : Bool} {ws' : List Int} {N' T' : Nat} {c' : List Int} {ext : List (Nat × Evd)} {o0 : OpR} (ho0 : a.ops[x.op]? = some o0) (hu : 1 ≤ u)
    (he : (ext = [] ∧ heldP k q ∧ fitE ⟨o0.who, o0.kind, n', o0.bg, u, ok'⟩ (.pop q.x)) ∨ (∃ e, ext = [(x.op, e)] ∧ ¬ heldP k q ∧ fitE ⟨o0.who, o0.kind, n', o0.bg, u, ok'⟩ e))
    (hd : DI 0 cap ws' (ownP ⟨ws', a.us, a.ops.set x.op ⟨o0.who, o0.kind, n', o0.bg, u, ok'⟩, a.W.set i ⟨x.todo, none, x.op⟩⟩) (thP ⟨ws', a.us, a.ops.set x.op ⟨o0.who, o0.kind, n', o0.bg, u, ok'⟩, a.W.set i ⟨x.todo, none, x.op⟩⟩) T' c') (hs : T' + c'.length ≤ N') (hr : RunE (rm cap) (ord ++ ext) c') :
    PI cap ⟨ws', a.us, a.ops.set x.op ⟨o0.who, o0.kind, n', o0.bg, u, ok'⟩, a.W.set i ⟨x.todo, none, x.op⟩⟩ u N' T' c' (ord ++ ext) := by
  have hi := get_lt hx
  obtain ⟨⟨o1, ho1, hwho, hkind, hen, hok, hkn⟩, hi0, hi1, hended, hheld, hnm⟩ := h.link i x k q hx hk
  rw [ho0] at ho1; cases ho1
  have hol := get_lt ho0
  have hu0 : (u : Int) ≠ 0 := by omega
  have hbg := h.time _ _ ho0
  have hWn : ∀ j y, j ≠ i → a.W[j]? = some y → (a.W.set i ⟨x.todo, none, x.op⟩)[j]? = some y := fun j y hj hy => by
    rw [get_set, if_neg (fun h => hj h.symm)]; exact hy
  have hWb : ∀ j y, (a.W.set i ⟨x.todo, none, x.op⟩)[j]? = some y → y.now ≠ none → j ≠ i ∧ a.W[j]? = some y := fun j y hy hn => by
    rw [get_set] at hy
    by_cases hj : i = j
    · rw [if_pos hj, if_pos hi] at hy; cases hy; exact absurd rfl hn
    · rw [if_neg hj] at hy; exact ⟨fun h => hj h.symm, hy⟩
  have hO : ∀ j o, (a.ops.set x.op ⟨o0.who, o0.kind, n', o0.bg, u, ok'⟩)[j]? = some o → (j = x.op ∧ o = ⟨o0.who, o0.kind, n', o0.bg, u, ok'⟩) ∨ (j ≠ x.op ∧ a.ops[j]? = some o) := fun j o ho => by
    rw [get_set] at ho
    by_cases hj : x.op = j
    · rw [if_pos hj, if_pos hol] at ho; cases ho; exact .inl ⟨hj.symm, rfl⟩
    · rw [if_neg hj] at ho; exact .inr ⟨fun h => hj h.symm, ho⟩
  have hOn : ∀ j o, j ≠ x.op → a.ops[j]? = some o → (a.ops.set x.op ⟨o0.who, o0.kind, n', o0.bg, u, ok'⟩)[j]? = some o := fun j o hj ho => by
    rw [get_set, if_neg (fun h => hj h.symm)]; exact ho
  have hOx : (a.ops.set x.op ⟨o0.who, o0.kind, n', o0.bg, u, ok'⟩)[x.op]? = some ⟨o0.who, o0.kind, n', o0.bg, u, ok'⟩ := by rw [get_set, if_pos rfl, if_pos hol]
  -- x's op stands in the order just if it was held
  have hin : ∀ y ∈ ord, y.1 = x.op → heldP k q ∧ y.2 = .pop q.x := fun y hy hyx => by
    obtain ⟨x', p, h1, h2, h3, h4, h5⟩ := h.pend y hy o0 (by rw [hyx]; exact ho0) hen
    have : heldP k q := by
      refine Classical.byContradiction fun hp => hnm hp (List.mem_map.2 ⟨y, hy, hyx⟩)
    have hz : i = 0 := by
      rcases Nat.eq_zero_or_pos i with h | h
      · exact h
      · have := hi1 h; have := this ▸ (‹heldP k q›).1; omega
    subst hz
    rw [hx] at h1; cases h1
    rw [hk] at h3; cases h3
    exact ⟨this, h5⟩
  refine ⟨hd, hs, hr, ?_, ?_, ?_, ?_, ?_, ?_, ?_, ?_, ?_⟩
  · rcases he with ⟨rfl, _, _⟩ | ⟨e, rfl, h2, _⟩
    · rw [List.append_nil]; exact h.nodup
    · rw [List.map_append, List.nodup_append]
      refine ⟨h.nodup, by simp, fun j hj j' hj' hjj => ?_⟩
      have hj' : j' = x.op := by simpa using hj'
      exact hnm h2 (hj' ▸ hjj ▸ hj)
  · intro y hy
    by_cases hyx : y.1 = x.op
    · refine ⟨_, by rw [hyx]; exact hOx, ?_⟩
      rcases he with ⟨rfl, h1, h2⟩ | ⟨e, rfl, h2, h3⟩
      · rw [List.append_nil] at hy
        rw [(hin y hy hyx).2]; exact h2
      · rcases List.mem_append.1 hy with hy | hy
        · exact absurd (hin y hy hyx).1 h2
        · rw [List.mem_singleton.1 hy]; exact h3
    · have hy : y ∈ ord := by
        rcases he with ⟨rfl, _, _⟩ | ⟨e, rfl, _, _⟩
        · rw [List.append_nil] at hy; exact hy
        · rcases List.mem_append.1 hy with hy | hy
          · exact hy
          · rw [List.mem_singleton.1 hy] at hyx; exact absurd rfl hyx
      obtain ⟨o, ho, hf⟩ := h.fit y hy
      exact ⟨o, hOn _ _ hyx ho, hf⟩
  · intro j o ho hne
    rw [List.map_append]
    rcases hO j o ho with ⟨rfl, _⟩ | ⟨_, ho⟩
    · rcases he with ⟨_, h1, _⟩ | ⟨e, rfl, _, _⟩
      · exact List.mem_append_left _ (List.mem_map.2 ⟨_, hheld h1, rfl⟩)
      · exact List.mem_append_right _ (by simp)
    · exact List.mem_append_left _ (h.done j o ho hne)
  · intro y hy o ho heq
    rcases hO _ o ho with ⟨_, rfl⟩ | ⟨hyx, ho⟩
    · exact absurd heq hu0
    · have hy : y ∈ ord := by
        rcases he with ⟨rfl, _, _⟩ | ⟨e, rfl, _, _⟩
        · rw [List.append_nil] at hy; exact hy
        · rcases List.mem_append.1 hy with hy | hy
          · exact hy
          · rw [List.mem_singleton.1 hy] at hyx; exact absurd rfl hyx
      obtain ⟨x', p, h1, h2, h3, h4, h5⟩ := h.pend y hy o ho heq
      refine ⟨x', p, hWn 0 x' ?_ h1, h2, h3, h4, h5⟩
      rintro rfl
      rw [hx] at h1; cases h1
      exact hyx h2.symm
  · intro j y k2 q2 hy hk2
    obtain ⟨hj, hy⟩ := hWb j y hy (by rw [hk2]; simp)
    obtain ⟨⟨o, ho, h1, h2, h3, h4, h5⟩, h6, h7, h8, h9, h10⟩ := h.link j y k2 q2 hy hk2
    have hop : y.op ≠ x.op := by
      intro hxy
      rw [hxy, ho0] at ho; cases ho
      exact hj (by omega)
    refine ⟨⟨o, hOn _ _ hop ho, h1, h2, h3, h4, h5⟩, h6, h7, h8, fun hp => List.mem_append_left _ (h9 hp), fun hp hm => ?_⟩
    rw [List.map_append] at hm
    rcases List.mem_append.1 hm with hm | hm
    · exact h10 hp hm
    · rcases he with ⟨rfl, _, _⟩ | ⟨e, rfl, _, _⟩
      · cases hm
      · exact hop (by simpa using hm)
  · intro j o ho he2
    rcases hO j o ho with ⟨_, rfl⟩ | ⟨hjx, ho⟩
    · exact absurd he2 hu0
    · obtain ⟨i', x', h1, h2, h3⟩ := h.back j o ho he2
      refine ⟨i', x', hWn i' x' ?_ h1, h2, h3⟩
      rintro rfl
      rw [hx] at h1; cases h1
      exact hjx h3.symm
  · intro j o ho
    rcases hO j o ho with ⟨_, rfl⟩ | ⟨_, ho⟩
    · exact ⟨hbg.1, hbg.2.1, .inr ⟨hbg.2.1, Int.le_refl _⟩⟩
    · exact h.time j o ho
  · intro j o ho
    rcases hO j o ho with ⟨_, rfl⟩ | ⟨_, ho⟩
    · have := h.kind _ _ ho0; exact this
    · exact h.kind j o ho
  · rw [List.pairwise_append]
    have hb : ∀ (j : Nat) (o : OpR), (a.ops.set x.op ⟨o0.who, o0.kind, n', o0.bg, u, ok'⟩)[j]? = some o → o.bg ≤ u := fun j o ho => by
      rcases hO j o ho with ⟨_, rfl⟩ | ⟨_, ho⟩
      · exact hbg.2.1
      · exact (h.time j o ho).2.1
    refine ⟨h.pairs.imp fun {y z} hyz o p ho hp hpe => ?_, ?_, fun y hy z hz o p ho hp hpe => ?_⟩
    · rcases hO _ p hp with ⟨_, rfl⟩ | ⟨hzx, hp⟩
      · have := hb _ o ho; show ¬ (u : Int) < o.bg; omega
      · rcases hO _ o ho with ⟨hyx, rfl⟩ | ⟨hyx, ho⟩
        · exact hyz o0 p (by rw [hyx]; exact ho0) hp hpe
        · exact hyz o p ho hp hpe
    · rcases he with ⟨rfl, _, _⟩ | ⟨e, rfl, _, _⟩ <;> simp
    · rcases he with ⟨rfl, _, _⟩ | ⟨e, rfl, _, _⟩
      · cases hz
      · rw [List.mem_singleton.1 hz] at hp
        have hp : (a.ops.set x.op ⟨o0.who, o0.kind, n', o0.bg, u, ok'⟩)[x.op]? = some p := hp
        rw [hOx] at hp; cases hp
        have := hb _ o ho; show ¬ (u : Int) < o.bg; omega
theorem own_zero {ws : List Int} {us : Nat} {ops : List OpR} {W : List PW} {t : List Int} {nw : Option (Int × DQ)} {op : Nat} (h : 0 < W.length) : ownP ⟨ws, us, ops, W.set 0 ⟨t, nw, op⟩⟩ = nowO nw := by
  unfold ownP
  show (match (W.set 0 _)[0]? with | some x => nowO x.now | none => none) = _
  rw [get_set, if_pos rfl, if_pos h]
theorem own_far {ws ws' : List Int} {us us' : Nat} {ops ops' : List OpR} {W : List PW} {y : PW} {i : Nat} (h : 0 < i) : ownP ⟨ws, us, ops, W.set i y⟩ = ownP ⟨ws', us', ops', W⟩ := by
  unfold ownP
  show (match (W.set i _)[0]? with | some x => nowO x.now | none => none) = _
  rw [get_set, if_neg (by omega)]
theorem th_zero {ws ws' : List Int} {us us' : Nat} {ops ops' : List OpR} {W : List PW} {y : PW} {z : DQ} (h : thP ⟨ws, us, ops, W.set 0 y⟩ z) : thP ⟨ws', us', ops', W⟩ z := by
  obtain ⟨j, x, hj, hx, hz⟩ := h
  have hx : (W.set 0 y)[j]? = some x := hx
  rw [get_set, if_neg (by omega)] at hx
  exact ⟨j, x, hj, hx, hz⟩
theorem th_far {ws ws' : List Int} {us us' : Nat} {ops ops' : List OpR} {W : List PW} {y : PW} {z : DQ} {i : Nat} (h : thP ⟨ws, us, ops, W.set i y⟩ z) : thP ⟨ws', us', ops', W⟩ z ∨ y.now = some (3, z) := by
  obtain ⟨j, x, hj, hx, hz⟩ := h
  have hx : (W.set i y)[j]? = some x := hx
  rw [get_set] at hx
  by_cases hij : i = j
  · rw [if_pos hij] at hx
    split at hx
    · cases hx; exact .inr hz
    · cases hx
  · rw [if_neg hij] at hx; exact .inl ⟨j, x, hj, hx, hz⟩
theorem own_at {a : PA} {x : PW} {k : Int} {q : DQ} (hx : a.W[0]? = some x) (hk : x.now = some (k, q)) : ownP a = some (decide (k = 2), q) := by
  unfold ownP
  rw [hx]
  show nowO x.now = _
  rw [hk]; rfl
theorem RunE.zero {R : Nat} {ord : List (Nat × Evd)} {c : List Int} (h : RunE R ord c) : RunE R (ord ++ []) c := by rw [List.append_nil]; exact h
theorem held_no {k : Int} {q : DQ} (h : q.at_ ≠ 5 ∨ q.ok = false) : ¬ heldP k q := by
  rintro ⟨_, h1, h2⟩
  rcases h with h | h
  · exact h h1
  · rw [h] at h2; cases h2
/-- A Step of what a worker does. -/
theorem PI.work {cap : Int} {a : PA} {N T : Nat} {c : List Int} {ord : List (Nat × Evd)} (h : PI cap a (a.us + 1) N T c ord) (hu : a.us + 1 < 1000000000) (hN : N < 1000000000) {i : Nat} {x : PW} (hx : a.W[i]? = some x) : ∃ T' c' ord', PI cap (workP a i x a.ops).1 (a.us + 1) (N + 1) T' c' ord' := by
  have hi := get_lt hx
  obtain ⟨todo, now, op⟩ := x
  cases now with
  | none =>
    refine ⟨T, c, ord, ?_⟩
    have e : a.W.set i ⟨todo, none, op⟩ = a.W := by
      refine List.ext_getElem? fun j => ?_
      rw [get_set]
      by_cases hj : i = j
      · subst hj; rw [if_pos rfl, if_pos hi, hx]
      · rw [if_neg hj]
    show PI cap ⟨a.ws, a.us, a.ops, a.W.set i ⟨todo, none, op⟩⟩ _ _ _ _ _
    rw [e]
    exact h.weak (Nat.le_refl _) (by omega)
  | some kq =>
    obtain ⟨k, q⟩ := kq
    obtain ⟨⟨o0, ho0, hwho, hkind, hen, hok, hkn⟩, hi0, hi1, hended, hheld, hnm⟩ := h.link i _ k q hx rfl
    have ho0 : a.ops[op]? = some o0 := ho0
    obtain ⟨q', ws', e, hst⟩ : ∃ q' ws' e, dqStep k listOps q a.ws = (q', ws', e) := ⟨_, _, _, rfl⟩
    have hus : wr ((a.us : Int) + 1) = ((a.us + 1 : Nat) : Int) := pd_wr (n := a.us + 1) (by omega)
    have hstep : workP a i ⟨todo, some (k, q), op⟩ a.ops = if e = true then (⟨ws', a.us, a.ops.set op ⟨o0.who, o0.kind, wr q'.n, o0.bg, ((a.us + 1 : Nat) : Int), q'.ok⟩, a.W.set i ⟨todo, none, op⟩⟩, todo.isEmpty) else (⟨ws', a.us, a.ops, a.W.set i ⟨todo, some (k, q'), op⟩⟩, false) := by
      unfold workP
      dsimp only
      rw [hst, ho0]
      unfold endP
      rw [hus]
    rw [hstep]
    have hsum := h.sum
    rcases Nat.eq_zero_or_pos i with rfl | hpos
    · have hown : ownP a = some (decide (k = 2), q) := own_at hx rfl
      have hdi := h.di
      rw [hown] at hdi
      rcases hi0 rfl with rfl | rfl
      · have hst : pushStep listOps q a.ws = (q', ws', e) := hst
        have hno : ¬ heldP 1 q := fun hp => absurd hp.1 (by decide)
        obtain ⟨_, _, hqn, _, hcase⟩ := push_DI hdi (by decide) (by omega) hst
        rcases hcase with ⟨rfl, hd⟩ | ⟨rfl, hqo, hful, hd⟩ | ⟨rfl, hqo, hroom, hd⟩
        · have hon : q'.ended = false := (show PushO 0 cap ws' T c q' from hd.ow).on
          refine ⟨T, c, ord ++ [], PI.go h hx rfl hon (fun _ => hqn) hno (.inl ⟨rfl, fun hp => absurd hp.1 (by decide)⟩) ?_ (by omega) h.run.zero⟩
          rw [own_zero hi]
          exact hd.weak fun z hz => th_zero hz
        · refine ⟨T, c, ord ++ [(op, .full)], PI.fin h hx rfl ho0 (by omega) (.inr ⟨.full, rfl, hno, hkind, by show ((a.us + 1 : Nat) : Int) ≠ 0; omega, hqo⟩) ?_ (by omega) (h.run.snoc op .full ⟨hful, rfl⟩)⟩
          rw [own_zero hi]
          exact hd.weak fun z hz => th_zero hz
        · obtain ⟨k1, k2⟩ := hkn rfl
          refine ⟨T, c ++ [q.n], ord ++ [(op, .push o0.n)], PI.fin h hx rfl ho0 (by omega) (.inr ⟨.push o0.n, rfl, hno, hkind, by show ((a.us + 1 : Nat) : Int) ≠ 0; omega, hqo, by show wr q'.n = o0.n; rw [hqn, k1, k2], k2⟩) ?_ (by simp; omega) (h.run.snoc op (.push o0.n) ⟨hroom, by rw [k1]⟩)⟩
          rw [own_zero hi]
          exact hd.weak fun z hz => th_zero hz
      · have hst : popStep listOps q a.ws = (q', ws', e) := hst
        obtain ⟨_, _, _, hcase⟩ := pop_DI hdi (by decide) (by omega) hst
        rcases hcase with ⟨rfl, h5, h6, hd⟩ | ⟨rfl, h5, hqo, rfl, hd⟩ | ⟨rfl, hqo, h5, rfl, hd⟩ | ⟨rfl, hqo, h5, c', rfl, hd⟩ | ⟨rfl, hqo, h5, h6, hqn, rfl, hd⟩
        · have hon : q'.ended = false := (show PopO 0 cap (thP a) T c q' from hd.ow).on
          refine ⟨T, c, ord ++ [], PI.go h hx rfl hon (fun h => absurd h (by decide)) (held_no (.inl h5)) (.inl ⟨rfl, ?_⟩) ?_ (by omega) h.run.zero⟩
          · rintro ⟨_, h7, h8⟩; rw [h6 h7] at h8; cases h8
          · rw [own_zero hi]
            exact hd.weak fun z hz => th_zero hz
        · have hon : q'.ended = false := (show PopO 0 cap (thP a) (T + 1) [] q' from hd.ow).on
          have hno : ¬ heldP 2 q := fun hp => by
            have : PopO 0 cap (thP a) T [q'.x] q := hdi.ow
            exact absurd (this.a5 hp.2.1) (by simp)
          refine ⟨T + 1, [], ord ++ [(op, .pop q'.x)], PI.go h hx rfl hon (fun h => absurd h (by decide)) hno (.inr ⟨rfl, rfl, h5, hqo⟩) ?_ (by simp at hsum ⊢; omega) (h.run.snoc op (.pop q'.x) (by simp [runE]))⟩
          rw [own_zero hi]
          exact hd.weak fun z hz => th_zero hz
        · have hno : ¬ heldP 2 q := fun hp => by have h7 := h5 hp.2.1; rw [hp.2.2] at h7; cases h7
          refine ⟨T, [], ord ++ [(op, .empty)], PI.fin h hx rfl ho0 (by omega) (.inr ⟨.empty, rfl, hno, hkind, by show ((a.us + 1 : Nat) : Int) ≠ 0; omega, hqo⟩) ?_ (by simp at hsum ⊢; omega) (h.run.snoc op .empty ⟨rfl, rfl⟩)⟩
          rw [own_zero hi]
          exact hd.weak fun z hz => th_zero hz
        · refine ⟨T, c', ord ++ [(op, .pop q'.n)], PI.fin h hx rfl ho0 (by omega) (.inr ⟨.pop q'.n, rfl, held_no (.inl (by omega)), hkind, .inr ⟨hqo, rfl⟩⟩) ?_ (by simp at hsum ⊢; omega) (h.run.snoc op (.pop q'.n) rfl)⟩
          rw [own_zero hi]
          exact hd.weak fun z hz => th_zero hz
        · refine ⟨T, [], ord ++ [], PI.fin h hx rfl ho0 (by omega) (.inl ⟨rfl, ⟨rfl, h5, h6⟩, hkind, .inr ⟨hqo, ?_⟩⟩) ?_ (by simp at hsum ⊢; omega) h.run.zero⟩
          · show wr q'.n = wr q.x; rw [hqn]
          · rw [own_zero hi]
            exact hd.weak fun z hz => th_zero hz
    · obtain rfl := hi1 hpos
      have hst : stealStep listOps q a.ws = (q', ws', e) := hst
      have hno : ¬ heldP 3 q := fun hp => absurd hp.1 (by decide)
      obtain ⟨_, _, _, hcase⟩ := steal_DI h.di ⟨i, _, hpos, hx, rfl⟩ hended (by decide) (by omega) hst
      rcases hcase with ⟨rfl, hon, hd⟩ | ⟨rfl, hqo, hd⟩ | ⟨rfl, hqo, c', rfl, hd⟩
      · refine ⟨T, c, ord ++ [], PI.go h hx rfl hon (fun h => absurd h (by decide)) hno (.inl ⟨rfl, fun hp => absurd hp.1 (by decide)⟩) ?_ (by omega) h.run.zero⟩
        rw [own_far (ws' := a.ws) (us' := a.us) (ops' := a.ops) hpos]
        refine hd.weak fun z hz => ?_
        rcases th_far (ws' := a.ws) (us' := a.us) (ops' := a.ops) hz with hz | hz
        · exact .inl hz
        · right
          simp only [Option.some.injEq, Prod.mk.injEq] at hz
          exact hz.2.symm
      · refine ⟨T, c, ord ++ [(op, .miss)], PI.fin h hx rfl ho0 (by omega) (.inr ⟨.miss, rfl, hno, hkind, by show ((a.us + 1 : Nat) : Int) ≠ 0; omega, hqo⟩) ?_ (by omega) (h.run.snoc op .miss rfl)⟩
        rw [own_far (ws' := a.ws) (us' := a.us) (ops' := a.ops) hpos]
        refine hd.weak fun z hz => ?_
        rcases th_far (ws' := a.ws) (us' := a.us) (ops' := a.ops) hz with hz | hz
        · exact hz
        · cases hz
      · refine ⟨T + 1, c', ord ++ [(op, .steal q'.n)], PI.fin h hx rfl ho0 (by omega) (.inr ⟨.steal q'.n, rfl, hno, hkind, by show ((a.us + 1 : Nat) : Int) ≠ 0; omega, hqo, rfl⟩) ?_ (by simp at hsum ⊢; omega) (h.run.snoc op (.steal q'.n) rfl)⟩
        rw [own_far (ws' := a.ws) (us' := a.us) (ops' := a.ops) hpos]
        refine hd.weak fun z hz => ?_
        rcases th_far (ws' := a.ws) (us' := a.us) (ops' := a.ops) hz with hz | hz
        · exact hz
        · cases hz
/-- What a worker has to do may be done. -/
def okTodo (a : PA) : Prop := ∀ (i : Nat) (x : PW), a.W[i]? = some x → ∀ n ∈ x.todo, wr (wu (begN i n)) = begN i n
theorem PI.tell {cap : Int} {a : PA} {u N T : Nat} {c : List Int} {ord : List (Nat × Evd)} (h : PI cap a u N T c ord) (k : Nat) : PI cap (tellP a k) u N T c ord :=
  ⟨h.di, h.sum, h.run, h.nodup, h.fit, h.done, h.pend, h.link, h.back, h.time, h.kind, h.pairs⟩
theorem todo_set {a : PA} {ws : List Int} {us : Nat} {ops : List OpR} {i : Nat} {x y : PW} (h : okTodo a) (hx : a.W[i]? = some x) (hy : ∀ n ∈ y.todo, n ∈ x.todo) : okTodo ⟨ws, us, ops, a.W.set i y⟩ := by
  intro j z hz n hn
  have hz : (a.W.set i y)[j]? = some z := hz
  rw [get_set] at hz
  by_cases hij : i = j
  · subst hij
    rw [if_pos rfl, if_pos (get_lt hx)] at hz
    cases hz
    exact h i x hx n (hy n hn)
  · rw [if_neg hij] at hz
    exact h j z hz n hn
theorem work_todo {a : PA} {i : Nat} {x y : PW} {ops : List OpR} {a0 : PA} (h : okTodo a0) (hx : a0.W[i]? = some x) (hw : a.W = a0.W.set i y ∨ a.W = a0.W) (hy : ∀ n ∈ y.todo, n ∈ x.todo) : okTodo (workP a i y ops).1 := by
  have key : ∀ z : PW, (∀ n ∈ z.todo, n ∈ x.todo) → ∀ (ws : List Int) (us : Nat) (ops : List OpR), okTodo ⟨ws, us, ops, a.W.set i z⟩ := fun z hz ws us ops => by
    rcases hw with hw | hw
    · rw [hw, List.set_set]; exact todo_set h hx hz
    · rw [hw]; exact todo_set h hx hz
  unfold workP
  split
  · exact key _ hy _ _ _
  · split
    · exact key ⟨y.todo, none, y.op⟩ hy _ _ _
    · exact key ⟨y.todo, some (_, _), y.op⟩ hy _ _ _
/-- A pick. -/
theorem PI.step {cap : Int} {a : PA} {N T : Nat} {c : List Int} {ord : List (Nat × Evd)} (h : PI cap a a.us N T c ord) (ht : okTodo a) (hu : a.us + 1 < 1000000000) (hN : N < 1000000000) (i : Nat) : okTodo (stepP cap a i).1 ∧ ∃ T' c' ord', PI cap (stepP cap a i).1 (a.us + 1) (N + 1) T' c' ord' := by
  unfold stepP
  cases hx : a.W[i]? with
  | none => exact ⟨ht, T, c, ord, h.weak (by omega) (by omega)⟩
  | some x =>
    show okTodo (workP a i (begP cap a i x).1 (begP cap a i x).2).1 ∧ ∃ T' c' ord', PI cap (workP a i (begP cap a i x).1 (begP cap a i x).2).1 (a.us + 1) (N + 1) T' c' ord'
    have hw := PI.work (h.weak (u' := a.us + 1) (by omega) (Nat.le_refl _)) hu hN hx
    obtain ⟨todo, now, op⟩ := x
    match now, todo, hx, hw with
    | some kq, todo, hx, hw => exact ⟨work_todo ht hx (.inr rfl) fun n hn => hn, hw⟩
    | none, [], hx, hw => exact ⟨work_todo ht hx (.inr rfl) fun n hn => hn, hw⟩
    | none, n :: l, hx, _ =>
      have hn := ht i _ hx n (by simp)
      have hb := h.beg hu hx rfl (l := l) hn
      have hus : wr ((a.us : Int) + 1) = ((a.us + 1 : Nat) : Int) := pd_wr (n := a.us + 1) (by omega)
      have hi := get_lt hx
      have hW := hb.work hu hN (i := i) (x := ⟨l, some (begK i n, q0P cap (wu (begN i n))), a.ops.length⟩) (by
        show (a.W.set i _)[i]? = _
        rw [get_set, if_pos rfl, if_pos hi])
      have e : ∀ y ops', workP ⟨a.ws, a.us, ops', a.W.set i y⟩ i y ops' = workP a i y ops' := fun y ops' => by
        unfold workP
        simp only [List.set_set]
      refine ⟨work_todo ht hx (.inr rfl) fun m hm => List.mem_cons_of_mem _ hm, ?_⟩
      show ∃ T' c' ord', PI cap (workP a i ⟨l, some (begK i n, q0P cap (wu (begN i n))), a.ops.length⟩ (a.ops ++ [⟨i, begK i n, begN i n, wr (a.us + 1), 0, false⟩])).1 (a.us + 1) (N + 1) T' c' ord'
      rw [hus, ← e]
      exact hW
end Go.Proofs.Ytacacplipaeokaa
