/-
  Ly: what the claim uses of them.
-/
import Derived.Test.YtacacplipaeokaaBn26
namespace Go.Proofs.Ytacacplipaeokaa
open Go.RowKit
set_option maxRecDepth 100000
set_option maxHeartbeats 4000000
def aheadP (a b : OpR) : Bool := decide (0 < a.en) && decide (a.en < b.bg)
/-- An op with a list; false: it may not be done. -/
def doP (R : Int) (l : List Int) (o : OpR) : List Int × Bool :=
  if o.kind = 1 then (if 0 < o.en ∧ o.ok = false then (l, decide (R ≤ (l.length : Int))) else (l ++ [o.n], decide ((l.length : Int) < R)))
  else if o.kind = 2 then (if o.en = 0 then (l.take (l.length - 1), true) else if o.ok = false then (l, decide (l.length = 0)) else (l.take (l.length - 1), decide (0 < l.length) && decide (l.getD (l.length - 1) 0 = o.n)))
  else if o.kind = 3 then (if o.ok = false ∨ o.en = 0 then (l, true) else (l.drop 1, decide (0 < l.length) && decide (l.getD 0 0 = o.n)))
  else (l, false)
def opAt (ops : List OpR) (i : Int) : OpR := ops.getD i.toNat ⟨0, 0, 0, 0, 0, false⟩
def replayP (R : Int) (ops : List OpR) : List Int → List Int → Option (List Int)
  | now, [] => some now
  | now, i :: r => if (doP R now (opAt ops i)).2 = true then replayP R ops (doP R now (opAt ops i)).1 r else none
theorem replay_app {R : Int} {ops : List OpR} : ∀ (l r now : List Int), replayP R ops now (l ++ r) = (replayP R ops now l).bind fun x => replayP R ops x r
  | [], r, now => rfl
  | i :: l, r, now => by
    show (if _ then replayP R ops _ (l ++ r) else none) = (if _ then replayP R ops _ l else none).bind _
    split
    · exact replay_app l r _
    · rfl
structure FitsP (ops : List OpR) (R : Int) (order : List Int) : Prop where
  inn : ∀ i ∈ order, 0 ≤ i ∧ i < ops.length
  nodup : order.Nodup
  does : (replayP R ops [] order).isSome = true
  pairs : order.Pairwise fun y z => aheadP (opAt ops z) (opAt ops y) = false
  all : ∀ (j : Nat) (o : OpR), ops[j]? = some o → 0 < o.en → (j : Int) ∈ order
structure FreeP (ops : List OpR) (dn : List Int) (i : Int) : Prop where
  inn : 0 ≤ i ∧ i < ops.length
  new : i ∉ dn
  free : ∀ j : Nat, j < ops.length → (j : Int) ∉ dn → aheadP (opAt ops j) (opAt ops i) = false
theorem op_at {ops : List OpR} {j : Nat} {o : OpR} (h : ops[j]? = some o) : opAt ops (j : Int) = o := by
  unfold opAt
  rw [List.getD_eq_getElem?_getD, show ((j : Int)).toNat = j from rfl, h]; rfl
theorem FitsP.free {ops : List OpR} {R : Int} {dn rest : List Int} {i : Int} (h : FitsP ops R (dn ++ i :: rest)) (hs : ∀ o ∈ ops, ¬ (0 < o.en ∧ o.en < o.bg)) : FreeP ops dn i ∧ (replayP R ops [] (dn ++ [i])).isSome = true := by
  have hn := List.nodup_append.1 h.nodup
  have hp := List.pairwise_append.1 h.pairs
  refine ⟨⟨h.inn i (by simp), fun hm => hn.2.2 i hm i (by simp) rfl, fun j hj hm => ?_⟩, ?_⟩
  · have ho : ops[j]? = some ops[j] := List.getElem?_eq_getElem hj
    by_cases he : 0 < ops[j].en
    · have := h.all j _ ho he
      rcases List.mem_append.1 this with h1 | h1
      · exact absurd h1 hm
      · rcases List.mem_cons.1 h1 with h1 | h1
        · have e : opAt ops i = ops[j] := by rw [← h1, op_at ho]
          rw [h1, e]
          unfold aheadP
          have := hs _ (List.getElem_mem hj)
          simp only [Bool.and_eq_false_imp, decide_eq_true_eq, decide_eq_false_iff_not]
          omega
        · exact (List.pairwise_cons.1 hp.2.1).1 _ h1
    · rw [op_at ho]
      unfold aheadP
      simp only [Bool.and_eq_false_imp, decide_eq_true_eq, decide_eq_false_iff_not]
      omega
  · have := h.does
    rw [show dn ++ i :: rest = (dn ++ [i]) ++ rest by simp, replay_app] at this
    cases hr : replayP R ops [] (dn ++ [i]) with
    | none => rw [hr] at this; cases this
    | some x => rfl
/-- A play's ops could have been done one behind the other. -/
theorem PI.fits {cap : Int} {a : PA} {u N T : Nat} {c : List Int} {ord : List (Nat × Evd)} (h : PI cap a u N T c ord) : FitsP a.ops (rm cap : Nat) (ord.map fun y => (y.1 : Int)) := by
  have hat : ∀ y ∈ ord, ∃ o, a.ops[y.1]? = some o ∧ opAt a.ops (y.1 : Int) = o ∧ fitE o y.2 := fun y hy => by
    obtain ⟨o, ho, hf⟩ := h.fit y hy
    exact ⟨o, ho, op_at ho, hf⟩
  refine ⟨fun i hi => ?_, ?_, ?_, ?_, fun j o ho he => ?_⟩
  · obtain ⟨y, hy, rfl⟩ := List.mem_map.1 hi
    obtain ⟨o, ho, _⟩ := hat y hy
    have := get_lt ho
    omega
  · have := h.nodup
    rw [show (ord.map fun y => (y.1 : Int)) = (ord.map (·.1)).map Int.ofNat by rw [List.map_map]; rfl]
    exact List.Pairwise.map _ (fun a b h => by intro e; exact h (Int.ofNat.inj e)) this
  · have hrun := h.run
    have key : ∀ {l : List (Nat × Evd)} {d : List Int}, RunE (rm cap) l d → (∀ y ∈ l, ∃ o, a.ops[y.1]? = some o ∧ opAt a.ops (y.1 : Int) = o ∧ fitE o y.2) → (∀ y ∈ l, ∀ o, a.ops[y.1]? = some o → o.en = 0 ∨ 0 < o.en) → replayP (rm cap : Nat) a.ops [] (l.map fun y => (y.1 : Int)) = some (d.map wr) := by
      intro l d hl
      induction hl with
      | nil => intro _ _; rfl
      | @snoc l c d hl i e hr ih =>
        intro h1 h2
        have ih := ih (fun y hy => h1 y (List.mem_append_left _ hy)) (fun y hy => h2 y (List.mem_append_left _ hy))
        obtain ⟨o, ho, hoa, hf⟩ := h1 (i, e) (by simp)
        have hoa : opAt a.ops (i : Int) = o := hoa
        have hen := h2 (i, e) (by simp) o ho
        rw [List.map_append, replay_app, ih]
        show (if (doP (rm cap : Nat) (c.map wr) (opAt a.ops (i : Int))).2 = true then some (doP (rm cap : Nat) (c.map wr) (opAt a.ops (i : Int))).1 else none) = _
        rw [hoa]
        have hd : doP (rm cap : Nat) (c.map wr) o = (d.map wr, true) := by
          unfold doP
          cases e with
          | push n =>
            obtain ⟨f1, f2, f3, f4, f5⟩ := hf
            obtain ⟨r1, rfl⟩ := hr
            rw [if_pos f1, if_neg (fun h => by rw [h.2] at f3; cases f3), List.length_map, decide_eq_true (by omega), List.map_append, f4]
            simp [f5]
          | full =>
            obtain ⟨f1, f2, f3⟩ := hf
            obtain ⟨r1, rfl⟩ := hr
            rw [if_pos f1, if_pos ⟨by omega, f3⟩, List.length_map, decide_eq_true (by omega)]
          | pop x =>
            obtain ⟨f1, f2⟩ := hf
            have hr : c = d ++ [x] := hr
            subst hr
            have e1 : ((d ++ [x]).map wr).take (((d ++ [x]).map wr).length - 1) = d.map wr := by simp
            rw [if_neg (by omega), if_pos f1]
            by_cases h0 : o.en = 0
            · rw [if_pos h0, e1]
            · rcases f2 with f2 | ⟨f2, f3⟩
              · exact absurd f2 h0
              · rw [if_neg h0, if_neg (by rw [f2]; decide), e1, f3]
                simp
          | empty =>
            obtain ⟨f1, f2, f3⟩ := hf
            obtain ⟨rfl, rfl⟩ := hr
            rw [if_neg (by omega), if_pos f1, if_neg f2, if_pos f3]
            simp
          | steal x =>
            obtain ⟨f1, f2, f3, f4⟩ := hf
            have hr : c = x :: d := hr
            subst hr
            rw [if_neg (by omega), if_neg (by omega), if_pos f1, if_neg (by rw [f3]; simp; exact f2), f4]
            simp
          | miss =>
            obtain ⟨f1, f2, f3⟩ := hf
            have hr : d = c := hr
            subst hr
            rw [if_neg (by omega), if_neg (by omega), if_pos f1, if_pos (.inl f3)]
        rw [hd]; rfl
    rw [key hrun hat fun y hy o ho => by
      obtain ⟨h1, _, h3⟩ := h.time _ _ ho
      omega]
    rfl
  · rw [List.pairwise_map]
    refine h.pairs.imp_of_mem fun {y z} hy hz hyz => ?_
    obtain ⟨o, ho, hoa, _⟩ := hat y hy
    obtain ⟨p, hp, hpa, _⟩ := hat z hz
    rw [hoa, hpa]
    unfold aheadP
    simp only [Bool.and_eq_false_imp, decide_eq_true_eq, decide_eq_false_iff_not]
    intro h0
    exact hyz o p ho hp (by omega)
  · obtain ⟨y, hy, he2⟩ := List.mem_map.1 (h.done j o ho (by omega))
    exact List.mem_map.2 ⟨y, hy, by rw [he2]⟩
theorem PI.ends {cap : Int} {a : PA} {u N T : Nat} {c : List Int} {ord : List (Nat × Evd)} (h : PI cap a u N T c ord) : ∀ o ∈ a.ops, ¬ (0 < o.en ∧ o.en < o.bg) := fun o ho => by
  obtain ⟨j, hj⟩ := List.mem_iff_getElem?.1 ho
  obtain ⟨h1, _, h3⟩ := h.time j o hj
  omega
end Go.Proofs.Ytacacplipaeokaa
