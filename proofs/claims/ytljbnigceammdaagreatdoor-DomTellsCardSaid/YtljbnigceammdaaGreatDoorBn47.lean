/-
  Dg: what the claim uses of them.
-/
import Derived.Test.YtljbnigceammdaaGreatDoorBn46
namespace Go.Proofs.YtljbnigceammdaaGreatDoor
open Go.RowKit
set_option maxRecDepth 100000
/-- The edges that don't touch a node. -/
def withoutE (l : List EdgeT) (a : Int) : List EdgeT := l.filter fun e => decide (e.1 ≠ a) && decide (e.2.1 ≠ a)
theorem mem_without {l : List EdgeT} {a : Int} {e : EdgeT} : e ∈ withoutE l a ↔ e ∈ l ∧ e.1 ≠ a ∧ e.2.1 ≠ a := by
  unfold withoutE
  rw [List.mem_filter, Bool.and_eq_true, decide_eq_true_eq, decide_eq_true_eq]
/-- Whether each way from r to b has a in it. -/
def overR (N : Nat) (l : List EdgeT) (r : Nat) (a b : Int) : Bool := decide (b ∈ reachR N l [(r : Int)]) && (decide (a = b) || decide (a = r) || !decide (b ∈ reachR N (withoutE l a) [(r : Int)]))
def rowR (N : Nat) (l : List EdgeT) (r : Nat) (b : Int) : List Int := ((List.range N).map fun a : Nat => (a : Int)).filter fun a => overR N l r a b
theorem pw_go {N r : Nat} {l : List EdgeT} {x : Int} (hr : r < N) : ∀ {v : Int}, Pw N l r x v → v ≠ x → Rch N (withoutE l x) [(r : Int)] v := by
  intro v h
  induction h with
  | root => exact fun _ => .root (List.mem_singleton.2 rfl) (by omega)
  | @step u v hu hx hv ih =>
    intro hvx
    obtain ⟨q1, q2, e, he, e1, e2⟩ := mem_toS.1 hv
    exact .step (ih hx) (mem_toS.2 ⟨q1, q2, e, mem_without.2 ⟨he, by rw [e1]; exact hx, by rw [e2]; exact hvx⟩, e1, e2⟩)
theorem go_pw {N r : Nat} {l : List EdgeT} {x : Int} (hx : (r : Int) ≠ x) {v : Int} (h : Rch N (withoutE l x) [(r : Int)] v) : Pw N l r x v ∧ v ≠ x := by
  induction h with
  | root hm _ => rw [List.mem_singleton.1 hm]; exact ⟨.root, hx⟩
  | step _ hb ih =>
    obtain ⟨q1, q2, e, he, e1, e2⟩ := mem_toS.1 hb
    obtain ⟨he, n1, n2⟩ := mem_without.1 he
    exact ⟨.step ih.1 ih.2 (mem_toS.2 ⟨q1, q2, e, he, e1, e2⟩), by rw [← e2]; exact n2⟩
theorem pw_root {N r : Nat} {l : List EdgeT} {v : Int} (h : Pw N l r r v) : v = r := by
  induction h with
  | root => rfl
  | step _ hx _ ih => exact absurd ih hx
/-- What is over a node. -/
theorem mem_row {N r : Nat} {l : List EdgeT} (h1 : 1 ≤ N) (h8 : N ≤ 8) (hl : l.length ≤ 1000) (hri : rightE N l = true) (hr : r < N) {v : Nat} (hv : v < N) (x : Int) : x ∈ domRow N l r v ↔ Rch N l [(r : Int)] v ∧ (0 ≤ x ∧ x < N) ∧ (x = v ∨ ¬ Pw N l r x v) := by
  have hee : ∀ e ∈ l, (0 ≤ e.1 ∧ e.1 < (N : Int)) ∧ 0 ≤ e.2.1 ∧ e.2.1 < (N : Int) := fun e he => by
    unfold rightE at hri
    simp only [Bool.and_eq_true, List.all_eq_true] at hri
    have := hri.2 e he
    exact ⟨node_iff.1 this.1, node_iff.1 this.2⟩
  obtain ⟨_, q2, q3⟩ := dom_sol (r := r) h1 h8 (by omega) hee hr v hv
  unfold domRow
  by_cases hm : (v : Int) ∈ reachR N l [(r : Int)]
  · rw [if_pos hm]
    have hrc := (mem_reachR _).1 hm
    unfold bitsL
    rw [List.mem_map]
    constructor
    · rintro ⟨k, hk, rfl⟩
      have hb := (List.mem_filter.1 hk).2
      rw [Nat.testBit_or, pow_bit, Bool.or_eq_true, decide_eq_true_eq] at hb
      rcases hb with hb | hb
      · have := (q3 k).1 hb
        exact ⟨hrc, by omega, .inr this.2⟩
      · exact ⟨hrc, by omega, .inl (by omega)⟩
    · rintro ⟨_, hx, h⟩
      refine ⟨x.toNat, List.mem_filter.2 ⟨List.mem_range.2 (by omega), ?_⟩, by omega⟩
      rw [Nat.testBit_or, pow_bit, Bool.or_eq_true, decide_eq_true_eq]
      rcases h with h | h
      · exact .inr (by omega)
      · exact .inl ((q3 _).2 ⟨by omega, by rw [Int.toNat_of_nonneg hx.1]; exact h⟩)
  · rw [if_neg hm]
    constructor
    · intro h; cases h
    · rintro ⟨h, _⟩; exact absurd ((mem_reachR _).2 h) hm
theorem bitsL_inc (w : Nat) : (bitsL w).Pairwise (· < ·) := by
  unfold bitsL
  rw [List.pairwise_map]
  refine List.Pairwise.filter _ ?_
  exact List.pairwise_lt_range.imp fun h => by omega
theorem row_inc (N : Nat) (l : List EdgeT) (r v : Nat) : (domRow N l r v).Pairwise (· < ·) := by
  unfold domRow
  split
  · exact bitsL_inc _
  · exact List.Pairwise.nil
theorem rowR_inc (N : Nat) (l : List EdgeT) (r : Nat) (b : Int) : (rowR N l r b).Pairwise (· < ·) := by
  unfold rowR
  refine List.Pairwise.filter _ ?_
  rw [List.pairwise_map]
  exact List.pairwise_lt_range.imp fun h => by omega
theorem row_eq {N r : Nat} {l : List EdgeT} (h1 : 1 ≤ N) (h8 : N ≤ 8) (hl : l.length ≤ 1000) (hri : rightE N l = true) (hr : r < N) {v : Nat} (hv : v < N) : domRow N l r v = rowR N l r v := by
  refine inc_ext (row_inc ..) (rowR_inc ..) fun x => ?_
  rw [mem_row h1 h8 hl hri hr hv]
  unfold rowR
  rw [List.mem_filter]
  have hx : x ∈ (List.range N).map (fun a : Nat => (a : Int)) ↔ 0 ≤ x ∧ x < N := by
    rw [List.mem_map]
    exact ⟨fun ⟨a, ha, e⟩ => by have := List.mem_range.1 ha; omega, fun h => ⟨x.toNat, List.mem_range.2 (by omega), by omega⟩⟩
  rw [hx]
  unfold overR
  rw [Bool.and_eq_true, Bool.or_eq_true, Bool.or_eq_true, decide_eq_true_eq, decide_eq_true_eq, decide_eq_true_eq, Bool.not_eq_true', decide_eq_false_iff_not, mem_reachR, mem_reachR]
  constructor
  · rintro ⟨a, b, c⟩
    refine ⟨b, a, ?_⟩
    rcases c with c | c
    · exact .inl (.inl c)
    · by_cases e : x = r
      · exact .inl (.inr e)
      · exact .inr fun h => c (go_pw (fun h => e h.symm) h).1
  · rintro ⟨b, a, c⟩
    refine ⟨a, b, ?_⟩
    by_cases e : x = v
    · exact .inl e
    · refine .inr fun h => ?_
      rcases c with (c | c) | c
      · exact e c
      · subst c; exact e (pw_root h).symm
      · exact c (pw_go hr h fun h => e h.symm)
/-- x is over v. -/
def Ov (N : Nat) (l : List EdgeT) (r : Nat) (x v : Int) : Prop := Rch N l [(r : Int)] v ∧ (0 ≤ x ∧ x < N) ∧ (x = v ∨ ¬ Pw N l r x v)
theorem pw_two {N r : Nat} {l : List EdgeT} {c x : Int} {w : Int} (h : Pw N l r c w) : Pw N l r x w ∨ Pw N l r c x := by
  induction h with
  | root => exact .inl .root
  | @step u w hu hx hv ih =>
    rcases ih with ih | ih
    · by_cases e : u = x
      · subst e; exact .inr hu
      · exact .inl (.step ih e hv)
    · exact .inr ih
theorem ov_trans {N r : Nat} {l : List EdgeT} {c x v : Int} (h1 : Ov N l r c x) (h2 : Ov N l r x v) : Ov N l r c v := by
  refine ⟨h2.1, h1.2.1, ?_⟩
  rcases h2.2.2 with e | h
  · subst e; exact h1.2.2
  · rcases h1.2.2 with e | h3
    · subst e; exact .inr h
    · exact .inr fun hp => (pw_two (x := x) hp).elim h h3
theorem rch_two {N r : Nat} {l : List EdgeT} (x v : Int) {w : Int} (h : Rch N l [(r : Int)] w) : (Pw N l r x w ∧ Pw N l r v w) ∨ Pw N l r x v ∨ Pw N l r v x := by
  induction h with
  | root hm _ => rw [List.mem_singleton.1 hm]; exact .inl ⟨.root, .root⟩
  | @step u w hu hv ih =>
    rcases ih with ⟨a, b⟩ | ih
    · by_cases e : u = x
      · subst e; exact .inr (.inr b)
      · by_cases e2 : u = v
        · subst e2; exact .inr (.inl a)
        · exact .inl ⟨.step a e hv, .step b e2 hv⟩
    · exact .inr ih
theorem ov_anti {N r : Nat} {l : List EdgeT} {x v : Int} (h1 : Ov N l r x v) (h2 : Ov N l r v x) : x = v := by
  rcases h1.2.2 with e | a
  · exact e
  · rcases h2.2.2 with e | b
    · exact e.symm
    · rcases rch_two x v h1.1 with ⟨h, _⟩ | h | h
      · exact absurd h a
      · exact absurd h a
      · exact absurd h b
/-- Of two that are over one, one is over the other one. -/
theorem ov_line {N r : Nat} {l : List EdgeT} (_hr : r < N) {a c v : Int} (h1 : Ov N l r a v) (h2 : Ov N l r c v) (ra : Rch N l [(r : Int)] a) (rc : Rch N l [(r : Int)] c) : Ov N l r a c ∨ Ov N l r c a := by
  by_cases e : a = c
  · subst e; exact .inl ⟨ra, h1.2.1, .inl rfl⟩
  by_cases k1 : Pw N l r a c
  · by_cases k2 : Pw N l r c a
    · -- each is reached without the other one: so is v
      have key : ∀ {w : Int}, Rch N l [(r : Int)] w → (Pw N l r a w ∧ w ≠ a) ∨ (Pw N l r c w ∧ w ≠ c) := by
        intro w hw
        induction hw with
        | root hm _ =>
          rw [List.mem_singleton.1 hm]
          by_cases e2 : (r : Int) = a
          · exact .inr ⟨.root, fun h => e (e2.symm.trans h)⟩
          · exact .inl ⟨.root, e2⟩
        | @step u w hu hv ih =>
          rcases ih with ⟨p, q⟩ | ⟨p, q⟩
          · by_cases e2 : w = a
            · subst e2; exact .inr ⟨k2, e⟩
            · exact .inl ⟨.step p q hv, e2⟩
          · by_cases e2 : w = c
            · subst e2; exact .inl ⟨k1, fun h => e h.symm⟩
            · exact .inr ⟨.step p q hv, e2⟩
      rcases key h1.1 with ⟨p, q⟩ | ⟨p, q⟩
      · rcases h1.2.2 with e2 | h
        · exact absurd e2.symm q
        · exact absurd p h
      · rcases h2.2.2 with e2 | h
        · exact absurd e2.symm q
        · exact absurd p h
    · exact .inr ⟨ra, h2.2.1, .inr k2⟩
  · exact .inl ⟨rc, h1.2.1, .inr k1⟩
end Go.Proofs.YtljbnigceammdaaGreatDoor
