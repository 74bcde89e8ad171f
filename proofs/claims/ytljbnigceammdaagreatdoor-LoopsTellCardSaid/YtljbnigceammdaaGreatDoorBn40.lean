/-
  Df; Dg; Di; Lpa: what the claim uses of them.
-/
import Derived.Test.YtljbnigceammdaaGreatDoorBn39
import Derived.Test.YtljbnigceammdaaGreatDoorBn32
namespace Go.Proofs.YtljbnigceammdaaGreatDoor
open Go.RowKit
set_option maxRecDepth 100000
theorem domAll_get {N : Nat} {l : List EdgeT} {r v : Nat} (hv : v < N) : (domAll N l r)[((v : Int)).toNat]? = some (domRow N l r v) := by
  unfold domAll
  rw [Int.toNat_natCast, List.getElem?_map, List.getElem?_range hv]; rfl
theorem domRow_small (N : Nat) (l : List EdgeT) (r v : Nat) : (domRow N l r v).length ≤ 8 := by
  unfold domRow
  split
  · unfold bitsL; rw [List.length_map]; exact Nat.le_trans (List.length_filter_le ..) (by simp)
  · exact Nat.zero_le _
/-- What Over tells. -/
def overE (N : Nat) (a b : Int) : Int := if 0 ≤ a ∧ a < N ∧ 0 ≤ b ∧ b < N then 0 else 2
def overB (N : Nat) (l : List EdgeT) (r : Nat) (a b : Int) : Bool := decide (0 ≤ a ∧ a < N ∧ 0 ≤ b ∧ b < N) && decide (a ∈ domRow N l r b.toNat)
theorem any_inD (l : List Int) (x : Int) : (l.any fun z => decide (x = z)) = decide (x ∈ l) := by
  rw [Bool.eq_iff_iff, List.any_eq_true, decide_eq_true_eq]
  exact ⟨fun ⟨z, h1, h2⟩ => by rw [of_decide_eq_true h2]; exact h1, fun h => ⟨x, h, decide_eq_true rfl⟩⟩
end Go.Proofs.YtljbnigceammdaaGreatDoor
namespace Go.Proofs.YtljbnigceammdaaGreatDoor
open Go.RowKit
set_option maxRecDepth 100000
/-- The edges that don't touch a node. -/
def withoutE (l : List EdgeT) (a : Int) : List EdgeT := l.filter fun e => decide (e.1 ≠ a) && decide (e.2.1 ≠ a)
theorem mem_without {l : List EdgeT} {a : Int} {e : EdgeT} : e ∈ withoutE l a ↔ e ∈ l ∧ e.1 ≠ a ∧ e.2.1 ≠ a := by
  unfold withoutE
  rw [List.mem_filter, Bool.and_eq_true, decide_eq_true_eq, decide_eq_true_eq]
/-- Whether each way from r to b has a in it. -/
def overR (N : Nat) (l : List EdgeT) (r : Nat) (a b : Int) : Bool := decide (b ∈ reachR N l [(r : Int)]) && (decide (a = b) || decide (a = r) || !decide (b ∈ reachR N (withoutE l a) [(r : Int)]))
def rowR (N : Nat) (l : List EdgeT) (r : Nat) (b : Int) : List Int := ((List.range N).map fun a : Nat => (a : Int)).filter fun a => overR N l r a b
theorem pw_go {N r : Nat} {l : List EdgeT} {x : Int} (hr : r < N) : ∀ {v : Int}, Pw N l r x v → v ≠ x → Rch N (withoutE l x) [(r : Int)] v := by
  intro v h
  induction h with
  | root => exact fun _ => .root (List.mem_singleton.2 rfl) (by omega)
  | @step u v hu hx hv ih =>
    intro hvx
    obtain ⟨q1, q2, e, he, e1, e2⟩ := mem_toS.1 hv
    exact .step (ih hx) (mem_toS.2 ⟨q1, q2, e, mem_without.2 ⟨he, by rw [e1]; exact hx, by rw [e2]; exact hvx⟩, e1, e2⟩)
theorem go_pw {N r : Nat} {l : List EdgeT} {x : Int} (hx : (r : Int) ≠ x) {v : Int} (h : Rch N (withoutE l x) [(r : Int)] v) : Pw N l r x v ∧ v ≠ x := by
  induction h with
  | root hm _ => rw [List.mem_singleton.1 hm]; exact ⟨.root, hx⟩
  | step _ hb ih =>
    obtain ⟨q1, q2, e, he, e1, e2⟩ := mem_toS.1 hb
    obtain ⟨he, n1, n2⟩ := mem_without.1 he
    exact ⟨.step ih.1 ih.2 (mem_toS.2 ⟨q1, q2, e, he, e1, e2⟩), by rw [← e2]; exact n2⟩
theorem pw_root {N r : Nat} {l : List EdgeT} {v : Int} (h : Pw N l r r v) : v = r := by
  induction h with
  | root => rfl
  | step _ hx _ ih => exact absurd ih hx
/-- What is over a node. -/
theorem mem_row {N r : Nat} {l : List EdgeT} (h1 : 1 ≤ N) (h8 : N ≤ 8) (hl : l.length ≤ 1000) (hri : rightE N l = true) (hr : r < N) {v : Nat} (hv : v < N) (x : Int) : x ∈ domRow N l r v ↔ Rch N l [(r : Int)] v ∧ (0 ≤ x ∧ x < N) ∧ (x = v ∨ ¬ Pw N l r x v) := by
  have hee : ∀ e ∈ l, (0 ≤ e.1 ∧ e.1 < (N : Int)) ∧ 0 ≤ e.2.1 ∧ e.2.1 < (N : Int) := fun e he => by
    unfold rightE at hri
    simp only [Bool.and_eq_true, List.all_eq_true] at hri
    have := hri.2 e he
    exact ⟨node_iff.1 this.1, node_iff.1 this.2⟩
  obtain ⟨_, q2, q3⟩ := dom_sol (r := r) h1 h8 (by omega) hee hr v hv
  unfold domRow
  by_cases hm : (v : Int) ∈ reachR N l [(r : Int)]
  · rw [if_pos hm]
    have hrc := (mem_reachR _).1 hm
    unfold bitsL
    rw [List.mem_map]
    constructor
    · rintro ⟨k, hk, rfl⟩
      have hb := (List.mem_filter.1 hk).2
      rw [Nat.testBit_or, pow_bit, Bool.or_eq_true, decide_eq_true_eq] at hb
      rcases hb with hb | hb
      · have := (q3 k).1 hb
        exact ⟨hrc, by omega, .inr this.2⟩
      · exact ⟨hrc, by omega, .inl (by omega)⟩
    · rintro ⟨_, hx, h⟩
      refine ⟨x.toNat, List.mem_filter.2 ⟨List.mem_range.2 (by omega), ?_⟩, by omega⟩
      rw [Nat.testBit_or, pow_bit, Bool.or_eq_true, decide_eq_true_eq]
      rcases h with h | h
      · exact .inr (by omega)
      · exact .inl ((q3 _).2 ⟨by omega, by rw [Int.toNat_of_nonneg hx.1]; exact h⟩)
  · rw [if_neg hm]
    constructor
    · intro h; cases h
    · rintro ⟨h, _⟩; exact absurd ((mem_reachR _).2 h) hm
theorem bitsL_inc (w : Nat) : (bitsL w).Pairwise (· < ·) := by
  unfold bitsL
  rw [List.pairwise_map]
  refine List.Pairwise.filter _ ?_
  exact List.pairwise_lt_range.imp fun h => by omega
theorem row_inc (N : Nat) (l : List EdgeT) (r v : Nat) : (domRow N l r v).Pairwise (· < ·) := by
  unfold domRow
  split
  · exact bitsL_inc _
  · exact List.Pairwise.nil
theorem rowR_inc (N : Nat) (l : List EdgeT) (r : Nat) (b : Int) : (rowR N l r b).Pairwise (· < ·) := by
  unfold rowR
  refine List.Pairwise.filter _ ?_
  rw [List.pairwise_map]
  exact List.pairwise_lt_range.imp fun h => by omega
theorem row_eq {N r : Nat} {l : List EdgeT} (h1 : 1 ≤ N) (h8 : N ≤ 8) (hl : l.length ≤ 1000) (hri : rightE N l = true) (hr : r < N) {v : Nat} (hv : v < N) : domRow N l r v = rowR N l r v := by
  refine inc_ext (row_inc ..) (rowR_inc ..) fun x => ?_
  rw [mem_row h1 h8 hl hri hr hv]
  unfold rowR
  rw [List.mem_filter]
  have hx : x ∈ (List.range N).map (fun a : Nat => (a : Int)) ↔ 0 ≤ x ∧ x < N := by
    rw [List.mem_map]
    exact ⟨fun ⟨a, ha, e⟩ => by have := List.mem_range.1 ha; omega, fun h => ⟨x.toNat, List.mem_range.2 (by omega), by omega⟩⟩
  rw [hx]
  unfold overR
  rw [Bool.and_eq_true, Bool.or_eq_true, Bool.or_eq_true, decide_eq_true_eq, decide_eq_true_eq, decide_eq_true_eq, Bool.not_eq_true', decide_eq_false_iff_not, mem_reachR, mem_reachR]
  constructor
  · rintro ⟨a, b, c⟩
    refine ⟨b, a, ?_⟩
    rcases c with c | c
    · exact .inl (.inl c)
    · by_cases e : x = r
      · exact .inl (.inr e)
      · exact .inr fun h => c (go_pw (fun h => e h.symm) h).1
  · rintro ⟨b, a, c⟩
    refine ⟨a, b, ?_⟩
    by_cases e : x = v
    · exact .inl e
    · refine .inr fun h => ?_
      rcases c with (c | c) | c
      · exact e c
      · subst c; exact e (pw_root h).symm
      · exact c (pw_go hr h fun h => e h.symm)
/-- x is over v. -/
def Ov (N : Nat) (l : List EdgeT) (r : Nat) (x v : Int) : Prop := Rch N l [(r : Int)] v ∧ (0 ≤ x ∧ x < N) ∧ (x = v ∨ ¬ Pw N l r x v)
end Go.Proofs.YtljbnigceammdaaGreatDoor
namespace Go.Proofs.YtljbnigceammdaaGreatDoor
open Go.RowKit
set_option maxRecDepth 100000
/-- A graph, and a root. -/
structure DG (N r : Nat) (l : List EdgeT) : Prop where
  h1 : 1 ≤ N
  h8 : N ≤ 8
  hl : l.length ≤ 1000
  ri : rightE N l = true
  hr : r < N
theorem row_ov {N r : Nat} {l : List EdgeT} (g : DG N r l) {v : Int} (hv : 0 ≤ v ∧ v < N) (x : Int) : x ∈ domRow N l r v.toNat ↔ Ov N l r x v := by
  rw [mem_row g.h1 g.h8 g.hl g.ri g.hr (by omega)]
  unfold Ov
  rw [Int.toNat_of_nonneg hv.1]
theorem rch_one {N r : Nat} {l : List EdgeT} (x : Int) {w : Int} (_hr : r < N) (h : Rch N l [(r : Int)] w) : Pw N l r x w ∨ Rch N l [(r : Int)] x := by
  induction h with
  | root hm _ => rw [List.mem_singleton.1 hm]; exact .inl .root
  | @step u w hu hv ih =>
    rcases ih with ih | ih
    · by_cases e : u = x
      · subst e; exact .inr hu
      · exact .inl (.step ih e hv)
    · exact .inr ih
theorem ov_rch {N r : Nat} {l : List EdgeT} {x v : Int} (hr : r < N) (h : Ov N l r x v) : Rch N l [(r : Int)] x := by
  rcases h.2.2 with e | e
  · subst e; exact h.1
  · exact (rch_one x hr h.1).resolve_left e
theorem all_getD {N r : Nat} {l : List EdgeT} {x : Int} (hx : 0 ≤ x ∧ x < N) : (domAll N l r).getD x.toNat [] = domRow N l r x.toNat := by
  have := domAll_get (l := l) (r := r) (show x.toNat < N by omega)
  rw [Int.toNat_natCast] at this
  rw [List.getD_eq_getElem?_getD, this]; rfl
end Go.Proofs.YtljbnigceammdaaGreatDoor
namespace Go.Proofs.YtljbnigceammdaaGreatDoor
open Go.RowKit
set_option maxRecDepth 100000
/-- The edges back to a node over them. -/
def backP (N : Nat) (l : List EdgeT) (r : Nat) : List PrT := (sortedE l).filter fun x => decide (x.2.1 ∈ domRow N l r x.1.toNat)
/-- From where they come to h. -/
def fromP (B : List PrT) (h : Int) : List Int := (B.filter fun x => decide (x.2.1 = h)).map (·.1)
/-- Some of F is reached from a, without h. -/
inductive Bk (N : Nat) (l : List EdgeT) (h : Int) (F : List Int) : Int → Prop where
  | base {f : Int} (hf : f ∈ F) (hne : f ≠ h) : Bk N l h F f
  | step {a b : Int} (hb : Bk N l h F b) (hab : b ∈ toS N l a) (hne : a ≠ h) : Bk N l h F a
theorem Bk.ne {N : Nat} {l : List EdgeT} {h : Int} {F : List Int} {a : Int} (hb : Bk N l h F a) : a ≠ h := by
  cases hb <;> assumption
theorem Bk.node {N : Nat} {l : List EdgeT} {h : Int} {F : List Int} {a : Int} (hb : Bk N l h F a) (hF : ∀ f ∈ F, 0 ≤ f ∧ f < N) : 0 ≤ a ∧ a < N := by
  cases hb with
  | base hf _ => exact hF _ hf
  | step _ hab _ => exact (mem_toS.1 hab).2.1
theorem toS_without {N : Nat} {l : List EdgeT} {h a b : Int} : b ∈ toS N (withoutE l h) a ↔ b ∈ toS N l a ∧ a ≠ h ∧ b ≠ h := by
  rw [mem_toS, mem_toS]
  constructor
  · rintro ⟨q1, q2, e, he, e1, e2⟩
    obtain ⟨he, n1, n2⟩ := mem_without.1 he
    exact ⟨⟨q1, q2, e, he, e1, e2⟩, by rw [← e1]; exact n1, by rw [← e2]; exact n2⟩
  · rintro ⟨⟨q1, q2, e, he, e1, e2⟩, n1, n2⟩
    exact ⟨q1, q2, e, mem_without.2 ⟨he, by rw [e1]; exact n1, by rw [e2]; exact n2⟩, e1, e2⟩
theorem bk_iff {N : Nat} {l : List EdgeT} {h : Int} {F : List Int} (hF : ∀ f ∈ F, 0 ≤ f ∧ f < (N : Int)) {a : Int} : Bk N l h F a ↔ a ≠ h ∧ ∃ f ∈ F, f ≠ h ∧ Rch N (withoutE l h) [a] f := by
  constructor
  · intro hb
    induction hb with
    | @base f hf hne => exact ⟨hne, f, hf, hne, .root (List.mem_singleton.2 rfl) (hF f hf)⟩
    | @step a b hb hab hne ih =>
      obtain ⟨h1, f, h2, h3, h4⟩ := ih
      have := rch_rx.1 h4
      refine ⟨hne, f, h2, h3, rch_rx.2 ⟨(mem_toS.1 hab).2.1, (Rx.one (toS_without.2 ⟨hab, hne, h1⟩)).trans this.2⟩⟩
  · rintro ⟨hne, f, hf, hfn, hr⟩
    obtain ⟨_, hr⟩ := rch_rx.1 hr
    have key : ∀ {x y : Int}, Rx (toS N (withoutE l h)) x y → Bk N l h F y → Bk N l h F x := by
      intro x y hr
      induction hr with
      | refl => exact fun h => h
      | step _ hc ih =>
        obtain ⟨c1, c2, c3⟩ := toS_without.1 hc
        exact fun hb => ih (.step hb c1 c2)
    exact key hr (.base hf hfn)
/-- Is a node in the loop? -/
def inLoop (N : Nat) (l : List EdgeT) (h : Int) (F : List Int) (a : Int) : Bool := decide (a = h) || F.any fun f => decide (f ≠ h) && decide (a ≠ h) && decide (f ∈ reachR N (withoutE l h) [a])
theorem inLoop_iff {N : Nat} {l : List EdgeT} {h : Int} {F : List Int} (hF : ∀ f ∈ F, 0 ≤ f ∧ f < (N : Int)) {a : Int} : inLoop N l h F a = true ↔ a = h ∨ Bk N l h F a := by
  unfold inLoop
  rw [Bool.or_eq_true, decide_eq_true_eq, List.any_eq_true, bk_iff hF]
  refine or_congr_right ?_
  constructor
  · rintro ⟨f, hf, h1⟩
    rw [Bool.and_eq_true, Bool.and_eq_true, decide_eq_true_eq, decide_eq_true_eq, decide_eq_true_eq, mem_reachR] at h1
    exact ⟨h1.1.2, f, hf, h1.1.1, h1.2⟩
  · rintro ⟨h1, f, hf, h2, h3⟩
    refine ⟨f, hf, ?_⟩
    rw [Bool.and_eq_true, Bool.and_eq_true, decide_eq_true_eq, decide_eq_true_eq, decide_eq_true_eq, mem_reachR]
    exact ⟨⟨h2, h1⟩, h3⟩
/-- A loop's nodes. -/
def bodyP (N : Nat) (l : List EdgeT) (h : Int) (F R : List Int) : List Int := R.filter (inLoop N l h F)
/-- All loops, of the heads up to k. -/
def loopsP (N : Nat) (l : List EdgeT) (r k : Nat) : List (Int × List Int × Unit) := ((List.range k).filter fun h : Nat => !(fromP (backP N l r) h).isEmpty).map fun h : Nat => ((h : Int), bodyP N l h (fromP (backP N l r) h) (reachR N l [(r : Int)]), ())
theorem loopsP_succ (N : Nat) (l : List EdgeT) (r k : Nat) : loopsP N l r (k + 1) = loopsP N l r k ++ if (fromP (backP N l r) k).isEmpty then [] else [((k : Int), bodyP N l k (fromP (backP N l r) k) (reachR N l [(r : Int)]), ())] := by
  unfold loopsP
  rw [List.range_succ, List.filter_append, List.map_append]
  congr 1
  cases h : (fromP (backP N l r) k).isEmpty <;> simp [h]
theorem mem_back {N r : Nat} {l : List EdgeT} (g : DG N r l) {x : PrT} : x ∈ backP N l r ↔ x ∈ l ∧ Ov N l r x.2.1 x.1 := by
  unfold backP
  rw [List.mem_filter, sortedE_mem, decide_eq_true_eq]
  refine and_congr_right fun hx => ?_
  have hee : (0 ≤ x.1 ∧ x.1 < (N : Int)) ∧ 0 ≤ x.2.1 ∧ x.2.1 < (N : Int) := by
    have hri := g.ri
    unfold rightE at hri
    simp only [Bool.and_eq_true, List.all_eq_true] at hri
    have := hri.2 x hx
    exact ⟨node_iff.1 this.1, node_iff.1 this.2⟩
  exact row_ov g hee.1 _
theorem mem_from {N r : Nat} {l : List EdgeT} (g : DG N r l) {h f : Int} (hf : f ∈ fromP (backP N l r) h) : Ov N l r h f ∧ h ∈ toS N l f := by
  unfold fromP at hf
  obtain ⟨x, hx, rfl⟩ := List.mem_map.1 hf
  obtain ⟨h1, h2⟩ := List.mem_filter.1 hx
  have h2 := of_decide_eq_true h2
  obtain ⟨h3, h4⟩ := (mem_back g).1 h1
  rw [h2] at h4
  exact ⟨h4, mem_toS.2 ⟨h4.2.1, h4.1.node, x, h3, rfl, h2⟩⟩
theorem from_node {N r : Nat} {l : List EdgeT} (g : DG N r l) {h f : Int} (hf : f ∈ fromP (backP N l r) h) : 0 ≤ f ∧ f < (N : Int) := (mem_from g hf).1.1.node
theorem mem_body {N r : Nat} {l : List EdgeT} (g : DG N r l) {h a : Int} : a ∈ bodyP N l h (fromP (backP N l r) h) (reachR N l [(r : Int)]) ↔ Rch N l [(r : Int)] a ∧ (a = h ∨ Bk N l h (fromP (backP N l r) h) a) := by
  unfold bodyP
  rw [List.mem_filter, mem_reachR, inLoop_iff fun f hf => from_node g hf]
end Go.Proofs.YtljbnigceammdaaGreatDoor
