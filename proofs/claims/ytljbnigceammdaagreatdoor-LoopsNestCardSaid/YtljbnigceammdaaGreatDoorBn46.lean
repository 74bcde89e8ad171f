/-
  Lpa: what the claim uses of them.
-/
import Derived.Test.YtljbnigceammdaaGreatDoorBn45
import Derived.Test.YtljbnigceammdaaGreatDoorBn37
namespace Go.Proofs.YtljbnigceammdaaGreatDoor
open Go.RowKit
set_option maxRecDepth 100000
/-- The edges back to a node over them. -/
def backP (N : Nat) (l : List EdgeT) (r : Nat) : List PrT := (sortedE l).filter fun x => decide (x.2.1 ∈ domRow N l r x.1.toNat)
/-- From where they come to h. -/
def fromP (B : List PrT) (h : Int) : List Int := (B.filter fun x => decide (x.2.1 = h)).map (·.1)
/-- Some of F is reached from a, without h. -/
inductive Bk (N : Nat) (l : List EdgeT) (h : Int) (F : List Int) : Int → Prop where
  | base {f : Int} (hf : f ∈ F) (hne : f ≠ h) : Bk N l h F f
  | step {a b : Int} (hb : Bk N l h F b) (hab : b ∈ toS N l a) (hne : a ≠ h) : Bk N l h F a
theorem Bk.ne {N : Nat} {l : List EdgeT} {h : Int} {F : List Int} {a : Int} (hb : Bk N l h F a) : a ≠ h := by
  cases hb <;> assumption
theorem Bk.node {N : Nat} {l : List EdgeT} {h : Int} {F : List Int} {a : Int} (hb : Bk N l h F a) (hF : ∀ f ∈ F, 0 ≤ f ∧ f < N) : 0 ≤ a ∧ a < N := by
  cases hb with
  | base hf _ => exact hF _ hf
  | step _ hab _ => exact (mem_toS.1 hab).2.1
theorem toS_without {N : Nat} {l : List EdgeT} {h a b : Int} : b ∈ toS N (withoutE l h) a ↔ b ∈ toS N l a ∧ a ≠ h ∧ b ≠ h := by
  rw [mem_toS, mem_toS]
  constructor
  · rintro ⟨q1, q2, e, he, e1, e2⟩
    obtain ⟨he, n1, n2⟩ := mem_without.1 he
    exact ⟨⟨q1, q2, e, he, e1, e2⟩, by rw [← e1]; exact n1, by rw [← e2]; exact n2⟩
  · rintro ⟨⟨q1, q2, e, he, e1, e2⟩, n1, n2⟩
    exact ⟨q1, q2, e, mem_without.2 ⟨he, by rw [e1]; exact n1, by rw [e2]; exact n2⟩, e1, e2⟩
theorem bk_iff {N : Nat} {l : List EdgeT} {h : Int} {F : List Int} (hF : ∀ f ∈ F, 0 ≤ f ∧ f < (N : Int)) {a : Int} : Bk N l h F a ↔ a ≠ h ∧ ∃ f ∈ F, f ≠ h ∧ Rch N (withoutE l h) [a] f := by
  constructor
  · intro hb
    induction hb with
    | @base f hf hne => exact ⟨hne, f, hf, hne, .root (List.mem_singleton.2 rfl) (hF f hf)⟩
    | @step a b hb hab hne ih =>
      obtain ⟨h1, f, h2, h3, h4⟩ := ih
      have := rch_rx.1 h4
      refine ⟨hne, f, h2, h3, rch_rx.2 ⟨(mem_toS.1 hab).2.1, (Rx.one (toS_without.2 ⟨hab, hne, h1⟩)).trans this.2⟩⟩
  · rintro ⟨hne, f, hf, hfn, hr⟩
    obtain ⟨_, hr⟩ := rch_rx.1 hr
    have key : ∀ {x y : Int}, Rx (toS N (withoutE l h)) x y → Bk N l h F y → Bk N l h F x := by
      intro x y hr
      induction hr with
      | refl => exact fun h => h
      | step _ hc ih =>
        obtain ⟨c1, c2, c3⟩ := toS_without.1 hc
        exact fun hb => ih (.step hb c1 c2)
    exact key hr (.base hf hfn)
/-- Is a node in the loop? -/
def inLoop (N : Nat) (l : List EdgeT) (h : Int) (F : List Int) (a : Int) : Bool := decide (a = h) || F.any fun f => decide (f ≠ h) && decide (a ≠ h) && decide (f ∈ reachR N (withoutE l h) [a])
theorem inLoop_iff {N : Nat} {l : List EdgeT} {h : Int} {F : List Int} (hF : ∀ f ∈ F, 0 ≤ f ∧ f < (N : Int)) {a : Int} : inLoop N l h F a = true ↔ a = h ∨ Bk N l h F a := by
  unfold inLoop
  rw [Bool.or_eq_true, decide_eq_true_eq, List.any_eq_true, bk_iff hF]
  refine or_congr_right ?_
  constructor
  · rintro ⟨f, hf, h1⟩
    rw [Bool.and_eq_true, Bool.and_eq_true, decide_eq_true_eq, decide_eq_true_eq, decide_eq_true_eq, mem_reachR] at h1
    exact ⟨h1.1.2, f, hf, h1.1.1, h1.2⟩
  · rintro ⟨h1, f, hf, h2, h3⟩
    refine ⟨f, hf, ?_⟩
    rw [Bool.and_eq_true, Bool.and_eq_true, decide_eq_true_eq, decide_eq_true_eq, decide_eq_true_eq, mem_reachR]
    exact ⟨⟨h2, h1⟩, h3⟩
/-- A loop's nodes. -/
def bodyP (N : Nat) (l : List EdgeT) (h : Int) (F R : List Int) : List Int := R.filter (inLoop N l h F)
/-- All loops, of the heads up to k. -/
def loopsP (N : Nat) (l : List EdgeT) (r k : Nat) : List (Int × List Int × Unit) := ((List.range k).filter fun h : Nat => !(fromP (backP N l r) h).isEmpty).map fun h : Nat => ((h : Int), bodyP N l h (fromP (backP N l r) h) (reachR N l [(r : Int)]), ())
theorem loopsP_succ (N : Nat) (l : List EdgeT) (r k : Nat) : loopsP N l r (k + 1) = loopsP N l r k ++ if (fromP (backP N l r) k).isEmpty then [] else [((k : Int), bodyP N l k (fromP (backP N l r) k) (reachR N l [(r : Int)]), ())] := by
  unfold loopsP
  rw [List.range_succ, List.filter_append, List.map_append]
  congr 1
  cases h : (fromP (backP N l r) k).isEmpty <;> simp [h]
theorem mem_back {N r : Nat} {l : List EdgeT} (g : DG N r l) {x : PrT} : x ∈ backP N l r ↔ x ∈ l ∧ Ov N l r x.2.1 x.1 := by
  unfold backP
  rw [List.mem_filter, sortedE_mem, decide_eq_true_eq]
  refine and_congr_right fun hx => ?_
  have hee : (0 ≤ x.1 ∧ x.1 < (N : Int)) ∧ 0 ≤ x.2.1 ∧ x.2.1 < (N : Int) := by
    have hri := g.ri
    unfold rightE at hri
    simp only [Bool.and_eq_true, List.all_eq_true] at hri
    have := hri.2 x hx
    exact ⟨node_iff.1 this.1, node_iff.1 this.2⟩
  exact row_ov g hee.1 _
theorem mem_from {N r : Nat} {l : List EdgeT} (g : DG N r l) {h f : Int} (hf : f ∈ fromP (backP N l r) h) : Ov N l r h f ∧ h ∈ toS N l f := by
  unfold fromP at hf
  obtain ⟨x, hx, rfl⟩ := List.mem_map.1 hf
  obtain ⟨h1, h2⟩ := List.mem_filter.1 hx
  have h2 := of_decide_eq_true h2
  obtain ⟨h3, h4⟩ := (mem_back g).1 h1
  rw [h2] at h4
  exact ⟨h4, mem_toS.2 ⟨h4.2.1, h4.1.node, x, h3, rfl, h2⟩⟩
theorem from_node {N r : Nat} {l : List EdgeT} (g : DG N r l) {h f : Int} (hf : f ∈ fromP (backP N l r) h) : 0 ≤ f ∧ f < (N : Int) := (mem_from g hf).1.1.node
/-- Whatever is round a head is over it. -/
theorem bk_over {N r : Nat} {l : List EdgeT} (g : DG N r l) {h : Int} {a : Int} (hb : Bk N l h (fromP (backP N l r) h) a) (ha : Rch N l [(r : Int)] a) : Ov N l r h a := by
  have key : ∀ {a : Int}, Bk N l h (fromP (backP N l r) h) a → Pw N l r h a → False := by
    intro a hb
    induction hb with
    | base hf hne =>
      intro hp
      rcases (mem_from g hf).1.2.2 with e | e
      · exact hne e.symm
      · exact e hp
    | step _ hab hne ih => exact fun hp => ih (.step hp hne hab)
  have hh : ∀ {a : Int}, Bk N l h (fromP (backP N l r) h) a → 0 ≤ h ∧ h < (N : Int) := by
    intro a hb
    induction hb with
    | base hf _ => exact (mem_from g hf).1.2.1
    | step _ _ _ ih => exact ih
  exact ⟨ha, hh hb, .inr fun hp => key hb hp⟩
theorem mem_body {N r : Nat} {l : List EdgeT} (g : DG N r l) {h a : Int} : a ∈ bodyP N l h (fromP (backP N l r) h) (reachR N l [(r : Int)]) ↔ Rch N l [(r : Int)] a ∧ (a = h ∨ Bk N l h (fromP (backP N l r) h) a) := by
  unfold bodyP
  rw [List.mem_filter, mem_reachR, inLoop_iff fun f hf => from_node g hf]
theorem body_over {N r : Nat} {l : List EdgeT} (g : DG N r l) {h a : Int} (ha : a ∈ bodyP N l h (fromP (backP N l r) h) (reachR N l [(r : Int)])) : Ov N l r h a := by
  obtain ⟨h1, h2⟩ := (mem_body g).1 ha
  rcases h2 with e | h2
  · subst e; exact ov_self h1
  · exact bk_over g h2 h1
/-- What is round a head of a node that is round another head is round that. -/
theorem body_nest {N r : Nat} {l : List EdgeT} (g : DG N r l) {h k a : Int} (hk : h ∈ bodyP N l k (fromP (backP N l r) k) (reachR N l [(r : Int)])) (ha : a ∈ bodyP N l h (fromP (backP N l r) h) (reachR N l [(r : Int)])) : a ∈ bodyP N l k (fromP (backP N l r) k) (reachR N l [(r : Int)]) := by
  by_cases e : h = k
  · subst e; exact ha
  have hok := body_over g hk
  obtain ⟨hr, hk2⟩ := (mem_body g).1 hk
  have hbk := hk2.resolve_left e
  obtain ⟨ar, ha2⟩ := (mem_body g).1 ha
  refine (mem_body g).2 ⟨ar, ?_⟩
  rcases ha2 with ea | hb
  · subst ea; exact .inr hbk
  · refine .inr ?_
    have key : ∀ {a : Int}, Bk N l h (fromP (backP N l r) h) a → Bk N l k (fromP (backP N l r) k) a := by
      intro a hb
      have hne : ∀ {a : Int}, Bk N l h (fromP (backP N l r) h) a → a ≠ k := fun {a} hb ek => by
        subst ek
        have h1 := bk_over g hb (ov_rch g.hr hok)
        exact e (ov_anti h1 hok)
      induction hb with
      | base hf hnh => exact .step hbk (mem_from g hf).2 (hne (.base hf hnh))
      | step hb2 hab hnh ih => exact .step ih hab (hne (.step hb2 hab hnh))
    exact key hb
end Go.Proofs.YtljbnigceammdaaGreatDoor
