/-
  Df; Dg; Di: what the claim uses of them.
-/
import Derived.Test.YtljbnigceammdaaGreatDoorBn44
namespace Go.Proofs.YtljbnigceammdaaGreatDoor
open Go.RowKit
set_option maxRecDepth 100000
theorem domAll_get {N : Nat} {l : List EdgeT} {r v : Nat} (hv : v < N) : (domAll N l r)[((v : Int)).toNat]? = some (domRow N l r v) := by
  unfold domAll
  rw [Int.toNat_natCast, List.getElem?_map, List.getElem?_range hv]; rfl
theorem domRow_small (N : Nat) (l : List EdgeT) (r v : Nat) : (domRow N l r v).length ≤ 8 := by
  unfold domRow
  split
  · unfold bitsL; rw [List.length_map]; exact Nat.le_trans (List.length_filter_le ..) (by simp)
  · exact Nat.zero_le _
/-- What Over tells. -/
def overE (N : Nat) (a b : Int) : Int := if 0 ≤ a ∧ a < N ∧ 0 ≤ b ∧ b < N then 0 else 2
def overB (N : Nat) (l : List EdgeT) (r : Nat) (a b : Int) : Bool := decide (0 ≤ a ∧ a < N ∧ 0 ≤ b ∧ b < N) && decide (a ∈ domRow N l r b.toNat)
theorem any_inD (l : List Int) (x : Int) : (l.any fun z => decide (x = z)) = decide (x ∈ l) := by
  rw [Bool.eq_iff_iff, List.any_eq_true, decide_eq_true_eq]
  exact ⟨fun ⟨z, h1, h2⟩ => by rw [of_decide_eq_true h2]; exact h1, fun h => ⟨x, h, decide_eq_true rfl⟩⟩
theorem aDomOver (N r : Nat) (a b : Int) (l : List EdgeT) (σ : Hp) (h1 : 1 ≤ N) (h8 : N ≤ 8) (hl : l.length ≤ 1000) (hri : rightE N l = true) (hr : r < N) (hg : (gT, tabT) ∈ σ) : ACalls Tryz.prog 13 [.int .i64 N, .fsl edgeSh l, .int .i64 r, .int .i64 a, .int .i64 b] σ (Ret (.tup [.bool (overB N l r a b), .int .i64 (overE N a b)]) σ) := by
  obtain ⟨z, hz⟩ : ∃ z : Int, z = 0 := ⟨_, rfl⟩
  have hA : ∀ σ, (gT, tabT) ∈ σ → ACalls Tryz.prog 11 [.int .i64 N, .fsl edgeSh l, .int .i64 r] σ (Ret (.tup [.fsl (.slice (.int .i64)) (domAll N l r), .int .i64 z]) σ) := fun σ h => hz ▸ aDomAll N r l σ h1 h8 hl hri hr h
  refine okF Tryz.func13 (by kernel_rfl) ?_
  refine callR [] (hA _ hg) ?_
  refine bcond_split (fun c1 => ?_) (fun c1 => ?_)
  · have c1 : ¬ (z = 0) := by simpa using c1
    exact absurd hz (by assumption)
  · have c1 : z = 0 := by simpa using c1
    refine bcond_dec (fun c2 => ?_) (fun c2 => ?_)
    · have c2 : a < 0 := c2
      exact .done ⟨by unfold overB overE; rw [decide_eq_false (by omega), if_neg (by omega)]; rfl, rfl⟩
    · have c2 : ¬ (a < 0) := c2
      refine bcond_dec (fun c3 => ?_) (fun c3 => ?_)
      · have c3 : (↑N : Int) ≤ a := c3
        exact .done ⟨by unfold overB overE; rw [decide_eq_false (by omega), if_neg (by omega)]; rfl, rfl⟩
      · have c3 : ¬ ((↑N : Int) ≤ a) := c3
        refine bcond_dec (fun c4 => ?_) (fun c4 => ?_)
        · have c4 : b < 0 := c4
          exact .done ⟨by unfold overB overE; rw [decide_eq_false (by omega), if_neg (by omega)]; rfl, rfl⟩
        · have c4 : ¬ (b < 0) := c4
          refine bcond_dec (fun c5 => ?_) (fun c5 => ?_)
          · have c5 : (↑N : Int) ≤ b := c5
            exact .done ⟨by unfold overB overE; rw [decide_eq_false (by omega), if_neg (by omega)]; rfl, rfl⟩
          · have c5 : ¬ ((↑N : Int) ≤ b) := c5
            refine With.mk rfl ?_
            have hrl := domRow_small N l r b.toNat
            refine IdxF.mk (domRow N l r b.toNat) (by omega) (by have := domAll_get (l := l) (r := r) (show b.toNat < N by omega); rwa [Int.toNat_of_nonneg (by omega)] at this) ?_
            refine callR [] (acalls_eq (aContainsI (domRow N l r b.toNat) a _ (by omega)) (av_bool (any_inD _ _))) ?_
            exact .done ⟨by unfold overB overE; rw [show decide (0 ≤ a ∧ a < (N : Int) ∧ 0 ≤ b ∧ b < (N : Int)) = true from decide_eq_true (by omega), if_pos (by omega), Bool.true_and]; rfl, rfl⟩
end Go.Proofs.YtljbnigceammdaaGreatDoor
namespace Go.Proofs.YtljbnigceammdaaGreatDoor
open Go.RowKit
set_option maxRecDepth 100000
/-- The edges that don't touch a node. -/
def withoutE (l : List EdgeT) (a : Int) : List EdgeT := l.filter fun e => decide (e.1 ≠ a) && decide (e.2.1 ≠ a)
theorem mem_without {l : List EdgeT} {a : Int} {e : EdgeT} : e ∈ withoutE l a ↔ e ∈ l ∧ e.1 ≠ a ∧ e.2.1 ≠ a := by
  unfold withoutE
  rw [List.mem_filter, Bool.and_eq_true, decide_eq_true_eq, decide_eq_true_eq]
/-- Whether each way from r to b has a in it. -/
def overR (N : Nat) (l : List EdgeT) (r : Nat) (a b : Int) : Bool := decide (b ∈ reachR N l [(r : Int)]) && (decide (a = b) || decide (a = r) || !decide (b ∈ reachR N (withoutE l a) [(r : Int)]))
def rowR (N : Nat) (l : List EdgeT) (r : Nat) (b : Int) : List Int := ((List.range N).map fun a : Nat => (a : Int)).filter fun a => overR N l r a b
theorem pw_go {N r : Nat} {l : List EdgeT} {x : Int} (hr : r < N) : ∀ {v : Int}, Pw N l r x v → v ≠ x → Rch N (withoutE l x) [(r : Int)] v := by
  intro v h
  induction h with
  | root => exact fun _ => .root (List.mem_singleton.2 rfl) (by omega)
  | @step u v hu hx hv ih =>
    intro hvx
    obtain ⟨q1, q2, e, he, e1, e2⟩ := mem_toS.1 hv
    exact .step (ih hx) (mem_toS.2 ⟨q1, q2, e, mem_without.2 ⟨he, by rw [e1]; exact hx, by rw [e2]; exact hvx⟩, e1, e2⟩)
theorem go_pw {N r : Nat} {l : List EdgeT} {x : Int} (hx : (r : Int) ≠ x) {v : Int} (h : Rch N (withoutE l x) [(r : Int)] v) : Pw N l r x v ∧ v ≠ x := by
  induction h with
  | root hm _ => rw [List.mem_singleton.1 hm]; exact ⟨.root, hx⟩
  | step _ hb ih =>
    obtain ⟨q1, q2, e, he, e1, e2⟩ := mem_toS.1 hb
    obtain ⟨he, n1, n2⟩ := mem_without.1 he
    exact ⟨.step ih.1 ih.2 (mem_toS.2 ⟨q1, q2, e, he, e1, e2⟩), by rw [← e2]; exact n2⟩
theorem pw_root {N r : Nat} {l : List EdgeT} {v : Int} (h : Pw N l r r v) : v = r := by
  induction h with
  | root => rfl
  | step _ hx _ ih => exact absurd ih hx
/-- What is over a node. -/
theorem mem_row {N r : Nat} {l : List EdgeT} (h1 : 1 ≤ N) (h8 : N ≤ 8) (hl : l.length ≤ 1000) (hri : rightE N l = true) (hr : r < N) {v : Nat} (hv : v < N) (x : Int) : x ∈ domRow N l r v ↔ Rch N l [(r : Int)] v ∧ (0 ≤ x ∧ x < N) ∧ (x = v ∨ ¬ Pw N l r x v) := by
  have hee : ∀ e ∈ l, (0 ≤ e.1 ∧ e.1 < (N : Int)) ∧ 0 ≤ e.2.1 ∧ e.2.1 < (N : Int) := fun e he => by
    unfold rightE at hri
    simp only [Bool.and_eq_true, List.all_eq_true] at hri
    have := hri.2 e he
    exact ⟨node_iff.1 this.1, node_iff.1 this.2⟩
  obtain ⟨_, q2, q3⟩ := dom_sol (r := r) h1 h8 (by omega) hee hr v hv
  unfold domRow
  by_cases hm : (v : Int) ∈ reachR N l [(r : Int)]
  · rw [if_pos hm]
    have hrc := (mem_reachR _).1 hm
    unfold bitsL
    rw [List.mem_map]
    constructor
    · rintro ⟨k, hk, rfl⟩
      have hb := (List.mem_filter.1 hk).2
      rw [Nat.testBit_or, pow_bit, Bool.or_eq_true, decide_eq_true_eq] at hb
      rcases hb with hb | hb
      · have := (q3 k).1 hb
        exact ⟨hrc, by omega, .inr this.2⟩
      · exact ⟨hrc, by omega, .inl (by omega)⟩
    · rintro ⟨_, hx, h⟩
      refine ⟨x.toNat, List.mem_filter.2 ⟨List.mem_range.2 (by omega), ?_⟩, by omega⟩
      rw [Nat.testBit_or, pow_bit, Bool.or_eq_true, decide_eq_true_eq]
      rcases h with h | h
      · exact .inr (by omega)
      · exact .inl ((q3 _).2 ⟨by omega, by rw [Int.toNat_of_nonneg hx.1]; exact h⟩)
  · rw [if_neg hm]
    constructor
    · intro h; cases h
    · rintro ⟨h, _⟩; exact absurd ((mem_reachR _).2 h) hm
theorem bitsL_inc (w : Nat) : (bitsL w).Pairwise (· < ·) := by
  unfold bitsL
  rw [List.pairwise_map]
  refine List.Pairwise.filter _ ?_
  exact List.pairwise_lt_range.imp fun h => by omega
theorem row_inc (N : Nat) (l : List EdgeT) (r v : Nat) : (domRow N l r v).Pairwise (· < ·) := by
  unfold domRow
  split
  · exact bitsL_inc _
  · exact List.Pairwise.nil
theorem rowR_inc (N : Nat) (l : List EdgeT) (r : Nat) (b : Int) : (rowR N l r b).Pairwise (· < ·) := by
  unfold rowR
  refine List.Pairwise.filter _ ?_
  rw [List.pairwise_map]
  exact List.pairwise_lt_range.imp fun h => by omega
theorem row_eq {N r : Nat} {l : List EdgeT} (h1 : 1 ≤ N) (h8 : N ≤ 8) (hl : l.length ≤ 1000) (hri : rightE N l = true) (hr : r < N) {v : Nat} (hv : v < N) : domRow N l r v = rowR N l r v := by
  refine inc_ext (row_inc ..) (rowR_inc ..) fun x => ?_
  rw [mem_row h1 h8 hl hri hr hv]
  unfold rowR
  rw [List.mem_filter]
  have hx : x ∈ (List.range N).map (fun a : Nat => (a : Int)) ↔ 0 ≤ x ∧ x < N := by
    rw [List.mem_map]
    exact ⟨fun ⟨a, ha, e⟩ => by have := List.mem_range.1 ha; omega, fun h => ⟨x.toNat, List.mem_range.2 (by omega), by omega⟩⟩
  rw [hx]
  unfold overR
  rw [Bool.and_eq_true, Bool.or_eq_true, Bool.or_eq_true, decide_eq_true_eq, decide_eq_true_eq, decide_eq_true_eq, Bool.not_eq_true', decide_eq_false_iff_not, mem_reachR, mem_reachR]
  constructor
  · rintro ⟨a, b, c⟩
    refine ⟨b, a, ?_⟩
    rcases c with c | c
    · exact .inl (.inl c)
    · by_cases e : x = r
      · exact .inl (.inr e)
      · exact .inr fun h => c (go_pw (fun h => e h.symm) h).1
  · rintro ⟨b, a, c⟩
    refine ⟨a, b, ?_⟩
    by_cases e : x = v
    · exact .inl e
    · refine .inr fun h => ?_
      rcases c with (c | c) | c
      · exact e c
      · subst c; exact e (pw_root h).symm
      · exact c (pw_go hr h fun h => e h.symm)
/-- x is over v. -/
def Ov (N : Nat) (l : List EdgeT) (r : Nat) (x v : Int) : Prop := Rch N l [(r : Int)] v ∧ (0 ≤ x ∧ x < N) ∧ (x = v ∨ ¬ Pw N l r x v)
theorem rch_two {N r : Nat} {l : List EdgeT} (x v : Int) {w : Int} (h : Rch N l [(r : Int)] w) : (Pw N l r x w ∧ Pw N l r v w) ∨ Pw N l r x v ∨ Pw N l r v x := by
  induction h with
  | root hm _ => rw [List.mem_singleton.1 hm]; exact .inl ⟨.root, .root⟩
  | @step u w hu hv ih =>
    rcases ih with ⟨a, b⟩ | ih
    · by_cases e : u = x
      · subst e; exact .inr (.inr b)
      · by_cases e2 : u = v
        · subst e2; exact .inr (.inl a)
        · exact .inl ⟨.step a e hv, .step b e2 hv⟩
    · exact .inr ih
theorem ov_anti {N r : Nat} {l : List EdgeT} {x v : Int} (h1 : Ov N l r x v) (h2 : Ov N l r v x) : x = v := by
  rcases h1.2.2 with e | a
  · exact e
  · rcases h2.2.2 with e | b
    · exact e.symm
    · rcases rch_two x v h1.1 with ⟨h, _⟩ | h | h
      · exact absurd h a
      · exact absurd h a
      · exact absurd h b
end Go.Proofs.YtljbnigceammdaaGreatDoor
namespace Go.Proofs.YtljbnigceammdaaGreatDoor
open Go.RowKit
set_option maxRecDepth 100000
/-- A graph, and a root. -/
structure DG (N r : Nat) (l : List EdgeT) : Prop where
  h1 : 1 ≤ N
  h8 : N ≤ 8
  hl : l.length ≤ 1000
  ri : rightE N l = true
  hr : r < N
theorem row_ov {N r : Nat} {l : List EdgeT} (g : DG N r l) {v : Int} (hv : 0 ≤ v ∧ v < N) (x : Int) : x ∈ domRow N l r v.toNat ↔ Ov N l r x v := by
  rw [mem_row g.h1 g.h8 g.hl g.ri g.hr (by omega)]
  unfold Ov
  rw [Int.toNat_of_nonneg hv.1]
theorem ov_self {N r : Nat} {l : List EdgeT} {v : Int} (h : Rch N l [(r : Int)] v) : Ov N l r v v := ⟨h, h.node, .inl rfl⟩
theorem rch_one {N r : Nat} {l : List EdgeT} (x : Int) {w : Int} (_hr : r < N) (h : Rch N l [(r : Int)] w) : Pw N l r x w ∨ Rch N l [(r : Int)] x := by
  induction h with
  | root hm _ => rw [List.mem_singleton.1 hm]; exact .inl .root
  | @step u w hu hv ih =>
    rcases ih with ih | ih
    · by_cases e : u = x
      · subst e; exact .inr hu
      · exact .inl (.step ih e hv)
    · exact .inr ih
theorem ov_rch {N r : Nat} {l : List EdgeT} {x v : Int} (hr : r < N) (h : Ov N l r x v) : Rch N l [(r : Int)] x := by
  rcases h.2.2 with e | e
  · subst e; exact h.1
  · exact (rch_one x hr h.1).resolve_left e
theorem all_getD {N r : Nat} {l : List EdgeT} {x : Int} (hx : 0 ≤ x ∧ x < N) : (domAll N l r).getD x.toNat [] = domRow N l r x.toNat := by
  have := domAll_get (l := l) (r := r) (show x.toNat < N by omega)
  rw [Int.toNat_natCast] at this
  rw [List.getD_eq_getElem?_getD, this]; rfl
end Go.Proofs.YtljbnigceammdaaGreatDoor
