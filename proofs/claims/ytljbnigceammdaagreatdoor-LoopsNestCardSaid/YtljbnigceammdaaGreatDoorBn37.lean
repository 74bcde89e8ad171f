/-
  Sb: what the claim uses of them.
-/
import Derived.Test.YtljbnigceammdaaGreatDoorBn36
import Derived.Test.YtljbnigceammdaaGreatDoorBn31
import Derived.Test.YtljbnigceammdaaGreatDoorBn15
namespace Go.Proofs.YtljbnigceammdaaGreatDoor
open Go.RowKit
set_option maxRecDepth 100000
/-- What is reached from a part is in it, or in an earlier one. -/
theorem POk.le {n : Nat} {nx : Int → List Int} {P : List (List Int)} (h : POk n nx P) {x y : Int} (hr : Rx nx x y) {i : Nat} {p : List Int} (hi : P[i]? = some p) (hx : x ∈ p) : ∃ (j : Nat) (q : List Int), j ≤ i ∧ P[j]? = some q ∧ y ∈ q := by
  induction hr with
  | refl => exact ⟨i, p, Nat.le_refl _, hi, hx⟩
  | step _ hc ih =>
    obtain ⟨j, q, h1, h2, h3⟩ := ih
    obtain ⟨k, r, k1, k2, k3⟩ := h.clo j q h2 _ h3 _ hc
    exact ⟨k, r, Nat.le_trans k1 h1, k2, k3⟩
theorem rch_rx {n : Int} {l : List EdgeT} {a b : Int} : Rch n l [a] b ↔ (0 ≤ a ∧ a < n) ∧ Rx (toS n l) a b := by
  constructor
  · intro h
    induction h with
    | root hm h1 => rw [List.mem_singleton.1 hm] at h1 ⊢; exact ⟨h1, .refl _⟩
    | step _ hb ih => exact ⟨ih.1, .step ih.2 hb⟩
  · rintro ⟨ha, h⟩
    induction h with
    | refl => exact .root (List.mem_singleton.2 rfl) ha
    | step _ hc ih => exact .step ih hc
end Go.Proofs.YtljbnigceammdaaGreatDoor
