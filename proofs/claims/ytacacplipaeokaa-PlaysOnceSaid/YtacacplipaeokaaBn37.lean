/-
  Acv: what the claim uses of them.
-/
import Derived.Test.YtacacplipaeokaaBn13
namespace Go.Proofs.Ytacacplipaeokaa
open Go.RowKit
set_option maxRecDepth 100000
/-- append to such a list; the list stays known. -/
theorem append_accV {i : TI} {K : AV → Hp → Prop} (fr : Hp) {acc σ : Hp} {k n : Nat} {v x : AV} {cs new : List AV} (h : Acc i.size k v acc cs) (hx : SrcAt (fr ++ (acc ++ σ)) i.size x n new) (hnew : new.length = n * i.size) (hn : k + n ≤ 1048576) (hb : i.bytes ≤ 1024) (h0 : 0 < i.size)
    (go : ∀ v' acc', Acc i.size (k + n) v' acc' (cs ++ new) → K v' (fr ++ (acc' ++ σ))) : AppendAt i (fr ++ (acc ++ σ)) v x K := by
  have hl := h.length
  cases h with
  | nil =>
    refine .perm _ (front_perm' fr [] σ) (.fresh n new (.inl rfl) (hx.perm (front_perm' fr [] σ)) (by omega) hb h0 (K := fun v σ3 => (n = 0 ∧ v = .nils ∧ σ3 = [] ++ (fr ++ σ)) ∨ (n ≠ 0 ∧ ∃ b, v = .mref b 0 n i.size ∧ σ3 = (b, new) :: ([] ++ (fr ++ σ)))) (fun hne b => .inr ⟨hne, b, rfl, rfl⟩) (fun h0 => .inl ⟨h0, rfl, rfl⟩)) ?_
    rintro v σ3 (⟨hz, rfl, rfl⟩ | ⟨hz, b, rfl, rfl⟩)
    · subst hz
      obtain rfl : new = [] := List.length_eq_zero_iff.1 (by simpa using hnew)
      exact ⟨_, (front_perm' fr [] σ).symm, .inl (go _ _ .nil)⟩
    · refine ⟨_, (front_perm' fr [(b, new)] σ).symm, .inl (go _ _ ?_)⟩
      have := Acc.mref (e := i.size) b (0 + n) new (by rw [hnew, Nat.zero_add])
      rw [Nat.zero_add] at this ⊢
      exact this
  | mref b k cs h =>
    refine .perm _ (front_perm' fr [(b, cs)] σ) (.more 0 b k n cs new rfl rfl (by rw [h]; exact Nat.le_refl _) (hx.perm (front_perm' fr [(b, cs)] σ)) hn hb h0 (K := fun v σ3 => ∃ b', v = .mref b' 0 (k + n) i.size ∧ σ3 = (b', cs.take (k * i.size) ++ new) :: (fr ++ σ)) (fun b' => ⟨b', rfl, rfl⟩)) ?_
    rintro v σ3 ⟨b', rfl, rfl⟩
    rw [List.take_of_length_le (by omega)]
    exact ⟨_, (front_perm' fr [(b', cs ++ new)] σ).symm, .inl (go _ _ (.mref _ _ _ (by rw [List.length_append, h, hnew, Nat.add_mul])))⟩
/-- Blocks in another order. -/
theorem blk_perm (f : List Hp) (σ : Hp) {a b : List Nat} (h : a.Perm b) : (a.foldr (fun i t => f.getD i [] ++ t) σ).Perm (b.foldr (fun i t => f.getD i [] ++ t) σ) := by
  induction h with
  | nil => exact .refl _
  | cons x _ ih => exact ih.append_left _
  | swap x y l => exact front_perm' _ _ _
  | trans _ _ ih1 ih2 => exact ih1.trans ih2
end Go.Proofs.Ytacacplipaeokaa
