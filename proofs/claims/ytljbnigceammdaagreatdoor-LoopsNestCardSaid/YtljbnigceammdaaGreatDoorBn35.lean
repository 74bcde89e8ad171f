/-
  Zb; Yh: what the claim uses of them.
-/
import Derived.Test.YtljbnigceammdaaGreatDoorBn16
import Derived.Test.YtljbnigceammdaaGreatDoorBn34
import Derived.Test.YtljbnigceammdaaGreatDoorBn32
namespace Go.Proofs.YtljbnigceammdaaGreatDoor
open Go.RowKit
theorem mem_toS {n : Int} {l : List EdgeT} {a b : Int} : b ∈ toS n l a ↔ (0 ≤ b ∧ b < n) ∧ (0 ≤ a ∧ a < n) ∧ ∃ e ∈ l, e.1 = a ∧ e.2.1 = b := by
  unfold toS nextZ
  rw [List.mem_filter, decide_eq_true_eq, List.mem_map, List.mem_map]
  constructor
  · rintro ⟨⟨i, hi, rfl⟩, e, he, h2⟩
    have hi := List.mem_range.1 hi
    obtain ⟨h3, h4⟩ := List.mem_filter.1 he
    simp only [Bool.and_eq_true, decide_eq_true_eq, node_iff] at h4
    exact ⟨by omega, h4.1.2, e, h3, h4.1.1, h2⟩
  · rintro ⟨h1, h2, e, h3, h4, h5⟩
    refine ⟨⟨b.toNat, List.mem_range.2 (by omega), by omega⟩, e, List.mem_filter.2 ⟨h3, ?_⟩, h5⟩
    simp only [Bool.and_eq_true, decide_eq_true_eq, node_iff]
    exact ⟨⟨h4, h2⟩, by omega⟩
theorem toS_length (n : Int) (l : List EdgeT) (a : Int) : (toS n l a).length ≤ n.toNat := by
  unfold toS
  exact Nat.le_trans (List.length_filter_le _ _) (by simp)
/-- A Step brings what goes along an edge. -/
theorem stepV_edge {s : Sy} (hf : Fit s) (hg : Good s) {a : List (List Int)} (ha : Vals s a) (v : Nat) : ∀ k, k ≤ s.edges.length → leV s.what s.w (startS s v) (stepV s a k v) ∧ ∀ e ∈ s.edges.take k, e.2.1 = v → leV s.what s.w (outS s (a.getD e.1.toNat []) e.1.toNat) (stepV s a k v)
  | 0, _ => ⟨leV.refl (start_Val hf hg v), fun e he => by cases he⟩
  | k + 1, hk => by
    obtain ⟨h1, h2⟩ := stepV_edge hf hg ha v k (by omega)
    have hlt : k < s.edges.length := by omega
    have hv := stepV_Val hf hg ha v k (by omega)
    have he := hg.edge _ (List.getElem_mem hlt)
    have ho : Val s.what s.w (outS s (a.getD s.edges[k].1.toNat []) s.edges[k].1.toNat) := by
      have hx := ha.get (i := s.edges[k].1.toNat) (by omega)
      have := out_val hf hg hx.w64 hx.v (v := s.edges[k].1.toNat) (by omega)
      exact ⟨this.1, this.2⟩
    have hup : leV s.what s.w (stepV s a k v) (stepV s a (k + 1) v) := by
      rw [stepV_succ s a hlt]
      unfold joinE
      split
      · exact leV.left hv ho
      · exact leV.refl hv
    refine ⟨h1.trans hup, fun e hm hev => ?_⟩
    rw [List.take_succ_eq_append_getElem hlt] at hm
    rcases List.mem_append.1 hm with hm | hm
    · exact (h2 e hm hev).trans hup
    · rw [List.mem_singleton.1 hm] at hev ⊢
      rw [stepV_succ s a hlt]
      unfold joinE
      rw [if_pos hev]
      exact leV.right hv ho
end Go.Proofs.YtljbnigceammdaaGreatDoor
namespace Go.Proofs.YtljbnigceammdaaGreatDoor
open Go.RowKit
set_option maxRecDepth 100000
theorem aSolveOk (s : Sy) (σ : Hp) (hf : Fit s) (hg : Good s) : ACalls Tryz.prog 41 [.agg (sysC s)] σ (Ret (.tup [.fsl (.slice (.int .u64)) (solS s).1, .int .i64 (solS s).2, .int .i64 0]) σ) := by
  refine acalls_eq (aSolve s σ hf) ?_
  rw [good_zero hg]; rfl
end Go.Proofs.YtljbnigceammdaaGreatDoor
