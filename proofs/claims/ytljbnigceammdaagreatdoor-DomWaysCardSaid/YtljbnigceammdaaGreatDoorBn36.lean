/-
  Yi; Zb; Yh: what the claim uses of them.
-/
import Derived.Test.YtljbnigceammdaaGreatDoorBn32
import Derived.Test.YtljbnigceammdaaGreatDoorBn35
import Derived.Test.YtljbnigceammdaaGreatDoorBn31
namespace Go.Proofs.YtljbnigceammdaaGreatDoor
open Go.RowKit
set_option maxRecDepth 100000
theorem aRRight (n : Int) (l : List EdgeT) (σ : Hp) (hl : l.length ≤ 1000000) : ACalls Tryz.prog 14 [.int .i64 n, .fsl edgeSh l] σ (Ret (.bool (rightE n l)) σ) := by
  refine okF Tryz.func14 (by kernel_rfl) ?_
  refine bcond_dec (p := n < 1) (fun c1 => ?_) (fun c1 => ?_)
  · exact .done ⟨av_bool (by unfold rightE; simp; omega), rfl⟩
  refine bcond_dec (p := 256 < n) (fun c2 => ?_) (fun c2 => ?_)
  · exact .done ⟨av_bool (by unfold rightE; simp; omega), rfl⟩
  refine bcond_dec (p := 1024 < (l.length : Int)) (fun c3 => ?_) (fun c3 => ?_)
  · exact .done ⟨av_bool (by unfold rightE; simp; omega), rfl⟩
  have hbase : rightE n l = l.all fun e => nodeB n e.1 && nodeB n e.2.1 := by
    unfold rightE
    rw [decide_eq_true (by omega), decide_eq_true (by omega), decide_eq_true (by omega)]; simp
  refine loopS (S := Nat) (fun k => [(0, .int .i64 n), (18, .fsl edgeSh l), (19, .int .i64 l.length), (20, .int .i64 k)]) (fun _ => σ) (fun k => k ≤ l.length ∧ ((l.take k).any fun e => !(nodeB n e.1 && nodeB n e.2.1)) = false) (fun k => l.length - k) 0 ⟨⟨Nat.zero_le _, rfl⟩, ⟨rfl, rfl, rfl, rfl, trivial⟩, rfl⟩ ?_
  rintro k g ⟨hk0, ha0⟩
  have hk : k ≤ l.length := hk0
  have ha : ((l.take k).any fun e => !(nodeB n e.1 && nodeB n e.2.1)) = false := ha0
  clear hk0 ha0
  refine bcond_dec (fun hlt => ?_) (fun hge => ?_)
  · have hlt : k < l.length := by have hlt : (k : Int) < l.length := hlt; omega
    have hs := any_take hlt fun e : EdgeT => !(nodeB n e.1 && nodeB n e.2.1)
    rw [ha, Bool.false_or] at hs
    have hm := List.getElem_mem hlt
    obtain ⟨d, hd⟩ : ∃ d : EdgeT, l[k] = d := ⟨_, rfl⟩
    rw [hd] at hs hm
    have hbad : (nodeB n d.1 && nodeB n d.2.1) = false → false = rightE n l := fun h => by
      rw [hbase, all_not]
      have : (l.any fun e => !(nodeB n e.1 && nodeB n e.2.1)) = true := List.any_eq_true.2 ⟨d, hm, by rw [h]; rfl⟩
      rw [this]; rfl
    refine With.mk rfl (IdxF.mk d (by omega) ((get_some hlt).trans (congrArg some hd)) ?_)
    intro bl2
    refine StoreAt.mk 0 _ _ rfl rfl ?_
    refine LoadAt.mk 0 _ _ rfl rfl ?_
    refine bcond_dec (p := d.1 < 0) (fun d1 => ?_) (fun d1 => ?_)
    · exact .drop 0 1 (.done ⟨av_bool (hbad (by unfold nodeB; simp; omega)), rfl⟩)
    refine LoadAt.mk 0 _ _ rfl rfl ?_
    refine bcond_dec (p := n ≤ d.1) (fun d2 => ?_) (fun d2 => ?_)
    · exact .drop 0 1 (.done ⟨av_bool (hbad (by unfold nodeB; simp; omega)), rfl⟩)
    refine LoadAt.mk 0 _ _ rfl rfl ?_
    refine bcond_dec (p := d.2.1 < 0) (fun d3 => ?_) (fun d3 => ?_)
    · exact .drop 0 1 (.done ⟨av_bool (hbad (by unfold nodeB; simp; omega)), rfl⟩)
    refine LoadAt.mk 0 _ _ rfl rfl ?_
    refine bcond_dec (p := n ≤ d.2.1) (fun d4 => ?_) (fun d4 => ?_)
    · exact .drop 0 1 (.done ⟨av_bool (hbad (by unfold nodeB; simp; omega)), rfl⟩)
    exact nextS (k + 1) (by show l.length - (k + 1) < l.length - k; omega) ⟨hlt, hs.trans (by unfold nodeB; simp; omega)⟩ ⟨rfl, rfl, rfl, inc64 (by omega), trivial⟩ (.drop 0 1 (.refl _))
  · have hge : k = l.length := by have hge : ¬ (k : Int) < l.length := hge; omega
    subst hge
    rw [List.take_length] at ha
    exact .done ⟨av_bool (by rw [hbase, all_not, ha]; rfl), rfl⟩
end Go.Proofs.YtljbnigceammdaaGreatDoor
namespace Go.Proofs.YtljbnigceammdaaGreatDoor
open Go.RowKit
theorem mem_toS {n : Int} {l : List EdgeT} {a b : Int} : b ∈ toS n l a ↔ (0 ≤ b ∧ b < n) ∧ (0 ≤ a ∧ a < n) ∧ ∃ e ∈ l, e.1 = a ∧ e.2.1 = b := by
  unfold toS nextZ
  rw [List.mem_filter, decide_eq_true_eq, List.mem_map, List.mem_map]
  constructor
  · rintro ⟨⟨i, hi, rfl⟩, e, he, h2⟩
    have hi := List.mem_range.1 hi
    obtain ⟨h3, h4⟩ := List.mem_filter.1 he
    simp only [Bool.and_eq_true, decide_eq_true_eq, node_iff] at h4
    exact ⟨by omega, h4.1.2, e, h3, h4.1.1, h2⟩
  · rintro ⟨h1, h2, e, h3, h4, h5⟩
    refine ⟨⟨b.toNat, List.mem_range.2 (by omega), by omega⟩, e, List.mem_filter.2 ⟨h3, ?_⟩, h5⟩
    simp only [Bool.and_eq_true, decide_eq_true_eq, node_iff]
    exact ⟨⟨h4, h2⟩, by omega⟩
theorem toS_length (n : Int) (l : List EdgeT) (a : Int) : (toS n l a).length ≤ n.toNat := by
  unfold toS
  exact Nat.le_trans (List.length_filter_le _ _) (by simp)
/-- A Step brings what goes along an edge. -/
theorem stepV_edge {s : Sy} (hf : Fit s) (hg : Good s) {a : List (List Int)} (ha : Vals s a) (v : Nat) : ∀ k, k ≤ s.edges.length → leV s.what s.w (startS s v) (stepV s a k v) ∧ ∀ e ∈ s.edges.take k, e.2.1 = v → leV s.what s.w (outS s (a.getD e.1.toNat []) e.1.toNat) (stepV s a k v)
  | 0, _ => ⟨leV.refl (start_Val hf hg v), fun e he => by cases he⟩
  | k + 1, hk => by
    obtain ⟨h1, h2⟩ := stepV_edge hf hg ha v k (by omega)
    have hlt : k < s.edges.length := by omega
    have hv := stepV_Val hf hg ha v k (by omega)
    have he := hg.edge _ (List.getElem_mem hlt)
    have ho : Val s.what s.w (outS s (a.getD s.edges[k].1.toNat []) s.edges[k].1.toNat) := by
      have hx := ha.get (i := s.edges[k].1.toNat) (by omega)
      have := out_val hf hg hx.w64 hx.v (v := s.edges[k].1.toNat) (by omega)
      exact ⟨this.1, this.2⟩
    have hup : leV s.what s.w (stepV s a k v) (stepV s a (k + 1) v) := by
      rw [stepV_succ s a hlt]
      unfold joinE
      split
      · exact leV.left hv ho
      · exact leV.refl hv
    refine ⟨h1.trans hup, fun e hm hev => ?_⟩
    rw [List.take_succ_eq_append_getElem hlt] at hm
    rcases List.mem_append.1 hm with hm | hm
    · exact (h2 e hm hev).trans hup
    · rw [List.mem_singleton.1 hm] at hev ⊢
      rw [stepV_succ s a hlt]
      unfold joinE
      rw [if_pos hev]
      exact leV.right hv ho
end Go.Proofs.YtljbnigceammdaaGreatDoor
namespace Go.Proofs.YtljbnigceammdaaGreatDoor
open Go.RowKit
set_option maxRecDepth 100000
theorem aSolveOk (s : Sy) (σ : Hp) (hf : Fit s) (hg : Good s) : ACalls Tryz.prog 41 [.agg (sysC s)] σ (Ret (.tup [.fsl (.slice (.int .u64)) (solS s).1, .int .i64 (solS s).2, .int .i64 0]) σ) := by
  refine acalls_eq (aSolve s σ hf) ?_
  rw [good_zero hg]; rfl
end Go.Proofs.YtljbnigceammdaaGreatDoor
