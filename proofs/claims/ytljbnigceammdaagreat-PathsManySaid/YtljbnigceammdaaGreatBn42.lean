/-
  Zc: what the claim uses of them.
-/
import Derived.Test.YtljbnigceammdaaGreatBn38
import Derived.Test.YtljbnigceammdaaGreatBn40
import Derived.Test.YtljbnigceammdaaGreatBn41
namespace Go.Proofs.YtljbnigceammdaaGreat
open Go.RowKit
set_option maxRecDepth 100000
def hasE (l : List EdgeT) (a b : Int) : Bool := l.any fun e => decide (e.1 = a) && decide (e.2.1 = b)
theorem aRHasE (l : List EdgeT) (a b : Int) (σ : Hp) (hl : l.length ≤ 100000) : ACalls Tryz.prog 101 [.fsl edgeSh l, .int .i64 a, .int .i64 b] σ (Ret (.bool (hasE l a b)) σ) := by
  refine okF Tryz.func101 (by kernel_rfl) ?_
  refine loopS (S := Nat) (fun k => [(1, .int .i64 a), (2, .int .i64 b), (9, .fsl edgeSh l), (10, .int .i64 l.length), (11, .int .i64 k)]) (fun _ => σ) (fun k => k ≤ l.length ∧ hasE (l.take k) a b = false) (fun k => l.length - k) 0 ⟨⟨Nat.zero_le _, rfl⟩, ⟨rfl, rfl, rfl, rfl, rfl, trivial⟩, rfl⟩ ?_
  rintro k g ⟨hk0, ha0⟩
  have hk : k ≤ l.length := hk0
  have ha : hasE (l.take k) a b = false := ha0
  clear hk0 ha0
  refine bcond_dec (fun hlt => ?_) (fun hge => ?_)
  · have hlt : k < l.length := by have hlt : (k : Int) < l.length := hlt; omega
    have hs : hasE (l.take (k + 1)) a b = (decide (l[k].1 = a) && decide (l[k].2.1 = b)) := by
      have := any_take hlt fun e : EdgeT => decide (e.1 = a) && decide (e.2.1 = b)
      unfold hasE at ha ⊢
      rw [this, ha, Bool.false_or]
    have hm := List.getElem_mem hlt
    obtain ⟨d, hd⟩ : ∃ d : EdgeT, l[k] = d := ⟨_, rfl⟩
    rw [hd] at hs hm
    refine With.mk rfl (IdxF.mk d (by omega) ((get_some hlt).trans (congrArg some hd)) ?_)
    intro bl1
    refine StoreAt.mk 0 _ _ rfl rfl ?_
    refine LoadAt.mk 0 _ _ rfl rfl ?_
    refine bcond_dec (p := d.1 = a) (fun c1 => ?_) (fun c1 => ?_)
    · refine LoadAt.mk 0 _ _ rfl rfl ?_
      refine bcond_dec (p := d.2.1 = b) (fun c2 => ?_) (fun c2 => ?_)
      · exact .drop 0 1 (.done ⟨av_bool (List.any_eq_true.2 ⟨d, hm, by rw [decide_eq_true c1, decide_eq_true c2]; rfl⟩).symm, rfl⟩)
      · exact nextS (k + 1) (by show l.length - (k + 1) < l.length - k; omega) ⟨hlt, hs.trans (by rw [decide_eq_false c2, Bool.and_false])⟩ ⟨rfl, rfl, rfl, rfl, inc64 (by omega), trivial⟩ (.drop 0 1 (.refl _))
    · exact nextS (k + 1) (by show l.length - (k + 1) < l.length - k; omega) ⟨hlt, hs.trans (by rw [decide_eq_false c1]; rfl)⟩ ⟨rfl, rfl, rfl, rfl, inc64 (by omega), trivial⟩ (.drop 0 1 (.refl _))
  · have hge : k = l.length := by have hge : ¬ (k : Int) < l.length := hge; omega
    subst hge
    rw [List.take_length] at ha
    exact .done ⟨av_bool ha.symm, rfl⟩
theorem has_mem {n : Int} {l : List EdgeT} {a b : Int} (ha : 0 ≤ a ∧ a < n) (hb : 0 ≤ b ∧ b < n) : hasE l a b = decide (b ∈ toS n l a) := by
  rw [Bool.eq_iff_iff, decide_eq_true_eq, mem_toS]
  unfold hasE
  rw [List.any_eq_true]
  constructor
  · rintro ⟨e, he, h⟩
    simp only [Bool.and_eq_true, decide_eq_true_eq] at h
    exact ⟨hb, ha, e, he, h.1, h.2⟩
  · rintro ⟨_, _, e, he, h1, h2⟩
    exact ⟨e, he, by rw [decide_eq_true h1, decide_eq_true h2]; rfl⟩
def upTo (n : Int) (l : List EdgeT) (a : Int) (k : Nat) : List Int := ((List.range k).map fun i : Nat => (i : Int)).filter fun b => decide (b ∈ nextZ n l a)
theorem mem_nextZ {n : Int} {l : List EdgeT} {a b : Int} (hb : 0 ≤ b ∧ b < n) : b ∈ nextZ n l a ↔ b ∈ toS n l a := by
  unfold toS
  rw [List.mem_filter, decide_eq_true_eq]
  exact ⟨fun h => ⟨List.mem_map.2 ⟨b.toNat, List.mem_range.2 (by omega), by omega⟩, h⟩, fun h => h.2⟩
theorem aRNext (n : Nat) (l : List EdgeT) (a : Int) (σ : Hp) (hl : l.length ≤ 100000) (hn : n ≤ 100000) : ACalls Tryz.prog 59 [.int .i64 n, .fsl edgeSh l, .int .i64 a] σ (Ret (.fsl (.int .i64) (toS n l a)) σ) := by
  refine okF Tryz.func59 (by kernel_rfl) ?_
  refine .wrap 7 _ rfl rfl ?_
  refine loopS (S := Nat × AV × Hp) (fun s => [(0, .int .i64 n), (1, .fsl edgeSh l), (2, .int .i64 a), (7, .via s.2.1), (8, .int .i64 s.1)]) (fun s => s.2.2 ++ σ) (fun s => s.1 ≤ n ∧ Acc 1 (upTo n l a s.1).length s.2.1 s.2.2 (inC (upTo n l a s.1))) (fun s => n - s.1) (0, .nils, []) ⟨⟨Nat.zero_le _, .nil⟩, ⟨rfl, rfl, rfl, rfl, rfl, trivial⟩, rfl⟩ ?_
  rintro ⟨k, v, acc⟩ g ⟨hk0, hacc0⟩
  have hk : k ≤ n := hk0
  have hacc : Acc 1 (upTo n l a k).length v acc (inC (upTo n l a k)) := hacc0
  clear hk0 hacc0
  have hul : (upTo n l a k).length ≤ k := by unfold upTo; exact Nat.le_trans (List.length_filter_le _ _) (by simp)
  have hfull : upTo n l a n = toS n l a := by unfold upTo toS; rw [Int.toNat_natCast]
  have hbad : ¬ (0 ≤ a ∧ a < n) → ∀ j, upTo n l a j = [] := fun h j => by
    unfold upTo
    refine List.filter_eq_nil_iff.2 fun b _ hb => ?_
    have hb := of_decide_eq_true hb
    have h1 := nextZ_mem hb
    exact h (mem_toS.1 ((mem_nextZ h1).1 hb)).2.1
  have hend : (¬ (0 ≤ a ∧ a < n) ∨ k = n) → Fin (Ret (.fsl (.int .i64) (toS n l a)) σ) v (acc ++ σ) := fun h => by
    have he : upTo n l a k = toS n l a := by
      rcases h with h | h
      · rw [hbad h k, ← hfull, hbad h n]
      · rw [h, hfull]
    rw [he] at hacc
    exact fin_acc (s := .int .i64) [] hacc rfl (inC_flat _) (by decide) (.done ⟨rfl, rfl⟩)
  refine bcond_dec (p := (k : Int) < n) (fun hlt => ?_) (fun hge => ?_)
  rotate_left
  · exact hend (.inr (by omega))
  have hlt : k < n := by omega
  refine bcond_dec (p := 0 ≤ a) (fun c1 => ?_) (fun c1 => ?_)
  rotate_left
  · exact hend (.inl fun h => c1 h.1)
  refine bcond_dec (p := a < n) (fun c2 => ?_) (fun c2 => ?_)
  rotate_left
  · exact hend (.inl fun h => c2 h.2)
  have hs : upTo n l a (k + 1) = upTo n l a k ++ (if hasE l a k = true then [(k : Int)] else []) := by
    unfold upTo
    rw [List.range_succ, List.map_append, List.filter_append]
    congr 1
    have hiff : hasE l a k = true ↔ (k : Int) ∈ nextZ n l a := by
      rw [has_mem ⟨c1, c2⟩ (by omega), decide_eq_true_eq, mem_nextZ (by omega)]
    by_cases hc : hasE l a k = true
    · rw [if_pos hc]; exact List.filter_cons_of_pos (decide_eq_true (hiff.1 hc))
    · rw [if_neg hc]; exact List.filter_cons_of_neg (by rw [decide_eq_true_eq]; exact fun h => hc (hiff.2 h))
  refine callB [] (aRHasE l a k _ hl) (fun c3 => ?_) (fun c3 => ?_)
  · rw [if_pos c3] at hs
    intro bl2
    refine append_acc [_] hacc (.mref 0 bl2 0 1 _ rfl (Nat.le_of_ble_eq_true rfl)) rfl (by omega) (by decide) (by decide) (fun v' acc' h' => ?_)
    refine nextS (k + 1, v', acc') (by show n - (k + 1) < n - k; omega) ⟨hlt, ?_⟩ ⟨rfl, rfl, rfl, rfl, inc64 (by omega), trivial⟩ (.drop 0 1 (shed_eq rfl))
    show Acc 1 (upTo n l a (k + 1)).length v' acc' (inC (upTo n l a (k + 1)))
    rw [hs, List.length_append, inC, List.map_append]
    exact h'
  · rw [c3, if_neg (by decide), List.append_nil] at hs
    exact nextS (k + 1, v, acc) (by show n - (k + 1) < n - k; omega) ⟨hlt, by show Acc 1 (upTo n l a (k + 1)).length v acc (inC (upTo n l a (k + 1))); rw [hs]; exact hacc⟩ ⟨rfl, rfl, rfl, rfl, inc64 (by omega), trivial⟩ (.refl _)
end Go.Proofs.YtljbnigceammdaaGreat
