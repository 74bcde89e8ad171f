/-
  flow.Next, paths.Is, Along; soughref07.Next, soughref20.Is, Along.
-/
import Derived.Test.YtggcpiddnhipiaaGreatZb
import Derived.Test.YtggcpiddnhipiaaGreatYk
import Derived.Test.YtggcpiddnhipiaaGreatYh
namespace Go.Proofs.YtggcpiddnhipiaaGreat
open Go.RowKit
set_option maxRecDepth 100000
theorem nextZ_len (n : Int) (l : List EdgeT) (a : Int) : (nextZ n l a).length ≤ l.length := by unfold nextZ; rw [List.length_map]; exact List.length_filter_le _ _
theorem nextZ_mem {n : Int} {l : List EdgeT} {a z : Int} (h : z ∈ nextZ n l a) : 0 ≤ z ∧ z < n := by
  unfold nextZ at h
  obtain ⟨e, he, rfl⟩ := List.mem_map.1 h
  have h4 := (List.mem_filter.1 he).2
  simp only [Bool.and_eq_true, decide_eq_true_eq, node_iff] at h4
  exact h4.2
theorem nextZ_succ (n : Int) (l : List EdgeT) (a : Int) {k : Nat} (h : k < l.length) : nextZ n (l.take (k + 1)) a = nextZ n (l.take k) a ++ (if (decide (l[k].1 = a) && nodeB n a && nodeB n l[k].2.1) = true then [l[k].2.1] else []) := by
  unfold nextZ
  rw [List.take_succ_eq_append_getElem h, List.filter_append, List.map_append]
  congr 1
  by_cases hc : (decide (l[k].1 = a) && nodeB n a && nodeB n l[k].2.1) = true
  · rw [if_pos hc]; have e := List.filter_cons_of_pos (p := fun e : EdgeT => decide (e.1 = a) && nodeB n a && nodeB n e.2.1) (a := l[k]) (l := []) hc; rw [e]; rfl
  · rw [if_neg hc]; have e := List.filter_cons_of_neg (p := fun e : EdgeT => decide (e.1 = a) && nodeB n a && nodeB n e.2.1) (a := l[k]) (l := []) hc; rw [e]; rfl
theorem toS_comp (n : Int) (l : List EdgeT) (a : Int) : compI (nextZ n l a) = toS n l a := by
  unfold toS
  exact compI_eq fun z hz => by have := nextZ_mem hz; omega
theorem compI_nil : compI [] = [] := List.eq_nil_iff_forall_not_mem.2 fun x h => by
  unfold compI at h
  rw [compact_mem, sortI_mem] at h
  cases h
theorem aNext (n : Int) (l : List EdgeT) (a : Int) (σ : Hp) (hl : l.length ≤ 100000) : ACalls Tryz.prog 48 [.int .i64 n, .fsl edgeSh l, .int .i64 a] σ (Ret (.fsl (.int .i64) (toS n l a)) σ) := by
  refine okF Tryz.func48 (by kernel_rfl) ?_
  refine .wrap 7 _ rfl rfl ?_
  refine loopS (S := Nat × AV × Hp) (fun s => [(0, .int .i64 n), (2, .int .i64 a), (7, .via s.2.1), (10, .fsl edgeSh l), (11, .int .i64 l.length), (12, .int .i64 s.1)]) (fun s => s.2.2 ++ σ) (fun s => s.1 ≤ l.length ∧ Acc 1 (nextZ n (l.take s.1) a).length s.2.1 s.2.2 (inC (nextZ n (l.take s.1) a))) (fun s => l.length - s.1) (0, .nils, []) ⟨⟨Nat.zero_le _, .nil⟩, ⟨rfl, rfl, rfl, rfl, rfl, rfl, trivial⟩, rfl⟩ ?_
  rintro ⟨k, v, acc⟩ g ⟨hk0, hacc0⟩
  have hk : k ≤ l.length := hk0
  have hacc : Acc 1 (nextZ n (l.take k) a).length v acc (inC (nextZ n (l.take k) a)) := hacc0
  clear hk0 hacc0
  have hzl : (nextZ n (l.take k) a).length ≤ k := by have := nextZ_len n (l.take k) a; rw [List.length_take] at this; omega
  refine bcond_dec (fun hlt => ?_) (fun hge => ?_)
  · have hlt : k < l.length := by have hlt : (k : Int) < l.length := hlt; omega
    have hs := nextZ_succ n l a hlt
    obtain ⟨d, hd⟩ : ∃ d : EdgeT, l[k] = d := ⟨_, rfl⟩
    rw [hd] at hs
    refine With.mk rfl (IdxF.mk d (by omega) ((get_some hlt).trans (congrArg some hd)) ?_)
    intro bl1
    refine StoreAt.mk 0 _ _ rfl rfl ?_
    refine LoadAt.mk 0 _ _ rfl rfl ?_
    refine bcond_dec (p := d.1 = a) (fun c1 => ?_) (fun c1 => ?_)
    · refine callB [] (aNode n a _) (fun c2 => ?_) (fun c2 => ?_)
      · refine LoadAt.mk 0 _ _ rfl rfl ?_
        refine callB [] (aNode n d.2.1 _) (fun c3 => ?_) (fun c3 => ?_)
        · rw [decide_eq_true c1, c2, c3, if_pos (show (true && true && true) = true from rfl)] at hs
          refine LoadAt.mk 0 _ _ rfl rfl ?_
          intro bl2
          refine append_acc [_, _] hacc (.mref 0 bl2 0 1 _ rfl (Nat.le_of_ble_eq_true rfl)) rfl (by omega) (by decide) (by decide) (fun v' acc' h' => ?_)
          refine nextS (k + 1, v', acc') (by show l.length - (k + 1) < l.length - k; omega) ⟨hlt, ?_⟩ ⟨rfl, rfl, rfl, rfl, rfl, inc64 (by omega), trivial⟩ (.drop 0 2 (shed_eq rfl))
          show Acc 1 (nextZ n (l.take (k + 1)) a).length v' acc' (inC (nextZ n (l.take (k + 1)) a))
          rw [hs, List.length_append, inC, List.map_append]
          exact h'
        · rw [c3, Bool.and_false, if_neg (by decide), List.append_nil] at hs
          refine nextS (k + 1, v, acc) (by show l.length - (k + 1) < l.length - k; omega) ⟨hlt, by show Acc 1 (nextZ n (l.take (k + 1)) a).length v acc (inC (nextZ n (l.take (k + 1)) a)); rw [hs]; exact hacc⟩ ⟨rfl, rfl, rfl, rfl, rfl, inc64 (by omega), trivial⟩ (.drop 0 1 (shed_eq rfl))
      · rw [c2, Bool.and_false, Bool.false_and, if_neg (by decide), List.append_nil] at hs
        refine nextS (k + 1, v, acc) (by show l.length - (k + 1) < l.length - k; omega) ⟨hlt, by show Acc 1 (nextZ n (l.take (k + 1)) a).length v acc (inC (nextZ n (l.take (k + 1)) a)); rw [hs]; exact hacc⟩ ⟨rfl, rfl, rfl, rfl, rfl, inc64 (by omega), trivial⟩ (.drop 0 1 (shed_eq rfl))
    · rw [decide_eq_false c1, Bool.false_and, Bool.false_and, if_neg (by decide), List.append_nil] at hs
      refine nextS (k + 1, v, acc) (by show l.length - (k + 1) < l.length - k; omega) ⟨hlt, by show Acc 1 (nextZ n (l.take (k + 1)) a).length v acc (inC (nextZ n (l.take (k + 1)) a)); rw [hs]; exact hacc⟩ ⟨rfl, rfl, rfl, rfl, rfl, inc64 (by omega), trivial⟩ (.drop 0 1 (shed_eq rfl))
  · have hge : k = l.length := by have hge : ¬ (k : Int) < l.length := hge; omega
    subst hge
    rw [List.take_length] at hacc hzl
    have hcomp := toS_comp n l a
    generalize nextZ n l a = zs at hacc hzl hcomp
    generalize hC : inC zs = C at hacc
    generalize hm : zs.length = m at hacc
    cases hacc with
    | nil =>
      have hz : zs = [] := List.length_eq_zero_iff.1 hm
      subst hz
      refine callR [] (aSortN _) ?_
      refine callR [] (aCompN _) ?_
      exact .nil (.nil (.int .i64)) (.done ⟨by rw [← hcomp, compI_nil]; rfl, rfl⟩)
    | mref b m cs h =>
      subst hC
      refine callR [] (aSortI b zs m σ hm (by omega)) ?_
      refine callR [] (aCompI b (sortI zs) m σ ((sortI_length zs).trans hm) (by omega)) ?_
      refine .frz 0 b 0 _ 1 _ (.int .i64) (compI zs) rfl ?_ ⟨rfl, rfl, by decide⟩ .here (.done ⟨by rw [hcomp], rfl⟩)
      rw [List.drop_zero, ← inC_flat]
      unfold compI inC
      rw [List.map_append, Nat.mul_one, List.take_append_of_le_length (by rw [List.length_map]; exact Nat.le_refl _)]
      exact List.take_of_length_le (by rw [List.length_map]; exact Nat.le_refl _)
def hasE (l : List EdgeT) (a b : Int) : Bool := l.any fun e => decide (e.1 = a) && decide (e.2.1 = b)
theorem aRHas (l : List EdgeT) (a b : Int) (σ : Hp) (hl : l.length ≤ 100000) : ACalls Tryz.prog 85 [.fsl edgeSh l, .int .i64 a, .int .i64 b] σ (Ret (.bool (hasE l a b)) σ) := by
  refine okF Tryz.func85 (by kernel_rfl) ?_
  refine loopS (S := Nat) (fun k => [(1, .int .i64 a), (2, .int .i64 b), (9, .fsl edgeSh l), (10, .int .i64 l.length), (11, .int .i64 k)]) (fun _ => σ) (fun k => k ≤ l.length ∧ hasE (l.take k) a b = false) (fun k => l.length - k) 0 ⟨⟨Nat.zero_le _, rfl⟩, ⟨rfl, rfl, rfl, rfl, rfl, trivial⟩, rfl⟩ ?_
  rintro k g ⟨hk0, ha0⟩
  have hk : k ≤ l.length := hk0
  have ha : hasE (l.take k) a b = false := ha0
  clear hk0 ha0
  refine bcond_dec (fun hlt => ?_) (fun hge => ?_)
  · have hlt : k < l.length := by have hlt : (k : Int) < l.length := hlt; omega
    have hs : hasE (l.take (k + 1)) a b = (decide (l[k].1 = a) && decide (l[k].2.1 = b)) := by
      have := any_take hlt fun e : EdgeT => decide (e.1 = a) && decide (e.2.1 = b)
      unfold hasE at ha ⊢
      rw [this, ha, Bool.false_or]
    have hm := List.getElem_mem hlt
    obtain ⟨d, hd⟩ : ∃ d : EdgeT, l[k] = d := ⟨_, rfl⟩
    rw [hd] at hs hm
    refine With.mk rfl (IdxF.mk d (by omega) ((get_some hlt).trans (congrArg some hd)) ?_)
    intro bl1
    refine StoreAt.mk 0 _ _ rfl rfl ?_
    refine LoadAt.mk 0 _ _ rfl rfl ?_
    refine bcond_dec (p := d.1 = a) (fun c1 => ?_) (fun c1 => ?_)
    · refine LoadAt.mk 0 _ _ rfl rfl ?_
      refine bcond_dec (p := d.2.1 = b) (fun c2 => ?_) (fun c2 => ?_)
      · exact .drop 0 1 (.done ⟨av_bool (List.any_eq_true.2 ⟨d, hm, by rw [decide_eq_true c1, decide_eq_true c2]; rfl⟩).symm, rfl⟩)
      · exact nextS (k + 1) (by show l.length - (k + 1) < l.length - k; omega) ⟨hlt, hs.trans (by rw [decide_eq_false c2, Bool.and_false])⟩ ⟨rfl, rfl, rfl, rfl, inc64 (by omega), trivial⟩ (.drop 0 1 (.refl _))
    · exact nextS (k + 1) (by show l.length - (k + 1) < l.length - k; omega) ⟨hlt, hs.trans (by rw [decide_eq_false c1]; rfl)⟩ ⟨rfl, rfl, rfl, rfl, inc64 (by omega), trivial⟩ (.drop 0 1 (.refl _))
  · have hge : k = l.length := by have hge : ¬ (k : Int) < l.length := hge; omega
    subst hge
    rw [List.take_length] at ha
    exact .done ⟨av_bool ha.symm, rfl⟩
theorem has_mem {n : Int} {l : List EdgeT} {a b : Int} (ha : 0 ≤ a ∧ a < n) (hb : 0 ≤ b ∧ b < n) : hasE l a b = decide (b ∈ toS n l a) := by
  rw [Bool.eq_iff_iff, decide_eq_true_eq, mem_toS]
  unfold hasE
  rw [List.any_eq_true]
  constructor
  · rintro ⟨e, he, h⟩
    simp only [Bool.and_eq_true, decide_eq_true_eq] at h
    exact ⟨hb, ha, e, he, h.1, h.2⟩
  · rintro ⟨_, _, e, he, h1, h2⟩
    exact ⟨e, he, by rw [decide_eq_true h1, decide_eq_true h2]; rfl⟩
def upTo (n : Int) (l : List EdgeT) (a : Int) (k : Nat) : List Int := ((List.range k).map fun i : Nat => (i : Int)).filter fun b => decide (b ∈ nextZ n l a)
theorem mem_nextZ {n : Int} {l : List EdgeT} {a b : Int} (hb : 0 ≤ b ∧ b < n) : b ∈ nextZ n l a ↔ b ∈ toS n l a := by
  unfold toS
  rw [List.mem_filter, decide_eq_true_eq]
  exact ⟨fun h => ⟨List.mem_map.2 ⟨b.toNat, List.mem_range.2 (by omega), by omega⟩, h⟩, fun h => h.2⟩
theorem aRNext (n : Nat) (l : List EdgeT) (a : Int) (σ : Hp) (hl : l.length ≤ 100000) (hn : n ≤ 100000) : ACalls Tryz.prog 50 [.int .i64 n, .fsl edgeSh l, .int .i64 a] σ (Ret (.fsl (.int .i64) (toS n l a)) σ) := by
  refine okF Tryz.func50 (by kernel_rfl) ?_
  refine .wrap 7 _ rfl rfl ?_
  refine loopS (S := Nat × AV × Hp) (fun s => [(0, .int .i64 n), (1, .fsl edgeSh l), (2, .int .i64 a), (7, .via s.2.1), (8, .int .i64 s.1)]) (fun s => s.2.2 ++ σ) (fun s => s.1 ≤ n ∧ Acc 1 (upTo n l a s.1).length s.2.1 s.2.2 (inC (upTo n l a s.1))) (fun s => n - s.1) (0, .nils, []) ⟨⟨Nat.zero_le _, .nil⟩, ⟨rfl, rfl, rfl, rfl, rfl, trivial⟩, rfl⟩ ?_
  rintro ⟨k, v, acc⟩ g ⟨hk0, hacc0⟩
  have hk : k ≤ n := hk0
  have hacc : Acc 1 (upTo n l a k).length v acc (inC (upTo n l a k)) := hacc0
  clear hk0 hacc0
  have hul : (upTo n l a k).length ≤ k := by unfold upTo; exact Nat.le_trans (List.length_filter_le _ _) (by simp)
  have hfull : upTo n l a n = toS n l a := by unfold upTo toS; rw [Int.toNat_natCast]
  have hbad : ¬ (0 ≤ a ∧ a < n) → ∀ j, upTo n l a j = [] := fun h j => by
    unfold upTo
    refine List.filter_eq_nil_iff.2 fun b _ hb => ?_
    have hb := of_decide_eq_true hb
    have h1 := nextZ_mem hb
    exact h (mem_toS.1 ((mem_nextZ h1).1 hb)).2.1
  have hend : (¬ (0 ≤ a ∧ a < n) ∨ k = n) → Fin (Ret (.fsl (.int .i64) (toS n l a)) σ) v (acc ++ σ) := fun h => by
    have he : upTo n l a k = toS n l a := by
      rcases h with h | h
      · rw [hbad h k, ← hfull, hbad h n]
      · rw [h, hfull]
    rw [he] at hacc
    exact fin_acc (s := .int .i64) [] hacc rfl (inC_flat _) (by decide) (.done ⟨rfl, rfl⟩)
  refine bcond_dec (p := (k : Int) < n) (fun hlt => ?_) (fun hge => ?_)
  rotate_left
  · exact hend (.inr (by omega))
  have hlt : k < n := by omega
  refine bcond_dec (p := 0 ≤ a) (fun c1 => ?_) (fun c1 => ?_)
  rotate_left
  · exact hend (.inl fun h => c1 h.1)
  refine bcond_dec (p := a < n) (fun c2 => ?_) (fun c2 => ?_)
  rotate_left
  · exact hend (.inl fun h => c2 h.2)
  have hs : upTo n l a (k + 1) = upTo n l a k ++ (if hasE l a k = true then [(k : Int)] else []) := by
    unfold upTo
    rw [List.range_succ, List.map_append, List.filter_append]
    congr 1
    have hiff : hasE l a k = true ↔ (k : Int) ∈ nextZ n l a := by
      rw [has_mem ⟨c1, c2⟩ (by omega), decide_eq_true_eq, mem_nextZ (by omega)]
    by_cases hc : hasE l a k = true
    · rw [if_pos hc]; exact List.filter_cons_of_pos (decide_eq_true (hiff.1 hc))
    · rw [if_neg hc]; exact List.filter_cons_of_neg (by rw [decide_eq_true_eq]; exact fun h => hc (hiff.2 h))
  refine callB [] (aRHas l a k _ hl) (fun c3 => ?_) (fun c3 => ?_)
  · rw [if_pos c3] at hs
    intro bl2
    refine append_acc [_] hacc (.mref 0 bl2 0 1 _ rfl (Nat.le_of_ble_eq_true rfl)) rfl (by omega) (by decide) (by decide) (fun v' acc' h' => ?_)
    refine nextS (k + 1, v', acc') (by show n - (k + 1) < n - k; omega) ⟨hlt, ?_⟩ ⟨rfl, rfl, rfl, rfl, inc64 (by omega), trivial⟩ (.drop 0 1 (shed_eq rfl))
    show Acc 1 (upTo n l a (k + 1)).length v' acc' (inC (upTo n l a (k + 1)))
    rw [hs, List.length_append, inC, List.map_append]
    exact h'
  · rw [c3, if_neg (by decide), List.append_nil] at hs
    exact nextS (k + 1, v, acc) (by show n - (k + 1) < n - k; omega) ⟨hlt, by show Acc 1 (upTo n l a (k + 1)).length v acc (inC (upTo n l a (k + 1))); rw [hs]; exact hacc⟩ ⟨rfl, rfl, rfl, rfl, inc64 (by omega), trivial⟩ (.refl _)
end Go.Proofs.YtggcpiddnhipiaaGreat
