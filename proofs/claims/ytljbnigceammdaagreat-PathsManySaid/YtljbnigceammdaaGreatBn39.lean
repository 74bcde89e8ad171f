/-
  Yi: what the claim uses of them.
-/
import Derived.Test.YtljbnigceammdaaGreatBn36
import Derived.Test.YtljbnigceammdaaGreatBn38
namespace Go.Proofs.YtljbnigceammdaaGreat
open Go.RowKit
set_option maxRecDepth 100000
theorem aRRight (n : Int) (l : List EdgeT) (σ : Hp) (hl : l.length ≤ 1000000) : ACalls Tryz.prog 26 [.int .i64 n, .fsl edgeSh l] σ (Ret (.bool (rightE n l)) σ) := by
  refine okF Tryz.func26 (by kernel_rfl) ?_
  refine bcond_dec (p := n < 1) (fun c1 => ?_) (fun c1 => ?_)
  · exact .done ⟨av_bool (by unfold rightE; simp; omega), rfl⟩
  refine bcond_dec (p := 256 < n) (fun c2 => ?_) (fun c2 => ?_)
  · exact .done ⟨av_bool (by unfold rightE; simp; omega), rfl⟩
  refine bcond_dec (p := 1024 < (l.length : Int)) (fun c3 => ?_) (fun c3 => ?_)
  · exact .done ⟨av_bool (by unfold rightE; simp; omega), rfl⟩
  have hbase : rightE n l = l.all fun e => nodeB n e.1 && nodeB n e.2.1 := by
    unfold rightE
    rw [decide_eq_true (by omega), decide_eq_true (by omega), decide_eq_true (by omega)]; simp
  refine loopS (S := Nat) (fun k => [(0, .int .i64 n), (18, .fsl edgeSh l), (19, .int .i64 l.length), (20, .int .i64 k)]) (fun _ => σ) (fun k => k ≤ l.length ∧ ((l.take k).any fun e => !(nodeB n e.1 && nodeB n e.2.1)) = false) (fun k => l.length - k) 0 ⟨⟨Nat.zero_le _, rfl⟩, ⟨rfl, rfl, rfl, rfl, trivial⟩, rfl⟩ ?_
  rintro k g ⟨hk0, ha0⟩
  have hk : k ≤ l.length := hk0
  have ha : ((l.take k).any fun e => !(nodeB n e.1 && nodeB n e.2.1)) = false := ha0
  clear hk0 ha0
  refine bcond_dec (fun hlt => ?_) (fun hge => ?_)
  · have hlt : k < l.length := by have hlt : (k : Int) < l.length := hlt; omega
    have hs := any_take hlt fun e : EdgeT => !(nodeB n e.1 && nodeB n e.2.1)
    rw [ha, Bool.false_or] at hs
    have hm := List.getElem_mem hlt
    obtain ⟨d, hd⟩ : ∃ d : EdgeT, l[k] = d := ⟨_, rfl⟩
    rw [hd] at hs hm
    have hbad : (nodeB n d.1 && nodeB n d.2.1) = false → false = rightE n l := fun h => by
      rw [hbase, all_not]
      have : (l.any fun e => !(nodeB n e.1 && nodeB n e.2.1)) = true := List.any_eq_true.2 ⟨d, hm, by rw [h]; rfl⟩
      rw [this]; rfl
    refine With.mk rfl (IdxF.mk d (by omega) ((get_some hlt).trans (congrArg some hd)) ?_)
    intro bl2
    refine StoreAt.mk 0 _ _ rfl rfl ?_
    refine LoadAt.mk 0 _ _ rfl rfl ?_
    refine bcond_dec (p := d.1 < 0) (fun d1 => ?_) (fun d1 => ?_)
    · exact .drop 0 1 (.done ⟨av_bool (hbad (by unfold nodeB; simp; omega)), rfl⟩)
    refine LoadAt.mk 0 _ _ rfl rfl ?_
    refine bcond_dec (p := n ≤ d.1) (fun d2 => ?_) (fun d2 => ?_)
    · exact .drop 0 1 (.done ⟨av_bool (hbad (by unfold nodeB; simp; omega)), rfl⟩)
    refine LoadAt.mk 0 _ _ rfl rfl ?_
    refine bcond_dec (p := d.2.1 < 0) (fun d3 => ?_) (fun d3 => ?_)
    · exact .drop 0 1 (.done ⟨av_bool (hbad (by unfold nodeB; simp; omega)), rfl⟩)
    refine LoadAt.mk 0 _ _ rfl rfl ?_
    refine bcond_dec (p := n ≤ d.2.1) (fun d4 => ?_) (fun d4 => ?_)
    · exact .drop 0 1 (.done ⟨av_bool (hbad (by unfold nodeB; simp; omega)), rfl⟩)
    exact nextS (k + 1) (by show l.length - (k + 1) < l.length - k; omega) ⟨hlt, hs.trans (by unfold nodeB; simp; omega)⟩ ⟨rfl, rfl, rfl, inc64 (by omega), trivial⟩ (.drop 0 1 (.refl _))
  · have hge : k = l.length := by have hge : ¬ (k : Int) < l.length := hge; omega
    subst hge
    rw [List.take_length] at ha
    exact .done ⟨av_bool (by rw [hbase, all_not, ha]; rfl), rfl⟩
theorem aRCheck17 (s : Sy) (σ : Hp) (hf : Fit s) : ACalls Tryz.prog 11 [.agg (sysC s)] σ (Ret (.int .i64 (checkS s)) σ) := by
  refine okF Tryz.func11 (by kernel_rfl) ?_
  intro bl1
  refine LoadAt.mk 0 _ _ rfl rfl ?_
  refine LoadAt.mk 0 _ _ rfl rfl ?_
  refine callB [] (aRIs s.what s.w _) (fun hi => ?_) (fun hi => ?_)
  rotate_left
  · exact .drop 0 1 (.done ⟨av_int (chkS10 hi), rfl⟩)
  refine LoadAt.mk 0 _ _ rfl rfl ?_
  refine LoadAt.mk 0 _ _ rfl rfl ?_
  refine callB [] (aRRight s.n s.edges _ (Nat.le_trans hf.elen (by decide))) (fun cr => ?_) (fun cr => ?_)
  rotate_left
  · exact .drop 0 1 (.done ⟨av_int (chkS1 hi fun h => by rw [h.1] at cr; cases cr), rfl⟩)
  refine LoadAt.mk 0 _ _ rfl rfl ?_
  refine LoadAt.mk 0 _ _ rfl rfl ?_
  refine bcond_split (fun ct => ?_) (fun ct => ?_)
  · have ct : (!decide ((s.T.length : Int) = s.n)) = true := ct
    have ct : ¬ (s.T.length : Int) = s.n := by simpa using ct
    exact .drop 0 1 (.done ⟨av_int (chkS1 hi fun h => ct h.2), rfl⟩)
  have ct : (!decide ((s.T.length : Int) = s.n)) = false := ct
  have ct : (s.T.length : Int) = s.n := by simpa using ct
  have hr : rightE s.n s.edges = true ∧ (s.T.length : Int) = s.n := ⟨cr, ct⟩
  refine LoadAt.mk 0 _ _ rfl rfl ?_
  refine loopS (S := Nat) (fun k => [(1, .ptr bl1 0), (28, .fsl (.int .i64) s.entry), (29, .int .i64 s.entry.length), (30, .int .i64 k)]) (fun _ => (bl1, sysC s) :: σ) (fun k => k ≤ s.entry.length ∧ ((s.entry.take k).any fun v => !nodeB s.n v) = false) (fun k => s.entry.length - k) 0 ⟨⟨Nat.zero_le _, rfl⟩, ⟨rfl, rfl, rfl, rfl, trivial⟩, rfl⟩ ?_
  rintro k g ⟨hk0, ha0⟩
  have hk : k ≤ s.entry.length := hk0
  have ha : ((s.entry.take k).any fun v => !nodeB s.n v) = false := ha0
  clear hk0 ha0
  refine bcond_dec (fun hlt => ?_) (fun hge => ?_)
  · have hlt : k < s.entry.length := by have hlt : (k : Int) < s.entry.length := hlt; omega
    have hs := any_take hlt fun v => !nodeB s.n v
    rw [ha, Bool.false_or] at hs
    have hbad : nodeB s.n s.entry[k] = false → (s.entry.any fun v => !nodeB s.n v) = true := fun h => List.any_eq_true.2 ⟨s.entry[k], List.getElem_mem hlt, by rw [h]; rfl⟩
    refine With.mk rfl (IdxF.mk s.entry[k] (by omega) (get_some hlt) ?_)
    refine bcond_dec (p := s.entry[k] < 0) (fun d1 => ?_) (fun d1 => ?_)
    · exact .drop 0 1 (.done ⟨av_int (chkS1e hi hr (hbad (by unfold nodeB; simp; omega))), rfl⟩)
    · refine LoadAt.mk 0 _ _ rfl rfl ?_
      refine bcond_dec (p := s.n ≤ s.entry[k]) (fun d2 => ?_) (fun d2 => ?_)
      · exact .drop 0 1 (.done ⟨av_int (chkS1e hi hr (hbad (by unfold nodeB; simp; omega))), rfl⟩)
      · exact nextS (k + 1) (by show s.entry.length - (k + 1) < s.entry.length - k; omega) ⟨hlt, hs.trans (by unfold nodeB; simp; omega)⟩ ⟨rfl, rfl, rfl, inc64 (by have := hf.nlen; omega), trivial⟩ (.refl _)
  have hge : k = s.entry.length := by have hge : ¬ (k : Int) < s.entry.length := hge; omega
  subst hge
  rw [List.take_length] at ha
  refine LoadAt.mk 0 _ _ rfl rfl ?_
  refine LoadAt.mk 0 _ _ rfl rfl ?_
  refine LoadAt.mk 0 _ _ rfl rfl ?_
  refine callB [] (aRValueL s.what s.w s.init _ hf.i64) (fun cv => ?_) (fun cv => ?_)
  rotate_left
  · exact .drop 0 1 (.done ⟨av_int (chkS2 hi hr ha cv), rfl⟩)
  refine LoadAt.mk 0 _ _ rfl rfl ?_
  refine loopS (S := Nat) (fun k => [(1, .ptr bl1 0), (52, .fsl transSh s.T), (53, .int .i64 s.T.length), (54, .int .i64 k)]) (fun _ => (bl1, sysC s) :: σ) (fun k => k ≤ s.T.length ∧ ((s.T.take k).any fun t => !decide (checkT s.what s.w t.1 t.2.1 t.2.2.1 = 0)) = false) (fun k => s.T.length - k) 0 ⟨⟨Nat.zero_le _, rfl⟩, ⟨rfl, rfl, rfl, rfl, trivial⟩, rfl⟩ ?_
  rintro k g ⟨hk0, ht0⟩
  have hk : k ≤ s.T.length := hk0
  have ht : ((s.T.take k).any fun t => !decide (checkT s.what s.w t.1 t.2.1 t.2.2.1 = 0)) = false := ht0
  clear hk0 ht0
  refine bcond_dec (fun hlt => ?_) (fun hge => ?_)
  · have hlt : k < s.T.length := by have hlt : (k : Int) < s.T.length := hlt; omega
    have hs := any_take hlt fun t => !decide (checkT s.what s.w t.1 t.2.1 t.2.2.1 = 0)
    rw [ht, Bool.false_or] at hs
    have ho := hf.ts _ (List.getElem_mem hlt)
    have hm := List.getElem_mem hlt
    obtain ⟨t, htk⟩ : ∃ t : TrT, s.T[k] = t := ⟨_, rfl⟩
    rw [htk] at hs ho hm
    refine With.mk rfl (IdxF.mk t (by omega) ((get_some hlt).trans (congrArg some htk)) ?_)
    intro bl2
    refine StoreAt.mk 0 _ _ rfl rfl ?_
    refine LoadAt.mk 1 _ _ rfl rfl ?_
    refine LoadAt.mk 1 _ _ rfl rfl ?_
    refine LoadAt.mk 0 _ _ rfl rfl ?_
    refine callR [] (aTCheckR s.what s.w t.1 t.2.1 t.2.2.1 _ ho.1 ho.2.1 ho.2.2.1 ho.2.2.2.1 (Nat.le_trans ho.2.2.2.2 (by decide))) ?_
    refine bcond_split (fun d1 => ?_) (fun d1 => ?_)
    · exact .drop 0 2 (.done ⟨av_int (chkS2t hi hr ha cv (List.any_eq_true.2 ⟨t, hm, d1⟩)), rfl⟩)
    · exact nextS (k + 1) (by show s.T.length - (k + 1) < s.T.length - k; omega) ⟨hlt, hs.trans d1⟩ ⟨rfl, rfl, rfl, inc64 (by have := hf.tlen; omega), trivial⟩ (.drop 0 1 (.refl _))
  · have hge : k = s.T.length := by have hge : ¬ (k : Int) < s.T.length := hge; omega
    subst hge
    rw [List.take_length] at ht
    exact .drop 0 1 (.done ⟨av_int (chkS0 hi hr ha cv ht), rfl⟩)
end Go.Proofs.YtljbnigceammdaaGreat
