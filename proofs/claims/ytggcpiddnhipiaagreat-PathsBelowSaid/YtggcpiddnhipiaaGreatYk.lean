/-
  system.Start, Out; least.Iterate, Outs; soughref18.
-/
import Derived.Test.YtggcpiddnhipiaaGreatYj
namespace Go.Proofs.YtggcpiddnhipiaaGreat
open Go.RowKit
set_option maxRecDepth 100000
def nodeE (s : Sy) (v : Int) : Int := if checkS s = 0 then (if nodeB s.n v = true then 0 else 1) else checkS s
theorem nodeE_bad {s : Sy} {v : Int} (h : ¬ checkS s = 0) : checkS s = nodeE s v := (if_neg h).symm
theorem nodeE_no {s : Sy} {v : Int} (h : checkS s = 0) (hv : ¬ (0 ≤ v ∧ v < s.n)) : 1 = nodeE s v := by unfold nodeE; rw [if_pos h, if_neg]; rw [node_iff]; exact hv
theorem nodeE_yes {s : Sy} {v : Int} (h : checkS s = 0) (hv : 0 ≤ v ∧ v < s.n) : 0 = nodeE s v := by unfold nodeE; rw [if_pos h, if_pos]; rw [node_iff]; exact hv
theorem nodeE_zero {s : Sy} {v : Int} (h : nodeE s v = 0) : Good s ∧ 0 ≤ v ∧ v < s.n := by
  unfold nodeE at h
  split at h
  · rename_i h1
    split at h
    · rename_i h2; exact ⟨good_of h1, node_iff.1 h2⟩
    · cases h
  · rename_i h1; exact absurd h h1
theorem aSysNode (s : Sy) (v : Int) (σ : Hp) (hf : Fit s) : ACalls Tryz.prog 76 [.agg (sysC s), .int .i64 v] σ (Ret (.int .i64 (nodeE s v)) σ) := by
  refine okF Tryz.func76 (by kernel_rfl) ?_
  intro bl1
  refine LoadAt.mk 0 _ _ rfl rfl ?_
  refine callR [] (aSysCheck s _ hf) ?_
  refine bcond_split (fun c1 => ?_) (fun c1 => ?_)
  · have c1 : (!decide (checkS s = 0)) = true := c1
    have c1 : ¬ checkS s = 0 := by simpa using c1
    exact .drop 0 1 (.done ⟨av_int (nodeE_bad c1), rfl⟩)
  · have c1 : (!decide (checkS s = 0)) = false := c1
    have c1 : checkS s = 0 := by simpa using c1
    refine bcond_dec (p := v < 0) (fun c2 => ?_) (fun c2 => ?_)
    · exact .drop 0 1 (.done ⟨av_int (nodeE_no c1 (by omega)), rfl⟩)
    · refine LoadAt.mk 0 _ _ rfl rfl ?_
      refine bcond_dec (p := s.n ≤ v) (fun c3 => ?_) (fun c3 => ?_)
      · exact .drop 0 1 (.done ⟨av_int (nodeE_no c1 (by omega)), rfl⟩)
      · exact .drop 0 1 (.done ⟨av_int (nodeE_yes c1 (by omega)), rfl⟩)
theorem aSysStart (s : Sy) (v : Int) (σ : Hp) (hf : Fit s) : ACalls Tryz.prog 41 [.agg (sysC s), .int .i64 v] σ (Ret (.tup [.fsl (.int .u64) (okL (nodeE s v) (startS s v)), .int .i64 (nodeE s v)]) σ) := by
  refine okF Tryz.func41 (by kernel_rfl) ?_
  intro bl1
  refine LoadAt.mk 0 _ _ rfl rfl ?_
  refine callR [] (aSysNode s v _ hf) ?_
  refine bcond_split (fun c1 => ?_) (fun c1 => ?_)
  · have c1 : (!decide (nodeE s v = 0)) = true := c1
    have c1 : ¬ nodeE s v = 0 := by simpa using c1
    exact .nil (frz_cons (.nil _) (.refl _)) (.drop 0 1 (.done ⟨by rw [okL_neg c1]; rfl, rfl⟩))
  · have c1 : (!decide (nodeE s v = 0)) = false := c1
    have c1 : nodeE s v = 0 := by simpa using c1
    refine LoadAt.mk 0 _ _ rfl rfl ?_
    refine callR [] (aStart s v _ hf) ?_
    exact .drop 0 1 (.done ⟨by rw [okL_pos c1, c1]; rfl, rfl⟩)
/-- What Out tells. -/
def outE (s : Sy) (v : Int) (x : List Int) : Int := if nodeE s v = 0 then (if valL s.what s.w x = true then 0 else 2) else nodeE s v
theorem outE_bad {s : Sy} {v : Int} (x : List Int) (h : ¬ nodeE s v = 0) : outE s v x = nodeE s v := if_neg h
theorem outE_val {s : Sy} {v : Int} {x : List Int} (h : nodeE s v = 0) (hv : valL s.what s.w x = true) : outE s v x = 0 := by unfold outE; rw [if_pos h, if_pos hv]
theorem outE_no {s : Sy} {v : Int} {x : List Int} (h : nodeE s v = 0) (hv : valL s.what s.w x = false) : outE s v x = 2 := by unfold outE; rw [if_pos h, hv]; rfl
theorem aSysOut (s : Sy) (v : Int) (x : List Int) (σ : Hp) (hf : Fit s) (hx : A64 x) (lx : x.length ≤ 10000) : ACalls Tryz.prog 42 [.agg (sysC s), .int .i64 v, .fsl (.int .u64) x] σ (Ret (.tup [.fsl (.int .u64) (okL (outE s v x) (outS s x v.toNat)), .int .i64 (outE s v x)]) σ) := by
  refine okF Tryz.func42 (by kernel_rfl) ?_
  intro bl1
  refine LoadAt.mk 0 _ _ rfl rfl ?_
  refine callR [] (aSysNode s v _ hf) ?_
  refine bcond_split (fun c1 => ?_) (fun c1 => ?_)
  · have c1 : (!decide (nodeE s v = 0)) = true := c1
    have c1 : ¬ nodeE s v = 0 := by simpa using c1
    have e := outE_bad x c1
    exact .nil (frz_cons (.nil _) (.refl _)) (.drop 0 1 (.done ⟨by rw [e, okL_neg c1]; rfl, rfl⟩))
  · have c1 : (!decide (nodeE s v = 0)) = false := c1
    have c1 : nodeE s v = 0 := by simpa using c1
    obtain ⟨hg, hv0, hvn⟩ := nodeE_zero c1
    obtain ⟨hT, hTe⟩ := T_get hg (v := v.toNat) (by omega)
    have ht := hf.ts _ (List.getElem_mem hT)
    have hc := hg.trs _ (List.getElem_mem hT)
    have hA := fun σ => aTApply s.what s.w s.T[v.toNat].1 s.T[v.toNat].2.1 s.T[v.toNat].2.2.1 x σ ht.1 ht.2.1 hx ht.2.2.1 ht.2.2.2.1 lx (Nat.le_trans ht.2.2.2.2 (by decide))
    have hoe : applyR s.what s.T[v.toNat].1 s.T[v.toNat].2.1 s.T[v.toNat].2.2.1 x = outS s x v.toNat := by unfold outS; rw [hTe]
    have hE : errA s.what s.w s.T[v.toNat].1 s.T[v.toNat].2.1 s.T[v.toNat].2.2.1 x = outE s v x := by unfold outE errA; rw [if_pos hc, if_pos c1]
    rw [hoe, hE] at hA
    refine .quiet (by kernel_rfl) ?_
    refine LoadAt.mk 0 _ _ rfl rfl ?_
    refine LoadAt.mk 0 _ _ rfl rfl ?_
    refine LoadAt.mk 0 _ _ rfl rfl ?_
    refine With.mk rfl (IdxF.mk s.T[v.toNat] (by omega) (List.getElem?_eq_getElem hT) ?_)
    refine callQ [] (hA _) ?_
    exact .drop 0 1 (.done ⟨rfl, rfl⟩)
/-- How many Steps are asked for. -/
def clipS (s : Sy) (k : Int) : Int := min (max k 0) (enoughS s)
theorem clip_eq (k e : Int) (he : 0 ≤ e) : (if e < (if k < 0 then 0 else k) then e else (if k < 0 then 0 else k)) = min (max k 0) e := by
  by_cases h : k < 0
  · simp only [if_pos h]; split <;> omega
  · simp only [if_neg h]; split <;> omega
/-- The least values, held open. -/
theorem aSysBottomO (s : Sy) (σ : Hp) (hf : Fit s) (hg : Good s) : ACalls Tryz.prog 52 [.agg (sysC s)] σ (fun r σ' => ∃ b, r = .tup [.mref b 0 s.n.toNat 1, .int .i64 0] ∧ σ' = (b, uuC (bottomS s)) :: σ) := by
  refine okF Tryz.func52 (by kernel_rfl) ?_
  intro bl1
  refine LoadAt.mk 0 _ _ rfl rfl ?_
  refine callR [] (acalls_eq (aSysCheck s _ hf) (av_int (good_zero hg))) ?_
  obtain ⟨N, hN⟩ : ∃ N : Nat, s.n = N := ⟨s.n.toNat, by have := hg.n1; omega⟩
  have hN1 := hg.n1
  have hN2 := hg.n2
  refine LoadAt.mk 0 _ _ rfl rfl ?_
  have hrep : filC (fun _ => botL s.what s.w) N N = uuC (bottomS s) := by
    rw [filC_all]; unfold bottomS; rw [hN, Int.toNat_natCast, List.map_const', List.length_range]
  rw [hN]
  refine With.mk ⟨by omega, by omega, by omega, by decide⟩ ?_
  intro bo
  have hbo : (bo, repC [.nils] ((N : Int)).toNat) = (bo, filC (fun _ => botL s.what s.w) N 0) := by rw [filC_zero]; rfl
  refine loopS (S := Nat) (fun k => [(1, .ptr bl1 0), (5, .mref bo 0 N 1), (16, .int .i64 N), (17, .int .i64 k)]) (fun k => (bo, filC (fun _ => botL s.what s.w) N k) :: (bl1, sysC s) :: σ) (fun k => k ≤ N) (fun k => N - k) 0 ⟨Nat.zero_le _, ⟨rfl, rfl, rfl, rfl, trivial⟩, congrArg (· :: (bl1, sysC s) :: σ) hbo⟩ ?_
  intro k t hk0
  have hk : k ≤ N := hk0
  clear hk0
  refine bcond_dec (fun hlt => ?_) (fun hge => ?_)
  · have hlt : k < N := by have hlt : (k : Int) < N := hlt; omega
    refine LoadAt.mk 1 _ _ rfl rfl ?_
    refine LoadAt.mk 1 _ _ rfl rfl ?_
    refine callR [] (aLBottom _ _ _) ?_
    refine With.mk ⟨rfl, by omega, by omega⟩ ?_
    refine StoreAt.mk 0 _ _ rfl ((write1 rfl rfl (by rw [filC_length _ hk]; omega)).trans (congrArg some (show (filC (fun _ => botL s.what s.w) N k).set (0 + ((k : Int)).toNat * 1) (uC (botL s.what s.w)) = filC (fun _ => botL s.what s.w) N (k + 1) by rw [Nat.zero_add, Nat.mul_one, Int.toNat_natCast]; exact filC_set _ hlt))) ?_
    exact nextS (k + 1) (by show N - (k + 1) < N - k; omega) hlt ⟨rfl, rfl, rfl, inc64 (by omega), trivial⟩ (.refl _)
  · have hge : k = N := by have hge : ¬ (k : Int) < N := hge; omega
    subst hge
    rw [hrep]
    exact .drop 1 1 (.done ⟨bo, rfl, rfl⟩)
/-- What goes through all nodes. -/
def outsS (s : Sy) (a : List (List Int)) : List (List Int) := (List.range s.n.toNat).map fun v => outS s (a.getD v []) v
def outsE (s : Sy) (a : List (List Int)) : Int := if checkS s = 0 then (if valsS s a = true then 0 else 2) else checkS s
theorem aREnough (s : Sy) (σ : Hp) : ACalls Tryz.prog 66 [.agg (sysC s)] σ (Ret (.int .i64 (IntKind.i64.wrap (IntKind.i64.wrap (s.n * heightL s.what s.w) + 1))) σ) := by
  refine okF Tryz.func66 (by kernel_rfl) ?_
  intro bl1
  refine .quiet (by kernel_rfl) ?_
  refine LoadAt.mk 0 _ _ rfl rfl ?_
  refine LoadAt.mk 0 _ _ rfl rfl ?_
  refine LoadAt.mk 0 _ _ rfl rfl ?_
  refine callQ [] (aRHeight _ _ _) ?_
  exact .drop 0 1 (.done ⟨rfl, rfl⟩)
theorem aRSolve18 (s : Sy) (most : Nat) (σ : Hp) (hf : Fit s) (hg : Good s) (hm : most ≤ 1000000) : ACalls Tryz.prog 65 [.agg (sysC s), .int .i64 most] σ (Ret (.tup [.fsl (.slice (.int .u64)) (runL s most (bottomS s) 0).1, .int .i64 (runL s most (bottomS s) 0).2]) σ) := by
  refine okF Tryz.func65 (by kernel_rfl) ?_
  intro bl1
  refine LoadAt.mk 0 _ _ rfl rfl ?_
  refine callR [] (aRBottom17 s _ hg) ?_
  refine loopS (S := List (List Int) × Nat) (fun x => [(1, .int .i64 most), (2, .ptr bl1 0), (6, .fsl (.slice (.int .u64)) x.1), (7, .int .i64 x.2)]) (fun _ => (bl1, sysC s) :: σ) (fun x => (Vals s x.1 ∧ x.2 ≤ most) ∧ runL s (most - x.2) x.1 x.2 = runL s most (bottomS s) 0) (fun x => most - x.2) (bottomS s, 0) ⟨⟨⟨bottom_Vals hg, Nat.zero_le _⟩, rfl⟩, ⟨rfl, rfl, rfl, rfl, trivial⟩, rfl⟩ ?_
  rintro ⟨a, k⟩ t ⟨⟨ha0, hk0⟩, hR0⟩
  have ha : Vals s a := ha0
  have hk : k ≤ most := hk0
  have hR : runL s (most - k) a k = runL s most (bottomS s) 0 := hR0
  clear ha0 hk0 hR0
  refine bcond_dec (p := (k : Int) < most) (fun hlt => ?_) (fun hge => ?_)
  · have hlt : k < most := by omega
    refine LoadAt.mk 0 _ _ rfl rfl ?_
    refine callR [] (aRStep17 s a _ hf hg ha) ?_
    refine callB [] (aRSame17 a (stepS s a) _ (ha.ok hg)) (fun d => ?_) (fun d => ?_)
    · have d : a = stepS s a := of_decide_eq_true d
      rw [runL_stop _ _ d] at hR
      exact .drop 0 1 (.done ⟨by rw [← hR]; rfl, rfl⟩)
    · have d : ¬ a = stepS s a := of_decide_eq_false d
      rw [show most - k = (most - (k + 1)) + 1 by omega, runL_go _ _ d] at hR
      exact nextS (stepS s a, k + 1) (by show most - (k + 1) < most - k; omega) ⟨⟨step_Vals hf hg ha, hlt⟩, hR⟩ ⟨rfl, rfl, rfl, inc64 (by omega), trivial⟩ (.refl _)
  · have hge : k = most := by omega
    rw [hge, Nat.sub_self] at hR
    exact .drop 0 1 (.done ⟨by rw [← hR]; rfl, rfl⟩)
end Go.Proofs.YtggcpiddnhipiaaGreat
