/-
  system.Start, Out; least.Iterate, Outs; soughref18.
-/
import Derived.Test.YtelpeagiapapaaaGreatYj
namespace Go.Proofs.YtelpeagiapapaaaGreat
open Go.RowKit
set_option maxRecDepth 100000
def nodeE (s : Sy) (v : Int) : Int := if checkS s = 0 then (if nodeB s.n v = true then 0 else 1) else checkS s
theorem nodeE_bad {s : Sy} {v : Int} (h : ¬ checkS s = 0) : checkS s = nodeE s v := (if_neg h).symm
theorem nodeE_no {s : Sy} {v : Int} (h : checkS s = 0) (hv : ¬ (0 ≤ v ∧ v < s.n)) : 1 = nodeE s v := by unfold nodeE; rw [if_pos h, if_neg]; rw [node_iff]; exact hv
theorem nodeE_yes {s : Sy} {v : Int} (h : checkS s = 0) (hv : 0 ≤ v ∧ v < s.n) : 0 = nodeE s v := by unfold nodeE; rw [if_pos h, if_pos]; rw [node_iff]; exact hv
theorem nodeE_zero {s : Sy} {v : Int} (h : nodeE s v = 0) : Good s ∧ 0 ≤ v ∧ v < s.n := by
  unfold nodeE at h
  split at h
  · rename_i h1
    split at h
    · rename_i h2; exact ⟨good_of h1, node_iff.1 h2⟩
    · cases h
  · rename_i h1; exact absurd h h1
theorem aSysNode (s : Sy) (v : Int) (σ : Hp) (hf : Fit s) : ACalls Tryz.prog 42 [.agg (sysC s), .int .i64 v] σ (Ret (.int .i64 (nodeE s v)) σ) := by
  refine okF Tryz.func42 (by kernel_rfl) ?_
  intro bl1
  refine LoadAt.mk 0 _ _ rfl rfl ?_
  refine callR [] (aSysCheck s _ hf) ?_
  refine bcond_split (fun c1 => ?_) (fun c1 => ?_)
  · have c1 : (!decide (checkS s = 0)) = true := c1
    have c1 : ¬ checkS s = 0 := by simpa using c1
    exact .drop 0 1 (.done ⟨av_int (nodeE_bad c1), rfl⟩)
  · have c1 : (!decide (checkS s = 0)) = false := c1
    have c1 : checkS s = 0 := by simpa using c1
    refine bcond_dec (p := v < 0) (fun c2 => ?_) (fun c2 => ?_)
    · exact .drop 0 1 (.done ⟨av_int (nodeE_no c1 (by omega)), rfl⟩)
    · refine LoadAt.mk 0 _ _ rfl rfl ?_
      refine bcond_dec (p := s.n ≤ v) (fun c3 => ?_) (fun c3 => ?_)
      · exact .drop 0 1 (.done ⟨av_int (nodeE_no c1 (by omega)), rfl⟩)
      · exact .drop 0 1 (.done ⟨av_int (nodeE_yes c1 (by omega)), rfl⟩)
theorem aSysStart (s : Sy) (v : Int) (σ : Hp) (hf : Fit s) : ACalls Tryz.prog 11 [.agg (sysC s), .int .i64 v] σ (Ret (.tup [.fsl (.int .u64) (okL (nodeE s v) (startS s v)), .int .i64 (nodeE s v)]) σ) := by
  refine okF Tryz.func11 (by kernel_rfl) ?_
  intro bl1
  refine LoadAt.mk 0 _ _ rfl rfl ?_
  refine callR [] (aSysNode s v _ hf) ?_
  refine bcond_split (fun c1 => ?_) (fun c1 => ?_)
  · have c1 : (!decide (nodeE s v = 0)) = true := c1
    have c1 : ¬ nodeE s v = 0 := by simpa using c1
    exact .nil (frz_cons (.nil _) (.refl _)) (.drop 0 1 (.done ⟨by rw [okL_neg c1]; rfl, rfl⟩))
  · have c1 : (!decide (nodeE s v = 0)) = false := c1
    have c1 : nodeE s v = 0 := by simpa using c1
    refine LoadAt.mk 0 _ _ rfl rfl ?_
    refine callR [] (aStart s v _ hf) ?_
    exact .drop 0 1 (.done ⟨by rw [okL_pos c1, c1]; rfl, rfl⟩)
/-- What Out tells. -/
def outE (s : Sy) (v : Int) (x : List Int) : Int := if nodeE s v = 0 then (if valL s.what s.w x = true then 0 else 2) else nodeE s v
theorem outE_bad {s : Sy} {v : Int} (x : List Int) (h : ¬ nodeE s v = 0) : outE s v x = nodeE s v := if_neg h
theorem outE_val {s : Sy} {v : Int} {x : List Int} (h : nodeE s v = 0) (hv : valL s.what s.w x = true) : outE s v x = 0 := by unfold outE; rw [if_pos h, if_pos hv]
theorem outE_no {s : Sy} {v : Int} {x : List Int} (h : nodeE s v = 0) (hv : valL s.what s.w x = false) : outE s v x = 2 := by unfold outE; rw [if_pos h, hv]; rfl
theorem aSysOut (s : Sy) (v : Int) (x : List Int) (σ : Hp) (hf : Fit s) (hx : A64 x) (lx : x.length ≤ 10000) : ACalls Tryz.prog 12 [.agg (sysC s), .int .i64 v, .fsl (.int .u64) x] σ (Ret (.tup [.fsl (.int .u64) (okL (outE s v x) (outS s x v.toNat)), .int .i64 (outE s v x)]) σ) := by
  refine okF Tryz.func12 (by kernel_rfl) ?_
  intro bl1
  refine LoadAt.mk 0 _ _ rfl rfl ?_
  refine callR [] (aSysNode s v _ hf) ?_
  refine bcond_split (fun c1 => ?_) (fun c1 => ?_)
  · have c1 : (!decide (nodeE s v = 0)) = true := c1
    have c1 : ¬ nodeE s v = 0 := by simpa using c1
    have e := outE_bad x c1
    exact .nil (frz_cons (.nil _) (.refl _)) (.drop 0 1 (.done ⟨by rw [e, okL_neg c1]; rfl, rfl⟩))
  · have c1 : (!decide (nodeE s v = 0)) = false := c1
    have c1 : nodeE s v = 0 := by simpa using c1
    obtain ⟨hg, hv0, hvn⟩ := nodeE_zero c1
    obtain ⟨hT, hTe⟩ := T_get hg (v := v.toNat) (by omega)
    have ht := hf.ts _ (List.getElem_mem hT)
    have hc := hg.trs _ (List.getElem_mem hT)
    have hA := fun σ => aTApply s.what s.w s.T[v.toNat].1 s.T[v.toNat].2.1 s.T[v.toNat].2.2.1 x σ ht.1 ht.2.1 hx ht.2.2.1 ht.2.2.2.1 lx (Nat.le_trans ht.2.2.2.2 (by decide))
    have hoe : applyR s.what s.T[v.toNat].1 s.T[v.toNat].2.1 s.T[v.toNat].2.2.1 x = outS s x v.toNat := by unfold outS; rw [hTe]
    have hE : errA s.what s.w s.T[v.toNat].1 s.T[v.toNat].2.1 s.T[v.toNat].2.2.1 x = outE s v x := by unfold outE errA; rw [if_pos hc, if_pos c1]
    rw [hoe, hE] at hA
    refine .quiet (by kernel_rfl) ?_
    refine LoadAt.mk 0 _ _ rfl rfl ?_
    refine LoadAt.mk 0 _ _ rfl rfl ?_
    refine LoadAt.mk 0 _ _ rfl rfl ?_
    refine With.mk rfl (IdxF.mk s.T[v.toNat] (by omega) (List.getElem?_eq_getElem hT) ?_)
    refine callQ [] (hA _) ?_
    exact .drop 0 1 (.done ⟨rfl, rfl⟩)
/-- How many Steps are asked for. -/
def clipS (s : Sy) (k : Int) : Int := min (max k 0) (enoughS s)
theorem clip_eq (k e : Int) (he : 0 ≤ e) : (if e < (if k < 0 then 0 else k) then e else (if k < 0 then 0 else k)) = min (max k 0) e := by
  by_cases h : k < 0
  · simp only [if_pos h]; split <;> omega
  · simp only [if_neg h]; split <;> omega
theorem aIterK (s : Sy) (k : Int) (σ : Hp) (hf : Fit s) : ACalls Tryz.prog 29 [.agg (sysC s), .int .i64 k] σ (Ret (.tup [.fsl (.slice (.int .u64)) (okG (checkS s) (runL s (clipS s k).toNat (bottomS s) 0).1), .int .i64 (checkS s)]) σ) := by
  refine okF Tryz.func29 (by kernel_rfl) ?_
  intro bl1
  refine .quiet (by kernel_rfl) ?_
  refine LoadAt.mk 0 _ _ rfl rfl ?_
  refine LoadAt.mk 0 _ _ rfl rfl ?_
  refine callQ [] (aEnough s _) ?_
  refine callQ [] (aIterate s _ _ hf (fun h => ?_)) ?_
  · have := enough_eq (good_of h)
    rw [this.1, clip_eq k _ this.2.1]; omega
  · refine .drop 0 1 (.done ⟨?_, rfl⟩)
    by_cases h : checkS s = 0
    · have := enough_eq (good_of h)
      unfold clipS
      rw [this.1, clip_eq k _ this.2.1]
      rfl
    · unfold okG
      rw [if_neg h, if_neg h]
      rfl
/-- The least values, held open. -/
theorem aSysBottomO (s : Sy) (σ : Hp) (hf : Fit s) (hg : Good s) : ACalls Tryz.prog 13 [.agg (sysC s)] σ (fun r σ' => ∃ b, r = .tup [.mref b 0 s.n.toNat 1, .int .i64 0] ∧ σ' = (b, uuC (bottomS s)) :: σ) := by
  refine okF Tryz.func13 (by kernel_rfl) ?_
  intro bl1
  refine LoadAt.mk 0 _ _ rfl rfl ?_
  refine callR [] (acalls_eq (aSysCheck s _ hf) (av_int (good_zero hg))) ?_
  obtain ⟨N, hN⟩ : ∃ N : Nat, s.n = N := ⟨s.n.toNat, by have := hg.n1; omega⟩
  have hN1 := hg.n1
  have hN2 := hg.n2
  refine LoadAt.mk 0 _ _ rfl rfl ?_
  have hrep : filC (fun _ => botL s.what s.w) N N = uuC (bottomS s) := by
    rw [filC_all]; unfold bottomS; rw [hN, Int.toNat_natCast, List.map_const', List.length_range]
  rw [hN]
  refine With.mk ⟨by omega, by omega, by omega, by decide⟩ ?_
  intro bo
  have hbo : (bo, repC [.nils] ((N : Int)).toNat) = (bo, filC (fun _ => botL s.what s.w) N 0) := by rw [filC_zero]; rfl
  refine loopS (S := Nat) (fun k => [(1, .ptr bl1 0), (5, .mref bo 0 N 1), (16, .int .i64 N), (17, .int .i64 k)]) (fun k => (bo, filC (fun _ => botL s.what s.w) N k) :: (bl1, sysC s) :: σ) (fun k => k ≤ N) (fun k => N - k) 0 ⟨Nat.zero_le _, ⟨rfl, rfl, rfl, rfl, trivial⟩, congrArg (· :: (bl1, sysC s) :: σ) hbo⟩ ?_
  intro k t hk0
  have hk : k ≤ N := hk0
  clear hk0
  refine bcond_dec (fun hlt => ?_) (fun hge => ?_)
  · have hlt : k < N := by have hlt : (k : Int) < N := hlt; omega
    refine LoadAt.mk 1 _ _ rfl rfl ?_
    refine LoadAt.mk 1 _ _ rfl rfl ?_
    refine callR [] (aLBottom _ _ _) ?_
    refine With.mk ⟨rfl, by omega, by omega⟩ ?_
    refine StoreAt.mk 0 _ _ rfl ((write1 rfl rfl (by rw [filC_length _ hk]; omega)).trans (congrArg some (show (filC (fun _ => botL s.what s.w) N k).set (0 + ((k : Int)).toNat * 1) (uC (botL s.what s.w)) = filC (fun _ => botL s.what s.w) N (k + 1) by rw [Nat.zero_add, Nat.mul_one, Int.toNat_natCast]; exact filC_set _ hlt))) ?_
    exact nextS (k + 1) (by show N - (k + 1) < N - k; omega) hlt ⟨rfl, rfl, rfl, inc64 (by omega), trivial⟩ (.refl _)
  · have hge : k = N := by have hge : ¬ (k : Int) < N := hge; omega
    subst hge
    rw [hrep]
    exact .drop 1 1 (.done ⟨bo, rfl, rfl⟩)
/-- What goes through all nodes. -/
def outsS (s : Sy) (a : List (List Int)) : List (List Int) := (List.range s.n.toNat).map fun v => outS s (a.getD v []) v
def outsE (s : Sy) (a : List (List Int)) : Int := if checkS s = 0 then (if valsS s a = true then 0 else 2) else checkS s
theorem aOuts (s : Sy) (a : List (List Int)) (σ : Hp) (hf : Fit s) (ha : okLL a) : ACalls Tryz.prog 33 [.agg (sysC s), .fsl (.slice (.int .u64)) a] σ (Ret (.tup [.fsl (.slice (.int .u64)) (okG (outsE s a) (outsS s a)), .int .i64 (outsE s a)]) σ) := by
  refine okF Tryz.func33 (by kernel_rfl) ?_
  intro bl1
  refine LoadAt.mk 0 _ _ rfl rfl ?_
  by_cases c1 : checkS s = 0
  rotate_left
  · refine callR [] (aSysBottom s _ hf) ?_
    refine bcond_split (fun _ => ?_) (fun c2 => ?_)
    · have e : outsE s a = checkS s := if_neg c1
      exact .nil (frz_cons (.nil _) (.refl _)) (.drop 0 1 (.done ⟨by rw [e]; unfold okG; rw [if_neg c1]; rfl, rfl⟩))
    · have c2 : (!decide (checkS s = 0)) = false := c2
      exact absurd (by simpa using c2) c1
  have hg := good_of c1
  refine .mk [] _ (aSysBottomO s _ hf hg) ?_
  rintro _ _ ⟨bo, rfl, rfl⟩
  obtain ⟨N, hN⟩ : ∃ N : Nat, s.n = N := ⟨s.n.toNat, by have := hg.n1; omega⟩
  have hN1 := hg.n1
  have hN2 := hg.n2
  have hNt : s.n.toNat = N := by omega
  rw [hNt]
  refine bcond_split (fun c2 => ?_) (fun c2 => ?_)
  · have c2 : (!decide ((a.length : Int) = (N : Int))) = true := c2
    have c2 : ¬ (a.length : Int) = N := by simpa using c2
    have e : outsE s a = 2 := by unfold outsE valsS; rw [if_pos c1, decide_eq_false (by omega)]; rfl
    exact .nil (frz_cons (.nil _) (.refl _)) (.drop 0 2 (.done ⟨by rw [e]; rfl, rfl⟩))
  have c2 : (!decide ((a.length : Int) = (N : Int))) = false := c2
  have c2 : (a.length : Int) = N := by simpa using c2
  have hb0 : (bo, uuC (bottomS s)) = (bo, uuC (((outsS s a).take 0) ++ (bottomS s).drop 0)) := rfl
  have hlo : (outsS s a).length = N := by unfold outsS; simp; omega
  have hlb : (bottomS s).length = N := (bottomS_length s).trans hNt
  refine loopS (S := Nat) (fun k => [(1, .fsl (.slice (.int .u64)) a), (2, .ptr bl1 0), (6, .mref bo 0 N 1), (23, .int .i64 N), (24, .int .i64 k)]) (fun k => (bo, uuC (((outsS s a).take k) ++ (bottomS s).drop k)) :: (bl1, sysC s) :: σ) (fun k => k ≤ N ∧ ∀ x ∈ a.take k, valL s.what s.w x = true) (fun k => N - k) 0 ⟨⟨Nat.zero_le _, fun x h => by cases h⟩, ⟨rfl, rfl, rfl, rfl, rfl, trivial⟩, congrArg (· :: (bl1, sysC s) :: σ) hb0⟩ ?_
  rintro k t ⟨hk0, hv0⟩
  have hk : k ≤ N := hk0
  have hv : ∀ x ∈ a.take k, valL s.what s.w x = true := hv0
  clear hk0 hv0
  refine bcond_dec (fun hlt => ?_) (fun hge => ?_)
  · have hlt : k < N := by have hlt : (k : Int) < N := hlt; omega
    have hlt2 : k < a.length := by omega
    have hxa := ha.2 _ (List.getElem_mem hlt2)
    have hn0 : nodeE s k = 0 := (nodeE_yes c1 (by omega)).symm
    have htk : a.take (k + 1) = a.take k ++ [a[k]] := List.take_succ_eq_append_getElem hlt2
    refine .sched [8] (upto [8] 15 0) (by kernel_rfl) ?_
    refine LoadAt.mk 1 _ _ rfl rfl ?_
    refine With.mk rfl (IdxF.mk a[k] (by omega) (get_some hlt2) ?_)
    cases hval : valL s.what s.w a[k] with
    | true =>
      have hO : (outsS s a)[k]? = some (outS s a[k] k) := by
        unfold outsS
        rw [List.getElem?_map, List.getElem?_range (by omega)]
        show some (outS s (a.getD k []) k) = _
        rw [List.getD_eq_getElem?_getD, List.getElem?_eq_getElem hlt2]; rfl
      refine callQ [] (acalls_eq (aSysOut s k a[k] _ hf hxa.1 hxa.2) (by rw [outE_val hn0 hval, okL_pos rfl, Int.toNat_natCast])) ?_
      refine With.mk ⟨rfl, by omega, by omega⟩ ?_
      have hset : (uuC (((outsS s a).take k) ++ (bottomS s).drop k)).set (0 + ((k : Int)).toNat * 1) (uC (outS s a[k] k)) = uuC (((outsS s a).take (k + 1)) ++ (bottomS s).drop (k + 1)) := by
        rw [Nat.zero_add, Nat.mul_one, Int.toNat_natCast, uuC_set]
        congr 1
        have hd : (bottomS s).drop k = (bottomS s)[k] :: (bottomS s).drop (k + 1) := List.drop_eq_getElem_cons (by omega)
        have ht : (outsS s a).take (k + 1) = (outsS s a).take k ++ [outS s a[k] k] := by
          rw [List.take_add_one, hO]; rfl
        rw [hd, ht, List.set_append_right _ _ (by rw [List.length_take]; omega), List.length_take, show k - min k (outsS s a).length = 0 by omega, List.set_cons_zero, List.append_assoc]
        rfl
      refine StoreAt.mk 0 _ _ rfl ((write1 rfl rfl (by rw [uuC_length, List.length_append, List.length_take, List.length_drop]; omega)).trans (congrArg some hset)) ?_
      refine nextS (k + 1) (by show N - (k + 1) < N - k; omega) ⟨hlt, fun x hx => ?_⟩ ⟨rfl, rfl, rfl, rfl, inc64 (by omega), trivial⟩ (.refl _)
      rw [htk] at hx
      rcases List.mem_append.1 hx with hx | hx
      · exact hv x hx
      · rw [List.mem_singleton.1 hx]; exact hval
    | false =>
      have e : outsE s a = 2 := by
        unfold outsE
        rw [if_pos c1]
        cases hva : valsS s a with
        | false => rfl
        | true => rw [(vals_iff.1 hva).2 _ (List.getElem_mem hlt2)] at hval; cases hval
      refine callQ [] (acalls_eq (aSysOut s k a[k] _ hf hxa.1 hxa.2) (by rw [outE_no hn0 hval])) ?_
      refine With.mk ⟨rfl, by omega, by omega⟩ ?_
      refine StoreAt.mk 0 _ _ rfl (write1 rfl rfl (by rw [uuC_length, List.length_append, List.length_take, List.length_drop]; omega)) ?_
      exact .nil (frz_cons (.nil _) (.refl _)) (.drop 0 2 (.done ⟨by rw [e]; rfl, rfl⟩))
  · have hge : k = N := by have hge : ¬ (k : Int) < N := hge; omega
    subst hge
    rw [List.take_of_length_le (by omega)] at hv
    have hva : valsS s a = true := vals_iff.2 ⟨by omega, hv⟩
    have e : outsE s a = 0 := by unfold outsE; rw [if_pos c1, if_pos hva]
    have hfin : ((outsS s a).take k) ++ (bottomS s).drop k = outsS s a := by
      rw [List.take_of_length_le (by omega), List.drop_of_length_le (by omega), List.append_nil]
    rw [hfin]
    refine .frz 0 bo 0 k 1 _ (.slice (.int .u64)) (outsS s a) rfl ?_ ⟨hlo, rfl, by decide⟩ (frz_cons .here (.refl _)) (.drop 0 1 (.done ⟨?_, rfl⟩))
    · rw [List.drop_zero, ← uuC_flat]
      exact List.take_of_length_le (by rw [uuC_length]; omega)
    · rw [e]; rfl
theorem aREnough (s : Sy) (σ : Hp) : ACalls Tryz.prog 32 [.agg (sysC s)] σ (Ret (.int .i64 (IntKind.i64.wrap (IntKind.i64.wrap (s.n * heightL s.what s.w) + 1))) σ) := by
  refine okF Tryz.func32 (by kernel_rfl) ?_
  intro bl1
  refine .quiet (by kernel_rfl) ?_
  refine LoadAt.mk 0 _ _ rfl rfl ?_
  refine LoadAt.mk 0 _ _ rfl rfl ?_
  refine LoadAt.mk 0 _ _ rfl rfl ?_
  refine callQ [] (aRHeight _ _ _) ?_
  exact .drop 0 1 (.done ⟨rfl, rfl⟩)
theorem aRSolve18 (s : Sy) (most : Nat) (σ : Hp) (hf : Fit s) (hg : Good s) (hm : most ≤ 1000000) : ACalls Tryz.prog 31 [.agg (sysC s), .int .i64 most] σ (Ret (.tup [.fsl (.slice (.int .u64)) (runL s most (bottomS s) 0).1, .int .i64 (runL s most (bottomS s) 0).2]) σ) := by
  refine okF Tryz.func31 (by kernel_rfl) ?_
  intro bl1
  refine LoadAt.mk 0 _ _ rfl rfl ?_
  refine callR [] (aRBottom17 s _ hg) ?_
  refine loopS (S := List (List Int) × Nat) (fun x => [(1, .int .i64 most), (2, .ptr bl1 0), (6, .fsl (.slice (.int .u64)) x.1), (7, .int .i64 x.2)]) (fun _ => (bl1, sysC s) :: σ) (fun x => (Vals s x.1 ∧ x.2 ≤ most) ∧ runL s (most - x.2) x.1 x.2 = runL s most (bottomS s) 0) (fun x => most - x.2) (bottomS s, 0) ⟨⟨⟨bottom_Vals hg, Nat.zero_le _⟩, rfl⟩, ⟨rfl, rfl, rfl, rfl, trivial⟩, rfl⟩ ?_
  rintro ⟨a, k⟩ t ⟨⟨ha0, hk0⟩, hR0⟩
  have ha : Vals s a := ha0
  have hk : k ≤ most := hk0
  have hR : runL s (most - k) a k = runL s most (bottomS s) 0 := hR0
  clear ha0 hk0 hR0
  refine bcond_dec (p := (k : Int) < most) (fun hlt => ?_) (fun hge => ?_)
  · have hlt : k < most := by omega
    refine LoadAt.mk 0 _ _ rfl rfl ?_
    refine callR [] (aRStep17 s a _ hf hg ha) ?_
    refine callB [] (aRSame17 a (stepS s a) _ (ha.ok hg)) (fun d => ?_) (fun d => ?_)
    · have d : a = stepS s a := of_decide_eq_true d
      rw [runL_stop _ _ d] at hR
      exact .drop 0 1 (.done ⟨by rw [← hR]; rfl, rfl⟩)
    · have d : ¬ a = stepS s a := of_decide_eq_false d
      rw [show most - k = (most - (k + 1)) + 1 by omega, runL_go _ _ d] at hR
      exact nextS (stepS s a, k + 1) (by show most - (k + 1) < most - k; omega) ⟨⟨step_Vals hf hg ha, hlt⟩, hR⟩ ⟨rfl, rfl, rfl, inc64 (by omega), trivial⟩ (.refl _)
  · have hge : k = most := by omega
    rw [hge, Nat.sub_self] at hR
    exact .drop 0 1 (.done ⟨by rw [← hR]; rfl, rfl⟩)
end Go.Proofs.YtelpeagiapapaaaGreat
