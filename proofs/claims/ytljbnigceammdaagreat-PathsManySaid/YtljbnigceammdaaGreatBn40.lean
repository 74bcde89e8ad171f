/-
  Yk: what the claim uses of them.
-/
import Derived.Test.YtljbnigceammdaaGreatBn39
namespace Go.Proofs.YtljbnigceammdaaGreat
open Go.RowKit
set_option maxRecDepth 100000
def upL (n : Nat) : List Int := (List.range n).map fun i : Nat => (i : Int)
theorem upL_length (n : Nat) : (upL n).length = n := by simp [upL]
theorem upL_succ (n : Nat) : upL (n + 1) = upL n ++ [(n : Int)] := by unfold upL; rw [List.range_succ, List.map_append]; rfl
theorem upL_get {n k : Nat} (h : k < n) : (upL n)[k]? = some (k : Int) := by unfold upL; rw [List.getElem?_map, List.getElem?_range h]; rfl
/-- The set of the numbers below a width. -/
theorem aROfUp (n : Nat) (σ : Hp) (hn : n ≤ 1024) : ACalls Tryz.prog 102 [.int .i64 n, .fsl (.int .i64) (upL n)] σ (Ret (.fsl (.int .u64) (fullW n)) σ) := by
  have hcut : cutW n = n := by unfold cutW; omega
  have hsz := sizeW_le n
  refine okF Tryz.func102 (by kernel_rfl) ?_
  refine callR [] (aSizeR n _) ?_
  refine With.mk ⟨by omega, by omega, by omega, by decide⟩ ?_
  intro q
  refine loopS (S := Nat × Nat) (fun s => [(0, .int .i64 n), (5, .mref s.2 0 (sizeW n) 1), (11, .fsl (.int .i64) (upL n)), (12, .int .i64 n), (13, .int .i64 s.1)]) (fun s => (s.2, woC (ptW (fullW n) s.1)) :: σ) (fun s => s.1 ≤ n) (fun s => n - s.1) (0, q) ⟨Nat.zero_le _, ⟨rfl, rfl, rfl, congrArg (fun m : Nat => AV.int .i64 (m : Int)) (upL_length n), rfl, trivial⟩, ?_⟩ ?_
  · show (q, repC [.int .u64 0] (((sizeW n : Nat) : Int)).toNat) :: σ = (q, woC (ptW (fullW n) 0)) :: σ
    rw [ptW_zero, fullW_length, Int.toNat_natCast, rep_woC]
  rintro ⟨k, b⟩ g hk0
  have hk : k ≤ n := hk0
  clear hk0
  refine bcond_dec (fun hlt => ?_) (fun hge => ?_)
  · have hlt : k < n := by have hlt : (k : Int) < n := hlt; omega
    refine With.mk rfl (IdxF.mk (k : Int) (by omega) (by rw [Int.toNat_natCast]; exact upL_get hlt) ?_)
    refine callR [] (aWidthR n _) ?_
    refine bcond_dec (p := (k : Int) < (cutW n : Int)) (fun _ => ?_) (fun h => ?_)
    rotate_left
    · exact absurd (by omega) h
    have hi : k / 64 < sizeW n := by unfold sizeW; omega
    refine .mk [] _ (aWithB (ptW (fullW n) k) k b (sizeW n) σ (by rw [ptW_length, fullW_length]) (by omega) hi) ?_
    rintro _ _ ⟨b2, rfl, rfl⟩
    refine nextS (k + 1, b2) (by show n - (k + 1) < n - k; omega) hlt ⟨rfl, rfl, rfl, rfl, inc64 (by omega), trivial⟩ (.drop 1 1 (shed_eq ?_))
    rw [full_step n (by omega)]
    rfl
  · have hge : k = n := by have hge : ¬ (k : Int) < n := hge; omega
    subst hge
    have hc := full_cut k
    rw [hcut] at hc
    rw [hc]
    exact .frz 0 b 0 (sizeW k) 1 _ (.int .u64) (fullW k) rfl (by rw [List.drop_zero, ← woC_flat]; exact List.take_of_length_le (by simp [woC, fullW_length])) ⟨fullW_length k, rfl, by decide⟩ .here (.done ⟨rfl, rfl⟩)
theorem aRFull12 (n : Nat) (σ : Hp) (hn : n ≤ 1024) : ACalls Tryz.prog 60 [.int .i64 n] σ (Ret (.fsl (.int .u64) (fullW n)) σ) := by
  refine okF Tryz.func60 (by kernel_rfl) ?_
  refine .wrap 3 _ rfl rfl ?_
  refine loopS (S := Nat × AV × Hp) (fun s => [(0, .int .i64 n), (3, .via s.2.1), (4, .int .i64 s.1)]) (fun s => s.2.2 ++ σ) (fun s => s.1 ≤ n ∧ Acc 1 s.1 s.2.1 s.2.2 (inC (upL s.1))) (fun s => n - s.1) (0, .nils, []) ⟨⟨Nat.zero_le _, .nil⟩, ⟨rfl, rfl, rfl, trivial⟩, rfl⟩ ?_
  rintro ⟨k, v, acc⟩ g ⟨hk0, hacc0⟩
  have hk : k ≤ n := hk0
  have hacc : Acc 1 k v acc (inC (upL k)) := hacc0
  clear hk0 hacc0
  refine bcond_dec (fun hlt => ?_) (fun hge => ?_)
  · have hlt : k < n := by have hlt : (k : Int) < n := hlt; omega
    intro bl1
    refine append_acc [_] hacc (.mref 0 bl1 0 1 _ rfl (Nat.le_of_ble_eq_true rfl)) rfl (by omega) (by decide) (by decide) (fun v' acc' h' => ?_)
    refine nextS (k + 1, v', acc') (by show n - (k + 1) < n - k; omega) ⟨hlt, ?_⟩ ⟨rfl, rfl, inc64 (by omega), trivial⟩ (.drop 0 1 (shed_eq rfl))
    show Acc 1 (k + 1) v' acc' (inC (upL (k + 1)))
    rw [upL_succ, inC, List.map_append]
    exact h'
  · have hge : k = n := by have hge : ¬ (k : Int) < n := hge; omega
    subst hge
    have hO := fun σ => aROfUp k σ hn
    generalize hU : upL k = U at hacc hO
    have hlU : U.length = k := by rw [← hU]; exact upL_length k
    generalize hC : inC U = C at hacc
    cases hacc with
    | nil =>
      have hU0 : U = [] := List.length_eq_zero_iff.1 hlU
      rw [hU0] at hO
      refine callR [] (acalls_nil (frz_cons (.refl _) (frz_cons (.nil _) frz_nil)) (hO _)) ?_
      exact .done ⟨rfl, rfl⟩
    | mref b k cs h =>
      refine .frz (args' := [.int .i64 k, .fsl (.int .i64) U]) 0 b 0 k 1 _ (.int .i64) U rfl (by rw [List.drop_zero, ← inC_flat, hC]; exact List.take_of_length_le (by omega)) ⟨hlU, rfl, by decide⟩ (frz_cons (.refl _) (frz_cons .here frz_nil)) (callR [] (hO _) ?_)
      exact .done ⟨rfl, rfl⟩
theorem aRBottom12 (what w : Int) (σ : Hp) (hi : is12 what w = true) : ACalls Tryz.prog 30 [.int .i64 what, .int .i64 w] σ (Ret (.fsl (.int .u64) (botL what w)) σ) := by
  refine okF Tryz.func30 (by kernel_rfl) ?_
  have hw := wordsL_le what w
  refine callR [] (acalls_eq (aRIs what w _) (av_bool hi)) ?_
  refine bcond_dec (p := what = 2) (fun c => ?_) (fun c => ?_)
  · have hi' := hi
    unfold is12 at hi'; simp at hi'
    obtain ⟨n, rfl⟩ : ∃ n : Nat, w = n := ⟨w.toNat, by omega⟩
    refine callR [] (aRFull12 n _ (by omega)) ?_
    exact .done ⟨by rw [show botL what (n : Int) = fullW n from if_pos ⟨c, hi⟩]; rfl, rfl⟩
  · refine callR [] (aRWords12 what w _) ?_
    refine With.mk ⟨by omega, by omega, by omega, by decide⟩ ?_
    intro b
    have e : botL what w = List.replicate (wordsL what w).toNat 0 := if_neg fun h => c h.1
    rw [e]
    show Fin _ (.mref b 0 (wordsL what w).toNat 1) ((b, repC [.int .u64 0] (wordsL what w).toNat) :: σ)
    rw [rep_woC]
    have hl : (List.replicate (wordsL what w).toNat (0 : Int)).length = (wordsL what w).toNat := List.length_replicate
    generalize List.replicate (wordsL what w).toNat (0 : Int) = Z at hl
    refine .frz 0 b 0 (wordsL what w).toNat 1 _ (.int .u64) Z rfl ?_ ⟨hl, rfl, by decide⟩ .here (.done ⟨rfl, rfl⟩)
    rw [List.drop_zero, ← woC_flat]
    exact List.take_of_length_le (by rw [woC, List.length_map, hl]; omega)
theorem aRStart17 (s : Sy) (v : Int) (σ : Hp) (hf : Fit s) (hg : Good s) : ACalls Tryz.prog 16 [.agg (sysC s), .int .i64 v] σ (Ret (.fsl (.int .u64) (startS s v)) σ) := by
  refine okF Tryz.func16 (by kernel_rfl) ?_
  intro bl1
  refine LoadAt.mk 0 _ _ rfl rfl ?_
  refine callB [] (aRIn s.entry v _ (Nat.le_trans hf.nlen (by decide))) (fun c => ?_) (fun c => ?_)
  · intro bl2
    have hle := hf.ilen
    refine LoadAt.mk 1 _ _ rfl rfl ?_
    refine AppendAt.more 0 bl2 0 s.init.length [] _ rfl rfl (Nat.le_of_ble_eq_true rfl) (.fsl (.int .u64) s.init rfl) (by omega) (by decide) (by decide) (fun b => ?_)
    have e : startS s v = s.init := by unfold startS; rw [c]; rfl
    rw [e]
    refine .frz 0 b 0 (0 + s.init.length) 1 _ (.int .u64) s.init rfl ?_ ⟨(Nat.zero_add _).symm, rfl, by decide⟩ .here (.drop 0 1 (.done ⟨rfl, rfl⟩))
    rw [List.drop_zero]
    refine List.take_of_length_le ?_
    have := flat_length (fun d => Sh.cells_length (.int .u64) d) s.init
    simp only [List.take_nil, List.nil_append]
    rw [this]
    show s.init.length * 1 ≤ (0 + s.init.length) * 1
    omega
  · refine LoadAt.mk 0 _ _ rfl rfl ?_
    refine LoadAt.mk 0 _ _ rfl rfl ?_
    refine callR [] (aRBottom12 s.what s.w _ hg.isL) ?_
    exact .drop 0 1 (.done ⟨by unfold startS; rw [c]; rfl, rfl⟩)
theorem aROut17 (s : Sy) (v : Nat) (x : List Int) (σ : Hp) (hf : Fit s) (hg : Good s) (hv : (v : Int) < s.n) (hx : Val s.what s.w x) : ACalls Tryz.prog 62 [.agg (sysC s), .int .i64 v, .fsl (.int .u64) x] σ (Ret (.fsl (.int .u64) (outS s x v)) σ) := by
  refine okF Tryz.func62 (by kernel_rfl) ?_
  intro bl1
  obtain ⟨hT, hTe⟩ := T_get hg hv
  have ht := hf.ts _ (List.getElem_mem hT)
  have hc := hg.trs _ (List.getElem_mem hT)
  have hl := val_short hx.v
  refine .quiet (by kernel_rfl) ?_
  refine LoadAt.mk 0 _ _ rfl rfl ?_
  refine LoadAt.mk 0 _ _ rfl rfl ?_
  refine With.mk rfl (IdxF.mk s.T[v] (by omega) (by rw [Int.toNat_natCast]; exact List.getElem?_eq_getElem hT) ?_)
  refine callQ [] (aRApply s.what s.T[v].1 s.T[v].2.1 s.T[v].2.2.1 x _ ht.1 ht.2.1 hx.w64 ht.2.2.1 ht.2.2.2.1 (by omega) (Nat.le_trans ht.2.2.2.2 (by decide)) (fun h3 => by rw [val_width hx.v h3]; exact (tr_flat hc h3).2.2)) ?_
  exact .drop 0 1 (.done ⟨by unfold outS; rw [hTe]; rfl, rfl⟩)
set_option maxRecDepth 100000
def nodeE (s : Sy) (v : Int) : Int := if checkS s = 0 then (if nodeB s.n v = true then 0 else 1) else checkS s
theorem nodeE_bad {s : Sy} {v : Int} (h : ¬ checkS s = 0) : checkS s = nodeE s v := (if_neg h).symm
theorem nodeE_no {s : Sy} {v : Int} (h : checkS s = 0) (hv : ¬ (0 ≤ v ∧ v < s.n)) : 1 = nodeE s v := by unfold nodeE; rw [if_pos h, if_neg]; rw [node_iff]; exact hv
theorem nodeE_yes {s : Sy} {v : Int} (h : checkS s = 0) (hv : 0 ≤ v ∧ v < s.n) : 0 = nodeE s v := by unfold nodeE; rw [if_pos h, if_pos]; rw [node_iff]; exact hv
theorem nodeE_zero {s : Sy} {v : Int} (h : nodeE s v = 0) : Good s ∧ 0 ≤ v ∧ v < s.n := by
  unfold nodeE at h
  split at h
  · rename_i h1
    split at h
    · rename_i h2; exact ⟨good_of h1, node_iff.1 h2⟩
    · cases h
  · rename_i h1; exact absurd h h1
theorem aSysNode (s : Sy) (v : Int) (σ : Hp) (hf : Fit s) : ACalls Tryz.prog 71 [.agg (sysC s), .int .i64 v] σ (Ret (.int .i64 (nodeE s v)) σ) := by
  refine okF Tryz.func71 (by kernel_rfl) ?_
  intro bl1
  refine LoadAt.mk 0 _ _ rfl rfl ?_
  refine callR [] (aSysCheck s _ hf) ?_
  refine bcond_split (fun c1 => ?_) (fun c1 => ?_)
  · have c1 : (!decide (checkS s = 0)) = true := c1
    have c1 : ¬ checkS s = 0 := by simpa using c1
    exact .drop 0 1 (.done ⟨av_int (nodeE_bad c1), rfl⟩)
  · have c1 : (!decide (checkS s = 0)) = false := c1
    have c1 : checkS s = 0 := by simpa using c1
    refine bcond_dec (p := v < 0) (fun c2 => ?_) (fun c2 => ?_)
    · exact .drop 0 1 (.done ⟨av_int (nodeE_no c1 (by omega)), rfl⟩)
    · refine LoadAt.mk 0 _ _ rfl rfl ?_
      refine bcond_dec (p := s.n ≤ v) (fun c3 => ?_) (fun c3 => ?_)
      · exact .drop 0 1 (.done ⟨av_int (nodeE_no c1 (by omega)), rfl⟩)
      · exact .drop 0 1 (.done ⟨av_int (nodeE_yes c1 (by omega)), rfl⟩)
theorem aSysStart (s : Sy) (v : Int) (σ : Hp) (hf : Fit s) : ACalls Tryz.prog 38 [.agg (sysC s), .int .i64 v] σ (Ret (.tup [.fsl (.int .u64) (okL (nodeE s v) (startS s v)), .int .i64 (nodeE s v)]) σ) := by
  refine okF Tryz.func38 (by kernel_rfl) ?_
  intro bl1
  refine LoadAt.mk 0 _ _ rfl rfl ?_
  refine callR [] (aSysNode s v _ hf) ?_
  refine bcond_split (fun c1 => ?_) (fun c1 => ?_)
  · have c1 : (!decide (nodeE s v = 0)) = true := c1
    have c1 : ¬ nodeE s v = 0 := by simpa using c1
    exact .nil (frz_cons (.nil _) (.refl _)) (.drop 0 1 (.done ⟨by rw [okL_neg c1]; rfl, rfl⟩))
  · have c1 : (!decide (nodeE s v = 0)) = false := c1
    have c1 : nodeE s v = 0 := by simpa using c1
    refine LoadAt.mk 0 _ _ rfl rfl ?_
    refine callR [] (aStart s v _ hf) ?_
    exact .drop 0 1 (.done ⟨by rw [okL_pos c1, c1]; rfl, rfl⟩)
/-- What Out tells. -/
def outE (s : Sy) (v : Int) (x : List Int) : Int := if nodeE s v = 0 then (if valL s.what s.w x = true then 0 else 2) else nodeE s v
theorem outE_bad {s : Sy} {v : Int} (x : List Int) (h : ¬ nodeE s v = 0) : outE s v x = nodeE s v := if_neg h
theorem outE_val {s : Sy} {v : Int} {x : List Int} (h : nodeE s v = 0) (hv : valL s.what s.w x = true) : outE s v x = 0 := by unfold outE; rw [if_pos h, if_pos hv]
theorem aSysOut (s : Sy) (v : Int) (x : List Int) (σ : Hp) (hf : Fit s) (hx : A64 x) (lx : x.length ≤ 10000) : ACalls Tryz.prog 39 [.agg (sysC s), .int .i64 v, .fsl (.int .u64) x] σ (Ret (.tup [.fsl (.int .u64) (okL (outE s v x) (outS s x v.toNat)), .int .i64 (outE s v x)]) σ) := by
  refine okF Tryz.func39 (by kernel_rfl) ?_
  intro bl1
  refine LoadAt.mk 0 _ _ rfl rfl ?_
  refine callR [] (aSysNode s v _ hf) ?_
  refine bcond_split (fun c1 => ?_) (fun c1 => ?_)
  · have c1 : (!decide (nodeE s v = 0)) = true := c1
    have c1 : ¬ nodeE s v = 0 := by simpa using c1
    have e := outE_bad x c1
    exact .nil (frz_cons (.nil _) (.refl _)) (.drop 0 1 (.done ⟨by rw [e, okL_neg c1]; rfl, rfl⟩))
  · have c1 : (!decide (nodeE s v = 0)) = false := c1
    have c1 : nodeE s v = 0 := by simpa using c1
    obtain ⟨hg, hv0, hvn⟩ := nodeE_zero c1
    obtain ⟨hT, hTe⟩ := T_get hg (v := v.toNat) (by omega)
    have ht := hf.ts _ (List.getElem_mem hT)
    have hc := hg.trs _ (List.getElem_mem hT)
    have hA := fun σ => aTApply s.what s.w s.T[v.toNat].1 s.T[v.toNat].2.1 s.T[v.toNat].2.2.1 x σ ht.1 ht.2.1 hx ht.2.2.1 ht.2.2.2.1 lx (Nat.le_trans ht.2.2.2.2 (by decide))
    have hoe : applyR s.what s.T[v.toNat].1 s.T[v.toNat].2.1 s.T[v.toNat].2.2.1 x = outS s x v.toNat := by unfold outS; rw [hTe]
    have hE : errA s.what s.w s.T[v.toNat].1 s.T[v.toNat].2.1 s.T[v.toNat].2.2.1 x = outE s v x := by unfold outE errA; rw [if_pos hc, if_pos c1]
    rw [hoe, hE] at hA
    refine .quiet (by kernel_rfl) ?_
    refine LoadAt.mk 0 _ _ rfl rfl ?_
    refine LoadAt.mk 0 _ _ rfl rfl ?_
    refine LoadAt.mk 0 _ _ rfl rfl ?_
    refine With.mk rfl (IdxF.mk s.T[v.toNat] (by omega) (List.getElem?_eq_getElem hT) ?_)
    refine callQ [] (hA _) ?_
    exact .drop 0 1 (.done ⟨rfl, rfl⟩)
end Go.Proofs.YtljbnigceammdaaGreat
