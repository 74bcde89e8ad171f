/-
  Tu: what the claim uses of them.
-/
import Derived.Test.YtegpahamenjiaaaGreatBn20
import Derived.Test.YtegpahamenjiaaaGreatBn28
import Derived.Test.YtegpahamenjiaaaGreatBn30
namespace Go.Proofs.YtegpahamenjiaaaGreat
open Go.RowKit
theorem get_mid {α : Type} (fr σ : List α) (x : α) : (fr ++ (x :: σ))[fr.length]? = some x := by
  rw [List.getElem?_append_right (Nat.le_refl _), Nat.sub_self]; rfl
theorem set_mid {α : Type} (fr σ : List α) (x y : α) : (fr ++ (x :: σ)).set fr.length y = fr ++ (y :: σ) := by
  rw [List.set_append_right _ _ (Nat.le_refl _), Nat.sub_self]; rfl
set_option maxRecDepth 100000
theorem aCloneEA (l : List (Sh.T prSh)) (σ : Hp) (hl : l.length ≤ 1000000) : ACalls Tryz.prog 32 [.fsl prSh l] σ (fun x σ' => ∃ acc, Acc 2 l.length x acc (l.flatMap (Sh.cells prSh)) ∧ σ' = acc ++ σ) := by
  refine acalls_fsl (fun h => ⟨?_, ?_⟩) (fun h => ?_)
  · subst h
    refine okF Tryz.func32 (by kernel_rfl) ?_
    exact .done ⟨[], .nil, rfl⟩
  · subst h
    refine okF Tryz.func32 (by kernel_rfl) ?_
    intro b
    refine AppendAt.more 0 b 0 0 [] _ rfl rfl (Nat.le_of_ble_eq_true rfl) .esl (by decide) (by decide) (by decide) (fun b' => ?_)
    exact .done ⟨[(b', [])], .mref b' 0 [] rfl, rfl⟩
  · refine okF Tryz.func32 (by kernel_rfl) ?_
    refine With.mk (List.length_pos_iff.2 h) ?_
    intro b
    refine AppendAt.more 0 b 0 l.length [] _ rfl rfl (Nat.le_of_ble_eq_true rfl) (.fsl prSh l rfl) (by omega) (by decide) (by decide) (fun b' => ?_)
    refine .done ⟨[(b', l.flatMap (Sh.cells prSh))], ?_, rfl⟩
    rw [Nat.zero_add]; exact .mref b' l.length _ (flat_length (f := Sh.cells prSh) (es := 2) (fun _ => rfl) l)
theorem aCloneEQ (l : List (Sh.T prSh)) (σ : Hp) (hl : l.length ≤ 1000000) : ACalls Tryz.prog 32 [.fsl prSh l] σ (Ret (.fsl prSh l) σ) := by
  refine (aCloneEA l σ hl).fin ?_
  rintro v σ' ⟨acc, hacc, rfl⟩
  exact fin_acc (s := prSh) [] hacc rfl rfl (by decide) (.done ⟨rfl, rfl⟩)
theorem aCloneIA (l : List (Sh.T (.int .i64))) (σ : Hp) (hl : l.length ≤ 1000000) : ACalls Tryz.prog 33 [.fsl (.int .i64) l] σ (fun x σ' => ∃ acc, Acc 1 l.length x acc (l.flatMap (Sh.cells (.int .i64))) ∧ σ' = acc ++ σ) := by
  refine acalls_fsl (fun h => ⟨?_, ?_⟩) (fun h => ?_)
  · subst h
    refine okF Tryz.func33 (by kernel_rfl) ?_
    exact .done ⟨[], .nil, rfl⟩
  · subst h
    refine okF Tryz.func33 (by kernel_rfl) ?_
    intro b
    refine AppendAt.more 0 b 0 0 [] _ rfl rfl (Nat.le_of_ble_eq_true rfl) .esl (by decide) (by decide) (by decide) (fun b' => ?_)
    exact .done ⟨[(b', [])], .mref b' 0 [] rfl, rfl⟩
  · refine okF Tryz.func33 (by kernel_rfl) ?_
    refine With.mk (List.length_pos_iff.2 h) ?_
    intro b
    refine AppendAt.more 0 b 0 l.length [] _ rfl rfl (Nat.le_of_ble_eq_true rfl) (.fsl (.int .i64) l rfl) (by omega) (by decide) (by decide) (fun b' => ?_)
    refine .done ⟨[(b', l.flatMap (Sh.cells (.int .i64)))], ?_, rfl⟩
    rw [Nat.zero_add]; exact .mref b' l.length _ (flat_length (f := Sh.cells (.int .i64)) (es := 1) (fun _ => rfl) l)
theorem aCloneIQ (l : List (Sh.T (.int .i64))) (σ : Hp) (hl : l.length ≤ 1000000) : ACalls Tryz.prog 33 [.fsl (.int .i64) l] σ (Ret (.fsl (.int .i64) l) σ) := by
  refine (aCloneIA l σ hl).fin ?_
  rintro v σ' ⟨acc, hacc, rfl⟩
  exact fin_acc (s := (.int .i64)) [] hacc rfl rfl (by decide) (.done ⟨rfl, rfl⟩)
theorem aCloneCA (l : List (Sh.T codeSh)) (σ : Hp) (hl : l.length ≤ 1000000) : ACalls Tryz.prog 35 [.fsl codeSh l] σ (fun x σ' => ∃ acc, Acc 8 l.length x acc (l.flatMap (Sh.cells codeSh)) ∧ σ' = acc ++ σ) := by
  refine acalls_fsl (fun h => ⟨?_, ?_⟩) (fun h => ?_)
  · subst h
    refine okF Tryz.func35 (by kernel_rfl) ?_
    exact .done ⟨[], .nil, rfl⟩
  · subst h
    refine okF Tryz.func35 (by kernel_rfl) ?_
    intro b
    refine AppendAt.more 0 b 0 0 [] _ rfl rfl (Nat.le_of_ble_eq_true rfl) .esl (by decide) (by decide) (by decide) (fun b' => ?_)
    exact .done ⟨[(b', [])], .mref b' 0 [] rfl, rfl⟩
  · refine okF Tryz.func35 (by kernel_rfl) ?_
    refine With.mk (List.length_pos_iff.2 h) ?_
    intro b
    refine AppendAt.more 0 b 0 l.length [] _ rfl rfl (Nat.le_of_ble_eq_true rfl) (.fsl codeSh l rfl) (by omega) (by decide) (by decide) (fun b' => ?_)
    refine .done ⟨[(b', l.flatMap (Sh.cells codeSh))], ?_, rfl⟩
    rw [Nat.zero_add]; exact .mref b' l.length _ (flat_length (f := Sh.cells codeSh) (es := 8) (fun _ => rfl) l)
theorem aCloneCQ (l : List (Sh.T codeSh)) (σ : Hp) (hl : l.length ≤ 1000000) : ACalls Tryz.prog 35 [.fsl codeSh l] σ (Ret (.fsl codeSh l) σ) := by
  refine (aCloneCA l σ hl).fin ?_
  rintro v σ' ⟨acc, hacc, rfl⟩
  exact fin_acc (s := codeSh) [] hacc rfl rfl (by decide) (.done ⟨rfl, rfl⟩)
/-- A copy of words. -/
theorem aWordsO (l : List Int) (σ : Hp) (hl : l.length ≤ 1000000) : ACalls Tryz.prog 34 [.fsl (.int .u64) l] σ (fun x σ' => ∃ b, x = .mref b 0 l.length 1 ∧ σ' = (b, woC l) :: σ) := by
  refine okF Tryz.func34 (by kernel_rfl) ?_
  have hn : (l.length : Int) ≤ 1048576 := by omega
  refine With.mk ⟨Int.natCast_nonneg _, Int.le_refl _, hn, by decide⟩ ?_
  intro bl1
  have hr : (repC [.int .u64 0] ((l.length : Int)).toNat).length = l.length := by rw [Int.toNat_natCast, repC_length]; exact Nat.mul_one _
  refine CopyAt.mref 0 bl1 0 l.length l.length _ (l.flatMap (Sh.cells (.int .u64))) rfl rfl (by show 0 + l.length * 1 ≤ (repC [.int .u64 0] ((l.length : Int)).toNat).length; rw [hr]; omega) (.fsl (.int .u64) l rfl) (Nat.le_refl _) ?_
  have he : splice (repC [.int .u64 0] ((l.length : Int)).toNat) 0 (l.flatMap (Sh.cells (.int .u64))) = woC l := by
    rw [← woC_flat]
    have h := splice_mid (woC l) [] (repC [.int .u64 0] ((l.length : Int)).toNat) [] (by rw [hr]; simp [woC])
    simpa using h
  exact .done ⟨bl1, rfl, congrArg (fun cs => (bl1, cs) :: σ) he⟩
theorem aWordsQ (l : List Int) (σ : Hp) (hl : l.length ≤ 1000000) : ACalls Tryz.prog 34 [.fsl (.int .u64) l] σ (Ret (.fsl (.int .u64) l) σ) := by
  refine (aWordsO l σ hl).fin ?_
  rintro v σ' ⟨b, rfl, rfl⟩
  exact .frz 0 b 0 l.length 1 _ (.int .u64) l rfl (by rw [List.drop_zero, ← woC_flat]; exact List.take_of_length_le (by simp [woC])) ⟨rfl, rfl, by decide⟩ .here (.done ⟨rfl, rfl⟩)
/-- A row of transfers that is being filled. -/
def trRow : Option TrT → List AV
  | none => [.nils, .nils, .nils]
  | some t => [.fsl (.int .u64) t.1, .fsl (.int .u64) t.2.1, .fsl codeSh t.2.2.1]
theorem trRow_len (t : Option TrT) : (trRow t).length = 3 := by cases t <;> rfl
def filT (T : List TrT) (k : Nat) : List (Option TrT) := (T.take k).map some ++ List.replicate (T.length - k) none
theorem filT_zero (T : List TrT) : (filT T 0).flatMap trRow = repC [.nils, .nils, .nils] T.length := by
  show (List.replicate (T.length - 0) none).flatMap trRow = _
  rw [Nat.sub_zero]
  generalize T.length = n
  induction n with
  | zero => rfl
  | succ n ih => rw [List.replicate_succ, List.flatMap_cons, ih]; rfl
theorem filT_len {T : List TrT} {k : Nat} (h : k ≤ T.length) : (filT T k).length = T.length := by unfold filT; simp; omega
theorem filT_set {T : List TrT} {k : Nat} (h : k < T.length) : (filT T k).set k (some T[k]) = filT T (k + 1) := by
  unfold filT
  rw [List.set_append_right _ _ (by simp; omega)]
  have e : T.length - k = (T.length - (k + 1)) + 1 := by omega
  have e2 : k - ((T.take k).map some).length = 0 := by simp; omega
  rw [e2, e, List.replicate_succ, List.take_succ_eq_append_getElem h]
  simp only [List.map_append, List.map_cons, List.map_nil, List.append_assoc, List.cons_append, List.nil_append, List.set_cons_zero]
theorem filT_all (T : List TrT) : (filT T T.length).flatMap trRow = T.flatMap (Sh.cells transSh) := by
  unfold filT
  rw [Nat.sub_self, List.take_length, List.replicate_zero, List.append_nil, List.flatMap_map]
  rfl
theorem aSysClone (s : Sy) (σ : Hp) (hf : Fit s) : ACalls Tryz.prog 10 [.agg (sysC s)] σ (Ret (.agg (sysC s)) σ) := by
  refine okF Tryz.func10 (by kernel_rfl) ?_
  intro bl1
  intro bl2
  refine .sched [2, 5, 8] (upto [2, 5, 8] 15 0) (by kernel_rfl) ?_
  refine LoadAt.mk 1 _ _ rfl rfl ?_
  refine callQ [] (aCloneEQ s.edges _ (Nat.le_trans hf.elen (by decide))) ?_
  refine LoadAt.mk 1 _ _ rfl rfl ?_
  refine callQ [] (aCloneIQ s.entry _ (Nat.le_trans hf.nlen (by decide))) ?_
  refine LoadAt.mk 1 _ _ rfl rfl ?_
  refine callQ [] (aWordsQ s.init _ (Nat.le_trans hf.ilen (by decide))) ?_
  refine StoreAt.mk 1 _ _ rfl rfl ?_
  refine StoreAt.mk 1 _ _ rfl rfl ?_
  refine StoreAt.mk 1 _ _ rfl rfl ?_
  refine LoadAt.mk 1 _ _ rfl rfl ?_
  have hT := hf.tlen
  have hT2 : (s.T.length : Int) ≤ 1048576 := by omega
  refine With.mk ⟨Int.natCast_nonneg _, Int.le_refl _, hT2, by decide⟩ ?_
  intro bt
  have hb0 : (bt, repC [AV.nils, AV.nils, AV.nils] ((s.T.length : Int)).toNat) = (bt, (filT s.T 0).flatMap trRow) := by rw [filT_zero, Int.toNat_natCast]
  refine LoadAt.mk 2 _ _ rfl rfl ?_
  refine loopS (S := Nat) (fun k => [(1, .ptr bl1 0), (2, .ptr bl2 0), (3, .mref bt 0 s.T.length 3), (23, .fsl transSh s.T), (24, .int .i64 s.T.length), (25, .int .i64 k)]) (fun k => (bt, (filT s.T k).flatMap trRow) :: (bl2, [.int .i64 0, .int .i64 0, .int .i64 0, .nils, .nils, .nils, .nils]) :: (bl1, sysC s) :: σ) (fun k => k ≤ s.T.length) (fun k => s.T.length - k) 0 ⟨Nat.zero_le _, ⟨rfl, rfl, rfl, rfl, rfl, rfl, trivial⟩, congrArg (· :: (bl2, ([.int .i64 0, .int .i64 0, .int .i64 0, .nils, .nils, .nils, .nils] : List AV)) :: (bl1, sysC s) :: σ) hb0⟩ ?_
  rintro k g hk0
  have hk : k ≤ s.T.length := hk0
  clear hk0
  refine bcond_dec (fun hlt => ?_) (fun hge => ?_)
  · have hlt : k < s.T.length := by have hlt : (k : Int) < s.T.length := hlt; omega
    have hset := filT_set hlt
    have htr := hf.ts _ (List.getElem_mem hlt)
    obtain ⟨t, ht⟩ : ∃ t : TrT, s.T[k] = t := ⟨_, rfl⟩
    rw [ht] at hset htr
    obtain ⟨t1, t2, t3, tu⟩ := t
    obtain ⟨_, _, l1, l2, l3⟩ := htr
    have l1 : t1.length ≤ 10000 := l1
    have l2 : t2.length ≤ 10000 := l2
    have l3 : t3.length ≤ 100000 := l3
    refine With.mk rfl (IdxF.mk (t1, t2, t3, tu) (by omega) ((get_some hlt).trans (congrArg some ht)) ?_)
    intro bl1
    refine StoreAt.mk 0 _ _ rfl rfl ?_
    refine .sched [4, 7, 10] (upto [4, 7, 10] 14 0) (by kernel_rfl) ?_
    refine LoadAt.mk 0 _ _ rfl rfl ?_
    refine callQ [] (aWordsQ t1 _ (Nat.le_trans l1 (by decide))) ?_
    refine LoadAt.mk 0 _ _ rfl rfl ?_
    refine callQ [] (aWordsQ t2 _ (Nat.le_trans l2 (by decide))) ?_
    refine LoadAt.mk 0 _ _ rfl rfl ?_
    refine callQ [] (aCloneCQ t3 _ (Nat.le_trans l3 (by decide))) ?_
    refine With.mk ⟨rfl, by omega, by omega⟩ ?_
    refine StoreAt.mk 1 _ _ rfl ((row_write rfl trRow_len (by rw [filT_len hk]; exact hlt) (some (t1, t2, t3, tu)) rfl).trans (congrArg (fun l => some (List.flatMap trRow l)) hset)) ?_
    exact nextS (k + 1) (by show s.T.length - (k + 1) < s.T.length - k; omega) hlt ⟨rfl, rfl, rfl, rfl, rfl, inc64 (by omega), trivial⟩ (.drop 0 1 (.refl _))
  · have hge : k = s.T.length := by have hge : ¬ (k : Int) < s.T.length := hge; omega
    subst hge
    rw [filT_all]
    refine StoreAt.mk 2 _ _ rfl rfl ?_
    refine LoadAt.mk 2 _ _ rfl rfl ?_
    refine StoreAt.mk 1 _ _ rfl rfl ?_
    refine LoadAt.mk 1 _ _ rfl rfl ?_
    refine .frz 0 bt 0 s.T.length 3 _ transSh s.T rfl ?_ ⟨rfl, rfl, by decide⟩ (frz_agg (frz_cons (.refl _) (frz_cons (.refl _) (frz_cons (.refl _) (frz_cons (.refl _) (frz_cons (.refl _) (frz_cons (.refl _) (frz_cons .here frz_nil))))))) rfl) (.drop 0 2 (.done ⟨rfl, rfl⟩))
    rw [List.drop_zero]
    exact List.take_of_length_le (Nat.le_of_eq (flat_length (f := Sh.cells transSh) (es := 3) (fun _ => rfl) s.T))
end Go.Proofs.YtegpahamenjiaaaGreat
