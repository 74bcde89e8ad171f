/-
  A list that was made by append is handed on as a list for good.
  flow.Reverse, soughref07.Reverse; system.words, Clone, Reverse; soughref17.Alike.
-/
import Derived.Test.YteccfogpajbigaaGreatTh
import Derived.Test.YteccfogpajbigaaGreatZg
import Derived.Test.YteccfogpajbigaaGreatYe
namespace Go.Proofs.YteccfogpajbigaaGreat
open Go.RowKit
theorem erase_mid {α : Type} (fr σ : List α) (x : α) : (fr ++ (x :: σ)).eraseIdx fr.length = fr ++ σ := by
  rw [List.eraseIdx_append_of_length_le (Nat.le_refl _), Nat.sub_self]; rfl
theorem get_mid {α : Type} (fr σ : List α) (x : α) : (fr ++ (x :: σ))[fr.length]? = some x := by
  rw [List.getElem?_append_right (Nat.le_refl _), Nat.sub_self]; rfl
theorem set_mid {α : Type} (fr σ : List α) (x y : α) : (fr ++ (x :: σ)).set fr.length y = fr ++ (y :: σ) := by
  rw [List.set_append_right _ _ (Nat.le_refl _), Nat.sub_self]; rfl
/-- Such a list among what a call is handed. -/
theorem call_acc {e : Sh} {k : Nat} {v : AV} {acc : Hp} {cs : List AV} {l : List e.T} {f : FuncId} {K : AV → Hp → Prop} (fr : Hp) {σ : Hp} {xs ys : List AV} (h : Acc e.size k v acc cs) (hl : k = l.length) (hc : cs = l.flatMap e.cells) (hp : 0 < e.size)
    (hr : ∀ {b off len es : Nat} {e' : Sh} {l' : List e'.T}, FrzRel b off len es e' l' v (.fsl e l) → FrzRel b off len es e' l' (.tup xs) (.tup ys)) (go : CallAt Tryz.prog f K ys (fr ++ σ)) : CallAt Tryz.prog f K xs (fr ++ (acc ++ σ)) := by
  cases h with
  | nil =>
    obtain rfl := List.length_eq_zero_iff.1 hl.symm
    exact .mk [] K (acalls_nil (hr (.nil e)) (callAt_get go)) fun _ _ h => h
  | mref b k cs h =>
    refine .frz (args' := ys) fr.length b 0 k e.size cs e l (get_mid fr σ _) (by rw [List.drop_zero, List.take_of_length_le (by omega)]; exact hc) ⟨hl.symm, rfl, hp⟩ (hr .here) ?_
    rw [show (fr ++ ([(b, cs)] ++ σ)).eraseIdx fr.length = fr ++ σ from erase_mid fr σ _]
    exact go
end Go.Proofs.YteccfogpajbigaaGreat
namespace Go.Proofs.YteccfogpajbigaaGreat
open Go.RowKit
set_option maxRecDepth 100000
def turnP (x : PrT) : PrT := (x.2.1, x.1, ())
def turnE (L : List PrT) : List PrT := L.map turnP
theorem turnE_succ {L : List PrT} {k : Nat} (h : k < L.length) : turnE (L.take (k + 1)) = turnE (L.take k) ++ [turnP L[k]] := by
  unfold turnE; rw [List.take_succ_eq_append_getElem h, List.map_append]; rfl
theorem turnE_length (L : List PrT) : (turnE L).length = L.length := by unfold turnE; simp
theorem aFlowReverse (L : List PrT) (σ : Hp) (hl : L.length ≤ 100000) : ACalls Tryz.prog 136 [.fsl prSh L] σ (Ret (.fsl prSh (sortedE (turnE L))) σ) := by
  refine okF Tryz.func136 (by kernel_rfl) ?_
  refine .wrap 3 _ rfl rfl ?_
  refine loopS (S := Nat × AV × Hp) (fun s => [(3, .via s.2.1), (6, .fsl prSh L), (7, .int .i64 L.length), (8, .int .i64 s.1)]) (fun s => s.2.2 ++ σ) (fun s => s.1 ≤ L.length ∧ Acc 2 s.1 s.2.1 s.2.2 (prC (turnE (L.take s.1)))) (fun s => L.length - s.1) (0, .nils, []) ⟨⟨Nat.zero_le _, .nil⟩, ⟨rfl, rfl, rfl, rfl, trivial⟩, rfl⟩ ?_
  rintro ⟨k, v, acc⟩ g ⟨hk0, hacc0⟩
  have hk : k ≤ L.length := hk0
  have hacc : Acc 2 k v acc (prC (turnE (L.take k))) := hacc0
  clear hk0 hacc0
  refine bcond_dec (fun hlt => ?_) (fun hge => ?_)
  · have hlt : k < L.length := by have hlt : (k : Int) < L.length := hlt; omega
    have hs := turnE_succ hlt
    obtain ⟨x, hx⟩ : ∃ x : PrT, L[k] = x := ⟨_, rfl⟩
    rw [hx] at hs
    obtain ⟨x1, x2, xu⟩ := x
    refine With.mk rfl (IdxF.mk (x1, x2, xu) (by omega) ((get_some hlt).trans (congrArg some hx)) ?_)
    intro bl1
    refine StoreAt.mk 0 _ _ rfl rfl ?_
    refine LoadAt.mk 0 _ _ rfl rfl ?_
    refine LoadAt.mk 0 _ _ rfl rfl ?_
    intro bl2
    refine append_acc [_, _] hacc (.mref 0 bl2 0 1 _ rfl (Nat.le_of_ble_eq_true rfl)) rfl (by omega) (by decide) (by decide) (fun v3 acc3 h3 => ?_)
    refine nextS (k + 1, v3, acc3) (by show L.length - (k + 1) < L.length - k; omega) ⟨(show k + 1 ≤ L.length by omega), ?_⟩ ⟨rfl, rfl, rfl, inc64 (k := k) (by omega), trivial⟩ (.drop 0 2 (shed_eq rfl))
    show Acc 2 (k + 1) v3 acc3 (prC (turnE (L.take (k + 1))))
    rw [hs, prC_app]; exact h3
  · have hge : k = L.length := by have hge : ¬ (k : Int) < L.length := hge; omega
    subst hge
    rw [List.take_length] at hacc
    refine call_acc (e := prSh) (l := turnE L) [] hacc (turnE_length L).symm rfl (by decide) (fun h => frz_cons h frz_nil) ?_
    refine callR [] (aFlowSorted (turnE L) _ (by rw [turnE_length]; omega)) ?_
    exact .done ⟨rfl, rfl⟩
theorem aCloneEA (l : List (Sh.T prSh)) (σ : Hp) (hl : l.length ≤ 1000000) : ACalls Tryz.prog 118 [.fsl prSh l] σ (fun x σ' => ∃ acc, Acc 2 l.length x acc (l.flatMap (Sh.cells prSh)) ∧ σ' = acc ++ σ) := by
  refine acalls_fsl (fun h => ⟨?_, ?_⟩) (fun h => ?_)
  · subst h
    refine okF Tryz.func118 (by kernel_rfl) ?_
    exact .done ⟨[], .nil, rfl⟩
  · subst h
    refine okF Tryz.func118 (by kernel_rfl) ?_
    intro b
    refine AppendAt.more 0 b 0 0 [] _ rfl rfl (Nat.le_of_ble_eq_true rfl) .esl (by decide) (by decide) (by decide) (fun b' => ?_)
    exact .done ⟨[(b', [])], .mref b' 0 [] rfl, rfl⟩
  · refine okF Tryz.func118 (by kernel_rfl) ?_
    refine With.mk (List.length_pos_iff.2 h) ?_
    intro b
    refine AppendAt.more 0 b 0 l.length [] _ rfl rfl (Nat.le_of_ble_eq_true rfl) (.fsl prSh l rfl) (by omega) (by decide) (by decide) (fun b' => ?_)
    refine .done ⟨[(b', l.flatMap (Sh.cells prSh))], ?_, rfl⟩
    rw [Nat.zero_add]; exact .mref b' l.length _ (flat_length (f := Sh.cells prSh) (es := 2) (fun _ => rfl) l)
theorem aCloneEQ (l : List (Sh.T prSh)) (σ : Hp) (hl : l.length ≤ 1000000) : ACalls Tryz.prog 118 [.fsl prSh l] σ (Ret (.fsl prSh l) σ) := by
  refine (aCloneEA l σ hl).fin ?_
  rintro v σ' ⟨acc, hacc, rfl⟩
  exact fin_acc (s := prSh) [] hacc rfl rfl (by decide) (.done ⟨rfl, rfl⟩)
theorem aCloneIA (l : List (Sh.T (.int .i64))) (σ : Hp) (hl : l.length ≤ 1000000) : ACalls Tryz.prog 90 [.fsl (.int .i64) l] σ (fun x σ' => ∃ acc, Acc 1 l.length x acc (l.flatMap (Sh.cells (.int .i64))) ∧ σ' = acc ++ σ) := by
  refine acalls_fsl (fun h => ⟨?_, ?_⟩) (fun h => ?_)
  · subst h
    refine okF Tryz.func90 (by kernel_rfl) ?_
    exact .done ⟨[], .nil, rfl⟩
  · subst h
    refine okF Tryz.func90 (by kernel_rfl) ?_
    intro b
    refine AppendAt.more 0 b 0 0 [] _ rfl rfl (Nat.le_of_ble_eq_true rfl) .esl (by decide) (by decide) (by decide) (fun b' => ?_)
    exact .done ⟨[(b', [])], .mref b' 0 [] rfl, rfl⟩
  · refine okF Tryz.func90 (by kernel_rfl) ?_
    refine With.mk (List.length_pos_iff.2 h) ?_
    intro b
    refine AppendAt.more 0 b 0 l.length [] _ rfl rfl (Nat.le_of_ble_eq_true rfl) (.fsl (.int .i64) l rfl) (by omega) (by decide) (by decide) (fun b' => ?_)
    refine .done ⟨[(b', l.flatMap (Sh.cells (.int .i64)))], ?_, rfl⟩
    rw [Nat.zero_add]; exact .mref b' l.length _ (flat_length (f := Sh.cells (.int .i64)) (es := 1) (fun _ => rfl) l)
theorem aCloneIQ (l : List (Sh.T (.int .i64))) (σ : Hp) (hl : l.length ≤ 1000000) : ACalls Tryz.prog 90 [.fsl (.int .i64) l] σ (Ret (.fsl (.int .i64) l) σ) := by
  refine (aCloneIA l σ hl).fin ?_
  rintro v σ' ⟨acc, hacc, rfl⟩
  exact fin_acc (s := (.int .i64)) [] hacc rfl rfl (by decide) (.done ⟨rfl, rfl⟩)
/-- A row of transfers that is being filled. -/
def trRow : Option TrT → List AV
  | none => [.nils, .nils, .nils]
  | some t => [.fsl (.int .u64) t.1, .fsl (.int .u64) t.2.1, .fsl codeSh t.2.2.1]
theorem trRow_len (t : Option TrT) : (trRow t).length = 3 := by cases t <;> rfl
def filT (T : List TrT) (k : Nat) : List (Option TrT) := (T.take k).map some ++ List.replicate (T.length - k) none
theorem filT_zero (T : List TrT) : (filT T 0).flatMap trRow = repC [.nils, .nils, .nils] T.length := by
  show (List.replicate (T.length - 0) none).flatMap trRow = _
  rw [Nat.sub_zero]
  generalize T.length = n
  induction n with
  | zero => rfl
  | succ n ih => rw [List.replicate_succ, List.flatMap_cons, ih]; rfl
theorem filT_len {T : List TrT} {k : Nat} (h : k ≤ T.length) : (filT T k).length = T.length := by unfold filT; simp; omega
theorem filT_set {T : List TrT} {k : Nat} (h : k < T.length) : (filT T k).set k (some T[k]) = filT T (k + 1) := by
  unfold filT
  rw [List.set_append_right _ _ (by simp; omega)]
  have e : T.length - k = (T.length - (k + 1)) + 1 := by omega
  have e2 : k - ((T.take k).map some).length = 0 := by simp; omega
  rw [e2, e, List.replicate_succ, List.take_succ_eq_append_getElem h]
  simp only [List.map_append, List.map_cons, List.map_nil, List.append_assoc, List.cons_append, List.nil_append, List.set_cons_zero]
theorem filT_all (T : List TrT) : (filT T T.length).flatMap trRow = T.flatMap (Sh.cells transSh) := by
  unfold filT
  rw [Nat.sub_self, List.take_length, List.replicate_zero, List.append_nil, List.flatMap_map]
  rfl
/-- A transfer that is open: its words, and its code, in blocks of their own. -/
structure RowO where
  g : Nat
  ng : Nat
  gc : List Int
  k : List Int
  nc : Nat
  v : AV
  acc : Hp
  cc : List CodeT
def rowO (r : RowO) : List AV := [.mref r.g 0 r.ng 1, .fsl (.int .u64) r.k, .via r.v]
def blkRo (r : RowO) : Hp := (r.g, woC r.gc) :: r.acc
structure OkO (r : RowO) : Prop where
  ng : r.gc.length = r.ng
  small : r.ng ≤ 10000
  acc : Acc 8 r.nc r.v r.acc (r.cc.flatMap (Sh.cells codeSh))
  cn : r.cc.length = r.nc
  few : r.nc ≤ 100000
def rowF : Option RowO → List AV
  | none => [.nils, .nils, .nils]
  | some r => rowO r
theorem rowF_len (t : Option RowO) : (rowF t).length = 3 := by cases t <;> rfl
/-- Rows that are done, and such as are still to come. -/
def filO (R : List RowO) (n : Nat) : List (Option RowO) := R.map some ++ List.replicate (n - R.length) none
theorem filO_zero (n : Nat) : (filO [] n).flatMap rowF = repC [.nils, .nils, .nils] n := by
  show (List.replicate (n - 0) none).flatMap rowF = _
  rw [Nat.sub_zero]
  induction n with
  | zero => rfl
  | succ n ih => rw [List.replicate_succ, List.flatMap_cons, ih]; rfl
theorem filO_len {R : List RowO} {n : Nat} (h : R.length ≤ n) : (filO R n).length = n := by unfold filO; simp; omega
theorem filO_set {R : List RowO} {n : Nat} (h : R.length < n) (r : RowO) : (filO R n).set R.length (some r) = filO (R ++ [r]) n := by
  unfold filO
  rw [List.set_append_right _ _ (by simp)]
  have e : n - R.length = (n - (R.length + 1)) + 1 := by omega
  have e2 : R.length - (R.map some).length = 0 := by simp
  rw [e2, e, List.replicate_succ, List.length_append]
  simp only [List.map_append, List.map_cons, List.map_nil, List.append_assoc, List.cons_append, List.nil_append, List.set_cons_zero, List.length_cons, List.length_nil]
theorem filO_all (R : List RowO) : (filO R R.length).flatMap rowF = R.flatMap rowO := by
  unfold filO
  rw [Nat.sub_self, List.replicate_zero, List.append_nil, List.flatMap_map]
  rfl
theorem blkRo_snoc (R : List RowO) (r : RowO) : (R ++ [r]).flatMap blkRo = R.flatMap blkRo ++ blkRo r := by rw [List.flatMap_append, List.flatMap_singleton]
theorem perm_row {α : Type} (a l b : List α) (g t x1 x2 x3 x4 : α) : (t :: x1 :: x2 :: x3 :: x4 :: ((l ++ (g :: a)) ++ b)).Perm (a ++ (g :: t :: x1 :: x2 :: x3 :: x4 :: (l ++ b))) := by
  haveI : DecidableEq α := fun a b => Classical.propDecidable (a = b)
  rw [List.perm_iff_count]
  intro y
  simp only [List.count_append, List.count_cons]
  omega
theorem two_get {α : Type} (a b : List α) (g t x : α) : (a ++ (g :: t :: x :: b))[(a ++ [g, t]).length]? = some x := by
  rw [show a ++ (g :: t :: x :: b) = (a ++ [g, t]) ++ (x :: b) by simp]
  exact get_mid _ _ _
theorem two_set {α : Type} (a b : List α) (g t x y : α) : (a ++ (g :: t :: x :: b)).set (a ++ [g, t]).length y = a ++ (g :: t :: y :: b) := by
  rw [show a ++ (g :: t :: x :: b) = (a ++ [g, t]) ++ (x :: b) by simp, set_mid]
  simp
theorem shed_row {a b l : Hp} {g t x1 y x2 x3 x4 : Nat × List AV} : Shed ((a ++ (g :: t :: x1 :: x2 :: x3 :: x4 :: (l ++ b))).set (a ++ [g, t]).length y) (y :: x2 :: x3 :: x4 :: ((l ++ (g :: a)) ++ b)) := by
  rw [two_set]
  exact .perm (perm_row _ _ _ _ _ _ _ _ _) (.drop 0 1 (.refl _))
theorem okO_snoc {R : List RowO} {r : RowO} (h : ∀ x ∈ R, OkO x) (hr : OkO r) : ∀ x ∈ R ++ [r], OkO x := fun x hx => by
  rcases List.mem_append.1 hx with h1 | h1
  · exact h x h1
  · rw [List.mem_singleton.1 h1]; exact hr
theorem acc_leaf {e k : Nat} {v : AV} {acc : Hp} {cs : List AV} (h : Acc e k v acc cs) : v.leaf = true := by cases h <;> rfl
end Go.Proofs.YteccfogpajbigaaGreat
