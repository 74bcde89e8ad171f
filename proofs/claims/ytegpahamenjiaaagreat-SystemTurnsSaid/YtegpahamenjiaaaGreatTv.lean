/-
  SystemTurns.
-/
import Derived.Test.YtegpahamenjiaaaGreatTu
import Derived.Test.YtegpahamenjiaaaGreatBd
namespace Go.Proofs.YtegpahamenjiaaaGreat
open Go.RowKit
set_option maxRecDepth 100000
theorem sortedE_length (B : List PrT) : (sortedE B).length ≤ B.length := by rw [← insK_all]; exact insK_len B _ (Nat.le_refl _)
theorem aSysReverse (s : Sy) (en : List Int) (σ : Hp) (hf : Fit s) (hn : en.length ≤ 100000) : ACalls Tryz.prog 12 [.agg (sysC s), .fsl (.int .i64) en] σ (Ret (.agg (sysC { s with edges := sortedE (turnE s.edges), entry := en })) σ) := by
  refine okF Tryz.func12 (by kernel_rfl) ?_
  intro bl1
  intro bl2
  refine LoadAt.mk 1 _ _ rfl rfl ?_
  refine callR [] (aSysClone s _ hf) ?_
  refine StoreAt.mk 1 _ _ rfl rfl ?_
  refine LoadAt.mk 1 _ _ rfl rfl ?_
  refine callR [] (aFlowReverse s.edges _ hf.elen) ?_
  refine callR [] (aCloneIQ en _ (Nat.le_trans hn (by decide))) ?_
  refine StoreAt.mk 1 _ _ rfl rfl ?_
  refine StoreAt.mk 1 _ _ rfl rfl ?_
  refine LoadAt.mk 1 _ _ rfl rfl ?_
  refine StoreAt.mk 0 _ _ rfl rfl ?_
  refine LoadAt.mk 0 _ _ rfl rfl ?_
  exact .drop 0 2 (.done ⟨rfl, rfl⟩)
theorem aRInts (l : List Int) (σ : Hp) (hl : l.length ≤ 1000000) : ACalls Tryz.prog 37 [.fsl (.int .i64) l, .fsl (.int .i64) l] σ (Ret (.bool true) σ) := by
  refine okF Tryz.func37 (by kernel_rfl) ?_
  refine bcond_split (fun c => absurd c (by simp)) (fun c => ?_)
  refine loopS (S := Nat) (fun k => [(0, .fsl (.int .i64) l), (1, .fsl (.int .i64) l), (12, .int .i64 l.length), (13, .int .i64 k)]) (fun _ => σ) (fun k => k ≤ l.length) (fun k => l.length - k) 0 ⟨Nat.zero_le _, ⟨rfl, rfl, rfl, rfl, trivial⟩, rfl⟩ ?_
  rintro k g hk0
  have hk : k ≤ l.length := hk0
  refine bcond_dec (fun hlt => ?_) (fun hge => ?_)
  · have hlt : k < l.length := by have hlt : (k : Int) < l.length := hlt; omega
    refine DrawW.quiet (by kernel_rfl) ?_
    refine With.mk rfl (IdxF.mk l[k] (by omega) (get_some hlt) ?_)
    refine With.mk rfl (IdxF.mk l[k] (by omega) (get_some hlt) ?_)
    refine bcond_split (fun c => absurd c (by simp)) (fun c => ?_)
    exact nextS (k + 1) (by show l.length - (k + 1) < l.length - k; omega) hlt ⟨rfl, rfl, rfl, inc64 (by omega), trivial⟩ (.refl _)
  · exact .done ⟨rfl, rfl⟩
theorem aRSameE (l : List PrT) (σ : Hp) (hl : l.length ≤ 1000000) : ACalls Tryz.prog 36 [.fsl prSh l, .fsl prSh l] σ (Ret (.bool true) σ) := by
  refine okF Tryz.func36 (by kernel_rfl) ?_
  refine bcond_split (fun c => absurd c (by simp)) (fun c => ?_)
  refine loopS (S := Nat) (fun k => [(0, .fsl prSh l), (1, .fsl prSh l), (12, .int .i64 l.length), (13, .int .i64 k)]) (fun _ => σ) (fun k => k ≤ l.length) (fun k => l.length - k) 0 ⟨Nat.zero_le _, ⟨rfl, rfl, rfl, rfl, trivial⟩, rfl⟩ ?_
  rintro k g hk0
  have hk : k ≤ l.length := hk0
  refine bcond_dec (fun hlt => ?_) (fun hge => ?_)
  · have hlt : k < l.length := by have hlt : (k : Int) < l.length := hlt; omega
    obtain ⟨x, hx⟩ : ∃ x : PrT, l[k] = x := ⟨_, rfl⟩
    obtain ⟨x1, x2, xu⟩ := x
    refine DrawW.quiet (by kernel_rfl) ?_
    refine With.mk rfl (IdxF.mk (x1, x2, xu) (by omega) ((get_some hlt).trans (congrArg some hx)) ?_)
    refine With.mk rfl (IdxF.mk (x1, x2, xu) (by omega) ((get_some hlt).trans (congrArg some hx)) ?_)
    refine .mk (by kernel_rfl) (by kernel_rfl) ?_
    refine bcond_split (fun c => ?_) (fun c => ?_)
    · have c : (!allB [decide (x1 = x1), decide (x2 = x2)]) = true := c
      simp [allB] at c
    exact nextS (k + 1) (by show l.length - (k + 1) < l.length - k; omega) hlt ⟨rfl, rfl, rfl, inc64 (by omega), trivial⟩ (.refl _)
  · exact .done ⟨rfl, rfl⟩
theorem aRAlike (s : Sy) (σ : Hp) (hf : Fit s) : ACalls Tryz.prog 11 [.agg (sysC s), .agg (sysC s)] σ (Ret (.bool true) σ) := by
  refine okF Tryz.func11 (by kernel_rfl) ?_
  intro bl1
  intro bl2
  refine LoadAt.mk 1 _ _ rfl rfl ?_
  refine LoadAt.mk 0 _ _ rfl rfl ?_
  refine bcond_split (fun c => absurd c (by simp)) (fun c => ?_)
  refine LoadAt.mk 1 _ _ rfl rfl ?_
  refine LoadAt.mk 0 _ _ rfl rfl ?_
  refine bcond_split (fun c => absurd c (by simp)) (fun c => ?_)
  refine LoadAt.mk 1 _ _ rfl rfl ?_
  refine LoadAt.mk 0 _ _ rfl rfl ?_
  refine bcond_split (fun c => absurd c (by simp)) (fun c => ?_)
  refine LoadAt.mk 1 _ _ rfl rfl ?_
  refine LoadAt.mk 0 _ _ rfl rfl ?_
  refine callR [] (aRSameE s.edges _ (Nat.le_trans hf.elen (by decide))) ?_
  refine LoadAt.mk 1 _ _ rfl rfl ?_
  refine LoadAt.mk 0 _ _ rfl rfl ?_
  refine callR [] (aRInts s.entry _ (Nat.le_trans hf.nlen (by decide))) ?_
  refine LoadAt.mk 1 _ _ rfl rfl ?_
  refine LoadAt.mk 0 _ _ rfl rfl ?_
  refine callR [] (acalls_eq (same10 s.init s.init _ (Nat.le_trans hf.ilen (by decide))) (av_bool (decide_eq_true rfl))) ?_
  refine LoadAt.mk 1 _ _ rfl rfl ?_
  refine LoadAt.mk 0 _ _ rfl rfl ?_
  refine bcond_split (fun c => absurd c (by simp)) (fun c => ?_)
  refine LoadAt.mk 1 _ _ rfl rfl ?_
  refine loopS (S := Nat) (fun k => [(2, .ptr bl1 0), (3, .ptr bl2 0), (60, .int .i64 s.T.length), (61, .int .i64 k)]) (fun _ => (bl2, sysC s) :: (bl1, sysC s) :: σ) (fun k => k ≤ s.T.length) (fun k => s.T.length - k) 0 ⟨Nat.zero_le _, ⟨rfl, rfl, rfl, rfl, trivial⟩, rfl⟩ ?_
  rintro k g hk0
  have hk : k ≤ s.T.length := hk0
  have hT := hf.tlen
  refine bcond_dec (fun hlt => ?_) (fun hge => ?_)
  · have hlt : k < s.T.length := by have hlt : (k : Int) < s.T.length := hlt; omega
    have htr := hf.ts _ (List.getElem_mem hlt)
    obtain ⟨t, ht⟩ : ∃ t : TrT, s.T[k] = t := ⟨_, rfl⟩
    rw [ht] at htr
    obtain ⟨t1, t2, t3, tu⟩ := t
    obtain ⟨_, _, l1, l2, l3⟩ := htr
    have l1 : t1.length ≤ 10000 := l1
    have l2 : t2.length ≤ 10000 := l2
    have l3 : t3.length ≤ 100000 := l3
    refine DrawW.quiet (by kernel_rfl) ?_
    refine LoadAt.mk 1 _ _ rfl rfl ?_
    refine With.mk rfl (IdxF.mk (t1, t2, t3, tu) (by omega) ((get_some hlt).trans (congrArg some ht)) ?_)
    refine LoadAt.mk 0 _ _ rfl rfl ?_
    refine With.mk rfl (IdxF.mk (t1, t2, t3, tu) (by omega) ((get_some hlt).trans (congrArg some ht)) ?_)
    refine callQ [] (acalls_eq (aRSame16 t1 t2 t3 t1 t2 t3 _ (Nat.le_trans l1 (by decide)) (Nat.le_trans l2 (by decide)) (Nat.le_trans l3 (by decide))) (av_bool (sameT_refl _ _ _))) ?_
    exact nextS (k + 1) (by show s.T.length - (k + 1) < s.T.length - k; omega) hlt ⟨rfl, rfl, rfl, inc64 (by omega), trivial⟩ (.refl _)
  · exact .drop 0 2 (.done ⟨rfl, rfl⟩)
/-- A copy that is open, its rows' blocks behind all others. -/
theorem aSysCloneP (s : Sy) (σ : Hp) (hf : Fit s) : ACalls Tryz.prog 10 [.agg (sysC s)] σ (fun x σ' => ∃ (bi bt : Nat) (R : List RowO), x = .agg [.int .i64 s.what, .int .i64 s.w, .int .i64 s.n, .fsl prSh s.edges, .fsl (.int .i64) s.entry, .mref bi 0 s.init.length 1, .mref bt 0 s.T.length 3] ∧ σ' = (bt, R.flatMap rowO) :: (bi, woC s.init) :: (σ ++ R.flatMap blkRo) ∧ R.length = s.T.length ∧ ∀ r ∈ R, OkO r) := by
  refine (aSysCloneO s σ hf).fin ?_
  rintro v σ' ⟨bi, bt, R, rfl, rfl, h1, h2⟩
  exact .perm ((List.perm_append_comm.cons _).cons _) (.done ⟨bi, bt, R, rfl, rfl, h1, h2⟩)
theorem rowO_at {A B : List RowO} {r : RowO} {i j : Nat} (hA : A.length = i) (hj : j < 3) : ((A ++ r :: B).flatMap rowO)[0 + ((i : Int)).toNat * 3 + j]? = (rowO r)[j]? := by
  have hl : (A.flatMap rowO).length = i * 3 := by rw [flat_length (f := rowO) (es := 3) (fun _ => rfl), hA]
  rw [Int.toNat_natCast, List.flatMap_append, List.flatMap_cons, List.getElem?_append_right (by rw [hl]; omega), hl, show 0 + i * 3 + j - i * 3 = j by omega]
  exact List.getElem?_append_left hj
theorem six_get {α : Type} (f1 f2 f3 f4 f5 f6 x : α) (a b : List α) : (f1 :: f2 :: f3 :: f4 :: f5 :: f6 :: (a ++ (x :: b)))[a.length + 6]? = some x := by simp
theorem sev_get {α : Type} (f1 f2 f3 f4 f5 f6 z x : α) (a b : List α) : (f1 :: f2 :: f3 :: f4 :: f5 :: f6 :: (a ++ (z :: ([x] ++ b))))[(a ++ [z]).length + 6]? = some x := by simp
theorem sev_set {α : Type} (f1 f2 f3 f4 f5 f6 z x y : α) (a b : List α) : (f1 :: f2 :: f3 :: f4 :: f5 :: f6 :: (a ++ (z :: ([x] ++ b)))).set ((a ++ [z]).length + 6) y = f1 :: f2 :: f3 :: f4 :: f5 :: f6 :: (a ++ (z :: ([y] ++ b))) := by simp
theorem ok_mid {A B : List RowO} {r : RowO} (hA : ∀ x ∈ A, OkO x) (hB : ∀ x ∈ B, OkO x) (hr : OkO r) : ∀ x ∈ A ++ r :: B, OkO x := fun x hx => by
  rcases List.mem_append.1 hx with h | h
  · exact hA x h
  rcases List.mem_cons.1 h with rfl | h
  · exact hr
  · exact hB x h
theorem six_set {α : Type} (f1 f2 f3 f4 f5 f6 x y : α) (a b : List α) : (f1 :: f2 :: f3 :: f4 :: f5 :: f6 :: (a ++ (x :: b))).set (a.length + 6) y = f1 :: f2 :: f3 :: f4 :: f5 :: f6 :: (a ++ (y :: b)) := by simp
theorem code_at {L : List CodeT} {k : Nat} (h : k < L.length) : (L.flatMap (Sh.cells codeSh))[0 + ((k : Int)).toNat * 8 + 1]? = some (.int .i64 L[k].2.1) := by
  have e := row_elem (f := Sh.cells codeSh) (n := 8) (fun _ => rfl) h
  have e2 : (((L.flatMap (Sh.cells codeSh)).drop (k * 8)).take 8)[1]? = some (.int .i64 L[k].2.1) := by rw [e]; rfl
  rw [List.getElem?_take_of_lt (by decide), List.getElem?_drop] at e2
  rw [Int.toNat_natCast, Nat.zero_add]
  exact e2
theorem code_set {L : List CodeT} {k : Nat} (h : k < L.length) (x : Int) : (L.flatMap (Sh.cells codeSh)).set (0 + ((k : Int)).toNat * 8 + 1) (.int .i64 x) = (L.set k (L[k].1, x, L[k].2.2)).flatMap (Sh.cells codeSh) := by
  obtain ⟨A, c, B, hL, hA, hc⟩ : ∃ A c B, L = A ++ c :: B ∧ A.length = k ∧ L[k] = c := ⟨L.take k, L[k], L.drop (k + 1), by simp, by simp; omega, rfl⟩
  rw [hc]
  clear hc
  subst hL
  subst hA
  have hl : (A.flatMap (Sh.cells codeSh)).length = A.length * 8 := flat_length (f := Sh.cells codeSh) (es := 8) (fun _ => rfl) A
  have e : ∀ c' : CodeT, (A ++ c' :: B).flatMap (Sh.cells codeSh) = A.flatMap (Sh.cells codeSh) ++ (Sh.cells codeSh c' ++ B.flatMap (Sh.cells codeSh)) := fun c' => (List.flatMap_append (xs := A) (ys := c' :: B) (f := Sh.cells codeSh)).trans (congrArg (A.flatMap (Sh.cells codeSh) ++ ·) List.flatMap_cons)
  rw [Int.toNat_natCast, set_mid, e, e, List.set_append_right _ _ (by rw [hl]; omega), hl, show 0 + A.length * 8 + 1 - A.length * 8 = 1 by omega]
  rfl
/-- What the copies are, as the walk knows them. -/
structure Cp (s : Sy) where
  b6 : Nat
  b7 : Nat
  bi : Nat
  bt : Nat
  R : List RowO
  len : R.length = s.T.length
  ok : ∀ r ∈ R, OkO r
abbrev cpC (s : Sy) (bi bt : Nat) : List AV := [.int .i64 s.what, .int .i64 s.w, .int .i64 s.n, .fsl prSh s.edges, .fsl (.int .i64) s.entry, .mref bi 0 s.init.length 1, .mref bt 0 s.T.length 3]
abbrev wantC (s : Sy) (en : List Int) : List AV := sysC { s with edges := sortedE (turnE s.edges), entry := en }
/-- All orders of the two copies' statement. -/
def planT : Sch := (.alt 0 (.alt 1 (.alt 2 (.alt 3 (.alt 4 (.one 5 false (.one 6 false (.one 7 false .stop))) (.one 5 false (.one 4 false (.one 6 false (.one 7 false .stop))))) (.alt 4 (.alt 3 (.one 5 false (.one 6 false (.one 7 false .stop))) (.one 5 false (.one 3 false (.one 6 false (.one 7 false .stop))))) (.one 5 false (.alt 3 (.one 4 false (.one 6 false (.one 7 false .stop))) (.one 4 false (.one 3 false (.one 6 false (.one 7 false .stop)))))))) (.alt 4 (.alt 2 (.alt 3 (.one 5 false (.one 6 false (.one 7 false .stop))) (.one 5 false (.one 3 false (.one 6 false (.one 7 false .stop))))) (.one 5 false (.one 2 false (.one 3 false (.one 6 false (.one 7 false .stop)))))) (.one 5 false (.alt 2 (.alt 3 (.one 4 false (.one 6 false (.one 7 false .stop))) (.one 4 false (.one 3 false (.one 6 false (.one 7 false .stop))))) (.one 4 false (.one 2 false (.one 3 false (.one 6 false (.one 7 false .stop))))))))) (.alt 2 (.alt 1 (.alt 3 (.alt 4 (.one 5 false (.one 6 false (.one 7 false .stop))) (.one 5 false (.one 4 false (.one 6 false (.one 7 false .stop))))) (.alt 4 (.alt 3 (.one 5 false (.one 6 false (.one 7 false .stop))) (.one 5 false (.one 3 false (.one 6 false (.one 7 false .stop))))) (.one 5 false (.alt 3 (.one 4 false (.one 6 false (.one 7 false .stop))) (.one 4 false (.one 3 false (.one 6 false (.one 7 false .stop)))))))) (.alt 4 (.alt 1 (.alt 3 (.one 5 false (.one 6 false (.one 7 false .stop))) (.one 5 false (.one 3 false (.one 6 false (.one 7 false .stop))))) (.one 5 false (.one 1 false (.one 3 false (.one 6 false (.one 7 false .stop)))))) (.one 5 false (.alt 1 (.alt 3 (.one 4 false (.one 6 false (.one 7 false .stop))) (.one 4 false (.one 3 false (.one 6 false (.one 7 false .stop))))) (.one 4 false (.one 1 false (.one 3 false (.one 6 false (.one 7 false .stop))))))))) (.alt 4 (.alt 1 (.alt 2 (.alt 3 (.one 5 false (.one 6 false (.one 7 false .stop))) (.one 5 false (.one 3 false (.one 6 false (.one 7 false .stop))))) (.one 5 false (.one 2 false (.one 3 false (.one 6 false (.one 7 false .stop)))))) (.alt 2 (.alt 1 (.alt 3 (.one 5 false (.one 6 false (.one 7 false .stop))) (.one 5 false (.one 3 false (.one 6 false (.one 7 false .stop))))) (.one 5 false (.one 1 false (.one 3 false (.one 6 false (.one 7 false .stop)))))) (.one 5 false (.alt 1 (.one 2 false (.one 3 false (.one 6 false (.one 7 false .stop)))) (.one 2 false (.one 1 false (.one 3 false (.one 6 false (.one 7 false .stop))))))))) (.one 5 false (.alt 1 (.alt 2 (.alt 3 (.one 4 false (.one 6 false (.one 7 false .stop))) (.one 4 false (.one 3 false (.one 6 false (.one 7 false .stop))))) (.one 4 false (.one 2 false (.one 3 false (.one 6 false (.one 7 false .stop)))))) (.alt 2 (.alt 1 (.alt 3 (.one 4 false (.one 6 false (.one 7 false .stop))) (.one 4 false (.one 3 false (.one 6 false (.one 7 false .stop))))) (.one 4 false (.one 1 false (.one 3 false (.one 6 false (.one 7 false .stop)))))) (.one 4 false (.alt 1 (.one 2 false (.one 3 false (.one 6 false (.one 7 false .stop)))) (.one 2 false (.one 1 false (.one 3 false (.one 6 false (.one 7 false .stop))))))))))))) (.alt 2 (.alt 0 (.alt 1 (.alt 3 (.alt 4 (.one 5 false (.one 6 false (.one 7 false .stop))) (.one 5 false (.one 4 false (.one 6 false (.one 7 false .stop))))) (.alt 4 (.alt 3 (.one 5 false (.one 6 false (.one 7 false .stop))) (.one 5 false (.one 3 false (.one 6 false (.one 7 false .stop))))) (.one 5 false (.alt 3 (.one 4 false (.one 6 false (.one 7 false .stop))) (.one 4 false (.one 3 false (.one 6 false (.one 7 false .stop)))))))) (.alt 4 (.alt 1 (.alt 3 (.one 5 false (.one 6 false (.one 7 false .stop))) (.one 5 false (.one 3 false (.one 6 false (.one 7 false .stop))))) (.one 5 false (.one 1 false (.one 3 false (.one 6 false (.one 7 false .stop)))))) (.one 5 false (.alt 1 (.alt 3 (.one 4 false (.one 6 false (.one 7 false .stop))) (.one 4 false (.one 3 false (.one 6 false (.one 7 false .stop))))) (.one 4 false (.one 1 false (.one 3 false (.one 6 false (.one 7 false .stop))))))))) (.alt 4 (.alt 0 (.alt 1 (.alt 3 (.one 5 false (.one 6 false (.one 7 false .stop))) (.one 5 false (.one 3 false (.one 6 false (.one 7 false .stop))))) (.one 5 false (.one 1 false (.one 3 false (.one 6 false (.one 7 false .stop)))))) (.one 5 false (.one 0 false (.one 1 false (.one 3 false (.one 6 false (.one 7 false .stop))))))) (.one 5 false (.alt 0 (.alt 1 (.alt 3 (.one 4 false (.one 6 false (.one 7 false .stop))) (.one 4 false (.one 3 false (.one 6 false (.one 7 false .stop))))) (.one 4 false (.one 1 false (.one 3 false (.one 6 false (.one 7 false .stop)))))) (.one 4 false (.one 0 false (.one 1 false (.one 3 false (.one 6 false (.one 7 false .stop)))))))))) (.alt 4 (.alt 0 (.alt 1 (.alt 2 (.alt 3 (.one 5 false (.one 6 false (.one 7 false .stop))) (.one 5 false (.one 3 false (.one 6 false (.one 7 false .stop))))) (.one 5 false (.one 2 false (.one 3 false (.one 6 false (.one 7 false .stop)))))) (.alt 2 (.alt 1 (.alt 3 (.one 5 false (.one 6 false (.one 7 false .stop))) (.one 5 false (.one 3 false (.one 6 false (.one 7 false .stop))))) (.one 5 false (.one 1 false (.one 3 false (.one 6 false (.one 7 false .stop)))))) (.one 5 false (.alt 1 (.one 2 false (.one 3 false (.one 6 false (.one 7 false .stop)))) (.one 2 false (.one 1 false (.one 3 false (.one 6 false (.one 7 false .stop))))))))) (.alt 2 (.alt 0 (.alt 1 (.alt 3 (.one 5 false (.one 6 false (.one 7 false .stop))) (.one 5 false (.one 3 false (.one 6 false (.one 7 false .stop))))) (.one 5 false (.one 1 false (.one 3 false (.one 6 false (.one 7 false .stop)))))) (.one 5 false (.one 0 false (.one 1 false (.one 3 false (.one 6 false (.one 7 false .stop))))))) (.one 5 false (.one 0 false (.alt 1 (.one 2 false (.one 3 false (.one 6 false (.one 7 false .stop)))) (.one 2 false (.one 1 false (.one 3 false (.one 6 false (.one 7 false .stop)))))))))) (.one 5 false (.alt 0 (.alt 1 (.alt 2 (.alt 3 (.one 4 false (.one 6 false (.one 7 false .stop))) (.one 4 false (.one 3 false (.one 6 false (.one 7 false .stop))))) (.one 4 false (.one 2 false (.one 3 false (.one 6 false (.one 7 false .stop)))))) (.alt 2 (.alt 1 (.alt 3 (.one 4 false (.one 6 false (.one 7 false .stop))) (.one 4 false (.one 3 false (.one 6 false (.one 7 false .stop))))) (.one 4 false (.one 1 false (.one 3 false (.one 6 false (.one 7 false .stop)))))) (.one 4 false (.alt 1 (.one 2 false (.one 3 false (.one 6 false (.one 7 false .stop)))) (.one 2 false (.one 1 false (.one 3 false (.one 6 false (.one 7 false .stop))))))))) (.alt 2 (.alt 0 (.alt 1 (.alt 3 (.one 4 false (.one 6 false (.one 7 false .stop))) (.one 4 false (.one 3 false (.one 6 false (.one 7 false .stop))))) (.one 4 false (.one 1 false (.one 3 false (.one 6 false (.one 7 false .stop)))))) (.one 4 false (.one 0 false (.one 1 false (.one 3 false (.one 6 false (.one 7 false .stop))))))) (.one 4 false (.one 0 false (.alt 1 (.one 2 false (.one 3 false (.one 6 false (.one 7 false .stop)))) (.one 2 false (.one 1 false (.one 3 false (.one 6 false (.one 7 false .stop))))))))))))))
set_option maxHeartbeats 4000000 in
theorem systemTurns_walk (s : Sy) (en : List Int) (hi : A64 s.init) (ht : ∀ t ∈ s.T, A64 t.1 ∧ A64 t.2.1) : ACalls Tryz.prog 3 [.agg (sysC s), .fsl (.int .i64) en] [] (fun r _ => r = .bool true) := by
  refine okF Tryz.func3 (by kernel_rfl) ?_
  intro bl1
  refine callR [] (aAwake17 _) ?_
  refine LoadAt.mk 0 _ _ rfl rfl ?_
  refine callS [] (aSmall17 s _) (fun hsm => ?_) ?_
  rotate_left
  · exact .done rfl
  have hf := fit_of hsm hi ht
  refine bcond_dec (p := 20 < (en.length : Int)) (fun hl => ?_) (fun hl => ?_)
  · exact .done rfl
  have hl : en.length ≤ 20 := by omega
  refine LoadAt.mk 0 _ _ rfl rfl ?_
  intro bw
  refine StoreAt.mk 0 _ _ rfl rfl ?_
  refine LoadAt.mk 1 _ _ rfl rfl ?_
  refine callR [] (aRReverse s.edges _ hf.elen) ?_
  refine StoreAt.mk 0 _ _ rfl rfl ?_
  refine StoreAt.mk 0 _ _ rfl rfl ?_
  refine DrawW.meetS (S := Cp s) [] planT (fun c => [(1, .fsl (.int .i64) en), (2, .ptr bl1 0), (5, .ptr bw 0), (6, .ptr c.b6 0), (7, .ptr c.b7 0)]) (fun c => (c.b7, cpC s c.bi c.bt) :: (c.bt, c.R.flatMap rowO) :: (c.bi, woC s.init) :: (c.b6, sysC s) :: (bw, wantC s en) :: (bl1, sysC s) :: c.R.flatMap blkRo) (by kernel_rfl) ?_ ?_
  · have m0 : True := trivial
    repeat' first
      | refine And.intro ?_ ?_
      | refine LoadAt.mk 1 _ _ rfl rfl ?_
      | refine LoadAt.mk 2 _ _ rfl rfl ?_
      | refine LoadAt.mk 3 _ _ rfl rfl ?_
      | refine StoreAt.mk 0 _ _ rfl rfl ?_
      | refine StoreAt.mk 1 _ _ rfl rfl ?_
      | refine StoreAt.mk 2 _ _ rfl rfl ?_
      | refine StoreAt.mk 3 _ _ rfl rfl ?_
      | (clear c1; refine CallAt.mk [] _ (aSysCloneP s _ hf) ?_; rintro _ _ ⟨bi, bt, R, rfl, rfl, h1, h2⟩; first | (have k0 := m0) | (have k1 := m1) | (have k2 : True := trivial))
      | (have c1 : True := trivial; refine callR [] (aSysClone s _ hf) ?_)
      | (clear m0; intro a1; have m1 : True := trivial)
      | (clear m1; intro a2)
      | (clear k0; first | exact ⟨⟨a1, a2, bi, bt, R, h1, h2⟩, ⟨rfl, rfl, rfl, rfl, rfl, trivial⟩, .pull [3, 3, 3, 1] (.refl _)⟩ | exact ⟨⟨a2, a1, bi, bt, R, h1, h2⟩, ⟨rfl, rfl, rfl, rfl, rfl, trivial⟩, .pull [3, 3, 3, 0] (.refl _)⟩)
      | (clear k1; first | exact ⟨⟨a1, a2, bi, bt, R, h1, h2⟩, ⟨rfl, rfl, rfl, rfl, rfl, trivial⟩, .pull [3, 3, 3, 3] (.refl _)⟩ | exact ⟨⟨a2, a1, bi, bt, R, h1, h2⟩, ⟨rfl, rfl, rfl, rfl, rfl, trivial⟩, .pull [3, 2, 2, 0] (.refl _)⟩)
      | (clear k2; first | exact ⟨⟨a1, a2, bi, bt, R, h1, h2⟩, ⟨rfl, rfl, rfl, rfl, rfl, trivial⟩, .pull [3, 2, 2, 3] (.refl _)⟩ | exact ⟨⟨a2, a1, bi, bt, R, h1, h2⟩, ⟨rfl, rfl, rfl, rfl, rfl, trivial⟩, .pull [3, 2, 2, 2] (.refl _)⟩)
  · rintro ⟨b6, b7, bi, bt, R, hR, hok⟩ g
    refine LoadAt.mk 0 _ _ rfl rfl ?_
    have hT := hf.tlen
    refine loopS (S := Nat × List RowO) (fun c => [(1, .fsl (.int .i64) en), (2, .ptr bl1 0), (5, .ptr bw 0), (6, .ptr b6 0), (7, .ptr b7 0), (35, .int .i64 s.T.length), (36, .int .i64 c.1)]) (fun c => (b7, cpC s bi bt) :: (bt, c.2.flatMap rowO) :: (bi, woC s.init) :: (b6, sysC s) :: (bw, wantC s en) :: (bl1, sysC s) :: c.2.flatMap blkRo) (fun c => c.1 ≤ s.T.length ∧ c.2.length = s.T.length ∧ ∀ r ∈ c.2, OkO r) (fun c => s.T.length - c.1) (0, R) ⟨⟨Nat.zero_le _, hR, hok⟩, ⟨rfl, rfl, rfl, rfl, rfl, rfl, rfl, trivial⟩, rfl⟩ ?_
    clear hR hok R
    rintro ⟨i, R⟩ g2 ⟨hi0, hR0, hok0⟩
    have hi' : i ≤ s.T.length := hi0
    have hR : R.length = s.T.length := hR0
    have hok : ∀ r ∈ R, OkO r := hok0
    clear hi0 hR0 hok0
    refine bcond_dec (fun hlt => ?_) (fun hge => ?_)
    · have hltN : i < s.T.length := by have hlt : (i : Int) < s.T.length := hlt; omega
      obtain ⟨A, r, B, rfl, hA⟩ : ∃ A r B, R = A ++ r :: B ∧ A.length = i := ⟨R.take i, R[i]'(by omega), R.drop (i + 1), by simp, by simp; omega⟩
      obtain ⟨okr⟩ : Nonempty (OkO r) := ⟨hok r (by simp)⟩
      obtain ⟨rg, rn, rc, rk, rm, rv, ra, rcc⟩ := r
      have hrow : ∀ (c' : List Int) (cc' : List CodeT) (a' : Hp), (A ++ ⟨rg, rn, c', rk, rm, rv, a', cc'⟩ :: B).flatMap rowO = (A ++ ⟨rg, rn, rc, rk, rm, rv, ra, rcc⟩ :: B).flatMap rowO := fun _ _ _ => by simp only [List.flatMap_append, List.flatMap_cons]; rfl
      have hblk : ∀ (c' : List Int) (cc' : List CodeT) (a' : Hp), (A ++ ⟨rg, rn, c', rk, rm, rv, a', cc'⟩ :: B).flatMap blkRo = A.flatMap blkRo ++ ((rg, woC c') :: (a' ++ B.flatMap blkRo)) := fun _ _ _ => by simp only [List.flatMap_append, List.flatMap_cons]; rfl
      rw [hblk]
      refine LoadAt.mk 0 _ _ rfl rfl ?_
      refine With.mk ⟨rfl, by omega, by omega⟩ ?_
      have hA2 := hA
      have hg0 : ((A ++ ⟨rg, rn, rc, rk, rm, rv, ra, rcc⟩ :: B).flatMap rowO)[0 + ((i : Int)).toNat * 3 + 0]? = some (.mref rg 0 rn 1) := rowO_at hA (by decide)
      have hg2 : ((A ++ ⟨rg, rn, rc, rk, rm, rv, ra, rcc⟩ :: B).flatMap rowO)[0 + ((i : Int)).toNat * 3 + 2]? = some (.via rv) := rowO_at hA (by decide)
      have e1 : rc.length = rn := okr.ng
      have e2 : rn ≤ 10000 := okr.small
      have e3 : Acc 8 rm rv ra (rcc.flatMap (Sh.cells codeSh)) := okr.acc
      have e4 : rcc.length = rm := okr.cn
      have e5 : rm ≤ 100000 := okr.few
      have hlen : (A ++ ⟨rg, rn, rc, rk, rm, rv, ra, rcc⟩ :: B).length = s.T.length := hR
      have hokA : ∀ x ∈ A, OkO x := fun x hx => hok x (List.mem_append_left _ hx)
      have hokB : ∀ x ∈ B, OkO x := fun x hx => hok x (List.mem_append_right _ (List.mem_cons_of_mem _ hx))
      generalize hTC : (A ++ ⟨rg, rn, rc, rk, rm, rv, ra, rcc⟩ :: B).flatMap rowO = TC at hrow hg0 hg2
      clear hR hok okr
      generalize hbA : A.flatMap blkRo = bA at hblk
      generalize hbB : B.flatMap blkRo = bB at hblk
      refine LoadAt.mk 1 _ (.mref rg 0 rn 1) rfl (read1 rfl hg0) ?_
      refine loopS (S := Nat × List Int) (fun c => [(1, .fsl (.int .i64) en), (2, .ptr bl1 0), (5, .ptr bw 0), (6, .ptr b6 0), (7, .ptr b7 0), (8, .int .i64 i), (35, .int .i64 s.T.length), (36, .int .i64 i), (45, .int .i64 rn), (46, .int .i64 c.1)]) (fun c => (b7, cpC s bi bt) :: (bt, TC) :: (bi, woC s.init) :: (b6, sysC s) :: (bw, wantC s en) :: (bl1, sysC s) :: (bA ++ ((rg, woC c.2) :: (ra ++ bB)))) (fun c => c.1 ≤ rn ∧ c.2.length = rn) (fun c => rn - c.1) (0, rc) ⟨⟨Nat.zero_le _, e1⟩, ⟨rfl, rfl, rfl, rfl, rfl, rfl, rfl, rfl, rfl, rfl, trivial⟩, rfl⟩ ?_
      rintro ⟨k, gc⟩ g3 ⟨hk0, hgc0⟩
      have hk : k ≤ rn := hk0
      have hgc : gc.length = rn := hgc0
      clear hk0 hgc0
      refine bcond_dec (fun hlt2 => ?_) (fun hge2 => ?_)
      · have hlt2 : k < rn := by have hlt2 : (k : Int) < rn := hlt2; omega
        refine LoadAt.mk 0 _ _ rfl rfl ?_
        refine With.mk ⟨rfl, by omega, by omega⟩ ?_
        refine LoadAt.mk 1 _ (.mref rg 0 rn 1) rfl (read1 rfl hg0) ?_
        refine With.mk ⟨rfl, by omega, by omega⟩ ?_
        have hkg : k < gc.length := by omega
        refine LoadAt.mk (bA.length + 6) _ (.int .u64 (wd gc k)) (six_get _ _ _ _ _ _ _ _ _) (get64 hkg rfl) ?_
        refine With.mk ⟨rfl, by omega, by omega⟩ ?_
        refine StoreAt.mk (bA.length + 6) _ _ (six_get _ _ _ _ _ _ _ _ _) (put64 hkg _ rfl) ?_
        exact nextS (k + 1, gc.set k _) (by show rn - (k + 1) < rn - k; omega) ⟨hlt2, (List.length_set ..).trans hgc⟩ ⟨rfl, rfl, rfl, rfl, rfl, rfl, rfl, rfl, rfl, inc64 (by omega), trivial⟩ (shed_eq (six_set _ _ _ _ _ _ _ _ _ _))
      · have hge2 : k = rn := by have hge2 : ¬ (k : Int) < rn := hge2; omega
        clear hk hge2
        refine LoadAt.mk 0 _ _ rfl rfl ?_
        refine With.mk ⟨rfl, by omega, by omega⟩ ?_
        refine LoadAt.mk 1 _ (.via rv) rfl (read1 rfl hg2) ?_
        generalize hcc : rcc.flatMap (Sh.cells codeSh) = cc at e3
        cases e3 with
        | nil =>
          refine loopS (S := Unit) (fun _ => [(1, .fsl (.int .i64) en), (2, .ptr bl1 0), (5, .ptr bw 0), (6, .ptr b6 0), (7, .ptr b7 0), (8, .int .i64 i), (35, .int .i64 s.T.length), (36, .int .i64 i), (67, .int .i64 0), (68, .int .i64 0)]) (fun _ => (b7, cpC s bi bt) :: (bt, TC) :: (bi, woC s.init) :: (b6, sysC s) :: (bw, wantC s en) :: (bl1, sysC s) :: (bA ++ ((rg, woC gc) :: ([] ++ bB)))) (fun _ => True) (fun _ => 0) () ⟨trivial, ⟨rfl, rfl, rfl, rfl, rfl, rfl, rfl, rfl, rfl, rfl, trivial⟩, rfl⟩ ?_
          intro _ g4 _
          refine nextS (i + 1, A ++ ⟨rg, rn, gc, rk, 0, .nils, [], rcc⟩ :: B) (by show s.T.length - (i + 1) < s.T.length - i; omega) ⟨hltN, by rw [← hlen]; simp, ok_mid hokA hokB ⟨hgc, e2, by rw [hcc]; exact .nil, e4, by omega⟩⟩ ⟨rfl, rfl, rfl, rfl, rfl, rfl, inc64 (by omega), trivial⟩ (shed_eq (by show _ = _ :: (bt, (A ++ _ :: B).flatMap rowO) :: _ :: _ :: _ :: _ :: (A ++ _ :: B).flatMap blkRo; rw [hrow, hblk]))
        | mref rb m cc hm =>
          subst hcc
          refine loopS (S := Nat × List CodeT) (fun c => [(1, .fsl (.int .i64) en), (2, .ptr bl1 0), (5, .ptr bw 0), (6, .ptr b6 0), (7, .ptr b7 0), (8, .int .i64 i), (35, .int .i64 s.T.length), (36, .int .i64 i), (67, .int .i64 rm), (68, .int .i64 c.1)]) (fun c => (b7, cpC s bi bt) :: (bt, TC) :: (bi, woC s.init) :: (b6, sysC s) :: (bw, wantC s en) :: (bl1, sysC s) :: (bA ++ ((rg, woC gc) :: ([(rb, c.2.flatMap (Sh.cells codeSh))] ++ bB)))) (fun c => c.1 ≤ rm ∧ c.2.length = rm) (fun c => rm - c.1) (0, rcc) ⟨⟨Nat.zero_le _, e4⟩, ⟨rfl, rfl, rfl, rfl, rfl, rfl, rfl, rfl, rfl, rfl, trivial⟩, rfl⟩ ?_
          rintro ⟨k2, L⟩ g4 ⟨hk0, hL0⟩
          have hk2 : k2 ≤ rm := hk0
          have hL : L.length = rm := hL0
          have hl8 : (L.flatMap (Sh.cells codeSh)).length = L.length * 8 := flat_length (f := Sh.cells codeSh) (es := 8) (fun _ => rfl) L
          rw [hL] at hl8
          clear hk0 hL0
          refine bcond_dec (fun hlt3 => ?_) (fun hge3 => ?_)
          · have hlt3 : k2 < rm := by have hlt3 : (k2 : Int) < rm := hlt3; omega
            refine LoadAt.mk 0 _ _ rfl rfl ?_
            refine With.mk ⟨rfl, by omega, by omega⟩ ?_
            refine LoadAt.mk 1 _ (.via (.mref rb 0 rm 8)) rfl (read1 rfl hg2) ?_
            refine With.mk ⟨rfl, by omega, by omega⟩ ?_
            have hw8 : 0 + ((k2 : Int)).toNat * 8 + 1 < (L.flatMap (Sh.cells codeSh)).length := by rw [Int.toNat_natCast, hl8]; omega
            refine LoadAt.mk ((bA ++ [(rg, woC gc)]).length + 6) _ (.int .i64 (L[k2]'(by rw [hL]; exact hlt3)).2.1) (sev_get _ _ _ _ _ _ _ _ _ _) (read1 rfl (code_at (by rw [hL]; exact hlt3))) ?_
            refine With.mk ⟨rfl, by omega, by omega⟩ ?_
            refine StoreAt.mk ((bA ++ [(rg, woC gc)]).length + 6) _ _ (sev_get _ _ _ _ _ _ _ _ _ _) ((write1 rfl rfl hw8).trans (congrArg some (code_set (by rw [hL]; exact hlt3) _))) ?_
            exact nextS (k2 + 1, L.set k2 _) (by show rm - (k2 + 1) < rm - k2; omega) ⟨hlt3, (List.length_set ..).trans hL⟩ ⟨rfl, rfl, rfl, rfl, rfl, rfl, rfl, rfl, rfl, inc64 (by omega), trivial⟩ (shed_eq (sev_set _ _ _ _ _ _ _ _ _ _ _))
          · refine nextS (i + 1, A ++ ⟨rg, rn, gc, rk, rm, .mref rb 0 rm 8, [(rb, L.flatMap (Sh.cells codeSh))], L⟩ :: B) (by show s.T.length - (i + 1) < s.T.length - i; omega) ⟨hltN, by rw [← hlen]; simp, ok_mid hokA hokB ⟨hgc, e2, .mref _ _ _ hl8, hL, e5⟩⟩ ⟨rfl, rfl, rfl, rfl, rfl, rfl, inc64 (by omega), trivial⟩ (shed_eq (by show _ = _ :: (bt, (A ++ _ :: B).flatMap rowO) :: _ :: _ :: _ :: _ :: (A ++ _ :: B).flatMap blkRo; rw [hrow, hblk]))
    · refine LoadAt.mk 0 _ _ rfl rfl ?_
      have hin := hf.ilen
      refine loopS (S := Nat × List Int) (fun c => [(1, .fsl (.int .i64) en), (2, .ptr bl1 0), (5, .ptr bw 0), (6, .ptr b6 0), (7, .ptr b7 0), (88, .int .i64 s.init.length), (89, .int .i64 c.1)]) (fun c => (b7, cpC s bi bt) :: (bt, R.flatMap rowO) :: (bi, woC c.2) :: (b6, sysC s) :: (bw, wantC s en) :: (bl1, sysC s) :: R.flatMap blkRo) (fun c => c.1 ≤ s.init.length ∧ c.2.length = s.init.length) (fun c => s.init.length - c.1) (0, s.init) ⟨⟨Nat.zero_le _, rfl⟩, ⟨rfl, rfl, rfl, rfl, rfl, rfl, rfl, trivial⟩, rfl⟩ ?_
      rintro ⟨k, gc⟩ g3 ⟨hk0, hgc0⟩
      have hk : k ≤ s.init.length := hk0
      have hgc : gc.length = s.init.length := hgc0
      clear hk0 hgc0
      refine bcond_dec (fun hlt2 => ?_) (fun hge2 => ?_)
      · have hlt2 : k < s.init.length := by have hlt2 : (k : Int) < s.init.length := hlt2; omega
        have hkg : k < gc.length := by omega
        refine LoadAt.mk 0 _ _ rfl rfl ?_
        refine With.mk ⟨rfl, by omega, by omega⟩ ?_
        refine LoadAt.mk 2 _ (.int .u64 (wd gc k)) rfl (get64 hkg rfl) ?_
        refine With.mk ⟨rfl, by omega, by omega⟩ ?_
        refine StoreAt.mk 2 _ _ rfl (put64 hkg _ rfl) ?_
        exact nextS (k + 1, gc.set k _) (by show s.init.length - (k + 1) < s.init.length - k; omega) ⟨hlt2, (List.length_set ..).trans hgc⟩ ⟨rfl, rfl, rfl, rfl, rfl, rfl, inc64 (by omega), trivial⟩ (.refl _)
      · have hf2 : Fit { s with edges := sortedE (turnE s.edges), entry := en } := ⟨hf.i64, hf.ilen, Nat.le_trans (sortedE_length _) (by rw [turnE_length s.edges]; exact hf.elen), Nat.le_trans hl (by decide), hf.tlen, hf.ts⟩
        refine .quiet (by kernel_rfl) ?_
        refine LoadAt.mk 5 _ _ rfl rfl ?_
        refine callQ [] (aSysReverse s en _ hf (by omega)) ?_
        refine LoadAt.mk 4 _ _ rfl rfl ?_
        refine callQ [] (aRAlike _ _ hf2) ?_
        refine LoadAt.mk 3 _ _ rfl rfl ?_
        refine LoadAt.mk 5 _ _ rfl rfl ?_
        refine callQ [] (aRAlike _ _ hf) ?_
        exact .done rfl
end Go.Proofs.YtegpahamenjiaaaGreat
