/-
  why.right, Has, Begins, Born, Passes; soughref21.Has, Begins, After.
  soughlaw21.right, awake; WhyFacts.
  why.Find: how far nodes are, plain.
-/
import Derived.Test.YteccfogpajbigaaGreatBd
import Derived.Test.YteccfogpajbigaaGreatZd
import Derived.Test.YteccfogpajbigaaGreatTu
namespace Go.Proofs.YteccfogpajbigaaGreat
open Go.RowKit
set_option maxRecDepth 100000
theorem getM_set : ∀ (l : List (Int × Int)) (n x z : Int), getM (putM l n x) z = if z = n then some x else getM l z
  | [], n, x, z => by
    by_cases h : z = n
    · subst h; simp [putM, getM]
    · rw [if_neg h]; unfold putM getM; rw [if_neg (fun e => h e.symm)]; rfl
  | p :: l, n, x, z => by
    by_cases hp : p.1 = n
    · have e : putM (p :: l) n x = (n, x) :: l := if_pos hp
      rw [e]
      by_cases h : z = n
      · subst h; rw [if_pos rfl]; exact if_pos rfl
      · rw [if_neg h]
        show (if n = z then some x else getM l z) = (if p.1 = z then some p.2 else getM l z)
        rw [if_neg (fun e => h e.symm), if_neg (fun e => h (e.symm.trans hp))]
    · have e : putM (p :: l) n x = p :: putM l n x := if_neg hp
      rw [e]
      show (if p.1 = z then some p.2 else getM (putM l n x) z) = if z = n then some x else (if p.1 = z then some p.2 else getM l z)
      by_cases h2 : p.1 = z
      · rw [if_pos h2, if_pos h2, if_neg (fun e => hp (h2.trans e))]
      · rw [if_neg h2, if_neg h2, getM_set l n x z]
theorem pigN : ∀ (l m : List Int), l.Nodup → (∀ x ∈ l, x ∈ m) → m.length ≤ l.length → m.Perm l
  | [], m, _, _, h => by rw [List.length_eq_zero_iff.1 (Nat.le_zero.1 h)]
  | x :: l, m, hn, hs, h => by
    obtain ⟨h1, h2⟩ := List.nodup_cons.1 hn
    have hx := hs x (List.mem_cons_self ..)
    have hl := List.length_erase_of_mem hx
    have := List.length_pos_of_mem hx
    have ih := pigN l (m.erase x) h2 (fun y hy => (List.mem_erase_of_ne (show y ≠ x from fun e => h1 (by rw [← e]; exact hy))).2 (hs y (List.mem_cons_of_mem _ hy))) (by simp only [List.length_cons] at h; omega)
    exact (List.perm_cons_erase hx).trans (.cons x ih)
def rightB (s : Sy) (v n : Int) : Bool := decide (s.what ≠ 3 ∧ checkS s = 0 ∧ 0 ≤ v ∧ v < s.n ∧ 0 ≤ n ∧ n < s.w)
theorem aWhyRight (s : Sy) (v n : Int) (σ : Hp) (hf : Fit s) : ACalls Tryz.prog 65 [.agg (sysC s), .int .i64 v, .int .i64 n] σ (Ret (.bool (rightB s v n)) σ) := by
  refine okF Tryz.func65 (by kernel_rfl) ?_
  intro bl1
  refine LoadAt.mk 0 _ _ rfl rfl ?_
  refine bcond_split (fun c2 => ?_) (fun c2 => ?_)
  · have c2 : ¬ (s.what = 3) := by simpa using c2
    refine LoadAt.mk 0 _ _ rfl rfl ?_
    refine callR [] (aSysCheck s _ hf) ?_
    refine bcond_dec (fun c3 => ?_) (fun c3 => ?_)
    · have c3 : checkS s = 0 := c3
      refine bcond_dec (fun c4 => ?_) (fun c4 => ?_)
      · have c4 : 0 ≤ v := c4
        refine LoadAt.mk 0 _ _ rfl rfl ?_
        refine bcond_dec (fun c5 => ?_) (fun c5 => ?_)
        · have c5 : v < s.n := c5
          refine bcond_dec (fun c6 => ?_) (fun c6 => ?_)
          · have c6 : 0 ≤ n := c6
            refine LoadAt.mk 0 _ _ rfl rfl ?_
            refine bcond_dec (fun c7 => ?_) (fun c7 => ?_)
            · have c7 : n < s.w := c7
              exact .drop 0 1 (.done ⟨av_bool (by unfold rightB; exact (decide_eq_true (by omega)).symm), rfl⟩)
            · have c7 : ¬ (n < s.w) := c7
              exact .drop 0 1 (.done ⟨av_bool (by unfold rightB; exact (decide_eq_false (by omega)).symm), rfl⟩)
          · have c6 : ¬ (0 ≤ n) := c6
            exact .drop 0 1 (.done ⟨av_bool (by unfold rightB; exact (decide_eq_false (by omega)).symm), rfl⟩)
        · have c5 : ¬ (v < s.n) := c5
          exact .drop 0 1 (.done ⟨av_bool (by unfold rightB; exact (decide_eq_false (by omega)).symm), rfl⟩)
      · have c4 : ¬ (0 ≤ v) := c4
        exact .drop 0 1 (.done ⟨av_bool (by unfold rightB; exact (decide_eq_false (by omega)).symm), rfl⟩)
    · have c3 : ¬ (checkS s = 0) := c3
      exact .drop 0 1 (.done ⟨av_bool (by unfold rightB; exact (decide_eq_false (by omega)).symm), rfl⟩)
  · have c2 : s.what = 3 := by simpa using c2
    exact .drop 0 1 (.done ⟨av_bool (by unfold rightB; exact (decide_eq_false (by omega)).symm), rfl⟩)
theorem right_w {s : Sy} {v n : Int} (h : rightB s v n = true) : s.what ≠ 3 ∧ checkS s = 0 ∧ 0 ≤ v ∧ v < s.n ∧ 0 ≤ n ∧ n < s.w := of_decide_eq_true h
theorem w_small {s : Sy} (hg : Good s) : s.w ≤ 1024 := by
  have := hg.isL
  unfold is12 at this
  simp only [Bool.and_eq_true, decide_eq_true_eq] at this
  omega
theorem wd_64' {a : List Int} (h : A64 a) (i : Nat) : W64 (wd a i) := by
  by_cases hi : i < a.length
  · rw [wd_get a hi]; exact h _ (List.getElem_mem hi)
  · rw [wd_none (by omega)]; exact ⟨by decide, by decide⟩
theorem aWsHas (a : List Int) (n : Nat) (σ : Hp) (h64 : A64 a) (hn : n ≤ 1000000) : ACalls Tryz.prog 67 [.fsl (.int .u64) a, .int .i64 n] σ (Ret (.bool (hasB a n)) σ) := by
  refine okF Tryz.func67 (by kernel_rfl) ?_
  have hd := div64 n (by omega)
  have hm := mod64 n
  have hw := fun σ => aWsWord a (n / 64) σ
  rw [← hd] at hw
  have hq := has_int (ha := wd_64' h64 (n / 64)) (k := n % 64) (by omega) hm
  have hq : _ ↔ hasB a n = true := hq
  refine With.mk (by omega) ?_
  refine callR [] (hw _) ?_
  refine With.mk (by omega) ?_
  refine With.mk (by omega) ?_
  refine bcond_dec (fun c1 => ?_) (fun c1 => ?_)
  · have c1 : bits BinOp.and IntKind.u64 ((wd a (n / 64)).fdiv (2 ^ min ((↑n : Int).tmod 64).toNat IntKind.u64.bits)) 1 = 1 := c1
    exact .done ⟨av_bool (hq.1 c1).symm, rfl⟩
  · have c1 : ¬ (bits BinOp.and IntKind.u64 ((wd a (n / 64)).fdiv (2 ^ min ((↑n : Int).tmod 64).toNat IntKind.u64.bits)) 1 = 1) := c1
    exact .done ⟨av_bool (Bool.eq_false_iff.2 fun h => c1 (hq.2 h)).symm, rfl⟩
def whyHasB (s : Sy) (a : List Int) (n : Int) : Bool := rightB s 0 n && fitsW a s.w && (hasB a n.toNat == decide (s.what = 1))
theorem right_nat {s : Sy} {v n : Int} (h : rightB s v n = true) : ∃ m : Nat, n = m ∧ m ≤ 1000000 ∧ m < 1024 := by
  have h1 := right_w h
  have h2 := w_small (good_of h1.2.1)
  exact ⟨n.toNat, by omega, by omega, by omega⟩
theorem aWhyHas (s : Sy) (a : List Int) (n : Int) (σ : Hp) (hf : Fit s) (h64 : A64 a) (ha : a.length ≤ 10000) : ACalls Tryz.prog 27 [.agg (sysC s), .fsl (.int .u64) a, .int .i64 n] σ (Ret (.bool (whyHasB s a n)) σ) := by
  refine okF Tryz.func27 (by kernel_rfl) ?_
  unfold whyHasB
  cases hr : rightB s 0 n with
  | false =>
    have hR := fun σ => acalls_eq (aWhyRight s 0 n σ hf) (av_bool hr)
    intro bl1
    refine .quiet (by kernel_rfl) ?_
    refine LoadAt.mk 0 _ _ rfl rfl ?_
    refine callQ [] (hR _) ?_
    exact .drop 0 1 (.done ⟨rfl, rfl⟩)
  | true =>
    have hR := fun σ => acalls_eq (aWhyRight s 0 n σ hf) (av_bool hr)
    obtain ⟨m, rfl, hm, hm2⟩ := right_nat hr
    rw [Int.toNat_natCast]
    cases hfi : fitsW a s.w with
    | false =>
      have hF := fun σ => acalls_eq (aFits10 a s.w σ h64 ha) (av_bool hfi)
      intro bl1
      refine .quiet (by kernel_rfl) ?_
      refine LoadAt.mk 0 _ _ rfl rfl ?_
      refine callQ [] (hR _) ?_
      refine LoadAt.mk 0 _ _ rfl rfl ?_
      refine callQ [] (hF _) ?_
      exact .drop 0 1 (.done ⟨rfl, rfl⟩)
    | true =>
      have hF := fun σ => acalls_eq (aFits10 a s.w σ h64 ha) (av_bool hfi)
      cases hh : hasB a m with
      | false =>
        have hH := fun σ => acalls_eq (aWsHas a m σ h64 hm) (av_bool hh)
        intro bl1
        refine .quiet (by kernel_rfl) ?_
        refine LoadAt.mk 0 _ _ rfl rfl ?_
        refine callQ [] (hR _) ?_
        refine LoadAt.mk 0 _ _ rfl rfl ?_
        refine callQ [] (hF _) ?_
        refine callQ [] (hH _) ?_
        refine LoadAt.mk 0 _ _ rfl rfl ?_
        refine bcond_dec (fun c2 => ?_) (fun c2 => ?_)
        · have c2 : s.what = 1 := c2
          exact .drop 0 1 (.done ⟨av_bool (by simp [c2]), rfl⟩)
        · have c2 : ¬ (s.what = 1) := c2
          exact .drop 0 1 (.done ⟨av_bool (by simp [c2]), rfl⟩)
      | true =>
        have hH := fun σ => acalls_eq (aWsHas a m σ h64 hm) (av_bool hh)
        intro bl1
        refine .quiet (by kernel_rfl) ?_
        refine LoadAt.mk 0 _ _ rfl rfl ?_
        refine callQ [] (hR _) ?_
        refine LoadAt.mk 0 _ _ rfl rfl ?_
        refine callQ [] (hF _) ?_
        refine callQ [] (hH _) ?_
        refine LoadAt.mk 0 _ _ rfl rfl ?_
        refine bcond_dec (fun c2 => ?_) (fun c2 => ?_)
        · have c2 : s.what = 1 := c2
          exact .drop 0 1 (.done ⟨av_bool (by simp [c2]), rfl⟩)
        · have c2 : ¬ (s.what = 1) := c2
          exact .drop 0 1 (.done ⟨av_bool (by simp [c2]), rfl⟩)
def beginsB (s : Sy) (v n : Int) : Bool := rightB s v n && (s.entry.any fun z => decide (v = z)) && whyHasB s s.init n
theorem aWhyBegins (s : Sy) (v n : Int) (σ : Hp) (hf : Fit s) : ACalls Tryz.prog 20 [.agg (sysC s), .int .i64 v, .int .i64 n] σ (Ret (.bool (beginsB s v n)) σ) := by
  refine okF Tryz.func20 (by kernel_rfl) ?_
  unfold beginsB
  have hC := fun σ => aContainsI s.entry v σ (Nat.le_trans hf.nlen (by decide))
  intro bl1
  refine LoadAt.mk 0 _ _ rfl rfl ?_
  refine callB [] (aWhyRight s v n _ hf) (fun h1 => ?_) (fun h1 => ?_)
  · rw [h1]
    refine LoadAt.mk 0 _ _ rfl rfl ?_
    refine callB [] (hC _) (fun h2 => ?_) (fun h2 => ?_)
    · rw [h2]
      refine LoadAt.mk 0 _ _ rfl rfl ?_
      refine LoadAt.mk 0 _ _ rfl rfl ?_
      refine callR [] (aWhyHas s s.init n _ hf hf.i64 hf.ilen) ?_
      exact .drop 0 1 (.done ⟨rfl, rfl⟩)
    · rw [h2]
      exact .drop 0 1 (.done ⟨rfl, rfl⟩)
  · rw [h1]
    exact .drop 0 1 (.done ⟨rfl, rfl⟩)
abbrev trOf (s : Sy) (v : Int) : transSh.T := s.T.getD v.toNat ([], [], [], ())
def bornB (s : Sy) (v n : Int) : Bool := rightB s v n && (decide (s.what = 1) && hasB (trOf s v).1 n.toNat || decide (s.what = 2) && hasB (trOf s v).2.1 n.toNat && !hasB (trOf s v).1 n.toNat)
def passB (s : Sy) (v n : Int) : Bool := rightB s v n && (decide (s.what = 1) && (hasB (trOf s v).1 n.toNat || !hasB (trOf s v).2.1 n.toNat) || decide (s.what = 2) && !hasB (trOf s v).1 n.toNat)
theorem right_tr {s : Sy} {v n : Int} (h : rightB s v n = true) : ∃ (k : Nat) (t : transSh.T), v = k ∧ s.T[k]? = some t ∧ t ∈ s.T ∧ trOf s v = t := by
  have h1 := right_w h
  have h2 := (good_of h1.2.1).tl
  have hk : v.toNat < s.T.length := by omega
  refine ⟨v.toNat, s.T[v.toNat], by omega, List.getElem?_eq_getElem hk, List.getElem_mem hk, ?_⟩
  unfold trOf
  rw [List.getD_eq_getElem?_getD, List.getElem?_eq_getElem hk]
  rfl
theorem aWhyBorn (s : Sy) (v n : Int) (σ : Hp) (hf : Fit s) : ACalls Tryz.prog 21 [.agg (sysC s), .int .i64 v, .int .i64 n] σ (Ret (.bool (bornB s v n)) σ) := by
  refine okF Tryz.func21 (by kernel_rfl) ?_
  unfold bornB
  intro bl1
  refine LoadAt.mk 0 _ _ rfl rfl ?_
  refine callB [] (aWhyRight s v n _ hf) (fun h1 => ?_) (fun h1 => ?_)
  · rw [h1]
    obtain ⟨m, rfl, hm, hm2⟩ := right_nat h1
    obtain ⟨k, t, rfl, hk, ht, e⟩ := right_tr h1
    rw [e, Int.toNat_natCast]
    have hG := fun σ => aWsHas t.1 m σ (hf.ts t ht).1 hm
    have hK := fun σ => aWsHas t.2.1 m σ (hf.ts t ht).2.1 hm
    cases hg : hasB t.1 m with
    | false =>
      rw [hg] at hG
      cases hl : hasB t.2.1 m with
      | false =>
        rw [hl] at hK
        refine .quiet (by kernel_rfl) ?_
        refine LoadAt.mk 0 _ _ rfl rfl ?_
        refine With.mk rfl ?_
        refine IdxF.mk t (by omega) (by rw [Int.toNat_natCast]; exact hk) ?_
        refine callQ [] (hG _) ?_
        refine LoadAt.mk 0 _ _ rfl rfl ?_
        refine With.mk rfl ?_
        refine IdxF.mk t (by omega) (by rw [Int.toNat_natCast]; exact hk) ?_
        refine callQ [] (hK _) ?_
        refine LoadAt.mk 0 _ _ rfl rfl ?_
        refine bcond_dec (fun c1 => ?_) (fun c1 => ?_)
        · have c1 : s.what = 1 := c1
          refine LoadAt.mk 0 _ _ rfl rfl ?_
          refine bcond_dec (fun c2 => ?_) (fun c2 => ?_)
          · have c2 : s.what = 2 := c2
            exact .drop 0 1 (.done ⟨av_bool (by simp [*]), rfl⟩)
          · have c2 : ¬ (s.what = 2) := c2
            exact .drop 0 1 (.done ⟨av_bool (by simp [*]), rfl⟩)
        · have c1 : ¬ (s.what = 1) := c1
          refine LoadAt.mk 0 _ _ rfl rfl ?_
          refine bcond_dec (fun c3 => ?_) (fun c3 => ?_)
          · have c3 : s.what = 2 := c3
            exact .drop 0 1 (.done ⟨av_bool (by simp [*]), rfl⟩)
          · have c3 : ¬ (s.what = 2) := c3
            exact .drop 0 1 (.done ⟨av_bool (by simp [*]), rfl⟩)
      | true =>
        rw [hl] at hK
        refine .quiet (by kernel_rfl) ?_
        refine LoadAt.mk 0 _ _ rfl rfl ?_
        refine With.mk rfl ?_
        refine IdxF.mk t (by omega) (by rw [Int.toNat_natCast]; exact hk) ?_
        refine callQ [] (hG _) ?_
        refine LoadAt.mk 0 _ _ rfl rfl ?_
        refine With.mk rfl ?_
        refine IdxF.mk t (by omega) (by rw [Int.toNat_natCast]; exact hk) ?_
        refine callQ [] (hK _) ?_
        refine LoadAt.mk 0 _ _ rfl rfl ?_
        refine bcond_dec (fun c1 => ?_) (fun c1 => ?_)
        · have c1 : s.what = 1 := c1
          refine LoadAt.mk 0 _ _ rfl rfl ?_
          refine bcond_dec (fun c2 => ?_) (fun c2 => ?_)
          · have c2 : s.what = 2 := c2
            exact False.elim (by omega)
          · have c2 : ¬ (s.what = 2) := c2
            exact .drop 0 1 (.done ⟨av_bool (by simp [*]), rfl⟩)
        · have c1 : ¬ (s.what = 1) := c1
          refine LoadAt.mk 0 _ _ rfl rfl ?_
          refine bcond_dec (fun c3 => ?_) (fun c3 => ?_)
          · have c3 : s.what = 2 := c3
            exact .drop 0 1 (.done ⟨av_bool (by simp [*]), rfl⟩)
          · have c3 : ¬ (s.what = 2) := c3
            exact .drop 0 1 (.done ⟨av_bool (by simp [*]), rfl⟩)
    | true =>
      rw [hg] at hG
      cases hl : hasB t.2.1 m with
      | false =>
        rw [hl] at hK
        refine .quiet (by kernel_rfl) ?_
        refine LoadAt.mk 0 _ _ rfl rfl ?_
        refine With.mk rfl ?_
        refine IdxF.mk t (by omega) (by rw [Int.toNat_natCast]; exact hk) ?_
        refine callQ [] (hG _) ?_
        refine LoadAt.mk 0 _ _ rfl rfl ?_
        refine With.mk rfl ?_
        refine IdxF.mk t (by omega) (by rw [Int.toNat_natCast]; exact hk) ?_
        refine callQ [] (hK _) ?_
        refine LoadAt.mk 0 _ _ rfl rfl ?_
        refine bcond_dec (fun c1 => ?_) (fun c1 => ?_)
        · have c1 : s.what = 1 := c1
          exact .drop 0 1 (.done ⟨av_bool (by simp [*]), rfl⟩)
        · have c1 : ¬ (s.what = 1) := c1
          refine LoadAt.mk 0 _ _ rfl rfl ?_
          refine bcond_dec (fun c2 => ?_) (fun c2 => ?_)
          · have c2 : s.what = 2 := c2
            exact .drop 0 1 (.done ⟨av_bool (by simp [*]), rfl⟩)
          · have c2 : ¬ (s.what = 2) := c2
            exact .drop 0 1 (.done ⟨av_bool (by simp [*]), rfl⟩)
      | true =>
        rw [hl] at hK
        refine .quiet (by kernel_rfl) ?_
        refine LoadAt.mk 0 _ _ rfl rfl ?_
        refine With.mk rfl ?_
        refine IdxF.mk t (by omega) (by rw [Int.toNat_natCast]; exact hk) ?_
        refine callQ [] (hG _) ?_
        refine LoadAt.mk 0 _ _ rfl rfl ?_
        refine With.mk rfl ?_
        refine IdxF.mk t (by omega) (by rw [Int.toNat_natCast]; exact hk) ?_
        refine callQ [] (hK _) ?_
        refine LoadAt.mk 0 _ _ rfl rfl ?_
        refine bcond_dec (fun c1 => ?_) (fun c1 => ?_)
        · have c1 : s.what = 1 := c1
          exact .drop 0 1 (.done ⟨av_bool (by simp [*]), rfl⟩)
        · have c1 : ¬ (s.what = 1) := c1
          refine LoadAt.mk 0 _ _ rfl rfl ?_
          refine bcond_dec (fun c2 => ?_) (fun c2 => ?_)
          · have c2 : s.what = 2 := c2
            exact .drop 0 1 (.done ⟨av_bool (by simp [*]), rfl⟩)
          · have c2 : ¬ (s.what = 2) := c2
            exact .drop 0 1 (.done ⟨av_bool (by simp [*]), rfl⟩)
  · rw [h1]
    exact .drop 0 1 (.done ⟨rfl, rfl⟩)
theorem aWhyPasses (s : Sy) (v n : Int) (σ : Hp) (hf : Fit s) : ACalls Tryz.prog 22 [.agg (sysC s), .int .i64 v, .int .i64 n] σ (Ret (.bool (passB s v n)) σ) := by
  refine okF Tryz.func22 (by kernel_rfl) ?_
  unfold passB
  intro bl1
  refine LoadAt.mk 0 _ _ rfl rfl ?_
  refine callB [] (aWhyRight s v n _ hf) (fun h1 => ?_) (fun h1 => ?_)
  · rw [h1]
    obtain ⟨m, rfl, hm, hm2⟩ := right_nat h1
    obtain ⟨k, t, rfl, hk, ht, e⟩ := right_tr h1
    rw [e, Int.toNat_natCast]
    have hG := fun σ => aWsHas t.1 m σ (hf.ts t ht).1 hm
    have hK := fun σ => aWsHas t.2.1 m σ (hf.ts t ht).2.1 hm
    cases hg : hasB t.1 m with
    | false =>
      rw [hg] at hG
      cases hl : hasB t.2.1 m with
      | false =>
        rw [hl] at hK
        refine .quiet (by kernel_rfl) ?_
        refine LoadAt.mk 0 _ _ rfl rfl ?_
        refine With.mk rfl ?_
        refine IdxF.mk t (by omega) (by rw [Int.toNat_natCast]; exact hk) ?_
        refine callQ [] (hG _) ?_
        refine LoadAt.mk 0 _ _ rfl rfl ?_
        refine With.mk rfl ?_
        refine IdxF.mk t (by omega) (by rw [Int.toNat_natCast]; exact hk) ?_
        refine callQ [] (hK _) ?_
        refine LoadAt.mk 0 _ _ rfl rfl ?_
        refine bcond_dec (fun c1 => ?_) (fun c1 => ?_)
        · have c1 : s.what = 1 := c1
          exact .drop 0 1 (.done ⟨av_bool (by simp [*]), rfl⟩)
        · have c1 : ¬ (s.what = 1) := c1
          refine LoadAt.mk 0 _ _ rfl rfl ?_
          refine bcond_dec (fun c2 => ?_) (fun c2 => ?_)
          · have c2 : s.what = 2 := c2
            exact .drop 0 1 (.done ⟨av_bool (by simp [*]), rfl⟩)
          · have c2 : ¬ (s.what = 2) := c2
            exact .drop 0 1 (.done ⟨av_bool (by simp [*]), rfl⟩)
      | true =>
        rw [hl] at hK
        refine .quiet (by kernel_rfl) ?_
        refine LoadAt.mk 0 _ _ rfl rfl ?_
        refine With.mk rfl ?_
        refine IdxF.mk t (by omega) (by rw [Int.toNat_natCast]; exact hk) ?_
        refine callQ [] (hG _) ?_
        refine LoadAt.mk 0 _ _ rfl rfl ?_
        refine With.mk rfl ?_
        refine IdxF.mk t (by omega) (by rw [Int.toNat_natCast]; exact hk) ?_
        refine callQ [] (hK _) ?_
        refine LoadAt.mk 0 _ _ rfl rfl ?_
        refine bcond_dec (fun c1 => ?_) (fun c1 => ?_)
        · have c1 : s.what = 1 := c1
          refine LoadAt.mk 0 _ _ rfl rfl ?_
          refine bcond_dec (fun c2 => ?_) (fun c2 => ?_)
          · have c2 : s.what = 2 := c2
            exact False.elim (by omega)
          · have c2 : ¬ (s.what = 2) := c2
            exact .drop 0 1 (.done ⟨av_bool (by simp [*]), rfl⟩)
        · have c1 : ¬ (s.what = 1) := c1
          refine LoadAt.mk 0 _ _ rfl rfl ?_
          refine bcond_dec (fun c3 => ?_) (fun c3 => ?_)
          · have c3 : s.what = 2 := c3
            exact .drop 0 1 (.done ⟨av_bool (by simp [*]), rfl⟩)
          · have c3 : ¬ (s.what = 2) := c3
            exact .drop 0 1 (.done ⟨av_bool (by simp [*]), rfl⟩)
    | true =>
      rw [hg] at hG
      cases hl : hasB t.2.1 m with
      | false =>
        rw [hl] at hK
        refine .quiet (by kernel_rfl) ?_
        refine LoadAt.mk 0 _ _ rfl rfl ?_
        refine With.mk rfl ?_
        refine IdxF.mk t (by omega) (by rw [Int.toNat_natCast]; exact hk) ?_
        refine callQ [] (hG _) ?_
        refine LoadAt.mk 0 _ _ rfl rfl ?_
        refine With.mk rfl ?_
        refine IdxF.mk t (by omega) (by rw [Int.toNat_natCast]; exact hk) ?_
        refine callQ [] (hK _) ?_
        refine LoadAt.mk 0 _ _ rfl rfl ?_
        refine bcond_dec (fun c1 => ?_) (fun c1 => ?_)
        · have c1 : s.what = 1 := c1
          exact .drop 0 1 (.done ⟨av_bool (by simp [*]), rfl⟩)
        · have c1 : ¬ (s.what = 1) := c1
          refine LoadAt.mk 0 _ _ rfl rfl ?_
          refine bcond_dec (fun c2 => ?_) (fun c2 => ?_)
          · have c2 : s.what = 2 := c2
            exact .drop 0 1 (.done ⟨av_bool (by simp [*]), rfl⟩)
          · have c2 : ¬ (s.what = 2) := c2
            exact .drop 0 1 (.done ⟨av_bool (by simp [*]), rfl⟩)
      | true =>
        rw [hl] at hK
        refine .quiet (by kernel_rfl) ?_
        refine LoadAt.mk 0 _ _ rfl rfl ?_
        refine With.mk rfl ?_
        refine IdxF.mk t (by omega) (by rw [Int.toNat_natCast]; exact hk) ?_
        refine callQ [] (hG _) ?_
        refine LoadAt.mk 0 _ _ rfl rfl ?_
        refine With.mk rfl ?_
        refine IdxF.mk t (by omega) (by rw [Int.toNat_natCast]; exact hk) ?_
        refine callQ [] (hK _) ?_
        refine LoadAt.mk 0 _ _ rfl rfl ?_
        refine bcond_dec (fun c1 => ?_) (fun c1 => ?_)
        · have c1 : s.what = 1 := c1
          exact .drop 0 1 (.done ⟨av_bool (by simp [*]), rfl⟩)
        · have c1 : ¬ (s.what = 1) := c1
          refine LoadAt.mk 0 _ _ rfl rfl ?_
          refine bcond_dec (fun c2 => ?_) (fun c2 => ?_)
          · have c2 : s.what = 2 := c2
            exact .drop 0 1 (.done ⟨av_bool (by simp [*]), rfl⟩)
          · have c2 : ¬ (s.what = 2) := c2
            exact .drop 0 1 (.done ⟨av_bool (by simp [*]), rfl⟩)
  · rw [h1]
    exact .drop 0 1 (.done ⟨rfl, rfl⟩)
def rHasB (s : Sy) (a : List Int) (n : Int) : Bool := hasB a n.toNat == decide (s.what = 1)
theorem aRHas21 (s : Sy) (a : List Int) (n : Nat) (σ : Hp) (h64 : A64 a) (hn : n ≤ 1000000) : ACalls Tryz.prog 24 [.agg (sysC s), .fsl (.int .u64) a, .int .i64 n] σ (Ret (.bool (rHasB s a n)) σ) := by
  refine okF Tryz.func24 (by kernel_rfl) ?_
  unfold rHasB
  rw [Int.toNat_natCast]
  have hH := fun σ => aHasB a n σ h64 hn
  cases hh : hasB a n with
  | false =>
    rw [hh] at hH
    intro bl1
    refine .quiet (by kernel_rfl) ?_
    refine callQ [] (hH _) ?_
    refine LoadAt.mk 0 _ _ rfl rfl ?_
    refine bcond_dec (fun c2 => ?_) (fun c2 => ?_)
    · have c2 : s.what = 1 := c2
      exact .drop 0 1 (.done ⟨av_bool (by simp [*]), rfl⟩)
    · have c2 : ¬ (s.what = 1) := c2
      exact .drop 0 1 (.done ⟨av_bool (by simp [*]), rfl⟩)
  | true =>
    rw [hh] at hH
    intro bl1
    refine .quiet (by kernel_rfl) ?_
    refine callQ [] (hH _) ?_
    refine LoadAt.mk 0 _ _ rfl rfl ?_
    refine bcond_dec (fun c2 => ?_) (fun c2 => ?_)
    · have c2 : s.what = 1 := c2
      exact .drop 0 1 (.done ⟨av_bool (by simp [*]), rfl⟩)
    · have c2 : ¬ (s.what = 1) := c2
      exact .drop 0 1 (.done ⟨av_bool (by simp [*]), rfl⟩)
def rBegB (s : Sy) (v n : Int) : Bool := (s.entry.any fun z => decide (v = z)) && rHasB s s.init n
theorem aRBegins21 (s : Sy) (v : Int) (n : Nat) (σ : Hp) (hf : Fit s) (hn : n ≤ 1000000) : ACalls Tryz.prog 25 [.agg (sysC s), .int .i64 v, .int .i64 n] σ (Ret (.bool (rBegB s v n)) σ) := by
  refine okF Tryz.func25 (by kernel_rfl) ?_
  unfold rBegB
  intro bl1
  refine LoadAt.mk 0 _ _ rfl rfl ?_
  refine callB [] (aRIn s.entry v _ (Nat.le_trans hf.nlen (by decide))) (fun h2 => ?_) (fun h2 => ?_)
  · rw [h2]
    refine LoadAt.mk 0 _ _ rfl rfl ?_
    refine LoadAt.mk 0 _ _ rfl rfl ?_
    refine callR [] (aRHas21 s s.init n _ hf.i64 hn) ?_
    exact .drop 0 1 (.done ⟨rfl, rfl⟩)
  · rw [h2]
    exact .drop 0 1 (.done ⟨rfl, rfl⟩)
def rAftB (s : Sy) (t : transSh.T) (n : Nat) (ahead : Bool) : Bool := (((ahead == decide (s.what = 1)) && !hasB t.2.1 n) || hasB t.1 n) == decide (s.what = 1)
theorem aRAfter (s : Sy) (k : Nat) (t : transSh.T) (n : Nat) (σ : Hp) (hf : Fit s) (hk : s.T[k]? = some t) (ht : t ∈ s.T) (hn : n ≤ 1000000) (ahead : Bool) : ACalls Tryz.prog 26 [.agg (sysC s), .int .i64 k, .int .i64 n, .bool ahead] σ (Ret (.bool (rAftB s t n ahead)) σ) := by
  unfold rAftB
  have hG := fun σ => aHasB t.1 n σ (hf.ts t ht).1 hn
  have hK := fun σ => aHasB t.2.1 n σ (hf.ts t ht).2.1 hn
  cases ahead with
  | false =>
    refine okF Tryz.func26 (by kernel_rfl) ?_
    cases hg : hasB t.1 n with
    | false =>
      rw [hg] at hG
      cases hl : hasB t.2.1 n with
      | false =>
        rw [hl] at hK
        intro bl1
        refine LoadAt.mk 0 _ _ rfl rfl ?_
        refine bcond_dec (fun c2 => ?_) (fun c2 => ?_)
        · have c2 : s.what = 1 := c2
          refine LoadAt.mk 0 _ _ rfl rfl ?_
          refine With.mk rfl ?_
          refine IdxF.mk t (by omega) (by rw [Int.toNat_natCast]; exact hk) ?_
          refine callR [] (hG _) ?_
          refine LoadAt.mk 0 _ _ rfl rfl ?_
          refine bcond_dec (fun c3 => ?_) (fun c3 => ?_)
          · have c3 : s.what = 1 := c3
            exact .drop 0 1 (.done ⟨av_bool (by simp [*]), rfl⟩)
          · have c3 : ¬ (s.what = 1) := c3
            exact False.elim (by omega)
        · have c2 : ¬ (s.what = 1) := c2
          refine LoadAt.mk 0 _ _ rfl rfl ?_
          refine With.mk rfl ?_
          refine IdxF.mk t (by omega) (by rw [Int.toNat_natCast]; exact hk) ?_
          refine callR [] (hK _) ?_
          refine LoadAt.mk 0 _ _ rfl rfl ?_
          refine bcond_dec (fun c4 => ?_) (fun c4 => ?_)
          · have c4 : s.what = 1 := c4
            exact False.elim (by omega)
          · have c4 : ¬ (s.what = 1) := c4
            exact .drop 0 1 (.done ⟨av_bool (by simp [*]), rfl⟩)
      | true =>
        rw [hl] at hK
        intro bl1
        refine LoadAt.mk 0 _ _ rfl rfl ?_
        refine bcond_dec (fun c2 => ?_) (fun c2 => ?_)
        · have c2 : s.what = 1 := c2
          refine LoadAt.mk 0 _ _ rfl rfl ?_
          refine With.mk rfl ?_
          refine IdxF.mk t (by omega) (by rw [Int.toNat_natCast]; exact hk) ?_
          refine callR [] (hG _) ?_
          refine LoadAt.mk 0 _ _ rfl rfl ?_
          refine bcond_dec (fun c3 => ?_) (fun c3 => ?_)
          · have c3 : s.what = 1 := c3
            exact .drop 0 1 (.done ⟨av_bool (by simp [*]), rfl⟩)
          · have c3 : ¬ (s.what = 1) := c3
            exact False.elim (by omega)
        · have c2 : ¬ (s.what = 1) := c2
          refine LoadAt.mk 0 _ _ rfl rfl ?_
          refine With.mk rfl ?_
          refine IdxF.mk t (by omega) (by rw [Int.toNat_natCast]; exact hk) ?_
          refine callR [] (hK _) ?_
          refine LoadAt.mk 0 _ _ rfl rfl ?_
          refine With.mk rfl ?_
          refine IdxF.mk t (by omega) (by rw [Int.toNat_natCast]; exact hk) ?_
          refine callR [] (hG _) ?_
          refine LoadAt.mk 0 _ _ rfl rfl ?_
          refine bcond_dec (fun c4 => ?_) (fun c4 => ?_)
          · have c4 : s.what = 1 := c4
            exact .drop 0 1 (.done ⟨av_bool (by simp [*]), rfl⟩)
          · have c4 : ¬ (s.what = 1) := c4
            exact .drop 0 1 (.done ⟨av_bool (by simp [*]), rfl⟩)
    | true =>
      rw [hg] at hG
      cases hl : hasB t.2.1 n with
      | false =>
        rw [hl] at hK
        intro bl1
        refine LoadAt.mk 0 _ _ rfl rfl ?_
        refine bcond_dec (fun c2 => ?_) (fun c2 => ?_)
        · have c2 : s.what = 1 := c2
          refine LoadAt.mk 0 _ _ rfl rfl ?_
          refine With.mk rfl ?_
          refine IdxF.mk t (by omega) (by rw [Int.toNat_natCast]; exact hk) ?_
          refine callR [] (hG _) ?_
          refine LoadAt.mk 0 _ _ rfl rfl ?_
          refine bcond_dec (fun c3 => ?_) (fun c3 => ?_)
          · have c3 : s.what = 1 := c3
            exact .drop 0 1 (.done ⟨av_bool (by simp [*]), rfl⟩)
          · have c3 : ¬ (s.what = 1) := c3
            exact False.elim (by omega)
        · have c2 : ¬ (s.what = 1) := c2
          refine LoadAt.mk 0 _ _ rfl rfl ?_
          refine With.mk rfl ?_
          refine IdxF.mk t (by omega) (by rw [Int.toNat_natCast]; exact hk) ?_
          refine callR [] (hK _) ?_
          refine LoadAt.mk 0 _ _ rfl rfl ?_
          refine bcond_dec (fun c4 => ?_) (fun c4 => ?_)
          · have c4 : s.what = 1 := c4
            exact .drop 0 1 (.done ⟨av_bool (by simp [*]), rfl⟩)
          · have c4 : ¬ (s.what = 1) := c4
            exact .drop 0 1 (.done ⟨av_bool (by simp [*]), rfl⟩)
      | true =>
        rw [hl] at hK
        intro bl1
        refine LoadAt.mk 0 _ _ rfl rfl ?_
        refine bcond_dec (fun c2 => ?_) (fun c2 => ?_)
        · have c2 : s.what = 1 := c2
          refine LoadAt.mk 0 _ _ rfl rfl ?_
          refine With.mk rfl ?_
          refine IdxF.mk t (by omega) (by rw [Int.toNat_natCast]; exact hk) ?_
          refine callR [] (hG _) ?_
          refine LoadAt.mk 0 _ _ rfl rfl ?_
          refine bcond_dec (fun c3 => ?_) (fun c3 => ?_)
          · have c3 : s.what = 1 := c3
            exact .drop 0 1 (.done ⟨av_bool (by simp [*]), rfl⟩)
          · have c3 : ¬ (s.what = 1) := c3
            exact False.elim (by omega)
        · have c2 : ¬ (s.what = 1) := c2
          refine LoadAt.mk 0 _ _ rfl rfl ?_
          refine With.mk rfl ?_
          refine IdxF.mk t (by omega) (by rw [Int.toNat_natCast]; exact hk) ?_
          refine callR [] (hK _) ?_
          refine LoadAt.mk 0 _ _ rfl rfl ?_
          refine With.mk rfl ?_
          refine IdxF.mk t (by omega) (by rw [Int.toNat_natCast]; exact hk) ?_
          refine callR [] (hG _) ?_
          refine LoadAt.mk 0 _ _ rfl rfl ?_
          refine bcond_dec (fun c4 => ?_) (fun c4 => ?_)
          · have c4 : s.what = 1 := c4
            exact .drop 0 1 (.done ⟨av_bool (by simp [*]), rfl⟩)
          · have c4 : ¬ (s.what = 1) := c4
            exact .drop 0 1 (.done ⟨av_bool (by simp [*]), rfl⟩)
  | true =>
    refine okF Tryz.func26 (by kernel_rfl) ?_
    cases hg : hasB t.1 n with
    | false =>
      rw [hg] at hG
      cases hl : hasB t.2.1 n with
      | false =>
        rw [hl] at hK
        intro bl1
        refine LoadAt.mk 0 _ _ rfl rfl ?_
        refine bcond_dec (fun c2 => ?_) (fun c2 => ?_)
        · have c2 : s.what = 1 := c2
          refine LoadAt.mk 0 _ _ rfl rfl ?_
          refine With.mk rfl ?_
          refine IdxF.mk t (by omega) (by rw [Int.toNat_natCast]; exact hk) ?_
          refine callR [] (hK _) ?_
          refine LoadAt.mk 0 _ _ rfl rfl ?_
          refine bcond_dec (fun c3 => ?_) (fun c3 => ?_)
          · have c3 : s.what = 1 := c3
            exact .drop 0 1 (.done ⟨av_bool (by simp [*]), rfl⟩)
          · have c3 : ¬ (s.what = 1) := c3
            exact False.elim (by omega)
        · have c2 : ¬ (s.what = 1) := c2
          refine LoadAt.mk 0 _ _ rfl rfl ?_
          refine With.mk rfl ?_
          refine IdxF.mk t (by omega) (by rw [Int.toNat_natCast]; exact hk) ?_
          refine callR [] (hG _) ?_
          refine LoadAt.mk 0 _ _ rfl rfl ?_
          refine bcond_dec (fun c4 => ?_) (fun c4 => ?_)
          · have c4 : s.what = 1 := c4
            exact False.elim (by omega)
          · have c4 : ¬ (s.what = 1) := c4
            exact .drop 0 1 (.done ⟨av_bool (by simp [*]), rfl⟩)
      | true =>
        rw [hl] at hK
        intro bl1
        refine LoadAt.mk 0 _ _ rfl rfl ?_
        refine bcond_dec (fun c2 => ?_) (fun c2 => ?_)
        · have c2 : s.what = 1 := c2
          refine LoadAt.mk 0 _ _ rfl rfl ?_
          refine With.mk rfl ?_
          refine IdxF.mk t (by omega) (by rw [Int.toNat_natCast]; exact hk) ?_
          refine callR [] (hK _) ?_
          refine LoadAt.mk 0 _ _ rfl rfl ?_
          refine With.mk rfl ?_
          refine IdxF.mk t (by omega) (by rw [Int.toNat_natCast]; exact hk) ?_
          refine callR [] (hG _) ?_
          refine LoadAt.mk 0 _ _ rfl rfl ?_
          refine bcond_dec (fun c3 => ?_) (fun c3 => ?_)
          · have c3 : s.what = 1 := c3
            exact .drop 0 1 (.done ⟨av_bool (by simp [*]), rfl⟩)
          · have c3 : ¬ (s.what = 1) := c3
            exact False.elim (by omega)
        · have c2 : ¬ (s.what = 1) := c2
          refine LoadAt.mk 0 _ _ rfl rfl ?_
          refine With.mk rfl ?_
          refine IdxF.mk t (by omega) (by rw [Int.toNat_natCast]; exact hk) ?_
          refine callR [] (hG _) ?_
          refine LoadAt.mk 0 _ _ rfl rfl ?_
          refine bcond_dec (fun c4 => ?_) (fun c4 => ?_)
          · have c4 : s.what = 1 := c4
            exact .drop 0 1 (.done ⟨av_bool (by simp [*]), rfl⟩)
          · have c4 : ¬ (s.what = 1) := c4
            exact .drop 0 1 (.done ⟨av_bool (by simp [*]), rfl⟩)
    | true =>
      rw [hg] at hG
      cases hl : hasB t.2.1 n with
      | false =>
        rw [hl] at hK
        intro bl1
        refine LoadAt.mk 0 _ _ rfl rfl ?_
        refine bcond_dec (fun c2 => ?_) (fun c2 => ?_)
        · have c2 : s.what = 1 := c2
          refine LoadAt.mk 0 _ _ rfl rfl ?_
          refine With.mk rfl ?_
          refine IdxF.mk t (by omega) (by rw [Int.toNat_natCast]; exact hk) ?_
          refine callR [] (hK _) ?_
          refine LoadAt.mk 0 _ _ rfl rfl ?_
          refine bcond_dec (fun c3 => ?_) (fun c3 => ?_)
          · have c3 : s.what = 1 := c3
            exact .drop 0 1 (.done ⟨av_bool (by simp [*]), rfl⟩)
          · have c3 : ¬ (s.what = 1) := c3
            exact False.elim (by omega)
        · have c2 : ¬ (s.what = 1) := c2
          refine LoadAt.mk 0 _ _ rfl rfl ?_
          refine With.mk rfl ?_
          refine IdxF.mk t (by omega) (by rw [Int.toNat_natCast]; exact hk) ?_
          refine callR [] (hG _) ?_
          refine LoadAt.mk 0 _ _ rfl rfl ?_
          refine bcond_dec (fun c4 => ?_) (fun c4 => ?_)
          · have c4 : s.what = 1 := c4
            exact .drop 0 1 (.done ⟨av_bool (by simp [*]), rfl⟩)
          · have c4 : ¬ (s.what = 1) := c4
            exact .drop 0 1 (.done ⟨av_bool (by simp [*]), rfl⟩)
      | true =>
        rw [hl] at hK
        intro bl1
        refine LoadAt.mk 0 _ _ rfl rfl ?_
        refine bcond_dec (fun c2 => ?_) (fun c2 => ?_)
        · have c2 : s.what = 1 := c2
          refine LoadAt.mk 0 _ _ rfl rfl ?_
          refine With.mk rfl ?_
          refine IdxF.mk t (by omega) (by rw [Int.toNat_natCast]; exact hk) ?_
          refine callR [] (hK _) ?_
          refine LoadAt.mk 0 _ _ rfl rfl ?_
          refine With.mk rfl ?_
          refine IdxF.mk t (by omega) (by rw [Int.toNat_natCast]; exact hk) ?_
          refine callR [] (hG _) ?_
          refine LoadAt.mk 0 _ _ rfl rfl ?_
          refine bcond_dec (fun c3 => ?_) (fun c3 => ?_)
          · have c3 : s.what = 1 := c3
            exact .drop 0 1 (.done ⟨av_bool (by simp [*]), rfl⟩)
          · have c3 : ¬ (s.what = 1) := c3
            exact False.elim (by omega)
        · have c2 : ¬ (s.what = 1) := c2
          refine LoadAt.mk 0 _ _ rfl rfl ?_
          refine With.mk rfl ?_
          refine IdxF.mk t (by omega) (by rw [Int.toNat_natCast]; exact hk) ?_
          refine callR [] (hG _) ?_
          refine LoadAt.mk 0 _ _ rfl rfl ?_
          refine bcond_dec (fun c4 => ?_) (fun c4 => ?_)
          · have c4 : s.what = 1 := c4
            exact .drop 0 1 (.done ⟨av_bool (by simp [*]), rfl⟩)
          · have c4 : ¬ (s.what = 1) := c4
            exact .drop 0 1 (.done ⟨av_bool (by simp [*]), rfl⟩)
end Go.Proofs.YteccfogpajbigaaGreat
namespace Go.Proofs.YteccfogpajbigaaGreat
open Go.RowKit
set_option maxRecDepth 100000
theorem check_what {s : Sy} (h : checkS s = 0) : s.what = 1 ∨ s.what = 2 ∨ s.what = 3 := by
  have := (good_of h).isL
  unfold is12 at this
  simp only [Bool.and_eq_true, decide_eq_true_eq] at this
  omega
theorem aLawRight21 (s : Sy) (v n : Int) (σ : Hp) (hf : Fit s) : ACalls Tryz.prog 19 [.agg (sysC s), .int .i64 v, .int .i64 n] σ (Ret (.bool (rightB s v n)) σ) := by
  refine okF Tryz.func19 (by kernel_rfl) ?_
  have hw := check_what (s := s)
  intro bl1
  refine LoadAt.mk 0 _ _ rfl rfl ?_
  refine bcond_dec (fun c2 => ?_) (fun c2 => ?_)
  · have c2 : s.what = 1 := c2
    refine LoadAt.mk 0 _ _ rfl rfl ?_
    refine callR [] (aRCheck17 s _ hf) ?_
    refine bcond_dec (fun c3 => ?_) (fun c3 => ?_)
    · have c3 : checkS s = 0 := c3
      refine bcond_dec (fun c4 => ?_) (fun c4 => ?_)
      · have c4 : 0 ≤ v := c4
        refine LoadAt.mk 0 _ _ rfl rfl ?_
        refine bcond_dec (fun c5 => ?_) (fun c5 => ?_)
        · have c5 : v < s.n := c5
          refine bcond_dec (fun c6 => ?_) (fun c6 => ?_)
          · have c6 : 0 ≤ n := c6
            refine LoadAt.mk 0 _ _ rfl rfl ?_
            refine bcond_dec (fun c7 => ?_) (fun c7 => ?_)
            · have c7 : n < s.w := c7
              exact .drop 0 1 (.done ⟨av_bool (by unfold rightB; exact (decide_eq_true (by omega)).symm), rfl⟩)
            · have c7 : ¬ (n < s.w) := c7
              exact .drop 0 1 (.done ⟨av_bool (by unfold rightB; exact (decide_eq_false (by omega)).symm), rfl⟩)
          · have c6 : ¬ (0 ≤ n) := c6
            exact .drop 0 1 (.done ⟨av_bool (by unfold rightB; exact (decide_eq_false (by omega)).symm), rfl⟩)
        · have c5 : ¬ (v < s.n) := c5
          exact .drop 0 1 (.done ⟨av_bool (by unfold rightB; exact (decide_eq_false (by omega)).symm), rfl⟩)
      · have c4 : ¬ (0 ≤ v) := c4
        exact .drop 0 1 (.done ⟨av_bool (by unfold rightB; exact (decide_eq_false (by omega)).symm), rfl⟩)
    · have c3 : ¬ (checkS s = 0) := c3
      exact .drop 0 1 (.done ⟨av_bool (by unfold rightB; exact (decide_eq_false (by omega)).symm), rfl⟩)
  · have c2 : ¬ (s.what = 1) := c2
    refine LoadAt.mk 0 _ _ rfl rfl ?_
    refine bcond_dec (fun c8 => ?_) (fun c8 => ?_)
    · have c8 : s.what = 2 := c8
      refine LoadAt.mk 0 _ _ rfl rfl ?_
      refine callR [] (aRCheck17 s _ hf) ?_
      refine bcond_dec (fun c9 => ?_) (fun c9 => ?_)
      · have c9 : checkS s = 0 := c9
        refine bcond_dec (fun c10 => ?_) (fun c10 => ?_)
        · have c10 : 0 ≤ v := c10
          refine LoadAt.mk 0 _ _ rfl rfl ?_
          refine bcond_dec (fun c11 => ?_) (fun c11 => ?_)
          · have c11 : v < s.n := c11
            refine bcond_dec (fun c12 => ?_) (fun c12 => ?_)
            · have c12 : 0 ≤ n := c12
              refine LoadAt.mk 0 _ _ rfl rfl ?_
              refine bcond_dec (fun c13 => ?_) (fun c13 => ?_)
              · have c13 : n < s.w := c13
                exact .drop 0 1 (.done ⟨av_bool (by unfold rightB; exact (decide_eq_true (by omega)).symm), rfl⟩)
              · have c13 : ¬ (n < s.w) := c13
                exact .drop 0 1 (.done ⟨av_bool (by unfold rightB; exact (decide_eq_false (by omega)).symm), rfl⟩)
            · have c12 : ¬ (0 ≤ n) := c12
              exact .drop 0 1 (.done ⟨av_bool (by unfold rightB; exact (decide_eq_false (by omega)).symm), rfl⟩)
          · have c11 : ¬ (v < s.n) := c11
            exact .drop 0 1 (.done ⟨av_bool (by unfold rightB; exact (decide_eq_false (by omega)).symm), rfl⟩)
        · have c10 : ¬ (0 ≤ v) := c10
          exact .drop 0 1 (.done ⟨av_bool (by unfold rightB; exact (decide_eq_false (by omega)).symm), rfl⟩)
      · have c9 : ¬ (checkS s = 0) := c9
        exact .drop 0 1 (.done ⟨av_bool (by unfold rightB; exact (decide_eq_false (by omega)).symm), rfl⟩)
    · have c8 : ¬ (s.what = 2) := c8
      exact .drop 0 1 (.done ⟨av_bool (by unfold rightB; exact (decide_eq_false (by omega)).symm), rfl⟩)
theorem aBack (n : Int) (l : List EdgeT) (a : Int) (σ : Hp) (hl : l.length ≤ 100000) : ACalls Tryz.prog 86 [.int .i64 n, .fsl edgeSh l, .int .i64 a] σ (Ret (.fsl (.int .i64) (toS n (sortedE (turnE l)) a)) σ) := by
  have h2 : (sortedE (turnE l)).length ≤ 100000 := Nat.le_trans (by rw [← insK_all]; exact insK_len (turnE l) _ (Nat.le_refl _)) (by rw [turnE_length]; exact hl)
  refine okF Tryz.func86 (by kernel_rfl) ?_
  refine callR [] (aFlowReverse l _ hl) ?_
  refine callR [] (aNext n (sortedE (turnE l)) a _ h2) ?_
  exact .done ⟨rfl, rfl⟩
def backL (s : Sy) (n b : Int) : List Int := (toS s.n (sortedE (turnE s.edges)) b).filter fun a => passB s a n
theorem backL_take {s : Sy} {n : Int} {L : List Int} {k : Nat} (h : k < L.length) : (L.take (k + 1)).filter (fun a => passB s a n) = (L.take k).filter (fun a => passB s a n) ++ (if passB s L[k] n = true then [L[k]] else []) := by
  rw [List.take_succ_eq_append_getElem h, List.filter_append]
  congr 1
  rw [List.filter_cons]
  rfl
theorem toS_len (n : Int) (l : List EdgeT) (a : Int) : (toS n l a).length ≤ n.toNat := by
  unfold toS
  exact Nat.le_trans (List.length_filter_le _ _) (by simp)
theorem aBackC (s : Sy) (n b : Int) (bs bn : Nat) (σ : Hp) (hf : Fit s) (hn : s.n ≤ 256) : ACalls Tryz.prog 85 [.int .i64 b, .ptr bs 0, .ptr bn 0] ((bn, [.int .i64 n]) :: (bs, sysC s) :: σ) (Ret (.fsl (.int .i64) (backL s n b)) ((bn, [.int .i64 n]) :: (bs, sysC s) :: σ)) := by
  refine okF Tryz.func85 (by kernel_rfl) ?_
  refine LoadAt.mk 1 _ _ rfl rfl ?_
  refine LoadAt.mk 1 _ _ rfl rfl ?_
  refine callR [] (aBack s.n s.edges b _ hf.elen) ?_
  unfold backL
  have hLl := toS_len s.n (sortedE (turnE s.edges)) b
  generalize toS s.n (sortedE (turnE s.edges)) b = L at hLl ⊢
  have hL : L.length ≤ 256 := by omega
  refine .wrap 5 _ rfl rfl ?_
  refine loopS (S := Nat × AV × Hp) (fun x => [(1, .ptr bs 0), (2, .ptr bn 0), (5, .via x.2.1), (13, .fsl (.int .i64) L), (14, .int .i64 L.length), (15, .int .i64 x.1)]) (fun x => (bn, [.int .i64 n]) :: (bs, sysC s) :: (x.2.2 ++ σ)) (fun x => x.1 ≤ L.length ∧ Acc 1 ((L.take x.1).filter fun a => passB s a n).length x.2.1 x.2.2 (inC ((L.take x.1).filter fun a => passB s a n))) (fun x => L.length - x.1) (0, .nils, []) ⟨⟨Nat.zero_le _, .nil⟩, ⟨rfl, rfl, rfl, rfl, rfl, rfl, trivial⟩, rfl⟩ ?_
  rintro ⟨k, v, acc⟩ g ⟨hk0, hacc0⟩
  have hk : k ≤ L.length := hk0
  have hacc : Acc 1 ((L.take k).filter fun a => passB s a n).length v acc (inC ((L.take k).filter fun a => passB s a n)) := hacc0
  clear hk0 hacc0
  have hzl : ((L.take k).filter fun a => passB s a n).length ≤ 256 := Nat.le_trans (List.length_filter_le _ _) (by rw [List.length_take]; omega)
  refine bcond_dec (fun hlt => ?_) (fun hge => ?_)
  · have hlt : k < L.length := by have hlt : (k : Int) < L.length := hlt; omega
    have hs := backL_take (s := s) (n := n) hlt
    obtain ⟨d, hd⟩ : ∃ d : Int, L[k] = d := ⟨_, rfl⟩
    rw [hd] at hs
    refine With.mk rfl (IdxF.mk d (by omega) ((get_some hlt).trans (congrArg some hd)) ?_)
    refine LoadAt.mk 1 _ _ rfl rfl ?_
    refine LoadAt.mk 0 _ _ rfl rfl ?_
    refine callB [] (aWhyPasses s d n _ hf) (fun c2 => ?_) (fun c2 => ?_)
    · rw [if_pos c2] at hs
      intro bl2
      refine append_acc [_, _, _] hacc (.mref 0 bl2 0 1 _ rfl (Nat.le_of_ble_eq_true rfl)) rfl (by omega) (by decide) (by decide) (fun v' acc' h' => ?_)
      refine nextS (k + 1, v', acc') (by show L.length - (k + 1) < L.length - k; omega) ⟨hlt, ?_⟩ ⟨rfl, rfl, rfl, rfl, rfl, inc64 (by omega), trivial⟩ (.drop 0 1 (shed_eq rfl))
      show Acc 1 ((L.take (k + 1)).filter fun a => passB s a n).length v' acc' (inC ((L.take (k + 1)).filter fun a => passB s a n))
      rw [hs, List.length_append, inC, List.map_append]
      exact h'
    · rw [if_neg (by rw [c2]; decide), List.append_nil] at hs
      refine nextS (k + 1, v, acc) (by show L.length - (k + 1) < L.length - k; omega) ⟨hlt, by show Acc 1 ((L.take (k + 1)).filter fun a => passB s a n).length v acc (inC ((L.take (k + 1)).filter fun a => passB s a n)); rw [hs]; exact hacc⟩ ⟨rfl, rfl, rfl, rfl, rfl, inc64 (by omega), trivial⟩ (shed_eq rfl)
  · have hge : k = L.length := by have hge : ¬ (k : Int) < L.length := hge; omega
    subst hge
    rw [List.take_length] at hacc hzl
    exact fin_acc (s := .int .i64) (l := L.filter fun a => passB s a n) [_, _] hacc rfl (inC_flat _) (by decide) (.done ⟨rfl, rfl⟩)
theorem aCompareW (a b : List Int) (x y la lb : Nat) (σ : Hp) (h1 : a.length = la) (h2 : b.length = lb) (ha : la ≤ 1000000) (hb : lb ≤ 1000000) : ACalls Tryz.prog 138 [.mref x 0 la 1, .mref y 0 lb 1] ((x, inC a) :: (y, inC b) :: σ) (fun r σ' => ∃ n : Int, r = .int .i64 n ∧ σ' = (x, inC a) :: (y, inC b) :: σ) := by
  subst h1 h2
  refine okF Tryz.func138 (by kernel_rfl) ?_
  refine loopS (S := Nat) (fun k => [(0, .mref x 0 a.length 1), (1, .mref y 0 b.length 1), (9, .mref x 0 a.length 1), (10, .int .i64 a.length), (11, .int .i64 k)]) (fun _ => (x, inC a) :: (y, inC b) :: σ) (fun k => k ≤ a.length) (fun k => a.length - k) 0 ⟨Nat.zero_le _, ⟨rfl, rfl, rfl, rfl, rfl, trivial⟩, rfl⟩ ?_
  rintro k g hk0
  have hk : k ≤ a.length := hk0
  clear hk0
  refine bcond_dec (fun hlt => ?_) (fun hge => ?_)
  · have hlt : k < a.length := by have hlt : (k : Int) < a.length := hlt; omega
    refine With.mk ⟨rfl, by omega, by omega⟩ ?_
    refine LoadAt.mk 0 _ _ rfl (inC_read hlt) ?_
    refine bcond_dec (fun hlt2 => ?_) (fun hlt2 => ?_)
    · exact .done ⟨_, rfl, rfl⟩
    · have hlt2 : k < b.length := by have hlt2 : ¬ (b.length : Int) ≤ k := hlt2; omega
      refine With.mk ⟨rfl, by omega, by omega⟩ ?_
      refine LoadAt.mk 1 _ _ rfl (inC_read hlt2) ?_
      refine callR [] (aCmp _ _ _) ?_
      refine bcond_split (fun c1 => ?_) (fun c1 => ?_)
      · have c1 : ¬ (cmpI a[k] b[k] = 0) := by simpa using c1
        exact .done ⟨_, rfl, rfl⟩
      · have c1 : cmpI a[k] b[k] = 0 := by simpa using c1
        exact nextS (k + 1) (by show a.length - (k + 1) < a.length - k; omega) hlt ⟨rfl, rfl, rfl, rfl, inc64 (by omega), trivial⟩ (.refl _)
  · have hge : k = a.length := by have hge : ¬ (k : Int) < a.length := hge; omega
    subst hge
    refine bcond_dec (fun c1 => ?_) (fun c1 => ?_)
    · have c1 : (↑a.length : Int) < (↑b.length : Int) := c1
      exact .done ⟨_, rfl, rfl⟩
    · have c1 : ¬ ((↑a.length : Int) < (↑b.length : Int)) := c1
      exact .done ⟨_, rfl, rfl⟩
/-- A list, or none, and its block. -/
def BestOk (v : AV) (acc : Hp) : Prop := (v = .nils ∧ acc = []) ∨ ∃ (b k : Nat) (l : List Int), 0 < k ∧ k ≤ 1000 ∧ l.length = k ∧ v = .mref b 0 k 1 ∧ acc = [(b, inC l)]
theorem aPut21 (w : List Int) (bw kw : Nat) (e m : Int) (best : AV) (acc : Hp) (b9 b10 : Nat) (σ : Hp) (hw : 0 < kw ∧ kw ≤ 1000) (hwl : w.length = kw) (hb : BestOk best acc) : ACalls Tryz.prog 137 [.mref bw 0 kw 1, .int .i64 e, .ptr b9 0, .ptr b10 0] ((bw, inC w) :: (b10, [.int .i64 m]) :: (b9, [best]) :: (acc ++ σ)) (fun _ σ' => ∃ best' m' acc', σ' = (b10, [.int .i64 m']) :: (b9, [best']) :: (acc' ++ σ) ∧ BestOk best' acc' ∧ ((best' = .mref bw 0 kw 1 ∧ acc' = [(bw, inC w)]) ∨ (best' = best ∧ acc' = acc ∧ best ≠ .nils))) := by
  have hok : BestOk (.mref bw 0 kw 1) [(bw, inC w)] := .inr ⟨bw, kw, w, hw.1, hw.2, hwl, rfl, rfl⟩
  rcases hb with ⟨rfl, rfl⟩ | ⟨bl, kl, l, hl, hl2, hll, rfl, rfl⟩
  · refine okF Tryz.func137 (by kernel_rfl) ?_
    refine LoadAt.mk 2 _ _ rfl rfl ?_
    refine StoreAt.mk 2 _ _ rfl rfl ?_
    refine StoreAt.mk 1 _ _ rfl rfl ?_
    exact .pull [2, 2] (.done ⟨_, _, [(bw, inC w)], rfl, hok, .inl ⟨rfl, rfl⟩⟩)
  · have hok2 : BestOk (.mref bl 0 kl 1) [(bl, inC l)] := .inr ⟨bl, kl, l, hl, hl2, hll, rfl, rfl⟩
    refine okF Tryz.func137 (by kernel_rfl) ?_
    refine LoadAt.mk 2 _ _ rfl rfl ?_
    refine LoadAt.mk 1 _ _ rfl rfl ?_
    refine bcond_dec (fun c1 => ?_) (fun c1 => ?_)
    · have c1 : e < m := c1
      refine StoreAt.mk 2 _ _ rfl rfl ?_
      refine StoreAt.mk 1 _ _ rfl rfl ?_
      exact .drop 3 1 (.pull [2, 2] (.done ⟨_, _, [(bw, inC w)], rfl, hok, .inl ⟨rfl, rfl⟩⟩))
    · have c1 : ¬ (e < m) := c1
      refine LoadAt.mk 1 _ _ rfl rfl ?_
      refine bcond_dec (fun c2 => ?_) (fun c2 => ?_)
      · have c2 : e = m := c2
        refine LoadAt.mk 2 _ _ rfl rfl ?_
        (refine .mk [1, 3] _ (aCompareW w l bw bl _ _ _ hwl hll (by omega) (by omega)) ?_; rintro _ _ ⟨n, rfl, rfl⟩)
        refine bcond_dec (fun c3 => ?_) (fun c3 => ?_)
        · have c3 : n < 0 := c3
          refine StoreAt.mk 3 _ _ rfl rfl ?_
          refine StoreAt.mk 2 _ _ rfl rfl ?_
          exact .drop 1 1 (.pull [2, 2] (.done ⟨_, _, [(bw, inC w)], rfl, hok, .inl ⟨rfl, rfl⟩⟩))
        · have c3 : ¬ (n < 0) := c3
          exact .drop 0 1 (.pull [2, 2] (.done ⟨_, _, [(bl, inC l)], rfl, hok2, .inr ⟨rfl, rfl, fun h => by cases h⟩⟩))
      · have c2 : ¬ (e = m) := c2
        exact .drop 0 1 (.done ⟨_, _, [(bl, inC l)], rfl, hok2, .inr ⟨rfl, rfl, fun h => by cases h⟩⟩)
def NoA (s : Sy) (n : Int) (ml : List (Int × Int)) (x : Int) : Prop := beginsB s x n = true → getM ml x = none
def NoB (s : Sy) (n : Int) (ml : List (Int × Int)) (x b : Int) : Prop := bornB s x n = true → getM ml b = none
def NoC (s : Sy) (n : Int) (ml : List (Int × Int)) (a : Int) : Prop := ∀ x, 0 ≤ x → x < a → NoA s n ml x ∧ ∀ b ∈ toS s.n s.edges x, NoB s n ml x b
def Cand (s : Sy) (n : Int) (ml : List (Int × Int)) (w : List Int) : Prop := (∃ a d, w = [a] ∧ 0 ≤ a ∧ a < s.n ∧ getM ml a = some d ∧ beginsB s a n = true) ∨ ∃ a b d, w = [a, b] ∧ 0 ≤ a ∧ a < s.n ∧ b ∈ toS s.n s.edges a ∧ getM ml b = some d ∧ bornB s a n = true
theorem Cand.len {s : Sy} {n : Int} {ml : List (Int × Int)} {w : List Int} (h : Cand s n ml w) : 0 < w.length ∧ w.length ≤ 1000 := by
  rcases h with ⟨a, d, rfl, _⟩ | ⟨a, b, d, rfl, _⟩ <;> exact ⟨by simp, by simp⟩
/-- What stands as the best reason's beginning, with its block. -/
def Bst (s : Sy) (n : Int) (ml : List (Int × Int)) (p : Prop) (v : AV) (acc : Hp) : Prop := (v = .nils ∧ acc = [] ∧ p) ∨ ∃ (b k : Nat) (w : List Int), Cand s n ml w ∧ w.length = k ∧ v = .mref b 0 k 1 ∧ acc = [(b, inC w)]
theorem Bst.ok {s : Sy} {n : Int} {ml : List (Int × Int)} {p : Prop} {v : AV} {acc : Hp} (h : Bst s n ml p v acc) : BestOk v acc := by
  rcases h with ⟨h, h2, _⟩ | ⟨b, k, w, hw, hk, h, h2⟩
  · exact .inl ⟨h, h2⟩
  · exact .inr ⟨b, k, w, hk ▸ hw.len.1, hk ▸ hw.len.2, hk, h, h2⟩
theorem Bst.imp {s : Sy} {n : Int} {ml : List (Int × Int)} {p q : Prop} {v : AV} {acc : Hp} (h : Bst s n ml p v acc) (hp : p → q) : Bst s n ml q v acc := Or.imp (fun ⟨a, b, c⟩ => ⟨a, b, hp c⟩) id h
theorem Bst.put {s : Sy} {n : Int} {ml : List (Int × Int)} {p q : Prop} {v v' : AV} {acc acc' : Hp} {w : List Int} {bw kw : Nat} (h : Bst s n ml p v acc) (hw : Cand s n ml w) (hk : w.length = kw) (hp : (v' = .mref bw 0 kw 1 ∧ acc' = [(bw, inC w)]) ∨ (v' = v ∧ acc' = acc ∧ v ≠ .nils)) : Bst s n ml q v' acc' := by
  rcases hp with ⟨rfl, rfl⟩ | ⟨rfl, rfl, hv⟩
  · exact .inr ⟨bw, kw, w, hw, hk, rfl, rfl⟩
  · rcases h with ⟨h, _⟩ | h
    · exact absurd h hv
    · exact .inr h
theorem noB_app {s : Sy} {n : Int} {ml : List (Int × Int)} {x b : Int} {l : List Int} (h : ∀ b ∈ l, NoB s n ml x b) (hb : NoB s n ml x b) : ∀ c ∈ l ++ [b], NoB s n ml x c := fun c hc => by
  rcases List.mem_append.1 hc with hc | hc
  · exact h c hc
  · rw [List.mem_singleton.1 hc]; exact hb
theorem noC_succ {s : Sy} {n : Int} {ml : List (Int × Int)} {k : Nat} (h : NoC s n ml k) (ha : NoA s n ml k) (hb : ∀ b ∈ toS s.n s.edges k, NoB s n ml k b) : NoC s n ml (k + 1 : Nat) := fun x h1 h2 => by
  by_cases hx : x = k
  · subst hx; exact ⟨ha, hb⟩
  · exact h x h1 (by omega)
theorem aBegin21 (s : Sy) (v n : Int) (ml : List (Int × Int)) (bf : Nat) (σ : Hp) (hf : Fit s) (hn : s.n ≤ 256) (hn0 : 0 ≤ s.n) : ACalls Tryz.prog 87 [.agg (sysC s), .int .i64 v, .int .i64 n, .mapr bf] ((bf, [.mapc ml]) :: σ) (fun r σ' => ∃ acc, σ' = (bf, [.mapc ml]) :: (acc ++ σ) ∧ Bst s n ml (NoC s n ml s.n) r acc) := by
  obtain ⟨N, hN⟩ : ∃ N : Nat, s.n = N := ⟨s.n.toNat, by omega⟩
  refine okF Tryz.func87 (by kernel_rfl) ?_
  intro bl1
  intro bl2
  intro bl3
  refine StoreAt.mk 0 _ _ rfl rfl ?_
  refine LoadAt.mk 2 _ _ rfl rfl ?_
  refine loopS (S := Nat × AV × Int × Hp) (fun x => [(2, .int .i64 n), (3, .mapr bf), (4, .ptr bl1 0), (9, .ptr bl2 0), (11, .fn (.func 137) [] [.ptr bl2 0, .ptr bl3 0]), (21, .int .i64 s.n), (22, .int .i64 x.1)]) (fun x => (bl3, [.int .i64 x.2.2.1]) :: (bl2, [x.2.1]) :: (bl1, sysC s) :: (bf, [.mapc ml]) :: (x.2.2.2 ++ σ)) (fun x => x.1 ≤ N ∧ Bst s n ml (NoC s n ml x.1) x.2.1 x.2.2.2) (fun x => N - x.1) (0, .nils, 0, []) ⟨⟨Nat.zero_le _, .inl ⟨rfl, rfl, fun x h1 h2 => by have h2 : x < 0 := h2; omega⟩⟩, ⟨rfl, rfl, rfl, rfl, rfl, rfl, rfl, trivial⟩, rfl⟩ ?_
  rintro ⟨k, v, m, acc⟩ g ⟨hk0, hb0⟩
  have hk : k ≤ N := hk0
  have hb : Bst s n ml (NoC s n ml k) v acc := hb0
  clear hk0 hb0
  refine bcond_dec (fun hlt => ?_) (fun hge => ?_)
  · have hlt : k < N := by have hlt : (k : Int) < s.n := hlt; omega
    obtain ⟨L, hL⟩ : ∃ L : List Int, toS s.n s.edges k = L := ⟨_, rfl⟩
    have hLl : L.length ≤ 256 := by have := toS_len s.n s.edges k; rw [hL] at this; omega
    have hNx : ∀ σ, ACalls Tryz.prog 54 [.int .i64 s.n, .fsl edgeSh s.edges, .int .i64 k] σ (Ret (.fsl (.int .i64) L) σ) := fun σ => hL ▸ aNext s.n s.edges k σ hf.elen
    refine MapAt.mk 3 _ _ rfl rfl ?_
    generalize hg : getM ml k = o
    cases o with
    | none =>
      refine LoadAt.mk 2 _ _ rfl rfl ?_
      refine LoadAt.mk 2 _ _ rfl rfl ?_
      refine callR [] (hNx _) ?_
      refine loopS (S := Nat × AV × Int × Hp) (fun y => [(2, .int .i64 n), (3, .mapr bf), (4, .ptr bl1 0), (9, .ptr bl2 0), (11, .fn (.func 137) [] [.ptr bl2 0, .ptr bl3 0]), (12, .int .i64 k), (21, .int .i64 s.n), (22, .int .i64 k), (48, .fsl (.int .i64) L), (49, .int .i64 L.length), (50, .int .i64 y.1)]) (fun y => (bl3, [.int .i64 y.2.2.1]) :: (bl2, [y.2.1]) :: (bl1, sysC s) :: (bf, [.mapc ml]) :: (y.2.2.2 ++ σ)) (fun y => y.1 ≤ L.length ∧ Bst s n ml (NoC s n ml k ∧ NoA s n ml k ∧ ∀ b ∈ L.take y.1, NoB s n ml k b) y.2.1 y.2.2.2) (fun y => L.length - y.1) (0, v, m, acc) ⟨⟨Nat.zero_le _, hb.imp fun h => ⟨h, fun _ => hg, fun b hb => by cases hb⟩⟩, ⟨rfl, rfl, rfl, rfl, rfl, rfl, rfl, rfl, rfl, rfl, rfl, trivial⟩, rfl⟩ ?_
      rintro ⟨j, v2, m2, acc2⟩ g2 ⟨hj0, hb0⟩
      have hj : j ≤ L.length := hj0
      have hb2 : Bst s n ml (NoC s n ml k ∧ NoA s n ml k ∧ ∀ b ∈ L.take j, NoB s n ml k b) v2 acc2 := hb0
      clear hj0 hb0
      refine bcond_dec (fun hlt2 => ?_) (fun hge2 => ?_)
      · have hlt2 : j < L.length := by have hlt2 : (j : Int) < L.length := hlt2; omega
        obtain ⟨b, hbj⟩ : ∃ b : Int, L[j] = b := ⟨_, rfl⟩
        have hbm : b ∈ toS s.n s.edges k := by rw [hL, ← hbj]; exact List.getElem_mem hlt2
        have htk : L.take (j + 1) = L.take j ++ [b] := by rw [List.take_succ_eq_append_getElem hlt2, hbj]
        refine With.mk rfl (IdxF.mk b (by omega) ((get_some hlt2).trans (congrArg some hbj)) ?_)
        refine MapAt.mk 3 _ _ rfl rfl ?_
        generalize hg2 : getM ml b = o2
        cases o2 with
        | none =>
          exact nextS (j + 1, v2, m2, acc2) (by show L.length - (j + 1) < L.length - j; omega) ⟨hlt2, hb2.imp fun h => ⟨h.1, h.2.1, htk ▸ noB_app h.2.2 (fun _ => hg2)⟩⟩ ⟨rfl, rfl, rfl, rfl, rfl, rfl, rfl, rfl, rfl, rfl, inc64 (by omega), trivial⟩ (.refl _)
        | some d2 =>
          refine LoadAt.mk 2 _ _ rfl rfl ?_
          refine callB [] (aWhyBorn s k n _ hf) (fun cb => ?_) (fun cb => ?_)
          · intro bl6
            refine .perm _ (.cons _ (.cons _ (.cons _ (mid_perm [(bl1, sysC s), (bf, [.mapc ml])] acc2 σ)))) (aPut21 [(k : Int), b] bl6 2 (IntKind.i64.wrap (d2 + 1)) m2 v2 acc2 bl2 bl3 ((bl1, sysC s) :: (bf, [.mapc ml]) :: σ) ⟨by decide, by decide⟩ rfl hb2.ok) ?_
            rintro _ _ ⟨v3, m3, acc3, rfl, hv3, hv4⟩
            refine ⟨(bl3, [.int .i64 m3]) :: (bl2, [v3]) :: (bl1, sysC s) :: (bf, [.mapc ml]) :: (acc3 ++ σ), .cons _ (.cons _ (mid_perm [(bl1, sysC s), (bf, [.mapc ml])] acc3 σ).symm), ?_⟩
            exact nextS (j + 1, v3, m3, acc3) (by show L.length - (j + 1) < L.length - j; omega) ⟨hlt2, hb2.put (.inr ⟨k, b, d2, rfl, by omega, by omega, hbm, hg2, cb⟩) rfl hv4⟩ ⟨rfl, rfl, rfl, rfl, rfl, rfl, rfl, rfl, rfl, rfl, inc64 (by omega), trivial⟩ (.refl _)
          · exact nextS (j + 1, v2, m2, acc2) (by show L.length - (j + 1) < L.length - j; omega) ⟨hlt2, hb2.imp fun h => ⟨h.1, h.2.1, htk ▸ noB_app h.2.2 (fun h => by rw [cb] at h; cases h)⟩⟩ ⟨rfl, rfl, rfl, rfl, rfl, rfl, rfl, rfl, rfl, rfl, inc64 (by omega), trivial⟩ (.refl _)
      · have hge2 : j = L.length := by have hge2 : ¬ (j : Int) < L.length := hge2; omega
        subst hge2
        rw [List.take_length] at hb2
        exact nextS (k + 1, v2, m2, acc2) (by show N - (k + 1) < N - k; omega) ⟨hlt, hb2.imp fun h => noC_succ h.1 h.2.1 (hL ▸ h.2.2)⟩ ⟨rfl, rfl, rfl, rfl, rfl, rfl, inc64 (by omega), trivial⟩ (.refl _)
    | some d =>
      refine LoadAt.mk 2 _ _ rfl rfl ?_
      refine callB [] (aWhyBegins s k n _ hf) (fun ca => ?_) (fun ca => ?_)
      · intro bl5
        refine .perm _ (.cons _ (.cons _ (.cons _ (mid_perm [(bl1, sysC s), (bf, [.mapc ml])] acc σ)))) (aPut21 [(k : Int)] bl5 1 d m v acc bl2 bl3 ((bl1, sysC s) :: (bf, [.mapc ml]) :: σ) ⟨by decide, by decide⟩ rfl hb.ok) ?_
        rintro _ _ ⟨v1, m1, acc1, rfl, hv3, hv4⟩
        refine ⟨(bl3, [.int .i64 m1]) :: (bl2, [v1]) :: (bl1, sysC s) :: (bf, [.mapc ml]) :: (acc1 ++ σ), .cons _ (.cons _ (mid_perm [(bl1, sysC s), (bf, [.mapc ml])] acc1 σ).symm), ?_⟩
        have hb : Bst s n ml (NoC s n ml k ∧ NoA s n ml k ∧ ∀ b ∈ L.take 0, NoB s n ml k b) v1 acc1 := hb.put (.inl ⟨k, d, rfl, by omega, by omega, hg, ca⟩) rfl hv4
        refine LoadAt.mk 2 _ _ rfl rfl ?_
        refine LoadAt.mk 2 _ _ rfl rfl ?_
        refine callR [] (hNx _) ?_
        refine loopS (S := Nat × AV × Int × Hp) (fun y => [(2, .int .i64 n), (3, .mapr bf), (4, .ptr bl1 0), (9, .ptr bl2 0), (11, .fn (.func 137) [] [.ptr bl2 0, .ptr bl3 0]), (12, .int .i64 k), (21, .int .i64 s.n), (22, .int .i64 k), (48, .fsl (.int .i64) L), (49, .int .i64 L.length), (50, .int .i64 y.1)]) (fun y => (bl3, [.int .i64 y.2.2.1]) :: (bl2, [y.2.1]) :: (bl1, sysC s) :: (bf, [.mapc ml]) :: (y.2.2.2 ++ σ)) (fun y => y.1 ≤ L.length ∧ Bst s n ml (NoC s n ml k ∧ NoA s n ml k ∧ ∀ b ∈ L.take y.1, NoB s n ml k b) y.2.1 y.2.2.2) (fun y => L.length - y.1) (0, v1, m1, acc1) ⟨⟨Nat.zero_le _, hb⟩, ⟨rfl, rfl, rfl, rfl, rfl, rfl, rfl, rfl, rfl, rfl, rfl, trivial⟩, rfl⟩ ?_
        rintro ⟨j, v2, m2, acc2⟩ g2 ⟨hj0, hb0⟩
        have hj : j ≤ L.length := hj0
        have hb2 : Bst s n ml (NoC s n ml k ∧ NoA s n ml k ∧ ∀ b ∈ L.take j, NoB s n ml k b) v2 acc2 := hb0
        clear hj0 hb0
        refine bcond_dec (fun hlt2 => ?_) (fun hge2 => ?_)
        · have hlt2 : j < L.length := by have hlt2 : (j : Int) < L.length := hlt2; omega
          obtain ⟨b, hbj⟩ : ∃ b : Int, L[j] = b := ⟨_, rfl⟩
          have hbm : b ∈ toS s.n s.edges k := by rw [hL, ← hbj]; exact List.getElem_mem hlt2
          have htk : L.take (j + 1) = L.take j ++ [b] := by rw [List.take_succ_eq_append_getElem hlt2, hbj]
          refine With.mk rfl (IdxF.mk b (by omega) ((get_some hlt2).trans (congrArg some hbj)) ?_)
          refine MapAt.mk 3 _ _ rfl rfl ?_
          generalize hg2 : getM ml b = o2
          cases o2 with
          | none =>
            exact nextS (j + 1, v2, m2, acc2) (by show L.length - (j + 1) < L.length - j; omega) ⟨hlt2, hb2.imp fun h => ⟨h.1, h.2.1, htk ▸ noB_app h.2.2 (fun _ => hg2)⟩⟩ ⟨rfl, rfl, rfl, rfl, rfl, rfl, rfl, rfl, rfl, rfl, inc64 (by omega), trivial⟩ (.refl _)
          | some d2 =>
            refine LoadAt.mk 2 _ _ rfl rfl ?_
            refine callB [] (aWhyBorn s k n _ hf) (fun cb => ?_) (fun cb => ?_)
            · intro bl6
              refine .perm _ (.cons _ (.cons _ (.cons _ (mid_perm [(bl1, sysC s), (bf, [.mapc ml])] acc2 σ)))) (aPut21 [(k : Int), b] bl6 2 (IntKind.i64.wrap (d2 + 1)) m2 v2 acc2 bl2 bl3 ((bl1, sysC s) :: (bf, [.mapc ml]) :: σ) ⟨by decide, by decide⟩ rfl hb2.ok) ?_
              rintro _ _ ⟨v3, m3, acc3, rfl, hv3, hv4⟩
              refine ⟨(bl3, [.int .i64 m3]) :: (bl2, [v3]) :: (bl1, sysC s) :: (bf, [.mapc ml]) :: (acc3 ++ σ), .cons _ (.cons _ (mid_perm [(bl1, sysC s), (bf, [.mapc ml])] acc3 σ).symm), ?_⟩
              exact nextS (j + 1, v3, m3, acc3) (by show L.length - (j + 1) < L.length - j; omega) ⟨hlt2, hb2.put (.inr ⟨k, b, d2, rfl, by omega, by omega, hbm, hg2, cb⟩) rfl hv4⟩ ⟨rfl, rfl, rfl, rfl, rfl, rfl, rfl, rfl, rfl, rfl, inc64 (by omega), trivial⟩ (.refl _)
            · exact nextS (j + 1, v2, m2, acc2) (by show L.length - (j + 1) < L.length - j; omega) ⟨hlt2, hb2.imp fun h => ⟨h.1, h.2.1, htk ▸ noB_app h.2.2 (fun h => by rw [cb] at h; cases h)⟩⟩ ⟨rfl, rfl, rfl, rfl, rfl, rfl, rfl, rfl, rfl, rfl, inc64 (by omega), trivial⟩ (.refl _)
        · have hge2 : j = L.length := by have hge2 : ¬ (j : Int) < L.length := hge2; omega
          subst hge2
          rw [List.take_length] at hb2
          exact nextS (k + 1, v2, m2, acc2) (by show N - (k + 1) < N - k; omega) ⟨hlt, hb2.imp fun h => noC_succ h.1 h.2.1 (hL ▸ h.2.2)⟩ ⟨rfl, rfl, rfl, rfl, rfl, rfl, inc64 (by omega), trivial⟩ (.refl _)
      · have hb : Bst s n ml (NoC s n ml k ∧ NoA s n ml k ∧ ∀ b ∈ L.take 0, NoB s n ml k b) v acc := hb.imp fun h => ⟨h, (show NoA s n ml k from fun h2 => by rw [ca] at h2; cases h2), fun b hb => by cases hb⟩
        refine LoadAt.mk 2 _ _ rfl rfl ?_
        refine LoadAt.mk 2 _ _ rfl rfl ?_
        refine callR [] (hNx _) ?_
        refine loopS (S := Nat × AV × Int × Hp) (fun y => [(2, .int .i64 n), (3, .mapr bf), (4, .ptr bl1 0), (9, .ptr bl2 0), (11, .fn (.func 137) [] [.ptr bl2 0, .ptr bl3 0]), (12, .int .i64 k), (21, .int .i64 s.n), (22, .int .i64 k), (48, .fsl (.int .i64) L), (49, .int .i64 L.length), (50, .int .i64 y.1)]) (fun y => (bl3, [.int .i64 y.2.2.1]) :: (bl2, [y.2.1]) :: (bl1, sysC s) :: (bf, [.mapc ml]) :: (y.2.2.2 ++ σ)) (fun y => y.1 ≤ L.length ∧ Bst s n ml (NoC s n ml k ∧ NoA s n ml k ∧ ∀ b ∈ L.take y.1, NoB s n ml k b) y.2.1 y.2.2.2) (fun y => L.length - y.1) (0, v, m, acc) ⟨⟨Nat.zero_le _, hb⟩, ⟨rfl, rfl, rfl, rfl, rfl, rfl, rfl, rfl, rfl, rfl, rfl, trivial⟩, rfl⟩ ?_
        rintro ⟨j, v2, m2, acc2⟩ g2 ⟨hj0, hb0⟩
        have hj : j ≤ L.length := hj0
        have hb2 : Bst s n ml (NoC s n ml k ∧ NoA s n ml k ∧ ∀ b ∈ L.take j, NoB s n ml k b) v2 acc2 := hb0
        clear hj0 hb0
        refine bcond_dec (fun hlt2 => ?_) (fun hge2 => ?_)
        · have hlt2 : j < L.length := by have hlt2 : (j : Int) < L.length := hlt2; omega
          obtain ⟨b, hbj⟩ : ∃ b : Int, L[j] = b := ⟨_, rfl⟩
          have hbm : b ∈ toS s.n s.edges k := by rw [hL, ← hbj]; exact List.getElem_mem hlt2
          have htk : L.take (j + 1) = L.take j ++ [b] := by rw [List.take_succ_eq_append_getElem hlt2, hbj]
          refine With.mk rfl (IdxF.mk b (by omega) ((get_some hlt2).trans (congrArg some hbj)) ?_)
          refine MapAt.mk 3 _ _ rfl rfl ?_
          generalize hg2 : getM ml b = o2
          cases o2 with
          | none =>
            exact nextS (j + 1, v2, m2, acc2) (by show L.length - (j + 1) < L.length - j; omega) ⟨hlt2, hb2.imp fun h => ⟨h.1, h.2.1, htk ▸ noB_app h.2.2 (fun _ => hg2)⟩⟩ ⟨rfl, rfl, rfl, rfl, rfl, rfl, rfl, rfl, rfl, rfl, inc64 (by omega), trivial⟩ (.refl _)
          | some d2 =>
            refine LoadAt.mk 2 _ _ rfl rfl ?_
            refine callB [] (aWhyBorn s k n _ hf) (fun cb => ?_) (fun cb => ?_)
            · intro bl6
              refine .perm _ (.cons _ (.cons _ (.cons _ (mid_perm [(bl1, sysC s), (bf, [.mapc ml])] acc2 σ)))) (aPut21 [(k : Int), b] bl6 2 (IntKind.i64.wrap (d2 + 1)) m2 v2 acc2 bl2 bl3 ((bl1, sysC s) :: (bf, [.mapc ml]) :: σ) ⟨by decide, by decide⟩ rfl hb2.ok) ?_
              rintro _ _ ⟨v3, m3, acc3, rfl, hv3, hv4⟩
              refine ⟨(bl3, [.int .i64 m3]) :: (bl2, [v3]) :: (bl1, sysC s) :: (bf, [.mapc ml]) :: (acc3 ++ σ), .cons _ (.cons _ (mid_perm [(bl1, sysC s), (bf, [.mapc ml])] acc3 σ).symm), ?_⟩
              exact nextS (j + 1, v3, m3, acc3) (by show L.length - (j + 1) < L.length - j; omega) ⟨hlt2, hb2.put (.inr ⟨k, b, d2, rfl, by omega, by omega, hbm, hg2, cb⟩) rfl hv4⟩ ⟨rfl, rfl, rfl, rfl, rfl, rfl, rfl, rfl, rfl, rfl, inc64 (by omega), trivial⟩ (.refl _)
            · exact nextS (j + 1, v2, m2, acc2) (by show L.length - (j + 1) < L.length - j; omega) ⟨hlt2, hb2.imp fun h => ⟨h.1, h.2.1, htk ▸ noB_app h.2.2 (fun h => by rw [cb] at h; cases h)⟩⟩ ⟨rfl, rfl, rfl, rfl, rfl, rfl, rfl, rfl, rfl, rfl, inc64 (by omega), trivial⟩ (.refl _)
        · have hge2 : j = L.length := by have hge2 : ¬ (j : Int) < L.length := hge2; omega
          subst hge2
          rw [List.take_length] at hb2
          exact nextS (k + 1, v2, m2, acc2) (by show N - (k + 1) < N - k; omega) ⟨hlt, hb2.imp fun h => noC_succ h.1 h.2.1 (hL ▸ h.2.2)⟩ ⟨rfl, rfl, rfl, rfl, rfl, rfl, inc64 (by omega), trivial⟩ (.refl _)
  · have hge : k = N := by have hge : ¬ (k : Int) < s.n := hge; omega
    subst hge
    rcases hb with ⟨rfl, rfl, hb⟩ | ⟨b, kw, w, hw, hkw, rfl, rfl⟩
    · refine LoadAt.mk 1 _ _ rfl rfl ?_
      exact .drop 0 3 (.done ⟨[], rfl, .inl ⟨rfl, rfl, hN ▸ hb⟩⟩)
    · refine LoadAt.mk 1 _ _ rfl rfl ?_
      exact .drop 0 3 (.done ⟨[(b, inC w)], rfl, .inr ⟨b, kw, w, hw, hkw, rfl, rfl⟩⟩)
end Go.Proofs.YteccfogpajbigaaGreat
namespace Go.Proofs.YteccfogpajbigaaGreat
open Go.RowKit
set_option maxRecDepth 100000
theorem putM_new : ∀ {l : List (Int × Int)} {n x : Int}, getM l n = none → putM l n x = l ++ [(n, x)]
  | [], _, _, _ => rfl
  | p :: l, n, x, h => by
    unfold getM at h
    unfold putM
    by_cases hp : p.1 = n
    · rw [if_pos hp] at h; cases h
    · rw [if_neg hp] at h ⊢; rw [putM_new h]; rfl
theorem getM_key : ∀ {l : List (Int × Int)} {n : Int}, n ∈ l.map Prod.fst → ∃ d, getM l n = some d
  | p :: l, n, h => by
    unfold getM
    by_cases hp : p.1 = n
    · exact ⟨p.2, if_pos hp⟩
    · rw [if_neg hp]
      rw [List.map_cons] at h
      rcases List.mem_cons.1 h with h | h
      · exact absurd h.symm hp
      · exact getM_key h
theorem key_getM : ∀ {l : List (Int × Int)} {n d : Int}, getM l n = some d → n ∈ l.map Prod.fst
  | p :: l, n, d, h => by
    unfold getM at h
    by_cases hp : p.1 = n
    · rw [← hp]; exact List.mem_cons_self ..
    · rw [if_neg hp] at h; exact List.mem_cons_of_mem _ (key_getM h)
theorem nodup_le {l : List Int} (hn : l.Nodup) (N : Nat) (h : ∀ x ∈ l, 0 ≤ x ∧ x < N) : l.length ≤ N := by
  refine Decidable.byContradiction fun hc => ?_
  have := pigN l ((List.range N).map fun i : Nat => (i : Int)) hn (fun x hx => List.mem_map.2 ⟨x.toNat, List.mem_range.2 (by have := h x hx; omega), by have := h x hx; omega⟩) (by simp; omega)
  have := this.length_eq
  simp at this
  omega
theorem turn_mem {n : Int} {l : List EdgeT} {a u : Int} (h : a ∈ toS n (sortedE (turnE l)) u) : u ∈ toS n l a := by
  obtain ⟨h1, h2, e, he, h3, h4⟩ := mem_toS.1 h
  obtain ⟨x, hx, rfl⟩ := List.mem_map.1 ((sortedE_mem _ _).1 he)
  exact mem_toS.2 ⟨h2, h1, x, hx, h4, h3⟩
structure FarI (s : Sy) (v n : Int) (ml : List (Int × Int)) (W : List Int) (Ex : Int → Prop) : Prop where
  v0 : getM ml v = some 0
  rng : ∀ a d, getM ml a = some d → (0 ≤ a ∧ a < s.n) ∧ 0 ≤ d ∧ d + 1 ≤ (ml.length : Int) ∧ ((a = v ∧ d = 0) ∨ (1 ≤ d ∧ passB s a n = true ∧ ∃ b ∈ toS s.n s.edges a, getM ml b = some (d - 1)))
  cl : ∀ b d, getM ml b = some d → b ∈ W ∨ Ex b ∨ ∀ a ∈ backL s n b, ∃ d', getM ml a = some d'
  wt : ∀ a ∈ W, ∃ d, getM ml a = some d
  nd : (ml.map Prod.fst).Nodup
theorem FarI.len {s : Sy} {v n : Int} {ml : List (Int × Int)} {W : List Int} {Ex : Int → Prop} (h : FarI s v n ml W Ex) {N : Nat} (hN : s.n = N) : ml.length ≤ N := by
  have := nodup_le h.nd N (fun x hx => by
    obtain ⟨d, hd⟩ := getM_key hx
    have := (h.rng x d hd).1
    omega)
  rwa [List.length_map] at this
theorem FarI.start {s : Sy} {v n : Int} (hv : 0 ≤ v ∧ v < s.n) : FarI s v n [(v, 0)] [v] (fun _ => False) := by
  have hg : ∀ a d, getM [(v, 0)] a = some d → a = v ∧ d = 0 := fun a d h => by
    by_cases e : v = a
    · subst e
      rw [show getM [(v, 0)] v = some 0 from if_pos rfl] at h
      exact ⟨rfl, (Option.some.inj h).symm⟩
    · rw [show getM [(v, 0)] a = none from if_neg e] at h; cases h
  refine ⟨if_pos rfl, fun a d h => ?_, fun b d h => ?_, fun a h => ?_, by simp⟩
  · obtain ⟨rfl, rfl⟩ := hg a d h
    exact ⟨hv, by decide, by simp, .inl ⟨rfl, rfl⟩⟩
  · obtain ⟨rfl, rfl⟩ := hg b d h
    exact .inl (List.mem_cons_self ..)
  · rw [List.mem_singleton.1 h]; exact ⟨0, if_pos rfl⟩
theorem FarI.push {s : Sy} {v n : Int} {ml : List (Int × Int)} {W : List Int} {Ex : Int → Prop} {u a d : Int} (h : FarI s v n ml W Ex) (hu : getM ml u = some d) (ha : getM ml a = none) (hb : a ∈ backL s n u) : FarI s v n (putM ml a (d + 1)) (W ++ [a]) Ex := by
  have hold : ∀ z d', getM ml z = some d' → getM (putM ml a (d + 1)) z = some d' := fun z d' hz => by
    rw [getM_set, if_neg (fun e => by rw [e, ha] at hz; cases hz)]; exact hz
  have hnew : ∀ z d', getM (putM ml a (d + 1)) z = some d' → (z = a ∧ d' = d + 1) ∨ getM ml z = some d' := fun z d' hz => by
    rw [getM_set] at hz
    by_cases e : z = a
    · rw [if_pos e] at hz; exact .inl ⟨e, (Option.some.inj hz).symm⟩
    · rw [if_neg e] at hz; exact .inr hz
  have hlen : (putM ml a (d + 1)).length = ml.length + 1 := by rw [putM_new ha]; simp
  have hmet : getM (putM ml a (d + 1)) a = some (d + 1) := by rw [getM_set, if_pos rfl]
  have hru := h.rng u d hu
  unfold backL at hb
  obtain ⟨hb1, hb2⟩ := List.mem_filter.1 hb
  have hua := turn_mem hb1
  refine ⟨hold v 0 h.v0, fun z d' hz => ?_, fun z d' hz => ?_, fun z hz => ?_, ?_⟩
  · rw [hlen]
    rcases hnew z d' hz with ⟨rfl, rfl⟩ | hz
    · exact ⟨(mem_toS.1 hb1).1, by omega, by omega, .inr ⟨by omega, hb2, u, hua, by rw [show d + 1 - 1 = d by omega]; exact hold u d hu⟩⟩
    · obtain ⟨h1, h2, h3, h4⟩ := h.rng z d' hz
      exact ⟨h1, h2, by omega, h4.imp id fun ⟨h5, h6, b, hb, h7⟩ => ⟨h5, h6, b, hb, hold b _ h7⟩⟩
  · rcases hnew z d' hz with ⟨rfl, rfl⟩ | hz
    · exact .inl (List.mem_append_right _ (List.mem_cons_self ..))
    · rcases h.cl z d' hz with h1 | h1 | h1
      · exact .inl (List.mem_append_left _ h1)
      · exact .inr (.inl h1)
      · exact .inr (.inr fun x hx => by obtain ⟨e, he⟩ := h1 x hx; exact ⟨e, hold x e he⟩)
  · rcases List.mem_append.1 hz with hz | hz
    · obtain ⟨e, he⟩ := h.wt z hz; exact ⟨e, hold z e he⟩
    · rw [List.mem_singleton.1 hz]; exact ⟨_, hmet⟩
  · rw [putM_new ha, List.map_append]
    refine List.nodup_append.2 ⟨h.nd, by simp, fun x hx y hy e => ?_⟩
    obtain ⟨e2, he2⟩ := getM_key hx
    rw [e, show y = a by simpa using hy, ha] at he2
    cases he2
theorem FarI.pop {s : Sy} {v n : Int} {ml : List (Int × Int)} {u : Int} {r : List Int} (h : FarI s v n ml (u :: r) (fun _ => False)) : FarI s v n ml r (fun z => z = u) :=
  ⟨h.v0, h.rng, fun b d hb => by
    rcases h.cl b d hb with h1 | h1 | h1
    · rcases List.mem_cons.1 h1 with h1 | h1
      · exact .inr (.inl h1)
      · exact .inl h1
    · exact h1.elim
    · exact .inr (.inr h1), fun a ha => h.wt a (List.mem_cons_of_mem _ ha), h.nd⟩
theorem FarI.closed {s : Sy} {v n : Int} {ml : List (Int × Int)} {u : Int} {r : List Int} (h : FarI s v n ml r (fun z => z = u)) (hu : ∀ a ∈ backL s n u, ∃ d, getM ml a = some d) : FarI s v n ml r (fun _ => False) :=
  ⟨h.v0, h.rng, fun b d hb => by
    rcases h.cl b d hb with h1 | h1 | h1
    · exact .inl h1
    · subst h1; exact .inr (.inr hu)
    · exact .inr (.inr h1), h.wt, h.nd⟩
/-- A reason, as far as it was found: its last node has the fact ahead. -/
inductive RsW (s : Sy) (n : Int) : List Int → Int → Prop where
  | one (a : Int) (h : 0 ≤ a ∧ a < s.n) (hb : beginsB s a n = true) : RsW s n [a] a
  | born (a b : Int) (h : 0 ≤ a ∧ a < s.n) (hn : b ∈ toS s.n s.edges a) (hb : bornB s a n = true) : RsW s n [a, b] b
  | app (w : List Int) (x b : Int) (h : RsW s n w x) (hp : passB s x n = true) (hn : b ∈ toS s.n s.edges x) : RsW s n (w ++ [b]) b
theorem RsW.last {s : Sy} {n : Int} {w : List Int} {x : Int} (h : RsW s n w x) : ∃ p, w = p ++ [x] := by
  cases h with
  | one a h hb => exact ⟨[], rfl⟩
  | born a b h hn hb => exact ⟨[a], rfl⟩
  | app w x b h hp hn => exact ⟨w, rfl⟩
theorem RsW.node {s : Sy} {n : Int} {w : List Int} {x : Int} (h : RsW s n w x) : 0 ≤ x ∧ x < s.n := by
  cases h with
  | one a h hb => exact h
  | born a b h hn hb => exact (mem_toS.1 hn).1
  | app w x b h hp hn => exact (mem_toS.1 hn).1
theorem Cand.rs {s : Sy} {n : Int} {ml : List (Int × Int)} {w : List Int} (h : Cand s n ml w) : ∃ x d, RsW s n w x ∧ getM ml x = some d ∧ w.length ≤ 2 := by
  rcases h with ⟨a, d, rfl, h1, h2, h3, h4⟩ | ⟨a, b, d, rfl, h1, h2, h3, h4, h5⟩
  · exact ⟨a, d, .one a ⟨h1, h2⟩ h4, h3, by simp⟩
  · exact ⟨b, d, .born a b ⟨h1, h2⟩ h3 h5, h4, by simp⟩
end Go.Proofs.YteccfogpajbigaaGreat
