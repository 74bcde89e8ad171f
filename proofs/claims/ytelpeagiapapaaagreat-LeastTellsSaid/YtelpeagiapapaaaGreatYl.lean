/-
  SystemChecks, SystemSteps, LeastTells, LeastOuts, walked.
-/
import Derived.Test.YtelpeagiapapaaaGreatYk
import Derived.Test.YtelpeagiapapaaaGreatYh
namespace Go.Proofs.YtelpeagiapapaaaGreat
open Go.RowKit
set_option maxRecDepth 100000
theorem okL_nil (e : Int) (l : List Int) (h : ¬ e = 0) : okL e l = [] := okL_neg h
theorem systemChecks_walk (s : Sy) (v : Int) (x : List Int) (hi : A64 s.init) (ht : ∀ t ∈ s.T, A64 t.1 ∧ A64 t.2.1) (hx : A64 x) : ACalls Tryz.prog 3 [.agg (sysC s), .int .i64 v, .fsl (.int .u64) x] [] (fun r _ => r = .bool true) := by
  refine okF Tryz.func3 (by kernel_rfl) ?_
  intro bl1
  refine callR [] (aAwake17 _) ?_
  refine LoadAt.mk 0 _ _ rfl rfl ?_
  refine callP [] (aSmall17 s _) (fun hsm => ?_) ?_
  rotate_left
  · exact .done rfl
  have hf := fit_of hsm hi ht
  refine bcond_dec (p := 20 < (x.length : Int)) (fun hl => ?_) (fun hl => ?_)
  · exact .done rfl
  by_cases c : checkS s = 0
  · have hg := good_of c
    have hbv := bottom_Vals hg
    refine LoadAt.mk 0 _ _ rfl rfl ?_
    refine callR [] (acalls_eq (aRCheck17 s _ hf) (av_int c)) ?_
    by_cases hv : 0 ≤ v ∧ v < s.n
    · have hn := (nodeE_yes c hv).symm
      refine LoadAt.mk 0 _ _ rfl rfl ?_
      refine callR [] (acalls_eq (aSysStart s v _ hf) (by rw [hn, okL_pos rfl])) ?_
      cases hval : valL s.what s.w x with
      | true =>
        have ho := out_val hf hg hx hval (v := v.toNat) (by omega)
        have hsv := start_val hf hg v
        refine LoadAt.mk 0 _ _ rfl rfl ?_
        refine callR [] (acalls_eq (aSysOut s v x _ hf hx (by omega)) (by rw [outE_val hn hval, okL_pos rfl])) ?_
        refine LoadAt.mk 0 _ _ rfl rfl ?_
        refine callR [] (acalls_eq (aSysBottom s _ hf) (by rw [c])) ?_
        refine LoadAt.mk 0 _ _ rfl rfl ?_
        refine callR [] (acalls_eq (aSysCheck s _ hf) (av_int c)) ?_
        refine LoadAt.mk 0 _ _ rfl rfl ?_
        refine callR [] (aRBottom17 s _ hg) ?_
        refine callR [] (acalls_eq (aRSame17 (okG 0 (bottomS s)) (bottomS s) _ (hbv.ok hg)) (av_bool (decide_eq_true rfl))) ?_
        refine bcond_dec (p := v < 0) (fun d1 => ?_) (fun d1 => ?_)
        · omega
        refine LoadAt.mk 0 _ _ rfl rfl ?_
        refine bcond_dec (p := s.n ≤ v) (fun d2 => ?_) (fun d2 => ?_)
        · omega
        refine LoadAt.mk 0 _ _ rfl rfl ?_
        refine LoadAt.mk 0 _ _ rfl rfl ?_
        refine callR [] (acalls_eq (aRValueL s.what s.w x _ hx) (av_bool hval)) ?_
        refine LoadAt.mk 0 _ _ rfl rfl ?_
        refine callR [] (aRStart17 s v _ hf hg) ?_
        refine callR [] (acalls_eq (same10 (startS s v) (startS s v) _ (Nat.le_trans (val_short hsv.1) (by decide))) (av_bool (decide_eq_true rfl))) ?_
        refine LoadAt.mk 0 _ _ rfl rfl ?_
        have hO := fun σ => aROut17 s v.toNat x σ hf hg (by omega) ⟨hval, hx⟩
        rw [Int.toNat_of_nonneg hv.1] at hO
        refine callR [] (hO _) ?_
        refine callR [] (acalls_eq (same10 (outS s x v.toNat) (outS s x v.toNat) _ (Nat.le_trans (val_short ho.1) (by decide))) (av_bool (decide_eq_true rfl))) ?_
        exact .done rfl
      | false =>
        refine LoadAt.mk 0 _ _ rfl rfl ?_
        refine callR [] (acalls_eq (aSysOut s v x _ hf hx (by omega)) (by rw [outE_no hn hval, okL_neg (by decide)])) ?_
        refine LoadAt.mk 0 _ _ rfl rfl ?_
        refine callR [] (acalls_eq (aSysBottom s _ hf) (by rw [c])) ?_
        refine LoadAt.mk 0 _ _ rfl rfl ?_
        refine callR [] (acalls_eq (aSysCheck s _ hf) (av_int c)) ?_
        refine LoadAt.mk 0 _ _ rfl rfl ?_
        refine callR [] (aRBottom17 s _ hg) ?_
        refine callR [] (acalls_eq (aRSame17 (okG 0 (bottomS s)) (bottomS s) _ (hbv.ok hg)) (av_bool (decide_eq_true rfl))) ?_
        refine bcond_dec (p := v < 0) (fun d1 => ?_) (fun d1 => ?_)
        · omega
        refine LoadAt.mk 0 _ _ rfl rfl ?_
        refine bcond_dec (p := s.n ≤ v) (fun d2 => ?_) (fun d2 => ?_)
        · omega
        refine LoadAt.mk 0 _ _ rfl rfl ?_
        refine LoadAt.mk 0 _ _ rfl rfl ?_
        refine callR [] (acalls_eq (aRValueL s.what s.w x _ hx) (av_bool hval)) ?_
        exact .done rfl
    · have hn := (nodeE_no c hv).symm
      have hne : ¬ nodeE s v = 0 := by rw [hn]; decide
      refine LoadAt.mk 0 _ _ rfl rfl ?_
      refine callR [] (acalls_eq (aSysStart s v _ hf) (by rw [hn, okL_neg (by decide)])) ?_
      refine LoadAt.mk 0 _ _ rfl rfl ?_
      refine callR [] (acalls_eq (aSysOut s v x _ hf hx (by omega)) (by rw [outE_bad x hne, hn, okL_neg (by decide)])) ?_
      refine LoadAt.mk 0 _ _ rfl rfl ?_
      refine callR [] (acalls_eq (aSysBottom s _ hf) (by rw [c])) ?_
      refine LoadAt.mk 0 _ _ rfl rfl ?_
      refine callR [] (acalls_eq (aSysCheck s _ hf) (av_int c)) ?_
      refine LoadAt.mk 0 _ _ rfl rfl ?_
      refine callR [] (aRBottom17 s _ hg) ?_
      refine callR [] (acalls_eq (aRSame17 (okG 0 (bottomS s)) (bottomS s) _ (hbv.ok hg)) (av_bool (decide_eq_true rfl))) ?_
      refine bcond_dec (p := v < 0) (fun d1 => ?_) (fun d1 => ?_)
      · exact .done rfl
      refine LoadAt.mk 0 _ _ rfl rfl ?_
      refine bcond_dec (p := s.n ≤ v) (fun d2 => ?_) (fun d2 => ?_)
      · exact .done rfl
      · omega
  · have hne : nodeE s v = checkS s := (nodeE_bad c).symm
    have hne0 : ¬ nodeE s v = 0 := by rw [hne]; exact c
    have hC := fun σ => aRCheck17 s σ hf
    have hC2 := fun σ => aSysCheck s σ hf
    have hS := fun σ => acalls_eq (aSysStart s v σ hf) (by rw [hne, okL_neg c])
    have hO := fun σ => acalls_eq (aSysOut s v x σ hf hx (by omega)) (by rw [outE_bad x hne0, hne, okL_neg c])
    have hB : ∀ σ, ACalls Tryz.prog 13 [.agg (sysC s)] σ (Ret (.tup [.fsl (.slice (.int .u64)) [], .int .i64 (checkS s)]) σ) := fun σ => acalls_eq (aSysBottom s σ hf) (by unfold okG; rw [if_neg c]; rfl)
    clear hne hne0
    generalize checkS s = e at c hC hC2 hS hO hB
    refine LoadAt.mk 0 _ _ rfl rfl ?_
    refine callR [] (hC _) ?_
    refine LoadAt.mk 0 _ _ rfl rfl ?_
    refine callR [] (hS _) ?_
    refine LoadAt.mk 0 _ _ rfl rfl ?_
    refine callR [] (hO _) ?_
    refine LoadAt.mk 0 _ _ rfl rfl ?_
    refine callR [] (hB _) ?_
    refine LoadAt.mk 0 _ _ rfl rfl ?_
    refine callR [] (hC2 _) ?_
    refine bcond_split (fun c1 => ?_) (fun c1 => ?_)
    · have c1 : (!decide (e = e)) = true := c1
      simp at c1
    refine bcond_split (fun c2 => ?_) (fun c2 => ?_)
    · refine bcond_dec (p := e = e) (fun c3 => ?_) (fun c3 => absurd rfl c3)
      refine bcond_dec (p := e = e) (fun c4 => ?_) (fun c4 => absurd rfl c4)
      refine bcond_dec (p := e = e) (fun c5 => ?_) (fun c5 => absurd rfl c5)
      exact .done rfl
    · have c2 : (!decide (e = 0)) = false := c2
      exact absurd (by simpa using c2) c
theorem systemSteps_walk (s : Sy) (a b : List (List Int)) (hi : A64 s.init) (ht : ∀ t ∈ s.T, A64 t.1 ∧ A64 t.2.1) (ha : ∀ x ∈ a, A64 x) (hb : ∀ x ∈ b, A64 x) : ACalls Tryz.prog 4 [.agg (sysC s), .fsl (.slice (.int .u64)) a, .fsl (.slice (.int .u64)) b] [] (fun r _ => r = .bool true) := by
  refine okF Tryz.func4 (by kernel_rfl) ?_
  intro bl1
  refine callR [] (aAwake17 _) ?_
  refine LoadAt.mk 0 _ _ rfl rfl ?_
  refine callP [] (aSmall17 s _) (fun hsm => ?_) ?_
  rotate_left
  · exact .done rfl
  have hf := fit_of hsm hi ht
  refine callP [] (aFew17 a _) (fun hfa => ?_) ?_
  rotate_left
  · exact .done rfl
  refine callP [] (aFew17 b _) (fun hfb => ?_) ?_
  rotate_left
  · exact .done rfl
  have oa := ok_of hfa ha
  have ob := ok_of hfb hb
  refine LoadAt.mk 0 _ _ rfl rfl ?_
  by_cases c : checkS s = 0
  · have hg := good_of c
    cases hva : valsS s a with
    | true =>
      have va := vals_of hva oa
      have e0 := errS_ok hg va
      have vs := step_Vals hf hg va
      refine callR [] (acalls_eq (aSysStep s a _ hf oa) (by rw [e0])) ?_
      refine LoadAt.mk 0 _ _ rfl rfl ?_
      refine callR [] (acalls_eq (aRCheck17 s _ hf) (av_int c)) ?_
      refine LoadAt.mk 0 _ _ rfl rfl ?_
      refine callR [] (acalls_eq (aRValues17 s a _ oa) (av_bool hva)) ?_
      refine LoadAt.mk 0 _ _ rfl rfl ?_
      refine callR [] (aRStep17 s a _ hf hg va) ?_
      have hsol : solvesS s a = decide (a = stepS s a) := by unfold solvesS; rw [decide_eq_true e0, Bool.true_and]
      have hS1 := fun σ => acalls_eq (aSysSolves s a σ hf oa) (av_bool hsol)
      have hS2 := fun σ => aRSame17 a (stepS s a) σ oa
      have hS3 := fun σ => acalls_eq (aRSame17 (okG 0 (stepS s a)) (stepS s a) σ (vs.ok hg)) (av_bool (decide_eq_true rfl))
      generalize decide (a = stepS s a) = q at hS1 hS2
      refine .quiet (by kernel_rfl) ?_
      refine callQ [] (hS3 _) ?_
      refine LoadAt.mk 0 _ _ rfl rfl ?_
      refine callQ [] (hS1 _) ?_
      refine callQ [] (hS2 _) ?_
      refine bcond_split (fun c1 => ?_) (fun c1 => ?_)
      · have c1 : (q == q) = true := c1
        refine LoadAt.mk 0 _ _ rfl rfl ?_
        cases hvb : valsS s b with
        | true =>
          have vb := vals_of hvb ob
          have hbl : belowS s a b = allTwo (belowL s.what s.w) a b := by unfold belowS; rw [decide_eq_true c, hva, hvb]; rfl
          have hB1 := fun σ => acalls_eq (aSysBelow s a b σ hf oa ob) (av_bool hbl)
          have hB2 := fun σ => aRBelow17 s a b σ hg va vb
          generalize allTwo (belowL s.what s.w) a b = p at hB1 hB2
          refine callQ [] (hB1 _) ?_
          refine LoadAt.mk 0 _ _ rfl rfl ?_
          refine callQ [] (acalls_eq (aRValues17 s b _ ob) (av_bool hvb)) ?_
          refine LoadAt.mk 0 _ _ rfl rfl ?_
          refine callQ [] (hB2 _) ?_
          refine bcond_split (fun c3 => ?_) (fun c3 => ?_)
          · exact .done rfl
          · exact absurd c3 (by cases p <;> decide)
        | false =>
          have hbl : belowS s a b = false := by unfold belowS; rw [hvb]; simp
          refine callQ [] (acalls_eq (aSysBelow s a b _ hf oa ob) (av_bool hbl)) ?_
          refine LoadAt.mk 0 _ _ rfl rfl ?_
          refine callQ [] (acalls_eq (aRValues17 s b _ ob) (av_bool hvb)) ?_
          exact .done rfl
      · have c1 : (q == q) = false := c1
        exact absurd c1 (by cases q <;> decide)
    | false =>
      have e2 : errS s a = 2 := by unfold errS; rw [if_pos c, hva]; rfl
      have hbl : belowS s a b = false := by unfold belowS; rw [hva]; simp
      have hso : solvesS s a = false := by unfold solvesS; rw [e2]; rfl
      refine callR [] (acalls_eq (aSysStep s a _ hf oa) (by rw [e2])) ?_
      refine LoadAt.mk 0 _ _ rfl rfl ?_
      refine callR [] (acalls_eq (aRCheck17 s _ hf) (av_int c)) ?_
      refine LoadAt.mk 0 _ _ rfl rfl ?_
      refine callR [] (acalls_eq (aRValues17 s a _ oa) (av_bool hva)) ?_
      refine LoadAt.mk 0 _ _ rfl rfl ?_
      refine callR [] (acalls_eq (aSysBelow s a b _ hf oa ob) (av_bool hbl)) ?_
      refine LoadAt.mk 0 _ _ rfl rfl ?_
      refine callR [] (acalls_eq (aSysSolves s a _ hf oa) (av_bool hso)) ?_
      exact .done rfl
  · have e2 : errS s a = checkS s := if_neg c
    have hbl : belowS s a b = false := by unfold belowS; rw [decide_eq_false c]; rfl
    have hso : solvesS s a = false := by unfold solvesS; rw [e2, decide_eq_false c]; rfl
    have hC := fun σ => aRCheck17 s σ hf
    have hS : ∀ σ, ACalls Tryz.prog 22 [.agg (sysC s), .fsl (.slice (.int .u64)) a] σ (Ret (.tup [.fsl (.slice (.int .u64)) [], .int .i64 (checkS s)]) σ) := fun σ => acalls_eq (aSysStep s a σ hf oa) (by rw [e2]; unfold okG; rw [if_neg c]; rfl)
    clear e2
    generalize checkS s = e at c hC hS
    refine callR [] (hS _) ?_
    refine LoadAt.mk 0 _ _ rfl rfl ?_
    refine callR [] (hC _) ?_
    refine bcond_split (fun c2 => ?_) (fun c2 => ?_)
    · refine bcond_dec (p := e = e) (fun c3 => ?_) (fun c3 => absurd rfl c3)
      refine LoadAt.mk 0 _ _ rfl rfl ?_
      refine callR [] (acalls_eq (aSysBelow s a b _ hf oa ob) (av_bool hbl)) ?_
      refine LoadAt.mk 0 _ _ rfl rfl ?_
      refine callR [] (acalls_eq (aSysSolves s a _ hf oa) (av_bool hso)) ?_
      exact .done rfl
    · have c2 : (!decide (e = 0)) = false := c2
      exact absurd (by simpa using c2) c
theorem runL_Vals {s : Sy} (hf : Fit s) (hg : Good s) : ∀ (m : Nat) (a : List (List Int)) (k : Nat), Vals s a → Vals s (runL s m a k).1
  | 0, _, _, h => h
  | m + 1, a, k, h => by
    by_cases e : a = stepS s a
    · rw [runL_stop _ _ e]; exact h
    · rw [runL_go _ _ e]; exact runL_Vals hf hg m _ _ (step_Vals hf hg h)
theorem leastTells_walk (s : Sy) (k : Int) (hi : A64 s.init) (ht : ∀ t ∈ s.T, A64 t.1 ∧ A64 t.2.1) : ACalls Tryz.prog 5 [.agg (sysC s), .int .i64 k] [] (fun r _ => r = .bool true) := by
  refine okF Tryz.func5 (by kernel_rfl) ?_
  intro bl1
  refine callR [] (aAwake18 _) ?_
  refine LoadAt.mk 0 _ _ rfl rfl ?_
  refine callP [] (aSmall17 s _) (fun hsm => ?_) ?_
  rotate_left
  · exact .done rfl
  have hf := fit_of hsm hi ht
  refine LoadAt.mk 0 _ _ rfl rfl ?_
  by_cases c : checkS s = 0
  · have hg := good_of c
    have he := enough_eq hg
    obtain ⟨m, hm⟩ : ∃ m : Nat, enoughS s = m := ⟨(enoughS s).toNat, by omega⟩
    obtain ⟨j, hj⟩ : ∃ j : Nat, clipS s k = j := ⟨(clipS s k).toNat, by unfold clipS; omega⟩
    have hjm : j ≤ m := by unfold clipS at hj; omega
    have hv : ∀ mm : Nat, Vals s (runL s mm (bottomS s) 0).1 := fun mm => runL_Vals hf hg mm _ _ (bottom_Vals hg)
    obtain ⟨z, hz⟩ : ∃ z : Int, z = 0 := ⟨0, rfl⟩
    have hI : ∀ σ, ACalls Tryz.prog 29 [.agg (sysC s), .int .i64 k] σ (Ret (.tup [.fsl (.slice (.int .u64)) (runL s j (bottomS s) 0).1, .int .i64 z]) σ) := fun σ => acalls_eq (aIterK s k σ hf) (by rw [c, hj, Int.toNat_natCast, hz]; rfl)
    have hL : ∀ σ, ACalls Tryz.prog 30 [.agg (sysC s)] σ (Ret (.tup [.fsl (.slice (.int .u64)) (runL s m (bottomS s) 0).1, .int .i64 ((runL s m (bottomS s) 0).2 : Nat), .int .i64 z]) σ) := fun σ => acalls_eq (aSolve s σ hf) (by rw [c]; unfold solS; rw [hm, Int.toNat_natCast, hz]; rfl)
    have hE := fun σ => acalls_eq (aREnough s σ) (av_int (he.1.trans hm))
    have hSj := fun σ => aRSolve18 s j σ hf hg (by omega)
    have hSm := fun σ => aRSolve18 s m σ hf hg (by omega)
    have hclip : (if (m : Int) < (if k < 0 then 0 else k) then (m : Int) else (if k < 0 then 0 else k)) = j := by
      rw [clip_eq k m (by omega)]
      unfold clipS at hj
      rw [hm] at hj
      exact hj
    rw [← hclip] at hSj
    have hX := hv j
    have hY := hv m
    generalize runL s j (bottomS s) 0 = X at hI hSj hX
    generalize runL s m (bottomS s) 0 = Y at hL hSm hY
    clear hv
    refine callR [] (hI _) ?_
    refine LoadAt.mk 0 _ _ rfl rfl ?_
    refine callR [] (hL _) ?_
    refine LoadAt.mk 0 _ _ rfl rfl ?_
    refine callR [] (acalls_eq (aRCheck17 s _ hf) (av_int c)) ?_
    refine .quiet (by kernel_rfl) ?_
    refine LoadAt.mk 0 _ _ rfl rfl ?_
    refine LoadAt.mk 0 _ _ rfl rfl ?_
    refine callQ [] (hE _) ?_
    refine callQ [] (hSj _) ?_
    refine .quiet (by kernel_rfl) ?_
    refine LoadAt.mk 0 _ _ rfl rfl ?_
    refine LoadAt.mk 0 _ _ rfl rfl ?_
    refine callQ [] (hE _) ?_
    refine callQ [] (hSm _) ?_
    refine bcond_dec (p := z = 0) (fun _ => ?_) (fun h => absurd hz h)
    refine bcond_dec (p := z = 0) (fun _ => ?_) (fun h => absurd hz h)
    refine bcond_dec (p := (Y.2 : Int) = Y.2) (fun _ => ?_) (fun h => absurd rfl h)
    refine callR [] (acalls_eq (aRSame17 X.1 X.1 _ (hX.ok hg)) (av_bool (decide_eq_true rfl))) ?_
    refine callR [] (acalls_eq (aRSame17 Y.1 Y.1 _ (hY.ok hg)) (av_bool (decide_eq_true rfl))) ?_
    exact .done rfl
  · have hC := fun σ => aRCheck17 s σ hf
    have hI : ∀ σ, ACalls Tryz.prog 29 [.agg (sysC s), .int .i64 k] σ (Ret (.tup [.fsl (.slice (.int .u64)) [], .int .i64 (checkS s)]) σ) := fun σ => acalls_eq (aIterK s k σ hf) (by unfold okG; rw [if_neg c]; rfl)
    have hS : ∀ σ, ACalls Tryz.prog 30 [.agg (sysC s)] σ (Ret (.tup [.fsl (.slice (.int .u64)) [], .int .i64 0, .int .i64 (checkS s)]) σ) := fun σ => acalls_eq (aSolve s σ hf) (by unfold okG; rw [if_neg c, if_neg c]; rfl)
    generalize checkS s = e at c hC hI hS
    refine callR [] (hI _) ?_
    refine LoadAt.mk 0 _ _ rfl rfl ?_
    refine callR [] (hS _) ?_
    refine LoadAt.mk 0 _ _ rfl rfl ?_
    refine callR [] (hC _) ?_
    refine bcond_split (fun c2 => ?_) (fun c2 => ?_)
    · refine bcond_dec (p := e = e) (fun c3 => ?_) (fun c3 => absurd rfl c3)
      refine bcond_dec (p := e = e) (fun c3 => ?_) (fun c3 => absurd rfl c3)
      exact .done rfl
    · have c2 : (!decide (e = 0)) = false := c2
      exact absurd (by simpa using c2) c
theorem outsE_bad {s : Sy} (a : List (List Int)) (h : ¬ checkS s = 0) : outsE s a = checkS s := if_neg h
set_option maxHeartbeats 4000000 in
theorem leastOuts_walk (s : Sy) (a b : List (List Int)) (hi : A64 s.init) (ht : ∀ t ∈ s.T, A64 t.1 ∧ A64 t.2.1) (ha : ∀ x ∈ a, A64 x) (hb : ∀ x ∈ b, A64 x) : ACalls Tryz.prog 6 [.agg (sysC s), .fsl (.slice (.int .u64)) a, .fsl (.slice (.int .u64)) b] [] (fun r _ => r = .bool true) := by
  refine okF Tryz.func6 (by kernel_rfl) ?_
  intro bl1
  refine callR [] (aAwake18 _) ?_
  refine LoadAt.mk 0 _ _ rfl rfl ?_
  refine callP [] (aSmall17 s _) (fun hsm => ?_) ?_
  rotate_left
  · exact .done rfl
  have hf := fit_of hsm hi ht
  refine callP [] (aFew17 a _) (fun hfa => ?_) ?_
  rotate_left
  · exact .done rfl
  refine callP [] (aFew17 b _) (fun hfb => ?_) ?_
  rotate_left
  · exact .done rfl
  have oa := ok_of hfa ha
  have ob := ok_of hfb hb
  refine LoadAt.mk 0 _ _ rfl rfl ?_
  have hq1 := fun σ => aLSame a b σ oa
  have hq2 := fun σ => aRSame17 a b σ oa
  generalize decide (a = b) = q at hq1 hq2
  by_cases c : checkS s = 0
  · have hg := good_of c
    cases hva : valsS s a with
    | true =>
      have va := vals_of hva oa
      have e0 : outsE s a = 0 := by unfold outsE; rw [if_pos c, if_pos hva]
      refine callR [] (acalls_eq (aOuts s a _ hf oa) (by rw [e0])) ?_
      refine callR [] (hq1 _) ?_
      refine callR [] (hq2 _) ?_
      refine bcond_split (fun c3 => ?_) (fun c3 => ?_)
      · exact absurd c3 (by cases q <;> decide)
      refine LoadAt.mk 0 _ _ rfl rfl ?_
      refine callR [] (acalls_eq (aRCheck17 s _ hf) (av_int c)) ?_
      refine LoadAt.mk 0 _ _ rfl rfl ?_
      refine callR [] (acalls_eq (aRValues17 s a _ oa) (av_bool hva)) ?_
      have hal := va.len
      have hn2 := hg.n2
      have hn1 := hg.n1
      have hO : (outsS s a).length = s.n.toNat := by unfold outsS; simp
      have hOg : ∀ k (h : k < a.length), (outsS s a)[k]? = some (outS s a[k] k) := fun k h => by
        unfold outsS
        rw [List.getElem?_map, List.getElem?_range (by omega)]
        show some (outS s (a.getD k []) k) = _
        rw [List.getD_eq_getElem?_getD, List.getElem?_eq_getElem h]; rfl
      have hO0 : okG 0 (outsS s a) = outsS s a := rfl
      rw [hO0]
      generalize outsS s a = O at hO hOg
      refine loopS (S := Nat) (fun k => [(1, .fsl (.slice (.int .u64)) a), (3, .ptr bl1 0), (7, .fsl (.slice (.int .u64)) O), (8, .int .i64 0), (63, .int .i64 O.length), (64, .int .i64 k)]) (fun _ => (bl1, sysC s) :: []) (fun k => k ≤ O.length) (fun k => O.length - k) 0 ⟨Nat.zero_le _, ⟨rfl, rfl, rfl, rfl, rfl, rfl, trivial⟩, rfl⟩ ?_
      intro k t hk0
      have hk : k ≤ O.length := hk0
      clear hk0
      refine bcond_dec (fun hlt => ?_) (fun hge => ?_)
      · have hlt : k < O.length := by have hlt : (k : Int) < O.length := hlt; omega
        have hlt2 : k < a.length := by omega
        have hOk : O[k] = outS s a[k] k := by
          have := hOg k hlt2
          rw [List.getElem?_eq_getElem hlt] at this
          exact Option.some.inj this
        have hxa := va.val _ (List.getElem_mem hlt2)
        have hR := fun σ => aROut17 s k a[k] σ hf hg (by omega) hxa
        have hov := out_val hf hg hxa.w64 hxa.v (v := k) (by omega)
        rw [← hOk] at hR hov
        have hss : okLL [O[k]] := ⟨by show 1 ≤ 100000; omega, fun x hx => by rw [List.mem_singleton.1 hx]; exact ⟨hov.2, Nat.le_trans (val_short hov.1) (by decide)⟩⟩
        refine .each (by kernel_rfl) ?_
        refine bcond_dec (p := (a.length : Int) ≤ k) (fun h => absurd h (by omega)) (fun _ => ?_)
        repeat' first
          | refine And.intro ?_ ?_
          | refine With.mk rfl (IdxF.mk O[k] (by omega) (get_some hlt) ?_)
          | refine With.mk rfl (IdxF.mk a[k] (by omega) (get_some hlt2) ?_)
          | refine LoadAt.mk 0 _ _ rfl rfl ?_
          | refine LoadAt.mk 1 _ _ rfl rfl ?_
          | refine callR [] (hR _) ?_
          | intro b1
        all_goals
          first
            | refine .frz 1 _ 0 1 1 _ (.slice (.int .u64)) ([O[k]] : List (List Int)) rfl rfl ⟨rfl, rfl, by decide⟩ (frz_cons .here (frz_cons (.refl _) frz_nil)) ?_
            | refine .frz 0 _ 0 1 1 _ (.slice (.int .u64)) ([O[k]] : List (List Int)) rfl rfl ⟨rfl, rfl, by decide⟩ (frz_cons .here (frz_cons (.refl _) frz_nil)) ?_
          refine .frz 0 _ 0 1 1 _ (.slice (.int .u64)) ([O[k]] : List (List Int)) rfl rfl ⟨rfl, rfl, by decide⟩ (frz_cons (.refl _) (frz_cons .here frz_nil)) ?_
          refine callR [] (acalls_eq (aRSame17 [O[k]] [O[k]] _ hss) (av_bool (decide_eq_true rfl))) ?_
          exact nextS (k + 1) (by show O.length - (k + 1) < O.length - k; omega) hlt ⟨rfl, rfl, rfl, rfl, rfl, inc64 (by omega), trivial⟩ (.refl _)
      · have hge : k = O.length := by have hge : ¬ (k : Int) < O.length := hge; omega
        subst hge
        refine LoadAt.mk 0 _ _ rfl rfl ?_
        refine bcond_dec (p := (O.length : Int) = s.n) (fun _ => ?_) (fun h => absurd (by omega) h)
        exact .done rfl
    | false =>
      have e2 : outsE s a = 2 := by unfold outsE; rw [if_pos c, hva]; rfl
      refine callR [] (acalls_eq (aOuts s a _ hf oa) (by rw [e2])) ?_
      refine callR [] (hq1 _) ?_
      refine callR [] (hq2 _) ?_
      refine bcond_split (fun c3 => ?_) (fun c3 => ?_)
      · exact absurd c3 (by cases q <;> decide)
      refine LoadAt.mk 0 _ _ rfl rfl ?_
      refine callR [] (acalls_eq (aRCheck17 s _ hf) (av_int c)) ?_
      refine LoadAt.mk 0 _ _ rfl rfl ?_
      refine callR [] (acalls_eq (aRValues17 s a _ oa) (av_bool hva)) ?_
      exact .done rfl
  · have hC := fun σ => aRCheck17 s σ hf
    have hS : ∀ σ, ACalls Tryz.prog 33 [.agg (sysC s), .fsl (.slice (.int .u64)) a] σ (Ret (.tup [.fsl (.slice (.int .u64)) [], .int .i64 (checkS s)]) σ) := fun σ => acalls_eq (aOuts s a σ hf oa) (by rw [outsE_bad a c]; unfold okG; rw [if_neg c]; rfl)
    generalize checkS s = e at c hC hS
    refine callR [] (hS _) ?_
    refine callR [] (hq1 _) ?_
    refine callR [] (hq2 _) ?_
    refine bcond_split (fun c3 => ?_) (fun c3 => ?_)
    · exact absurd c3 (by cases q <;> decide)
    refine LoadAt.mk 0 _ _ rfl rfl ?_
    refine callR [] (hC _) ?_
    refine bcond_split (fun c2 => ?_) (fun c2 => ?_)
    · refine bcond_dec (p := e = e) (fun c3 => ?_) (fun c3 => absurd rfl c3)
      exact .done rfl
    · have c2 : (!decide (e = 0)) = false := c2
      exact absurd (by simpa using c2) c
end Go.Proofs.YtelpeagiapapaaaGreat
