/-
  PathsAlong and PathsBelow, walked.
-/
import Derived.Test.YtggcpiddnhipiaaGreatZd
import Derived.Test.YtggcpiddnhipiaaGreatSameTest
namespace Go.Proofs.YtggcpiddnhipiaaGreat
open Go.RowKit
set_option maxRecDepth 100000
theorem gzL {l : List (List Int)} {j : Nat} (h : j < l.length) : l[((j : Int)).toNat]? = some (l.getD j []) := by
  rw [Int.toNat_natCast, List.getD_eq_getElem?_getD, List.getElem?_eq_getElem h]; rfl
theorem pathsAlong_walk (s : Sy) (way : List Int) (hi : A64 s.init) (ht : ∀ t ∈ s.T, A64 t.1 ∧ A64 t.2.1) : ACalls Tryz.prog 3 [.agg (sysC s), .fsl (.int .i64) way] [] (fun r _ => r = .bool true) := by
  refine okF Tryz.func3 (by kernel_rfl) ?_
  intro bl1
  refine callR [] (aAwake20 _) ?_
  refine LoadAt.mk 0 _ _ rfl rfl ?_
  refine callP [] (aSmall17 s _) (fun hsm => ?_) ?_
  rotate_left
  · exact .done rfl
  have hf := fit_of hsm hi ht
  refine bcond_dec (p := 30 < (way.length : Int)) (fun hl => ?_) (fun hl => ?_)
  · exact .done rfl
  have hl : way.length ≤ 100000 := by omega
  refine LoadAt.mk 0 _ _ rfl rfl ?_
  by_cases c : checkS s = 0
  · have hg := good_of c
    cases hw : wayB s way with
    | true =>
      have e : isE s way = 0 := by unfold isE; rw [if_pos c, hw]; rfl
      have hsl := val_short (along_Val hf hg hw (way.length - 1) (by omega)).v
      refine callR [] (acalls_eq (aPathAlong s way _ hf hl) (by rw [e, okL_pos rfl])) ?_
      refine LoadAt.mk 0 _ _ rfl rfl ?_
      refine callR [] (acalls_eq (aRCheck17 s _ hf) (av_int c)) ?_
      refine LoadAt.mk 0 _ _ rfl rfl ?_
      refine callR [] (acalls_eq (aRIs20 s way _ hf hg hl) (av_bool hw)) ?_
      refine LoadAt.mk 0 _ _ rfl rfl ?_
      refine callR [] (acalls_eq (aPathIs s way _ hf hl) (av_bool ((is_way c).symm.trans hw))) ?_
      refine LoadAt.mk 0 _ _ rfl rfl ?_
      refine callR [] (aRAlong20 s way _ hf hg hw hl) ?_
      refine callR [] (acalls_eq (same10 (alongS s way) (alongS s way) _ (by unfold alongS; omega)) (av_bool (decide_eq_true rfl))) ?_
      exact .done rfl
    | false =>
      have e : isE s way = 1 := by unfold isE; rw [if_pos c, hw]; rfl
      refine callR [] (acalls_eq (aPathAlong s way _ hf hl) (by rw [e, okL_neg (by decide)])) ?_
      refine LoadAt.mk 0 _ _ rfl rfl ?_
      refine callR [] (acalls_eq (aRCheck17 s _ hf) (av_int c)) ?_
      refine LoadAt.mk 0 _ _ rfl rfl ?_
      refine callR [] (acalls_eq (aRIs20 s way _ hf hg hl) (av_bool hw)) ?_
      refine LoadAt.mk 0 _ _ rfl rfl ?_
      refine callR [] (acalls_eq (aPathIs s way _ hf hl) (av_bool ((is_way c).symm.trans hw))) ?_
      exact .done rfl
  · have hA : ∀ σ, ACalls Tryz.prog 13 [.agg (sysC s), .fsl (.int .i64) way] σ (Ret (.tup [.fsl (.int .u64) ([] : List Int), .int .i64 (checkS s)]) σ) := fun σ => acalls_eq (aPathAlong s way σ hf hl) (by rw [show isE s way = checkS s from if_neg c, okL_neg c])
    have hI : ∀ σ, ACalls Tryz.prog 15 [.agg (sysC s), .fsl (.int .i64) way] σ (Ret (.bool false) σ) := fun σ => acalls_eq (aPathIs s way σ hf hl) (av_bool (is_bad c).symm)
    have hC := fun σ => aRCheck17 s σ hf
    generalize checkS s = e at c hA hC
    refine callR [] (hA _) ?_
    refine LoadAt.mk 0 _ _ rfl rfl ?_
    refine callR [] (hC _) ?_
    refine bcond_split (fun c2 => ?_) (fun c2 => ?_)
    · refine bcond_dec (p := e = e) (fun c3 => ?_) (fun c3 => absurd rfl c3)
      refine LoadAt.mk 0 _ _ rfl rfl ?_
      refine callR [] (hI _) ?_
      exact .done rfl
    · have c2 : (!decide (e = 0)) = false := c2
      exact absurd (by simpa using c2) c
theorem pathsBelow_walk (s : Sy) (way : List Int) (hi : A64 s.init) (ht : ∀ t ∈ s.T, A64 t.1 ∧ A64 t.2.1) : ACalls Tryz.prog 5 [.agg (sysC s), .fsl (.int .i64) way] [] (fun r _ => r = .bool true) := by
  refine okF Tryz.func5 (by kernel_rfl) ?_
  intro bl1
  refine callR [] (aAwake20 _) ?_
  refine LoadAt.mk 0 _ _ rfl rfl ?_
  refine callP [] (aSmall17 s _) (fun hsm => ?_) ?_
  rotate_left
  · exact .done rfl
  have hf := fit_of hsm hi ht
  refine bcond_dec (p := 30 < (way.length : Int)) (fun hl => ?_) (fun hl => ?_)
  · exact .done rfl
  have hl : way.length ≤ 100000 := by omega
  refine LoadAt.mk 0 _ _ rfl rfl ?_
  refine callB [] (aPathIs s way _ hf hl) (fun hw => ?_) (fun _ => ?_)
  rotate_left
  · exact .done rfl
  unfold isS at hw
  obtain ⟨c, hw⟩ : checkS s = 0 ∧ wayB s way = true := by rw [Bool.and_eq_true, decide_eq_true_eq] at hw; exact hw
  have hg := good_of c
  obtain ⟨q1, q2, q3, q4⟩ := sol_least hf hg
  have h0 : 0 < way.length := by
    have hw := hw
    unfold wayB at hw
    simp only [Bool.and_eq_true, decide_eq_true_eq] at hw
    exact hw.1.1
  have e : isE s way = 0 := by unfold isE; rw [if_pos c, hw]; rfl
  have hle := along_below hf hg q1 q2 hw (way.length - 1) (by omega)
  have hn := way_node hw (i := way.length - 1) (by omega)
  have hn2 := hg.n2
  obtain ⟨v, hv⟩ : ∃ v : Nat, way.getD (way.length - 1) 0 = v := ⟨(way.getD (way.length - 1) 0).toNat, by omega⟩
  rw [hv, Int.toNat_natCast] at hle
  have hvx := q1.get (i := v) (by omega)
  have hva := along_Val hf hg hw (way.length - 1) (by omega)
  have hS := fun σ => aSolveOk s σ hf hg
  have hlen : v < (solS s).1.length := by have := q1.len; omega
  generalize (solS s).1 = X at hle hvx hS hlen
  generalize (solS s).2 = K at hS
  refine LoadAt.mk 0 _ _ rfl rfl ?_
  refine callR [] (acalls_eq (aPathAlong s way _ hf hl) (by rw [e, okL_pos rfl])) ?_
  refine LoadAt.mk 0 _ _ rfl rfl ?_
  refine callR [] (hS _) ?_
  refine .quiet (by kernel_rfl) ?_
  have hw1 : IntKind.i64.wrap ((way.length : Int) - 1) = ((way.length - 1 : Nat) : Int) := by rw [w64 (by omega)]; omega
  refine LoadAt.mk 0 _ _ rfl rfl ?_
  refine LoadAt.mk 0 _ _ rfl rfl ?_
  refine With.mk rfl (IdxF.mk (v : Int) (Int.le_trans (Int.natCast_nonneg _) (Int.le_of_eq hw1.symm)) ((gz (by omega) hw1).trans (congrArg some hv)) ?_)
  refine With.mk rfl (IdxF.mk (X.getD v []) (by omega) (gzL hlen) ?_)
  refine callQ [] (acalls_eq (aLBelow s.what s.w (alongS s way) (X.getD v []) _ hva.w64 hvx.w64 (by have := val_short hva.v; unfold alongS; omega) (by have := val_short hvx.v; omega)) (av_bool ((below_le hva.w64 hvx.w64).2 hle))) ?_
  exact .done rfl
end Go.Proofs.YtggcpiddnhipiaaGreat
