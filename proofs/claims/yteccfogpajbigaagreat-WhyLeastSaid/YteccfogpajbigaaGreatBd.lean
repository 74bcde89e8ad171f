/-
  How much a system takes: queue.MostJoins, MostEvals; bound.Joins, Evals, Work, Picks; soughref32.Of; soughref35.
-/
import Derived.Test.YteccfogpajbigaaGreatZg
import Derived.Test.YteccfogpajbigaaGreatYi
namespace Go.Proofs.YteccfogpajbigaaGreat
open Go.RowKit
set_option maxRecDepth 100000
def joinsS (s : Sy) : Int := if checkS s = 0 then IntKind.i64.wrap (s.n * heightL s.what s.w) else 0
def evalsS (s : Sy) : Int := if checkS s = 0 then IntKind.i64.wrap (s.n + IntKind.i64.wrap (((sortedE s.edges).length : Int) * heightL s.what s.w)) else 0
theorem joinsS0 {s : Sy} (h : checkS s = 0) : IntKind.i64.wrap (s.n * heightL s.what s.w) = joinsS s := (if_pos h).symm
theorem joinsS1 {s : Sy} (h : ¬ checkS s = 0) : 0 = joinsS s := (if_neg h).symm
theorem evalsS0 {s : Sy} (h : checkS s = 0) : IntKind.i64.wrap (s.n + IntKind.i64.wrap (((sortedE s.edges).length : Int) * heightL s.what s.w)) = evalsS s := (if_pos h).symm
theorem evalsS1 {s : Sy} (h : ¬ checkS s = 0) : 0 = evalsS s := (if_neg h).symm
theorem aMostJoins (s : Sy) (σ : Hp) (hf : Fit s) : ACalls Tryz.prog 33 [.agg (sysC s)] σ (Ret (.int .i64 (joinsS s)) σ) := by
  refine okF Tryz.func33 (by kernel_rfl) ?_
  intro bl1
  refine LoadAt.mk 0 _ _ rfl rfl ?_
  refine callR [] (aSysCheck s _ hf) ?_
  refine bcond_split (fun c2 => ?_) (fun c2 => ?_)
  · have c2 : ¬ (checkS s = 0) := by simpa using c2
    exact .drop 0 1 (.done ⟨av_int (joinsS1 (by assumption)), rfl⟩)
  · have c2 : checkS s = 0 := by simpa using c2
    refine .quiet (by kernel_rfl) ?_
    refine LoadAt.mk 0 _ _ rfl rfl ?_
    refine LoadAt.mk 0 _ _ rfl rfl ?_
    refine LoadAt.mk 0 _ _ rfl rfl ?_
    refine callQ [] (aLHeight _ _ _) ?_
    exact .drop 0 1 (.done ⟨av_int (joinsS0 (by assumption)), rfl⟩)
theorem aMostEvals (s : Sy) (σ : Hp) (hf : Fit s) : ACalls Tryz.prog 34 [.agg (sysC s)] σ (Ret (.int .i64 (evalsS s)) σ) := by
  refine okF Tryz.func34 (by kernel_rfl) ?_
  intro bl1
  refine LoadAt.mk 0 _ _ rfl rfl ?_
  refine callR [] (aSysCheck s _ hf) ?_
  refine bcond_split (fun c2 => ?_) (fun c2 => ?_)
  · have c2 : ¬ (checkS s = 0) := by simpa using c2
    exact .drop 0 1 (.done ⟨av_int (evalsS1 (by assumption)), rfl⟩)
  · have c2 : checkS s = 0 := by simpa using c2
    refine .quiet (by kernel_rfl) ?_
    refine LoadAt.mk 0 _ _ rfl rfl ?_
    refine LoadAt.mk 0 _ _ rfl rfl ?_
    refine callQ [] (aFlowSorted s.edges _ (by have := hf.elen; omega)) ?_
    refine LoadAt.mk 0 _ _ rfl rfl ?_
    refine LoadAt.mk 0 _ _ rfl rfl ?_
    refine callQ [] (aLHeight _ _ _) ?_
    exact .drop 0 1 (.done ⟨av_int (evalsS0 (by assumption)), rfl⟩)
def sumW (l : List Int) : Int := l.foldl (fun a x => IntKind.i64.wrap (a + x)) 0
theorem sumW_succ {l : List Int} {k : Nat} (h : k < l.length) : sumW (l.take (k + 1)) = IntKind.i64.wrap (sumW (l.take k) + l[k]) := by
  unfold sumW; rw [List.take_succ_eq_append_getElem h, List.foldl_append]; rfl
theorem inC_read {l : List Int} {k : Nat} (h : k < l.length) : readAs ⟨.int .i64, 1, 8, [.int .i64 0]⟩ (inC l) (0 + ((k : Int)).toNat * 1) = some (.int .i64 l[k]) := by
  show (inC l)[_]? = _
  unfold inC
  rw [Int.toNat_natCast, Nat.mul_one, Nat.zero_add, List.getElem?_map, List.getElem?_eq_getElem h]; rfl
/-- How many words a value has, one at least. -/
def wM (s : Sy) : Int := if wordsL s.what s.w < 1 then 1 else wordsL s.what s.w
def w1 (s : Sy) : Int := IntKind.i64.wrap (evalsS s * IntKind.i64.wrap (wM s + 2))
def w2 (s : Sy) (k : Int) : Int := IntKind.i64.wrap (6 * IntKind.i64.wrap (IntKind.i64.wrap (2 * evalsS s) + k))
def w3 (s : Sy) : Int := IntKind.i64.wrap (IntKind.i64.wrap (IntKind.i64.wrap (1 + heightL s.what s.w) * ((sortedE s.edges).length : Int)) * wM s)
def w4 (s : Sy) (k : Int) : Int := IntKind.i64.wrap (IntKind.i64.wrap (s.n * heightL s.what s.w) * IntKind.i64.wrap (IntKind.i64.wrap (2 * k) + 5))
def workS (s : Sy) (k : Int) : Int := sumW [w1 s, w2 s k, w3 s, w4 s k]
/-- What is wrong with a system, or with how many workers there are. -/
def ofE (s : Sy) (k : Int) : Int := if checkS s = 0 then (if 1 ≤ k ∧ k ≤ 64 then 0 else 1) else checkS s
theorem ofE1 {s : Sy} {k : Int} (h : ¬ checkS s = 0) : checkS s = ofE s k := (if_neg h).symm
theorem ofE2 {s : Sy} {k : Int} (h : checkS s = 0) (hk : ¬ (1 ≤ k ∧ k ≤ 64)) : 1 = ofE s k := by unfold ofE; rw [if_pos h, if_neg hk]
theorem ofE3 {s : Sy} {k : Int} (h : checkS s = 0) (hk : 1 ≤ k ∧ k ≤ 64) : 0 = ofE s k := by unfold ofE; rw [if_pos h, if_pos hk]
def okI (e n : Int) : Int := if e = 0 then n else 0
theorem of_bad {s : Sy} {k n : Int} (h : ¬ checkS s = 0) : AV.tup [.int .i64 0, .int .i64 (checkS s)] = .tup [.int .i64 (okI (ofE s k) n), .int .i64 (ofE s k)] := by rw [← ofE1 h, okI, if_neg h]
theorem of_far {s : Sy} {k n : Int} (h : checkS s = 0) (hk : ¬ (1 ≤ k ∧ k ≤ 64)) : AV.tup [.int .i64 0, .int .i64 1] = .tup [.int .i64 (okI (ofE s k) n), .int .i64 (ofE s k)] := by rw [← ofE2 h hk]; rfl
theorem of_ok {s : Sy} {k n : Int} (h : checkS s = 0) (hk : 1 ≤ k ∧ k ≤ 64) : AV.tup [.int .i64 n, .int .i64 0] = .tup [.int .i64 (okI (ofE s k) n), .int .i64 (ofE s k)] := by rw [← ofE3 h hk]; rfl
def pickN (s : Sy) (w k : Int) : Int := if ofE s w = 0 then (if 1 ≤ k ∧ k ≤ 4096 then IntKind.i64.wrap (k * IntKind.i64.wrap (workS s w + 12)) else 0) else 0
def pickE (s : Sy) (w k : Int) : Int := if ofE s w = 0 then (if 1 ≤ k ∧ k ≤ 4096 then 0 else 1) else ofE s w
theorem pk_bad {s : Sy} {w k : Int} (h : ¬ ofE s w = 0) : AV.tup [.int .i64 0, .int .i64 (ofE s w)] = .tup [.int .i64 (pickN s w k), .int .i64 (pickE s w k)] := by unfold pickN pickE; rw [if_neg h, if_neg h]
theorem pk_far {s : Sy} {w k : Int} (h : ofE s w = 0) (hk : ¬ (1 ≤ k ∧ k ≤ 4096)) : AV.tup [.int .i64 0, .int .i64 1] = .tup [.int .i64 (pickN s w k), .int .i64 (pickE s w k)] := by unfold pickN pickE; rw [if_pos h, if_pos h, if_neg hk, if_neg hk]
theorem pk_ok {s : Sy} {w k : Int} (h : ofE s w = 0) (hk : 1 ≤ k ∧ k ≤ 4096) : AV.tup [.int .i64 (IntKind.i64.wrap (k * IntKind.i64.wrap (okI (ofE s w) (workS s w) + 12))), .int .i64 0] = .tup [.int .i64 (pickN s w k), .int .i64 (pickE s w k)] := by unfold pickN pickE okI; rw [if_pos h, if_pos h, if_pos h, if_pos hk, if_pos hk]
def layC (s : Sy) (k : Int) : List AV := [.int .i64 (okI (ofE s k) s.what), .int .i64 (okI (ofE s k) (wordsL s.what s.w)), .int .i64 (okI (ofE s k) s.n), .int .i64 (okI (ofE s k) k)]
theorem of32_bad {s : Sy} {k : Int} (h : ¬ checkS s = 0) : AV.tup [.agg [.int .i64 0, .int .i64 0, .int .i64 0, .int .i64 0], .int .i64 (checkS s)] = .tup [.agg (layC s k), .int .i64 (ofE s k)] := by unfold layC okI; rw [← ofE1 h]; simp only [if_neg h]
theorem of32_far {s : Sy} {k : Int} (h : checkS s = 0) (hk : ¬ (1 ≤ k ∧ k ≤ 64)) : AV.tup [.agg [.int .i64 0, .int .i64 0, .int .i64 0, .int .i64 0], .int .i64 1] = .tup [.agg (layC s k), .int .i64 (ofE s k)] := by unfold layC okI; rw [← ofE2 h hk]; rfl
theorem of32_ok {s : Sy} {k : Int} (h : checkS s = 0) (hk : 1 ≤ k ∧ k ≤ 64) : AV.tup [.agg [.int .i64 s.what, .int .i64 (wordsL s.what s.w), .int .i64 s.n, .int .i64 k], .int .i64 0] = .tup [.agg (layC s k), .int .i64 (ofE s k)] := by unfold layC okI; rw [← ofE3 h hk]; rfl
theorem wrap_zero_add (a : Int) : IntKind.i64.wrap (0 + IntKind.i64.wrap a) = IntKind.i64.wrap a := by
  simp only [IntKind.wrap_i64]; omega
theorem work_eq (s : Sy) (k : Int) : IntKind.i64.wrap (IntKind.i64.wrap (IntKind.i64.wrap (w1 s + w2 s k) + w3 s) + w4 s k) = workS s k := by
  show _ = IntKind.i64.wrap (IntKind.i64.wrap (IntKind.i64.wrap (IntKind.i64.wrap (0 + w1 s) + w2 s k) + w3 s) + w4 s k)
  rw [show IntKind.i64.wrap (0 + w1 s) = w1 s from wrap_zero_add _]
end Go.Proofs.YteccfogpajbigaaGreat
