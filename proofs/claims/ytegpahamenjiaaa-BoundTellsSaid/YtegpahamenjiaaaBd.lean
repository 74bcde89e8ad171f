/-
  How much a system takes: queue.MostJoins, MostEvals; bound.Joins, Evals, Work, Picks; soughref32.Of; soughref35.
-/
import Derived.Test.YtegpahamenjiaaaZg
import Derived.Test.YtegpahamenjiaaaYi
namespace Go.Proofs.Ytegpahamenjiaaa
open Go.RowKit
set_option maxRecDepth 100000
def joinsS (s : Sy) : Int := if checkS s = 0 then IntKind.i64.wrap (s.n * heightL s.what s.w) else 0
def evalsS (s : Sy) : Int := if checkS s = 0 then IntKind.i64.wrap (s.n + IntKind.i64.wrap (((sortedE s.edges).length : Int) * heightL s.what s.w)) else 0
theorem joinsS0 {s : Sy} (h : checkS s = 0) : IntKind.i64.wrap (s.n * heightL s.what s.w) = joinsS s := (if_pos h).symm
theorem joinsS1 {s : Sy} (h : ¬ checkS s = 0) : 0 = joinsS s := (if_neg h).symm
theorem evalsS0 {s : Sy} (h : checkS s = 0) : IntKind.i64.wrap (s.n + IntKind.i64.wrap (((sortedE s.edges).length : Int) * heightL s.what s.w)) = evalsS s := (if_pos h).symm
theorem evalsS1 {s : Sy} (h : ¬ checkS s = 0) : 0 = evalsS s := (if_neg h).symm
theorem aMostJoins (s : Sy) (σ : Hp) (hf : Fit s) : ACalls Try.prog 23 [.agg (sysC s)] σ (Ret (.int .i64 (joinsS s)) σ) := by
  refine okF Try.func23 (by kernel_rfl) ?_
  intro bl1
  refine LoadAt.mk 0 _ _ rfl rfl ?_
  refine callR [] (aSysCheck s _ hf) ?_
  refine bcond_split (fun c2 => ?_) (fun c2 => ?_)
  · have c2 : ¬ (checkS s = 0) := by simpa using c2
    exact .drop 0 1 (.done ⟨av_int (joinsS1 (by assumption)), rfl⟩)
  · have c2 : checkS s = 0 := by simpa using c2
    refine .quiet (by kernel_rfl) ?_
    refine LoadAt.mk 0 _ _ rfl rfl ?_
    refine LoadAt.mk 0 _ _ rfl rfl ?_
    refine LoadAt.mk 0 _ _ rfl rfl ?_
    refine callQ [] (aLHeight _ _ _) ?_
    exact .drop 0 1 (.done ⟨av_int (joinsS0 (by assumption)), rfl⟩)
theorem aMostEvals (s : Sy) (σ : Hp) (hf : Fit s) : ACalls Try.prog 19 [.agg (sysC s)] σ (Ret (.int .i64 (evalsS s)) σ) := by
  refine okF Try.func19 (by kernel_rfl) ?_
  intro bl1
  refine LoadAt.mk 0 _ _ rfl rfl ?_
  refine callR [] (aSysCheck s _ hf) ?_
  refine bcond_split (fun c2 => ?_) (fun c2 => ?_)
  · have c2 : ¬ (checkS s = 0) := by simpa using c2
    exact .drop 0 1 (.done ⟨av_int (evalsS1 (by assumption)), rfl⟩)
  · have c2 : checkS s = 0 := by simpa using c2
    refine .quiet (by kernel_rfl) ?_
    refine LoadAt.mk 0 _ _ rfl rfl ?_
    refine LoadAt.mk 0 _ _ rfl rfl ?_
    refine callQ [] (aFlowSorted s.edges _ (by have := hf.elen; omega)) ?_
    refine LoadAt.mk 0 _ _ rfl rfl ?_
    refine LoadAt.mk 0 _ _ rfl rfl ?_
    refine callQ [] (aLHeight _ _ _) ?_
    exact .drop 0 1 (.done ⟨av_int (evalsS0 (by assumption)), rfl⟩)
theorem aBJoins (s : Sy) (σ : Hp) (hf : Fit s) : ACalls Try.prog 10 [.agg (sysC s)] σ (Ret (.int .i64 (joinsS s)) σ) := by
  refine okF Try.func10 (by kernel_rfl) ?_
  intro bl1
  refine LoadAt.mk 0 _ _ rfl rfl ?_
  refine callR [] (aMostJoins s _ hf) ?_
  exact .drop 0 1 (.done ⟨rfl, rfl⟩)
theorem aBEvals (s : Sy) (σ : Hp) (hf : Fit s) : ACalls Try.prog 8 [.agg (sysC s)] σ (Ret (.int .i64 (evalsS s)) σ) := by
  refine okF Try.func8 (by kernel_rfl) ?_
  intro bl1
  refine LoadAt.mk 0 _ _ rfl rfl ?_
  refine callR [] (aMostEvals s _ hf) ?_
  exact .drop 0 1 (.done ⟨rfl, rfl⟩)
def sumW (l : List Int) : Int := l.foldl (fun a x => IntKind.i64.wrap (a + x)) 0
theorem aSum1 (o : Nat) (x n : Int) (σ : Hp) : ACalls Try.prog 38 [.int .i64 n, .ptr o 0] ((o, [.int .i64 x]) :: σ) (Ret (.tup []) ((o, [.int .i64 (IntKind.i64.wrap (x + n))]) :: σ)) := by
  refine okF Try.func38 (by kernel_rfl) ?_
  refine LoadAt.mk 0 _ _ rfl rfl ?_
  refine StoreAt.mk 0 _ _ rfl rfl ?_
  exact .done ⟨rfl, rfl⟩
theorem sumW_succ {l : List Int} {k : Nat} (h : k < l.length) : sumW (l.take (k + 1)) = IntKind.i64.wrap (sumW (l.take k) + l[k]) := by
  unfold sumW; rw [List.take_succ_eq_append_getElem h, List.foldl_append]; rfl
theorem inC_read {l : List Int} {k : Nat} (h : k < l.length) : readAs ⟨.int .i64, 1, 8, [.int .i64 0]⟩ (inC l) (0 + ((k : Int)).toNat * 1) = some (.int .i64 l[k]) := by
  show (inC l)[_]? = _
  unfold inC
  rw [Int.toNat_natCast, Nat.mul_one, Nat.zero_add, List.getElem?_map, List.getElem?_eq_getElem h]; rfl
theorem aSum (b : Nat) (l : List Int) (σ : Hp) (hl : l.length ≤ 1000) : ACalls Try.prog 18 [.mref b 0 l.length 1] ((b, inC l) :: σ) (Ret (.int .i64 (sumW l)) ((b, inC l) :: σ)) := by
  refine okF Try.func18 (by kernel_rfl) ?_
  intro bl1
  refine StoreAt.mk 0 _ _ rfl rfl ?_
  refine loopS (S := Nat) (fun k => [(3, .ptr bl1 0), (4, .fn (.func 38) [] [.ptr bl1 0]), (8, .mref b 0 l.length 1), (9, .int .i64 l.length), (10, .int .i64 k)]) (fun k => (bl1, [.int .i64 (sumW (l.take k))]) :: (b, inC l) :: σ) (fun k => k ≤ l.length) (fun k => l.length - k) 0 ⟨Nat.zero_le _, ⟨rfl, rfl, rfl, rfl, rfl, trivial⟩, rfl⟩ ?_
  rintro k g hk
  have hk : k ≤ l.length := hk
  refine bcond_dec (fun hlt => ?_) (fun hge => ?_)
  · have hlt : k < l.length := by have hlt : (k : Int) < l.length := hlt; omega
    refine With.mk ⟨rfl, (show (0 : Int) ≤ (k : Int) by omega), (show (k : Int) < (l.length : Int) by omega)⟩ ?_
    refine LoadAt.mk 1 _ (.int .i64 l[k]) rfl (inC_read hlt) ?_
    refine callR [] (aSum1 bl1 _ _ _) ?_
    refine nextS (k + 1) (by show l.length - (k + 1) < l.length - k; omega) (show k + 1 ≤ l.length by omega) ⟨rfl, rfl, rfl, rfl, inc64 (by omega), trivial⟩ (shed_eq ?_)
    rw [sumW_succ hlt]
  · have hge : k = l.length := by have hge : ¬ (k : Int) < l.length := hge; omega
    subst hge
    rw [List.take_length]
    refine LoadAt.mk 0 _ _ rfl rfl ?_
    exact .drop 0 1 (.done ⟨rfl, rfl⟩)
theorem aREvals35 (s : Sy) (σ : Hp) (hf : Fit s) : ACalls Try.prog 9 [.agg (sysC s)] σ (Ret (.int .i64 (evalsS s)) σ) := by
  refine okF Try.func9 (by kernel_rfl) ?_
  intro bl1
  refine LoadAt.mk 0 _ _ rfl rfl ?_
  refine callR [] (aRCheck17 s _ hf) ?_
  refine bcond_split (fun c2 => ?_) (fun c2 => ?_)
  · have c2 : ¬ (checkS s = 0) := by simpa using c2
    exact .drop 0 1 (.done ⟨av_int (evalsS1 (by assumption)), rfl⟩)
  · have c2 : checkS s = 0 := by simpa using c2
    refine .quiet (by kernel_rfl) ?_
    refine LoadAt.mk 0 _ _ rfl rfl ?_
    refine LoadAt.mk 0 _ _ rfl rfl ?_
    refine callQ [] (aRSortedE s.edges _ hf.elen) ?_
    refine LoadAt.mk 0 _ _ rfl rfl ?_
    refine LoadAt.mk 0 _ _ rfl rfl ?_
    refine callQ [] (aRHeight _ _ _) ?_
    exact .drop 0 1 (.done ⟨av_int (evalsS0 (by assumption)), rfl⟩)
theorem aRJoins35 (s : Sy) (σ : Hp) (hf : Fit s) : ACalls Try.prog 11 [.agg (sysC s)] σ (Ret (.int .i64 (joinsS s)) σ) := by
  refine okF Try.func11 (by kernel_rfl) ?_
  intro bl1
  refine LoadAt.mk 0 _ _ rfl rfl ?_
  refine callR [] (aRCheck17 s _ hf) ?_
  refine bcond_split (fun c2 => ?_) (fun c2 => ?_)
  · have c2 : ¬ (checkS s = 0) := by simpa using c2
    exact .drop 0 1 (.done ⟨av_int (joinsS1 (by assumption)), rfl⟩)
  · have c2 : checkS s = 0 := by simpa using c2
    refine .quiet (by kernel_rfl) ?_
    refine LoadAt.mk 0 _ _ rfl rfl ?_
    refine LoadAt.mk 0 _ _ rfl rfl ?_
    refine LoadAt.mk 0 _ _ rfl rfl ?_
    refine callQ [] (aRHeight _ _ _) ?_
    exact .drop 0 1 (.done ⟨av_int (joinsS0 (by assumption)), rfl⟩)
/-- How many words a value has, one at least. -/
def wM (s : Sy) : Int := if wordsL s.what s.w < 1 then 1 else wordsL s.what s.w
def w1 (s : Sy) : Int := IntKind.i64.wrap (evalsS s * IntKind.i64.wrap (wM s + 2))
def w2 (s : Sy) (k : Int) : Int := IntKind.i64.wrap (6 * IntKind.i64.wrap (IntKind.i64.wrap (2 * evalsS s) + k))
def w3 (s : Sy) : Int := IntKind.i64.wrap (IntKind.i64.wrap (IntKind.i64.wrap (1 + heightL s.what s.w) * ((sortedE s.edges).length : Int)) * wM s)
def w4 (s : Sy) (k : Int) : Int := IntKind.i64.wrap (IntKind.i64.wrap (s.n * heightL s.what s.w) * IntKind.i64.wrap (IntKind.i64.wrap (2 * k) + 5))
def workS (s : Sy) (k : Int) : Int := sumW [w1 s, w2 s k, w3 s, w4 s k]
/-- What is wrong with a system, or with how many workers there are. -/
def ofE (s : Sy) (k : Int) : Int := if checkS s = 0 then (if 1 ≤ k ∧ k ≤ 64 then 0 else 1) else checkS s
theorem ofE1 {s : Sy} {k : Int} (h : ¬ checkS s = 0) : checkS s = ofE s k := (if_neg h).symm
theorem ofE2 {s : Sy} {k : Int} (h : checkS s = 0) (hk : ¬ (1 ≤ k ∧ k ≤ 64)) : 1 = ofE s k := by unfold ofE; rw [if_pos h, if_neg hk]
theorem ofE3 {s : Sy} {k : Int} (h : checkS s = 0) (hk : 1 ≤ k ∧ k ≤ 64) : 0 = ofE s k := by unfold ofE; rw [if_pos h, if_pos hk]
def okI (e n : Int) : Int := if e = 0 then n else 0
theorem of_bad {s : Sy} {k n : Int} (h : ¬ checkS s = 0) : AV.tup [.int .i64 0, .int .i64 (checkS s)] = .tup [.int .i64 (okI (ofE s k) n), .int .i64 (ofE s k)] := by rw [← ofE1 h, okI, if_neg h]
theorem of_far {s : Sy} {k n : Int} (h : checkS s = 0) (hk : ¬ (1 ≤ k ∧ k ≤ 64)) : AV.tup [.int .i64 0, .int .i64 1] = .tup [.int .i64 (okI (ofE s k) n), .int .i64 (ofE s k)] := by rw [← ofE2 h hk]; rfl
theorem of_ok {s : Sy} {k n : Int} (h : checkS s = 0) (hk : 1 ≤ k ∧ k ≤ 64) : AV.tup [.int .i64 n, .int .i64 0] = .tup [.int .i64 (okI (ofE s k) n), .int .i64 (ofE s k)] := by rw [← ofE3 h hk]; rfl
theorem aBWork (s : Sy) (k : Int) (σ : Hp) (hf : Fit s) : ACalls Try.prog 6 [.agg (sysC s), .int .i64 k] σ (Ret (.tup [.int .i64 (okI (ofE s k) (workS s k)), .int .i64 (ofE s k)]) σ) := by
  refine okF Try.func6 (by kernel_rfl) ?_
  intro bl1
  refine LoadAt.mk 0 _ _ rfl rfl ?_
  refine callR [] (aSysCheck s _ hf) ?_
  refine bcond_split (fun c2 => ?_) (fun c2 => ?_)
  · have c2 : ¬ (checkS s = 0) := by simpa using c2
    exact .drop 0 1 (.done ⟨of_bad (by assumption), rfl⟩)
  · have c2 : checkS s = 0 := by simpa using c2
    refine bcond_dec (fun c3 => ?_) (fun c3 => ?_)
    · have c3 : k < 1 := c3
      exact .drop 0 1 (.done ⟨of_far (by assumption) (by omega), rfl⟩)
    · have c3 : ¬ (k < 1) := c3
      refine bcond_dec (fun c4 => ?_) (fun c4 => ?_)
      · have c4 : 64 < k := c4
        exact .drop 0 1 (.done ⟨of_far (by assumption) (by omega), rfl⟩)
      · have c4 : ¬ (64 < k) := c4
        refine .quiet (by kernel_rfl) ?_
        refine LoadAt.mk 0 _ _ rfl rfl ?_
        refine LoadAt.mk 0 _ _ rfl rfl ?_
        refine callQ [] (aLHeight _ _ _) ?_
        refine LoadAt.mk 0 _ _ rfl rfl ?_
        refine LoadAt.mk 0 _ _ rfl rfl ?_
        refine callQ [] (aLWords _ _ _) ?_
        refine LoadAt.mk 0 _ _ rfl rfl ?_
        refine callQ [] (aBEvals s _ hf) ?_
        refine LoadAt.mk 0 _ _ rfl rfl ?_
        refine callR [] (aFlowSorted s.edges _ (by have := hf.elen; omega)) ?_
        refine LoadAt.mk 0 _ _ rfl rfl ?_
        intro bl5
        refine callR [] (aSum bl5 [w1 s, w2 s k, w3 s, w4 s k] _ (by decide : 4 ≤ 1000)) ?_
        exact .drop 0 2 (.done ⟨of_ok (by assumption) (by omega), rfl⟩)
def pickN (s : Sy) (w k : Int) : Int := if ofE s w = 0 then (if 1 ≤ k ∧ k ≤ 4096 then IntKind.i64.wrap (k * IntKind.i64.wrap (workS s w + 12)) else 0) else 0
def pickE (s : Sy) (w k : Int) : Int := if ofE s w = 0 then (if 1 ≤ k ∧ k ≤ 4096 then 0 else 1) else ofE s w
theorem pk_bad {s : Sy} {w k : Int} (h : ¬ ofE s w = 0) : AV.tup [.int .i64 0, .int .i64 (ofE s w)] = .tup [.int .i64 (pickN s w k), .int .i64 (pickE s w k)] := by unfold pickN pickE; rw [if_neg h, if_neg h]
theorem pk_far {s : Sy} {w k : Int} (h : ofE s w = 0) (hk : ¬ (1 ≤ k ∧ k ≤ 4096)) : AV.tup [.int .i64 0, .int .i64 1] = .tup [.int .i64 (pickN s w k), .int .i64 (pickE s w k)] := by unfold pickN pickE; rw [if_pos h, if_pos h, if_neg hk, if_neg hk]
theorem pk_ok {s : Sy} {w k : Int} (h : ofE s w = 0) (hk : 1 ≤ k ∧ k ≤ 4096) : AV.tup [.int .i64 (IntKind.i64.wrap (k * IntKind.i64.wrap (okI (ofE s w) (workS s w) + 12))), .int .i64 0] = .tup [.int .i64 (pickN s w k), .int .i64 (pickE s w k)] := by unfold pickN pickE okI; rw [if_pos h, if_pos h, if_pos h, if_pos hk, if_pos hk]
theorem aPicks (s : Sy) (w k : Int) (σ : Hp) (hf : Fit s) : ACalls Try.prog 7 [.agg (sysC s), .int .i64 w, .int .i64 k] σ (Ret (.tup [.int .i64 (pickN s w k), .int .i64 (pickE s w k)]) σ) := by
  refine okF Try.func7 (by kernel_rfl) ?_
  intro bl1
  refine LoadAt.mk 0 _ _ rfl rfl ?_
  refine callR [] (aBWork s w _ hf) ?_
  refine bcond_split (fun c2 => ?_) (fun c2 => ?_)
  · have c2 : ¬ (ofE s w = 0) := by simpa using c2
    exact .drop 0 1 (.done ⟨pk_bad (by assumption), rfl⟩)
  · have c2 : ofE s w = 0 := by simpa using c2
    refine bcond_dec (fun c3 => ?_) (fun c3 => ?_)
    · have c3 : k < 1 := c3
      exact .drop 0 1 (.done ⟨pk_far (by assumption) (by omega), rfl⟩)
    · have c3 : ¬ (k < 1) := c3
      refine bcond_dec (fun c4 => ?_) (fun c4 => ?_)
      · have c4 : 4096 < k := c4
        exact .drop 0 1 (.done ⟨pk_far (by assumption) (by omega), rfl⟩)
      · have c4 : ¬ (4096 < k) := c4
        exact .drop 0 1 (.done ⟨pk_ok (by assumption) (by omega), rfl⟩)
def layC (s : Sy) (k : Int) : List AV := [.int .i64 (okI (ofE s k) s.what), .int .i64 (okI (ofE s k) (wordsL s.what s.w)), .int .i64 (okI (ofE s k) s.n), .int .i64 (okI (ofE s k) k)]
theorem of32_bad {s : Sy} {k : Int} (h : ¬ checkS s = 0) : AV.tup [.agg [.int .i64 0, .int .i64 0, .int .i64 0, .int .i64 0], .int .i64 (checkS s)] = .tup [.agg (layC s k), .int .i64 (ofE s k)] := by unfold layC okI; rw [← ofE1 h]; simp only [if_neg h]
theorem of32_far {s : Sy} {k : Int} (h : checkS s = 0) (hk : ¬ (1 ≤ k ∧ k ≤ 64)) : AV.tup [.agg [.int .i64 0, .int .i64 0, .int .i64 0, .int .i64 0], .int .i64 1] = .tup [.agg (layC s k), .int .i64 (ofE s k)] := by unfold layC okI; rw [← ofE2 h hk]; rfl
theorem of32_ok {s : Sy} {k : Int} (h : checkS s = 0) (hk : 1 ≤ k ∧ k ≤ 64) : AV.tup [.agg [.int .i64 s.what, .int .i64 (wordsL s.what s.w), .int .i64 s.n, .int .i64 k], .int .i64 0] = .tup [.agg (layC s k), .int .i64 (ofE s k)] := by unfold layC okI; rw [← ofE3 h hk]; rfl
theorem aROf32 (s : Sy) (k : Int) (σ : Hp) (hf : Fit s) : ACalls Try.prog 12 [.agg (sysC s), .int .i64 k] σ (Ret (.tup [.agg (layC s k), .int .i64 (ofE s k)]) σ) := by
  refine okF Try.func12 (by kernel_rfl) ?_
  intro bl1
  intro bl2
  refine LoadAt.mk 1 _ _ rfl rfl ?_
  refine callR [] (aRCheck17 s _ hf) ?_
  refine bcond_split (fun c3 => ?_) (fun c3 => ?_)
  · have c3 : ¬ (checkS s = 0) := by simpa using c3
    refine StoreAt.mk 0 _ _ rfl rfl ?_
    refine LoadAt.mk 0 _ _ rfl rfl ?_
    exact .drop 0 2 (.done ⟨of32_bad (by assumption), rfl⟩)
  · have c3 : checkS s = 0 := by simpa using c3
    refine bcond_dec (fun c4 => ?_) (fun c4 => ?_)
    · have c4 : k < 1 := c4
      refine StoreAt.mk 0 _ _ rfl rfl ?_
      refine LoadAt.mk 0 _ _ rfl rfl ?_
      exact .drop 0 2 (.done ⟨of32_far (by assumption) (by omega), rfl⟩)
    · have c4 : ¬ (k < 1) := c4
      refine bcond_dec (fun c5 => ?_) (fun c5 => ?_)
      · have c5 : 64 < k := c5
        refine StoreAt.mk 0 _ _ rfl rfl ?_
        refine LoadAt.mk 0 _ _ rfl rfl ?_
        exact .drop 0 2 (.done ⟨of32_far (by assumption) (by omega), rfl⟩)
      · have c5 : ¬ (64 < k) := c5
        refine .sched [6] (upto [6] 13 0) (by kernel_rfl) ?_
        refine LoadAt.mk 1 _ _ rfl rfl ?_
        refine LoadAt.mk 1 _ _ rfl rfl ?_
        refine LoadAt.mk 1 _ _ rfl rfl ?_
        refine callQ [] (aRWords12 _ _ _) ?_
        refine LoadAt.mk 1 _ _ rfl rfl ?_
        refine StoreAt.mk 0 _ _ rfl rfl ?_
        refine LoadAt.mk 0 _ _ rfl rfl ?_
        exact .drop 0 2 (.done ⟨of32_ok (by assumption) (by omega), rfl⟩)
theorem wrap_zero_add (a : Int) : IntKind.i64.wrap (0 + IntKind.i64.wrap a) = IntKind.i64.wrap a := by
  simp only [IntKind.wrap_i64]; omega
theorem work_eq (s : Sy) (k : Int) : IntKind.i64.wrap (IntKind.i64.wrap (IntKind.i64.wrap (w1 s + w2 s k) + w3 s) + w4 s k) = workS s k := by
  show _ = IntKind.i64.wrap (IntKind.i64.wrap (IntKind.i64.wrap (IntKind.i64.wrap (0 + w1 s) + w2 s k) + w3 s) + w4 s k)
  rw [show IntKind.i64.wrap (0 + w1 s) = w1 s from wrap_zero_add _]
theorem aRWork35 (s : Sy) (k : Int) (σ : Hp) (hf : Fit s) : ACalls Try.prog 13 [.agg (sysC s), .int .i64 k] σ (Ret (.int .i64 (workS s k)) σ) := by
  refine okF Try.func13 (by kernel_rfl) ?_
  intro bl1
  refine .quiet (by kernel_rfl) ?_
  refine LoadAt.mk 0 _ _ rfl rfl ?_
  refine callQ [] (aRSortedE s.edges _ hf.elen) ?_
  refine LoadAt.mk 0 _ _ rfl rfl ?_
  refine LoadAt.mk 0 _ _ rfl rfl ?_
  refine callQ [] (aRHeight _ _ _) ?_
  refine LoadAt.mk 0 _ _ rfl rfl ?_
  refine LoadAt.mk 0 _ _ rfl rfl ?_
  refine callR [] (aRWords12 _ _ _) ?_
  refine .quiet (by kernel_rfl) ?_
  refine LoadAt.mk 0 _ _ rfl rfl ?_
  refine callQ [] (aREvals35 s _ hf) ?_
  refine LoadAt.mk 0 _ _ rfl rfl ?_
  refine callQ [] (aREvals35 s _ hf) ?_
  refine LoadAt.mk 0 _ _ rfl rfl ?_
  exact .drop 0 1 (.done ⟨av_int (work_eq s k), rfl⟩)
end Go.Proofs.Ytegpahamenjiaaa
