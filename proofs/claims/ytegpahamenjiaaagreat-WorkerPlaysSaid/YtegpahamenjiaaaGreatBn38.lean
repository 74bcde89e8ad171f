/-
  Ka: what the claim uses of them.
-/
import Derived.Test.YtegpahamenjiaaaGreatBn34
import Derived.Test.YtegpahamenjiaaaGreatBn37
import Derived.Test.YtegpahamenjiaaaGreatBn36
import Derived.Test.YtegpahamenjiaaaGreatBn31
import Derived.Test.YtegpahamenjiaaaGreatBn29
import Derived.Test.YtegpahamenjiaaaGreatBn26
namespace Go.Proofs.YtegpahamenjiaaaGreat
open Go.RowKit
set_option maxRecDepth 100000
/-- Where everything stands. -/
structure Lay where
  what : Int
  words : Int
  n : Int
  k : Int
def layV (l : Lay) : List AV := [.int .i64 l.what, .int .i64 l.words, .int .i64 l.n, .int .i64 l.k]
def flagsL (l : Lay) : Int := wr (l.n * l.words)
def countL (l : Lay) : Int := wr (flagsL l + l.n)
def roomL (l : Lay) : Int := wr (l.n + 1)
def dqB (l : Lay) (w : Int) : Int := wr (wr (countL l + 1) + wr (w * ((2 + rm (roomL l) : Nat) : Int)))
def cellB (l : Lay) (v : Int) : Int := wr (v * l.words)
def layOf (s : Sy) (k : Int) : Lay := ⟨okI (ofE s k) s.what, okI (ofE s k) (wordsL s.what s.w), okI (ofE s k) s.n, okI (ofE s k) k⟩
theorem aWordsD (n : Int) (σ : Hp) : ACalls Tryz.prog 67 [.int .i64 n] σ (Ret (.int .i64 ((2 + rm n : Nat) : Int)) σ) := by
  have h := rm_ok n
  refine okF Tryz.func67 (by kernel_rfl) ?_
  refine callR [] (aRoom _ _) ?_
  exact .done ⟨av_int (by rw [IntKind.wrap_i64]; omega), rfl⟩
theorem aFlags (l : Lay) (σ : Hp) : ACalls Tryz.prog 65 [.agg (layV l)] σ (Ret (.int .i64 (flagsL l)) σ) := by
  refine okF Tryz.func65 (by kernel_rfl) ?_
  intro bl1
  refine LoadAt.mk 0 _ _ rfl rfl ?_
  refine LoadAt.mk 0 _ _ rfl rfl ?_
  exact .drop 0 1 (.done ⟨rfl, rfl⟩)
theorem aCountL (l : Lay) (σ : Hp) : ACalls Tryz.prog 66 [.agg (layV l)] σ (Ret (.int .i64 (countL l)) σ) := by
  refine okF Tryz.func66 (by kernel_rfl) ?_
  intro bl1
  refine .quiet (by kernel_rfl) ?_
  refine LoadAt.mk 0 _ _ rfl rfl ?_
  refine callQ [] (aFlags l _) ?_
  refine LoadAt.mk 0 _ _ rfl rfl ?_
  exact .drop 0 1 (.done ⟨rfl, rfl⟩)
theorem aLRoom (l : Lay) (σ : Hp) : ACalls Tryz.prog 68 [.agg (layV l)] σ (Ret (.int .i64 (roomL l)) σ) := by
  refine okF Tryz.func68 (by kernel_rfl) ?_
  intro bl1
  refine LoadAt.mk 0 _ _ rfl rfl ?_
  exact .drop 0 1 (.done ⟨rfl, rfl⟩)
theorem aLDeque (l : Lay) (w : Int) (σ : Hp) : ACalls Tryz.prog 41 [.agg (layV l), .int .i64 w] σ (Ret (.agg [.int .i64 (dqB l w), .int .i64 (roomL l)]) σ) := by
  refine okF Tryz.func41 (by kernel_rfl) ?_
  intro bl1
  intro bl2
  refine .sched [1, 5, 6, 10] (upto [1, 5, 6, 10] 13 0) (by kernel_rfl) ?_
  refine LoadAt.mk 1 _ _ rfl rfl ?_
  refine callQ [] (aCountL l _) ?_
  refine LoadAt.mk 1 _ _ rfl rfl ?_
  refine callQ [] (aLRoom l _) ?_
  refine callQ [] (aWordsD _ _) ?_
  refine LoadAt.mk 1 _ _ rfl rfl ?_
  refine callQ [] (aLRoom l _) ?_
  refine StoreAt.mk 0 _ _ rfl rfl ?_
  refine LoadAt.mk 0 _ _ rfl rfl ?_
  exact .drop 0 2 (.done ⟨rfl, rfl⟩)
theorem aLBoard (l : Lay) (σ : Hp) : ACalls Tryz.prog 40 [.agg (layV l)] σ (Ret (.agg [.int .i64 (flagsL l), .int .i64 (countL l)]) σ) := by
  refine okF Tryz.func40 (by kernel_rfl) ?_
  intro bl1
  intro bl2
  refine .sched [1, 3] (upto [1, 3] 6 0) (by kernel_rfl) ?_
  refine LoadAt.mk 1 _ _ rfl rfl ?_
  refine callQ [] (aFlags l _) ?_
  refine LoadAt.mk 1 _ _ rfl rfl ?_
  refine callQ [] (aCountL l _) ?_
  refine StoreAt.mk 0 _ _ rfl rfl ?_
  refine LoadAt.mk 0 _ _ rfl rfl ?_
  exact .drop 0 2 (.done ⟨rfl, rfl⟩)
theorem aLCell (l : Lay) (v : Int) (σ : Hp) : ACalls Tryz.prog 79 [.agg (layV l), .int .i64 v] σ (Ret (.agg [.int .i64 (cellB l v), .int .i64 l.what, .int .i64 l.words]) σ) := by
  refine okF Tryz.func79 (by kernel_rfl) ?_
  intro bl1
  intro bl2
  refine LoadAt.mk 1 _ _ rfl rfl ?_
  refine LoadAt.mk 1 _ _ rfl rfl ?_
  refine LoadAt.mk 1 _ _ rfl rfl ?_
  refine StoreAt.mk 0 _ _ rfl rfl ?_
  refine LoadAt.mk 0 _ _ rfl rfl ?_
  exact .drop 0 2 (.done ⟨rfl, rfl⟩)
theorem aLSize (l : Lay) (σ : Hp) : ACalls Tryz.prog 17 [.agg (layV l)] σ (Ret (.int .i64 (dqB l l.k)) σ) := by
  refine okF Tryz.func17 (by kernel_rfl) ?_
  intro bl1
  refine LoadAt.mk 0 _ _ rfl rfl ?_
  refine LoadAt.mk 0 _ _ rfl rfl ?_
  refine callR [] (aLDeque l _ _) ?_
  exact .drop 0 1 (.done ⟨rfl, rfl⟩)
theorem aLayOf (s : Sy) (k : Int) (σ : Hp) (hf : Fit s) : ACalls Tryz.prog 14 [.agg (sysC s), .int .i64 k] σ (Ret (.tup [.agg (layV (layOf s k)), .int .i64 (ofE s k)]) σ) := by
  refine okF Tryz.func14 (by kernel_rfl) ?_
  intro bl1
  intro bl2
  refine LoadAt.mk 1 _ _ rfl rfl ?_
  refine callR [] (aSysCheck s _ hf) ?_
  refine bcond_split (fun c3 => ?_) (fun c3 => ?_)
  · have c3 : ¬ (checkS s = 0) := by simpa using c3
    refine StoreAt.mk 0 _ _ rfl rfl ?_
    refine LoadAt.mk 0 _ _ rfl rfl ?_
    exact .drop 0 2 (.done ⟨of32_bad (by assumption), rfl⟩)
  · have c3 : checkS s = 0 := by simpa using c3
    refine bcond_dec (fun c4 => ?_) (fun c4 => ?_)
    · have c4 : k < 1 := c4
      refine StoreAt.mk 0 _ _ rfl rfl ?_
      refine LoadAt.mk 0 _ _ rfl rfl ?_
      exact .drop 0 2 (.done ⟨of32_far (by assumption) (by omega), rfl⟩)
    · have c4 : ¬ (k < 1) := c4
      refine bcond_dec (fun c5 => ?_) (fun c5 => ?_)
      · have c5 : 64 < k := c5
        refine StoreAt.mk 0 _ _ rfl rfl ?_
        refine LoadAt.mk 0 _ _ rfl rfl ?_
        exact .drop 0 2 (.done ⟨of32_far (by assumption) (by omega), rfl⟩)
      · have c5 : ¬ (64 < k) := c5
        refine .sched [6] (upto [6] 13 0) (by kernel_rfl) ?_
        refine LoadAt.mk 1 _ _ rfl rfl ?_
        refine LoadAt.mk 1 _ _ rfl rfl ?_
        refine LoadAt.mk 1 _ _ rfl rfl ?_
        refine callQ [] (aLWords _ _ _) ?_
        refine LoadAt.mk 1 _ _ rfl rfl ?_
        refine StoreAt.mk 0 _ _ rfl rfl ?_
        refine LoadAt.mk 0 _ _ rfl rfl ?_
        exact .drop 0 2 (.done ⟨of32_ok (by assumption) (by omega), rfl⟩)
set_option maxRecDepth 100000
/-- What a worker is at. -/
inductive Nw where
  | none
  | pop (q : DQ)
  | steal (q : DQ)
  | quiet (t : Qk)
  | clear (t : Ck)
  | read (l : List Int)
  | join (j : Jn)
  | take (t : Tk)
  | push (q : DQ)
  | retire (t : Rk)
structure WS where
  ev : Int
  jo : Int
  en : Bool
  does : Int
  now : Nw
  node : Int
  has : Bool
  nx : List Int
  out : List Int
/-- A worker's block. -/
abbrev wkC (s : Sy) (l : Lay) (who ev jo : Int) (en : Bool) (does : Int) (nv : AV) (node : Int) (has : Bool) (nx out : List Int) : List AV :=
  [.int .i64 ev, .int .i64 jo, .bool en, .int .i64 s.what, .int .i64 s.w, .int .i64 s.n, .fsl edgeSh s.edges, .fsl (.int .i64) s.entry, .fsl (.int .u64) s.init, .fsl transSh s.T, .int .i64 l.what, .int .i64 l.words, .int .i64 l.n, .int .i64 l.k, .int .i64 who, .int .i64 does, nv, .int .i64 node, .bool has, .fsl (.int .i64) nx, .fsl (.int .u64) out, .bool true]
theorem aAlone (w : Nat) (s : Sy) (l : Lay) (who ev jo : Int) (en : Bool) (does : Int) (nv : AV) (node : Int) (has : Bool) (nx out : List Int) (σ : Hp) : ACalls Tryz.prog 82 [.ptr w 0] ((w, wkC s l who ev jo en does nv node has nx out) :: σ) (Ret (.bool (decide (l.k < 2))) ((w, wkC s l who ev jo en does nv node has nx out) :: σ)) := by
  refine okF Tryz.func82 (by kernel_rfl) ?_
  refine LoadAt.mk 0 _ _ rfl rfl ?_
  refine bcond_dec (fun c1 => ?_) (fun c1 => ?_)
  · have c1 : l.k < 2 := c1
    exact .done ⟨av_bool (decide_eq_true (by assumption)).symm, rfl⟩
  · have c1 : ¬ (l.k < 2) := c1
    exact .done ⟨av_bool (decide_eq_false (by assumption)).symm, rfl⟩
def nK (l : Lay) : Int := wr (l.k - 1)
def victimW (l : Lay) (who d : Int) : Int := (wr (wr (who + 1) + (wr (d.tmod (nK l) + nK l)).tmod (nK l))).tmod l.k
theorem aVictim (w : Nat) (s : Sy) (l : Lay) (who ev jo : Int) (en : Bool) (does : Int) (nv : AV) (node : Int) (has : Bool) (nx out : List Int) (d : Int) (σ : Hp) (h1 : nK l ≠ 0) (h2 : l.k ≠ 0) : ACalls Tryz.prog 78 [.ptr w 0, .int .i64 d] ((w, wkC s l who ev jo en does nv node has nx out) :: σ) (Ret (.int .i64 (victimW l who d)) ((w, wkC s l who ev jo en does nv node has nx out) :: σ)) := by
  refine okF Tryz.func78 (by kernel_rfl) ?_
  refine LoadAt.mk 0 _ _ rfl rfl ?_
  refine .quiet (by kernel_rfl) ?_
  refine LoadAt.mk 0 _ _ rfl rfl ?_
  refine With.mk h1 ?_
  refine With.mk h1 ?_
  refine LoadAt.mk 0 _ _ rfl rfl ?_
  refine With.mk h2 ?_
  exact .done ⟨rfl, rfl⟩
def gotNode (l : Lay) (n : Int) : Int := if wu l.n ≤ n then 0 else wr n
def gotDoes (l : Lay) (n : Int) : Int := if wu l.n ≤ n then 8 else 3
theorem aGot (w : Nat) (s : Sy) (l : Lay) (who ev jo : Int) (en : Bool) (does : Int) (nv : AV) (node : Int) (has : Bool) (nx out : List Int) (n : Int) (σ : Hp) : ACalls Tryz.prog 80 [.ptr w 0, .int .u64 n] ((w, wkC s l who ev jo en does nv node has nx out) :: σ) (Ret (.int .i64 (gotDoes l n)) ((w, wkC s l who ev jo en does nv (gotNode l n) true nx out) :: σ)) := by
  refine okF Tryz.func80 (by kernel_rfl) ?_
  refine StoreAt.mk 0 _ _ rfl rfl ?_
  refine StoreAt.mk 0 _ _ rfl rfl ?_
  refine LoadAt.mk 0 _ _ rfl rfl ?_
  refine bcond_dec (fun c1 => ?_) (fun c1 => ?_)
  · have c1 : IntKind.u64.wrap l.n ≤ n := c1
    exact .done ⟨av_int (if_pos c1).symm, congrArg (fun z => (w, wkC s l who ev jo en does nv z true nx out) :: σ) (show _ = gotNode l n from (if_pos c1).symm)⟩
  · have c1 : ¬ (IntKind.u64.wrap l.n ≤ n) := c1
    refine StoreAt.mk 0 _ _ rfl rfl ?_
    exact .done ⟨av_int (if_neg c1).symm, congrArg (fun z => (w, wkC s l who ev jo en does nv z true nx out) :: σ) (show _ = gotNode l n from (if_neg c1).symm)⟩
def noneDoes (l : Lay) : Int := if l.k < 2 then 2 else 1
theorem aNoneW (w : Nat) (s : Sy) (l : Lay) (who ev jo : Int) (en : Bool) (does : Int) (nv : AV) (node : Int) (has : Bool) (nx out : List Int) (σ : Hp) : ACalls Tryz.prog 81 [.ptr w 0] ((w, wkC s l who ev jo en does nv node has nx out) :: σ) (Ret (.int .i64 (noneDoes l)) ((w, wkC s l who ev jo en does nv node has nx out) :: σ)) := by
  refine okF Tryz.func81 (by kernel_rfl) ?_
  refine callB [] (aAlone w s l who ev jo en does nv node has nx out _) (fun c => ?_) (fun c => ?_)
  · exact .done ⟨av_int (if_pos (of_decide_eq_true c)).symm, rfl⟩
  · exact .done ⟨av_int (if_neg (of_decide_eq_false c)).symm, rfl⟩
def folDoes (nx : List Int) : Int := if nx.tail.length = 0 then 8 else 5
theorem aFollow (w : Nat) (s : Sy) (l : Lay) (who ev jo : Int) (en : Bool) (does : Int) (nv : AV) (node : Int) (has : Bool) (nx out : List Int) (σ : Hp) (hx : 0 < nx.length) : ACalls Tryz.prog 84 [.ptr w 0] ((w, wkC s l who ev jo en does nv node has nx out) :: σ) (Ret (.int .i64 (folDoes nx)) ((w, wkC s l who ev jo en does nv node has nx.tail out) :: σ)) := by
  refine okF Tryz.func84 (by kernel_rfl) ?_
  cases nx with
  | nil => simp at hx
  | cons z nx =>
    refine LoadAt.mk 0 _ _ rfl rfl ?_
    refine With.mk ⟨by decide, Int.ofNat_le.2 (Nat.succ_le_succ (Nat.zero_le _)), Int.le_refl _, rfl⟩ ?_
    have e : ((z :: nx).drop ((1 : Int)).toNat).take ((((z :: nx).length : Nat) : Int).toNat - ((1 : Int)).toNat) = nx := by simp
    refine StoreAt.mk 0 _ _ rfl rfl ?_
    refine LoadAt.mk 0 _ _ rfl rfl ?_
    refine bcond_dec (fun c1 => ?_) (fun c1 => ?_)
    · have c1 : (↑(List.take ((↑(z :: nx).length : Int).toNat - Int.toNat 1) (List.drop (Int.toNat 1) (z :: nx))).length : Int) = 0 := c1
      have c2 : (nx.length : Int) = 0 := (congrArg (fun z : List Int => (z.length : Int)) e).symm.trans c1
      exact .done ⟨av_int (if_pos (show nx.length = 0 by omega)).symm, congrArg (fun z => (w, wkC s l who ev jo en does nv node has z out) :: σ) e⟩
    · have c1 : ¬ ((↑(List.take ((↑(z :: nx).length : Int).toNat - Int.toNat 1) (List.drop (Int.toNat 1) (z :: nx))).length : Int) = 0) := c1
      have c2 : ¬ (nx.length : Int) = 0 := fun h => c1 ((congrArg (fun z : List Int => (z.length : Int)) e).trans h)
      exact .done ⟨av_int (if_neg (show ¬ nx.length = 0 by omega)).symm, congrArg (fun z => (w, wkC s l who ev jo en does nv node has z out) :: σ) e⟩
def rdDoes (s : Sy) (node : Int) : Int := if (toS s.n s.edges node).length = 0 then 8 else 5
theorem aReadW (w : Nat) (s : Sy) (l : Lay) (who ev jo : Int) (en : Bool) (does : Int) (nv : AV) (node : Int) (has : Bool) (nx out x : List Int) (σ : Hp) (hf : Fit s) (hx : A64 x) (lx : x.length ≤ 10000) : ACalls Tryz.prog 83 [.ptr w 0, .fsl (.int .u64) x] ((w, wkC s l who ev jo en does nv node has nx out) :: σ) (Ret (.int .i64 (rdDoes s node)) ((w, wkC s l who (wr (ev + 1)) jo en does nv node has (toS s.n s.edges node) (okL (outE s node x) (outS s x node.toNat))) :: σ)) := by
  refine okF Tryz.func83 (by kernel_rfl) ?_
  refine LoadAt.mk 0 _ _ rfl rfl ?_
  refine StoreAt.mk 0 _ _ rfl rfl ?_
  refine .sched [10] (upto [10] 17 0) (by kernel_rfl) ?_
  refine LoadAt.mk 0 _ _ rfl rfl ?_
  refine LoadAt.mk 0 _ _ rfl rfl ?_
  refine callQ [] (aSysOut s node x _ hf hx lx) ?_
  refine StoreAt.mk 0 _ _ rfl rfl ?_
  refine .sched [15] (upto [15] 19 0) (by kernel_rfl) ?_
  refine LoadAt.mk 0 _ _ rfl rfl ?_
  refine LoadAt.mk 0 _ _ rfl rfl ?_
  refine LoadAt.mk 0 _ _ rfl rfl ?_
  refine callQ [] (aNext s.n s.edges node _ hf.elen) ?_
  refine StoreAt.mk 0 _ _ rfl rfl ?_
  refine LoadAt.mk 0 _ _ rfl rfl ?_
  refine bcond_dec (fun c1 => ?_) (fun c1 => ?_)
  · have c1 : (↑(toS s.n s.edges node).length : Int) = 0 := c1
    exact .done ⟨av_int (if_pos (show (toS s.n s.edges node).length = 0 by omega)).symm, rfl⟩
  · have c1 : ¬ ((↑(toS s.n s.edges node).length : Int) = 0) := c1
    exact .done ⟨av_int (if_neg (show ¬ (toS s.n s.edges node).length = 0 by omega)).symm, rfl⟩
end Go.Proofs.YtegpahamenjiaaaGreat
