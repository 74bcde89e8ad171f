/-
  package transfer: references and codes, are they right? By the walk.
-/
import Derived.Test.YtggcpiddnhipiaaGreatLj
namespace Go.Proofs.YtggcpiddnhipiaaGreat
open Go.RowKit
set_option maxRecDepth 100000
def isN (x y : Int) : Bool := decide (x = wrapP x) && decide (y = wrapP y)
/-- Is a reference right? -/
def refOk (w : Int) (r : RefT) : Bool := if r.1 = -1 then isN r.2.1.1 r.2.1.2.1 else decide (0 ≤ r.1) && decide (r.1 < w) && (decide (r.2.1.1 = 0) && decide (r.2.1.2.1 = 0))
theorem eq2 (x y : Int) : allB (eqAll (nC x y) (nC 0 0)) = (decide (x = 0) && decide (y = 0)) := by
  show (decide (x = 0) && (decide (y = 0) && true)) = _
  rw [Bool.and_true]
theorem aTRef (w : Int) (r : RefT) (σ : Hp) : ACalls Tryz.prog 159 [.int .i64 w, .agg (refC r)] σ (Ret (.bool (refOk w r)) σ) := by
  obtain ⟨v, ⟨x, y, u⟩, u2⟩ := r
  refine okF Tryz.func159 (by kernel_rfl) ?_
  unfold refOk
  show bodyW Tryz.prog tt _ [.int .i64 w, .agg [.int .i64 v, .int .i64 x, .int .i64 y]] σ (Ret (.bool (if v = -1 then isN x y else decide (0 ≤ v) && decide (v < w) && (decide (x = 0) && decide (y = 0)))) σ)
  intro bl1
  refine LoadAt.mk 0 _ _ rfl rfl ?_
  refine bcond_dec (fun c2 => ?_) (fun c2 => ?_)
  · have c2 : v = -1 := c2
    refine LoadAt.mk 0 _ _ rfl rfl ?_
    refine callR [] (gIsX _ _ _) ?_
    exact .drop 0 1 (.done ⟨av_bool (by rw [if_pos c2]; rfl), rfl⟩)
  · have c2 : ¬ (v = -1) := c2
    refine LoadAt.mk 0 _ _ rfl rfl ?_
    refine bcond_dec (fun c3 => ?_) (fun c3 => ?_)
    · have c3 : 0 ≤ v := c3
      refine LoadAt.mk 0 _ _ rfl rfl ?_
      refine bcond_dec (fun c4 => ?_) (fun c4 => ?_)
      · have c4 : v < w := c4
        refine LoadAt.mk 0 _ _ rfl rfl ?_
        refine EqAt.mk (by kernel_rfl) (by kernel_rfl) ?_
        refine bcond_split (fun c5 => ?_) (fun c5 => ?_)
        · have c5 := (eq2 x y).symm.trans c5
          exact .drop 0 1 (.done ⟨av_bool (by rw [if_neg c2, decide_eq_true c3, decide_eq_true c4, c5]; rfl), rfl⟩)
        · have c5 := (eq2 x y).symm.trans c5
          exact .drop 0 1 (.done ⟨av_bool (by rw [if_neg c2, decide_eq_true c3, decide_eq_true c4, c5]; rfl), rfl⟩)
      · have c4 : ¬ (v < w) := c4
        exact .drop 0 1 (.done ⟨av_bool (by rw [if_neg c2, decide_eq_true c3, decide_eq_false c4]; rfl), rfl⟩)
    · have c3 : ¬ (0 ≤ v) := c3
      exact .drop 0 1 (.done ⟨av_bool (by rw [if_neg c2, decide_eq_false c3]; rfl), rfl⟩)
theorem eqN (x y z w : Int) : allB (eqAll (nC x y) (nC z w)) = (decide (x = z) && decide (y = w)) := by
  show (decide (x = z) && (decide (y = w) && true)) = _
  rw [Bool.and_true]
theorem aTRefR (w : Int) (r : RefT) (σ : Hp) : ACalls Tryz.prog 80 [.int .i64 w, .agg (refC r)] σ (Ret (.bool (refOk w r)) σ) := by
  obtain ⟨v, ⟨x, y, u⟩, u2⟩ := r
  refine okF Tryz.func80 (by kernel_rfl) ?_
  unfold refOk
  show bodyW Tryz.prog tt _ [.int .i64 w, .agg [.int .i64 v, .int .i64 x, .int .i64 y]] σ (Ret (.bool (if v = -1 then isN x y else decide (0 ≤ v) && decide (v < w) && (decide (x = 0) && decide (y = 0)))) σ)
  intro bl1
  refine LoadAt.mk 0 _ _ rfl rfl ?_
  refine bcond_dec (fun c2 => ?_) (fun c2 => ?_)
  · have c2 : v = -1 := c2
    refine .quiet (by kernel_rfl) ?_
    refine LoadAt.mk 0 _ _ rfl rfl ?_
    refine LoadAt.mk 0 _ _ rfl rfl ?_
    refine LoadAt.mk 0 _ _ rfl rfl ?_
    refine callQ [] (rOfX _ _ _) ?_
    refine EqAt.mk (by kernel_rfl) (by kernel_rfl) ?_
    refine bcond_split (fun c3 => ?_) (fun c3 => ?_)
    · have c3 := (eqN x y (wrapP x) (wrapP y)).symm.trans c3
      exact .drop 0 1 (.done ⟨av_bool (by rw [if_pos c2]; exact c3.symm), rfl⟩)
    · have c3 := (eqN x y (wrapP x) (wrapP y)).symm.trans c3
      exact .drop 0 1 (.done ⟨av_bool (by rw [if_pos c2]; exact c3.symm), rfl⟩)
  · have c2 : ¬ (v = -1) := c2
    refine LoadAt.mk 0 _ _ rfl rfl ?_
    refine bcond_dec (fun c4 => ?_) (fun c4 => ?_)
    · have c4 : 0 ≤ v := c4
      refine LoadAt.mk 0 _ _ rfl rfl ?_
      refine bcond_dec (fun c5 => ?_) (fun c5 => ?_)
      · have c5 : v < w := c5
        refine LoadAt.mk 0 _ _ rfl rfl ?_
        refine EqAt.mk (by kernel_rfl) (by kernel_rfl) ?_
        refine bcond_split (fun c6 => ?_) (fun c6 => ?_)
        · have c6 := (eq2 x y).symm.trans c6
          exact .drop 0 1 (.done ⟨av_bool (by rw [if_neg c2, decide_eq_true c4, decide_eq_true c5, c6]; rfl), rfl⟩)
        · have c6 := (eq2 x y).symm.trans c6
          exact .drop 0 1 (.done ⟨av_bool (by rw [if_neg c2, decide_eq_true c4, decide_eq_true c5, c6]; rfl), rfl⟩)
      · have c5 : ¬ (v < w) := c5
        exact .drop 0 1 (.done ⟨av_bool (by rw [if_neg c2, decide_eq_true c4, decide_eq_false c5]; rfl), rfl⟩)
    · have c4 : ¬ (0 ≤ v) := c4
      exact .drop 0 1 (.done ⟨av_bool (by rw [if_neg c2, decide_eq_false c4]; rfl), rfl⟩)
/-- Is a code right? -/
def refZ (r : RefT) : Bool := decide (r.1 = 0) && (decide (r.2.1.1 = 0) && decide (r.2.1.2.1 = 0))
theorem eq3 (r : RefT) : allB (eqAll (refC r) [.int .i64 0, .int .i64 0, .int .i64 0]) = refZ r := by
  show (decide (r.1 = 0) && (decide (r.2.1.1 = 0) && (decide (r.2.1.2.1 = 0) && true))) = _
  rw [Bool.and_true]; rfl
def codeR (w : Int) (c : CodeT) : Bool := if c.1 < 0 then false else if w ≤ c.1 then false else if c.2.1 < -1 then false else if 4 < c.2.1 then false else if c.2.1 = -1 then refZ c.2.2.1 && refZ c.2.2.2.1 else refOk w c.2.2.1 && refOk w c.2.2.2.1
theorem aTCode (w : Int) (c : CodeT) (σ : Hp) : ACalls Tryz.prog 125 [.int .i64 w, .agg (codeC c)] σ (Ret (.bool (codeR w c)) σ) := by
  refine okF Tryz.func125 (by kernel_rfl) ?_
  intro bl1
  refine LoadAt.mk 0 _ _ rfl rfl ?_
  refine bcond_dec (fun c2 => ?_) (fun c2 => ?_)
  · have c2 : c.fst < 0 := c2
    exact .drop 0 1 (.done ⟨av_bool (by simp [codeR, *]), rfl⟩)
  · have c2 : ¬ (c.fst < 0) := c2
    refine LoadAt.mk 0 _ _ rfl rfl ?_
    refine bcond_dec (fun c3 => ?_) (fun c3 => ?_)
    · have c3 : w ≤ c.fst := c3
      exact .drop 0 1 (.done ⟨av_bool (by simp [codeR, *]), rfl⟩)
    · have c3 : ¬ (w ≤ c.fst) := c3
      refine LoadAt.mk 0 _ _ rfl rfl ?_
      refine bcond_dec (fun c4 => ?_) (fun c4 => ?_)
      · have c4 : c.snd.fst < -1 := c4
        exact .drop 0 1 (.done ⟨av_bool (by simp [codeR, *]), rfl⟩)
      · have c4 : ¬ (c.snd.fst < -1) := c4
        refine LoadAt.mk 0 _ _ rfl rfl ?_
        refine bcond_dec (fun c5 => ?_) (fun c5 => ?_)
        · have c5 : 4 < c.snd.fst := c5
          exact .drop 0 1 (.done ⟨av_bool (by simp [codeR, *]), rfl⟩)
        · have c5 : ¬ (4 < c.snd.fst) := c5
          refine LoadAt.mk 0 _ _ rfl rfl ?_
          refine bcond_dec (fun c6 => ?_) (fun c6 => ?_)
          · have c6 : c.snd.fst = -1 := c6
            refine LoadAt.mk 0 _ _ rfl rfl ?_
            refine EqAt.mk (by kernel_rfl) (by kernel_rfl) ?_
            refine bcond_split (fun c7 => ?_) (fun c7 => ?_)
            · have c7 := (eq3 c.2.2.1).symm.trans c7
              refine LoadAt.mk 0 _ _ rfl rfl ?_
              refine EqAt.mk (by kernel_rfl) (by kernel_rfl) ?_
              refine bcond_split (fun c8 => ?_) (fun c8 => ?_)
              · have c8 := (eq3 c.2.2.2.1).symm.trans c8
                exact .drop 0 1 (.done ⟨av_bool (by simp [codeR, *]), rfl⟩)
              · have c8 := (eq3 c.2.2.2.1).symm.trans c8
                exact .drop 0 1 (.done ⟨av_bool (by simp [codeR, *]), rfl⟩)
            · have c7 := (eq3 c.2.2.1).symm.trans c7
              exact .drop 0 1 (.done ⟨av_bool (by simp [codeR, *]), rfl⟩)
          · have c6 : ¬ (c.snd.fst = -1) := c6
            refine LoadAt.mk 0 _ _ rfl rfl ?_
            refine callB [] (aTRef w c.2.2.1 _) (fun cA => ?_) (fun cA => ?_)
            · refine LoadAt.mk 0 _ _ rfl rfl ?_
              refine callB [] (aTRef w c.2.2.2.1 _) (fun cB => ?_) (fun cB => ?_)
              · exact .drop 0 1 (.done ⟨av_bool (by simp [codeR, *]), rfl⟩)
              · exact .drop 0 1 (.done ⟨av_bool (by simp [codeR, *]), rfl⟩)
            · exact .drop 0 1 (.done ⟨av_bool (by simp [codeR, *]), rfl⟩)
end Go.Proofs.YtggcpiddnhipiaaGreat
