/-
  Tr: what the claim uses of them.
-/
import Derived.Test.YtljbnigceammdaaGreatDoorBn20
namespace Go.Proofs.YtljbnigceammdaaGreatDoor
open Go.RowKit
set_option maxRecDepth 100000
def isN (x y : Int) : Bool := decide (x = wrapP x) && decide (y = wrapP y)
/-- Is a reference right? -/
def refOk (w : Int) (r : RefT) : Bool := if r.1 = -1 then isN r.2.1.1 r.2.1.2.1 else decide (0 ≤ r.1) && decide (r.1 < w) && (decide (r.2.1.1 = 0) && decide (r.2.1.2.1 = 0))
theorem eq2 (x y : Int) : allB (eqAll (nC x y) (nC 0 0)) = (decide (x = 0) && decide (y = 0)) := by
  show (decide (x = 0) && (decide (y = 0) && true)) = _
  rw [Bool.and_true]
theorem aTRef (w : Int) (r : RefT) (σ : Hp) : ACalls Tryz.prog 186 [.int .i64 w, .agg (refC r)] σ (Ret (.bool (refOk w r)) σ) := by
  obtain ⟨v, ⟨x, y, u⟩, u2⟩ := r
  refine okF Tryz.func186 (by kernel_rfl) ?_
  unfold refOk
  show bodyW Tryz.prog tt _ [.int .i64 w, .agg [.int .i64 v, .int .i64 x, .int .i64 y]] σ (Ret (.bool (if v = -1 then isN x y else decide (0 ≤ v) && decide (v < w) && (decide (x = 0) && decide (y = 0)))) σ)
  intro bl1
  refine LoadAt.mk 0 _ _ rfl rfl ?_
  refine bcond_dec (fun c2 => ?_) (fun c2 => ?_)
  · have c2 : v = -1 := c2
    refine LoadAt.mk 0 _ _ rfl rfl ?_
    refine callR [] (gIsX _ _ _) ?_
    exact .drop 0 1 (.done ⟨av_bool (by rw [if_pos c2]; rfl), rfl⟩)
  · have c2 : ¬ (v = -1) := c2
    refine LoadAt.mk 0 _ _ rfl rfl ?_
    refine bcond_dec (fun c3 => ?_) (fun c3 => ?_)
    · have c3 : 0 ≤ v := c3
      refine LoadAt.mk 0 _ _ rfl rfl ?_
      refine bcond_dec (fun c4 => ?_) (fun c4 => ?_)
      · have c4 : v < w := c4
        refine LoadAt.mk 0 _ _ rfl rfl ?_
        refine EqAt.mk (by kernel_rfl) (by kernel_rfl) ?_
        refine bcond_split (fun c5 => ?_) (fun c5 => ?_)
        · have c5 := (eq2 x y).symm.trans c5
          exact .drop 0 1 (.done ⟨av_bool (by rw [if_neg c2, decide_eq_true c3, decide_eq_true c4, c5]; rfl), rfl⟩)
        · have c5 := (eq2 x y).symm.trans c5
          exact .drop 0 1 (.done ⟨av_bool (by rw [if_neg c2, decide_eq_true c3, decide_eq_true c4, c5]; rfl), rfl⟩)
      · have c4 : ¬ (v < w) := c4
        exact .drop 0 1 (.done ⟨av_bool (by rw [if_neg c2, decide_eq_true c3, decide_eq_false c4]; rfl), rfl⟩)
    · have c3 : ¬ (0 ≤ v) := c3
      exact .drop 0 1 (.done ⟨av_bool (by rw [if_neg c2, decide_eq_false c3]; rfl), rfl⟩)
/-- Is a code right? -/
def refZ (r : RefT) : Bool := decide (r.1 = 0) && (decide (r.2.1.1 = 0) && decide (r.2.1.2.1 = 0))
theorem eq3 (r : RefT) : allB (eqAll (refC r) [.int .i64 0, .int .i64 0, .int .i64 0]) = refZ r := by
  show (decide (r.1 = 0) && (decide (r.2.1.1 = 0) && (decide (r.2.1.2.1 = 0) && true))) = _
  rw [Bool.and_true]; rfl
def codeR (w : Int) (c : CodeT) : Bool := if c.1 < 0 then false else if w ≤ c.1 then false else if c.2.1 < -1 then false else if 4 < c.2.1 then false else if c.2.1 = -1 then refZ c.2.2.1 && refZ c.2.2.2.1 else refOk w c.2.2.1 && refOk w c.2.2.2.1
theorem aTCode (w : Int) (c : CodeT) (σ : Hp) : ACalls Tryz.prog 173 [.int .i64 w, .agg (codeC c)] σ (Ret (.bool (codeR w c)) σ) := by
  refine okF Tryz.func173 (by kernel_rfl) ?_
  intro bl1
  refine LoadAt.mk 0 _ _ rfl rfl ?_
  refine bcond_dec (fun c2 => ?_) (fun c2 => ?_)
  · have c2 : c.fst < 0 := c2
    exact .drop 0 1 (.done ⟨av_bool (by simp [codeR, *]), rfl⟩)
  · have c2 : ¬ (c.fst < 0) := c2
    refine LoadAt.mk 0 _ _ rfl rfl ?_
    refine bcond_dec (fun c3 => ?_) (fun c3 => ?_)
    · have c3 : w ≤ c.fst := c3
      exact .drop 0 1 (.done ⟨av_bool (by simp [codeR, *]), rfl⟩)
    · have c3 : ¬ (w ≤ c.fst) := c3
      refine LoadAt.mk 0 _ _ rfl rfl ?_
      refine bcond_dec (fun c4 => ?_) (fun c4 => ?_)
      · have c4 : c.snd.fst < -1 := c4
        exact .drop 0 1 (.done ⟨av_bool (by simp [codeR, *]), rfl⟩)
      · have c4 : ¬ (c.snd.fst < -1) := c4
        refine LoadAt.mk 0 _ _ rfl rfl ?_
        refine bcond_dec (fun c5 => ?_) (fun c5 => ?_)
        · have c5 : 4 < c.snd.fst := c5
          exact .drop 0 1 (.done ⟨av_bool (by simp [codeR, *]), rfl⟩)
        · have c5 : ¬ (4 < c.snd.fst) := c5
          refine LoadAt.mk 0 _ _ rfl rfl ?_
          refine bcond_dec (fun c6 => ?_) (fun c6 => ?_)
          · have c6 : c.snd.fst = -1 := c6
            refine LoadAt.mk 0 _ _ rfl rfl ?_
            refine EqAt.mk (by kernel_rfl) (by kernel_rfl) ?_
            refine bcond_split (fun c7 => ?_) (fun c7 => ?_)
            · have c7 := (eq3 c.2.2.1).symm.trans c7
              refine LoadAt.mk 0 _ _ rfl rfl ?_
              refine EqAt.mk (by kernel_rfl) (by kernel_rfl) ?_
              refine bcond_split (fun c8 => ?_) (fun c8 => ?_)
              · have c8 := (eq3 c.2.2.2.1).symm.trans c8
                exact .drop 0 1 (.done ⟨av_bool (by simp [codeR, *]), rfl⟩)
              · have c8 := (eq3 c.2.2.2.1).symm.trans c8
                exact .drop 0 1 (.done ⟨av_bool (by simp [codeR, *]), rfl⟩)
            · have c7 := (eq3 c.2.2.1).symm.trans c7
              exact .drop 0 1 (.done ⟨av_bool (by simp [codeR, *]), rfl⟩)
          · have c6 : ¬ (c.snd.fst = -1) := c6
            refine LoadAt.mk 0 _ _ rfl rfl ?_
            refine callB [] (aTRef w c.2.2.1 _) (fun cA => ?_) (fun cA => ?_)
            · refine LoadAt.mk 0 _ _ rfl rfl ?_
              refine callB [] (aTRef w c.2.2.2.1 _) (fun cB => ?_) (fun cB => ?_)
              · exact .drop 0 1 (.done ⟨av_bool (by simp [codeR, *]), rfl⟩)
              · exact .drop 0 1 (.done ⟨av_bool (by simp [codeR, *]), rfl⟩)
            · exact .drop 0 1 (.done ⟨av_bool (by simp [codeR, *]), rfl⟩)
set_option maxRecDepth 100000
/-- A transfer's cells: what it makes, what it takes away, codes. -/
abbrev transSh : Sh := .field (.slice (.int .u64)) (.field (.slice (.int .u64)) (.field (.slice codeSh) .nil))
abbrev trC (g k : List Int) (l : List CodeT) : List AV := [.fsl (.int .u64) g, .fsl (.int .u64) k, .fsl codeSh l]
theorem aCheckC1 (w : Int) (c : CodeT) (q : Nat) (σ : Hp) : ACalls Tryz.prog 172 [codeV c, .ptr q 0] ((q, [.int .i64 w]) :: σ) (Ret (.bool (!codeR w c)) ((q, [.int .i64 w]) :: σ)) := by
  refine okF Tryz.func172 (by kernel_rfl) ?_
  unfold codeV
  intro bl1
  refine LoadAt.mk 1 _ _ rfl rfl ?_
  refine LoadAt.mk 0 _ _ rfl rfl ?_
  refine callR [] (aTCode w c _) ?_
  exact .drop 0 1 (.done ⟨rfl, rfl⟩)
/-- What Check tells. -/
def trOk (what w : Int) (g k : List Int) (l : List CodeT) : Bool := if what = 3 then decide (g.length + k.length = 0) && (l.all (codeR w)) else decide (l.length = 0) && fitsW g w && fitsW k w
def checkT (what w : Int) (g k : List Int) (l : List CodeT) : Int := if is12 what w = true then (if trOk what w g k l = true then 0 else 2) else 10
theorem all_not {α : Type} (l : List α) {p : α → Bool} : l.all p = !l.any fun c => !p c := List.all_eq_not_any_not ..
theorem all_l {w : Int} (l : List CodeT) {b : Bool} (h : (l.any fun c => !codeR w c) = b) : l.all (codeR w) = !b := by rw [all_not, h]
theorem chk0 {what w : Int} {g k : List Int} {l : List CodeT} (hi : is12 what w = true) (ht : trOk what w g k l = true) : 0 = checkT what w g k l := by unfold checkT; rw [if_pos hi, if_pos ht]
theorem chk2 {what w : Int} {g k : List Int} {l : List CodeT} (hi : is12 what w = true) (ht : trOk what w g k l = false) : 2 = checkT what w g k l := by unfold checkT; rw [if_pos hi, ht]; rfl
theorem chk10 {what w : Int} {g k : List Int} {l : List CodeT} (hi : is12 what w = false) : 10 = checkT what w g k l := by unfold checkT; rw [hi]; rfl
theorem trS {what w : Int} {g k : List Int} {l : List CodeT} (h : ¬ what = 3) : trOk what w g k l = (decide (l.length = 0) && fitsW g w && fitsW k w) := if_neg h
theorem trN {what w : Int} {g k : List Int} {l : List CodeT} (h : what = 3) : trOk what w g k l = (decide (g.length + k.length = 0) && (l.all (codeR w))) := if_pos h
theorem is_yes {what w : Int} (h : 1 ≤ what ∧ what ≤ 3 ∧ 0 ≤ w ∧ w ≤ 1024) : is12 what w = true := by unfold is12; simp; omega
theorem is_no {what w : Int} (h : ¬ (1 ≤ what ∧ what ≤ 3 ∧ 0 ≤ w ∧ w ≤ 1024)) : is12 what w = false := by unfold is12; simp; omega
theorem aTCheck (what w : Int) (g k : List Int) (l : List CodeT) (σ : Hp) (hg : A64 g) (hk : A64 k) (lg : g.length ≤ 10000) (lk : k.length ≤ 10000) (ll : l.length ≤ 1000000) : ACalls Tryz.prog 154 [.int .i64 what, .int .i64 w, .agg (trC g k l)] σ (Ret (.int .i64 (checkT what w g k l)) σ) := by
  refine okF Tryz.func154 (by kernel_rfl) ?_
  intro bl1
  intro bl2
  refine LoadAt.mk 1 _ _ rfl rfl ?_
  refine bcond_dec (fun c3 => ?_) (fun c3 => ?_)
  · have c3 : w < 0 := c3
    exact .drop 0 2 (.done ⟨av_int (chk10 (is_no (by omega))), rfl⟩)
  · have c3 : ¬ (w < 0) := c3
    refine LoadAt.mk 1 _ _ rfl rfl ?_
    refine bcond_dec (fun c4 => ?_) (fun c4 => ?_)
    · have c4 : 1024 < w := c4
      exact .drop 0 2 (.done ⟨av_int (chk10 (is_no (by omega))), rfl⟩)
    · have c4 : ¬ (1024 < w) := c4
      refine bcond_dec (fun c5 => ?_) (fun c5 => ?_)
      · have c5 : what = 1 := c5
        refine LoadAt.mk 0 _ _ rfl rfl ?_
        refine LoadAt.mk 1 _ _ rfl rfl ?_
        refine callB [] (aFits10 g w _ hg lg) (fun cG => ?_) (fun cG => ?_)
        · refine LoadAt.mk 0 _ _ rfl rfl ?_
          refine LoadAt.mk 1 _ _ rfl rfl ?_
          refine callB [] (aFits10 k w _ hk lk) (fun cK => ?_) (fun cK => ?_)
          · refine LoadAt.mk 0 _ _ rfl rfl ?_
            refine bcond_dec (fun c6 => ?_) (fun c6 => ?_)
            · have c6 : (↑l.length : Int) = 0 := c6
              have hl0 : decide (l.length = 0) = true := decide_eq_true (by have h0 : (l.length : Int) = 0 := c6; omega)
              exact .drop 0 2 (.done ⟨av_int (chk0 (is_yes (by omega)) (by rw [trS (by omega), hl0, cG, cK]; rfl)), rfl⟩)
            · have c6 : ¬ ((↑l.length : Int) = 0) := c6
              have hl0 : decide (l.length = 0) = false := decide_eq_false (by have h0 : ¬ (l.length : Int) = 0 := c6; omega)
              exact .drop 0 2 (.done ⟨av_int (chk2 (is_yes (by omega)) (by rw [trS (by omega), hl0]; rfl)), rfl⟩)
          · exact .drop 0 2 (.done ⟨av_int (chk2 (is_yes (by omega)) (by rw [trS (by omega), cK]; simp)), rfl⟩)
        · exact .drop 0 2 (.done ⟨av_int (chk2 (is_yes (by omega)) (by rw [trS (by omega), cG]; simp)), rfl⟩)
      · have c5 : ¬ (what = 1) := c5
        refine bcond_dec (fun c7 => ?_) (fun c7 => ?_)
        · have c7 : what = 2 := c7
          refine LoadAt.mk 0 _ _ rfl rfl ?_
          refine LoadAt.mk 1 _ _ rfl rfl ?_
          refine callB [] (aFits10 g w _ hg lg) (fun cG => ?_) (fun cG => ?_)
          · refine LoadAt.mk 0 _ _ rfl rfl ?_
            refine LoadAt.mk 1 _ _ rfl rfl ?_
            refine callB [] (aFits10 k w _ hk lk) (fun cK => ?_) (fun cK => ?_)
            · refine LoadAt.mk 0 _ _ rfl rfl ?_
              refine bcond_dec (fun c8 => ?_) (fun c8 => ?_)
              · have c8 : (↑l.length : Int) = 0 := c8
                have hl0 : decide (l.length = 0) = true := decide_eq_true (by have h0 : (l.length : Int) = 0 := c8; omega)
                exact .drop 0 2 (.done ⟨av_int (chk0 (is_yes (by omega)) (by rw [trS (by omega), hl0, cG, cK]; rfl)), rfl⟩)
              · have c8 : ¬ ((↑l.length : Int) = 0) := c8
                have hl0 : decide (l.length = 0) = false := decide_eq_false (by have h0 : ¬ (l.length : Int) = 0 := c8; omega)
                exact .drop 0 2 (.done ⟨av_int (chk2 (is_yes (by omega)) (by rw [trS (by omega), hl0]; rfl)), rfl⟩)
            · exact .drop 0 2 (.done ⟨av_int (chk2 (is_yes (by omega)) (by rw [trS (by omega), cK]; simp)), rfl⟩)
          · exact .drop 0 2 (.done ⟨av_int (chk2 (is_yes (by omega)) (by rw [trS (by omega), cG]; simp)), rfl⟩)
        · have c7 : ¬ (what = 2) := c7
          refine bcond_dec (fun c9 => ?_) (fun c9 => ?_)
          · have c9 : what = 3 := c9
            refine LoadAt.mk 0 _ _ rfl rfl ?_
            refine LoadAt.mk 0 _ _ rfl rfl ?_
            refine bcond_dec (fun c10 => ?_) (fun c10 => ?_)
            · have c10 : IntKind.i64.wrap ((↑g.length : Int) + (↑k.length : Int)) = 0 := c10
              refine LoadAt.mk 0 _ _ rfl rfl ?_
              rw [w64 (by omega)] at c10
              refine callB [1] (aContainsC 172 [.ptr bl1 0] l (fun c => !codeR w c) _ ll (fun i hi => aCheckC1 w l[i] bl1 _)) (fun cL => ?_) (fun cL => ?_)
              · exact .drop 0 2 (.done ⟨av_int (chk2 (is_yes (by omega)) (by rw [trN c9, all_l l cL]; simp)), rfl⟩)
              · exact .drop 0 2 (.done ⟨av_int (chk0 (is_yes (by omega)) (by rw [trN c9, all_l l cL, decide_eq_true (by omega)]; rfl)), rfl⟩)
            · have c10 : ¬ (IntKind.i64.wrap ((↑g.length : Int) + (↑k.length : Int)) = 0) := c10
              exact .drop 0 2 (.done ⟨av_int (chk2 (is_yes (by omega)) (by rw [w64 (by omega)] at c10; rw [trN c9, decide_eq_false (by omega)]; rfl)), rfl⟩)
          · have c9 : ¬ (what = 3) := c9
            exact .drop 0 2 (.done ⟨av_int (chk10 (is_no (by omega))), rfl⟩)
set_option maxRecDepth 100000
end Go.Proofs.YtljbnigceammdaaGreatDoor
