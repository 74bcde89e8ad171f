/-
  package transfer: Check; soughref16.Check.
-/
import Derived.Test.YtggcpiddnhipiaaGreatTc
namespace Go.Proofs.YtggcpiddnhipiaaGreat
open Go.RowKit
set_option maxRecDepth 100000
/-- A transfer's cells: what it makes, what it takes away, codes. -/
abbrev transSh : Sh := .field (.slice (.int .u64)) (.field (.slice (.int .u64)) (.field (.slice codeSh) .nil))
abbrev trC (g k : List Int) (l : List CodeT) : List AV := [.fsl (.int .u64) g, .fsl (.int .u64) k, .fsl codeSh l]
theorem aCheckC1 (w : Int) (c : CodeT) (q : Nat) (σ : Hp) : ACalls Tryz.prog 124 [codeV c, .ptr q 0] ((q, [.int .i64 w]) :: σ) (Ret (.bool (!codeR w c)) ((q, [.int .i64 w]) :: σ)) := by
  refine okF Tryz.func124 (by kernel_rfl) ?_
  unfold codeV
  intro bl1
  refine LoadAt.mk 1 _ _ rfl rfl ?_
  refine LoadAt.mk 0 _ _ rfl rfl ?_
  refine callR [] (aTCode w c _) ?_
  exact .drop 0 1 (.done ⟨rfl, rfl⟩)
/-- What Check tells. -/
def trOk (what w : Int) (g k : List Int) (l : List CodeT) : Bool := if what = 3 then decide (g.length + k.length = 0) && (l.all (codeR w)) else decide (l.length = 0) && fitsW g w && fitsW k w
def checkT (what w : Int) (g k : List Int) (l : List CodeT) : Int := if is12 what w = true then (if trOk what w g k l = true then 0 else 2) else 10
theorem all_not {α : Type} (l : List α) {p : α → Bool} : l.all p = !l.any fun c => !p c := List.all_eq_not_any_not ..
theorem all_l {w : Int} (l : List CodeT) {b : Bool} (h : (l.any fun c => !codeR w c) = b) : l.all (codeR w) = !b := by rw [all_not, h]
theorem chk0 {what w : Int} {g k : List Int} {l : List CodeT} (hi : is12 what w = true) (ht : trOk what w g k l = true) : 0 = checkT what w g k l := by unfold checkT; rw [if_pos hi, if_pos ht]
theorem chk2 {what w : Int} {g k : List Int} {l : List CodeT} (hi : is12 what w = true) (ht : trOk what w g k l = false) : 2 = checkT what w g k l := by unfold checkT; rw [if_pos hi, ht]; rfl
theorem chk10 {what w : Int} {g k : List Int} {l : List CodeT} (hi : is12 what w = false) : 10 = checkT what w g k l := by unfold checkT; rw [hi]; rfl
theorem trS {what w : Int} {g k : List Int} {l : List CodeT} (h : ¬ what = 3) : trOk what w g k l = (decide (l.length = 0) && fitsW g w && fitsW k w) := if_neg h
theorem trN {what w : Int} {g k : List Int} {l : List CodeT} (h : what = 3) : trOk what w g k l = (decide (g.length + k.length = 0) && (l.all (codeR w))) := if_pos h
theorem is_yes {what w : Int} (h : 1 ≤ what ∧ what ≤ 3 ∧ 0 ≤ w ∧ w ≤ 1024) : is12 what w = true := by unfold is12; simp; omega
theorem is_no {what w : Int} (h : ¬ (1 ≤ what ∧ what ≤ 3 ∧ 0 ≤ w ∧ w ≤ 1024)) : is12 what w = false := by unfold is12; simp; omega
theorem aTCheck (what w : Int) (g k : List Int) (l : List CodeT) (σ : Hp) (hg : A64 g) (hk : A64 k) (lg : g.length ≤ 10000) (lk : k.length ≤ 10000) (ll : l.length ≤ 1000000) : ACalls Tryz.prog 75 [.int .i64 what, .int .i64 w, .agg (trC g k l)] σ (Ret (.int .i64 (checkT what w g k l)) σ) := by
  refine okF Tryz.func75 (by kernel_rfl) ?_
  intro bl1
  intro bl2
  refine LoadAt.mk 1 _ _ rfl rfl ?_
  refine bcond_dec (fun c3 => ?_) (fun c3 => ?_)
  · have c3 : w < 0 := c3
    exact .drop 0 2 (.done ⟨av_int (chk10 (is_no (by omega))), rfl⟩)
  · have c3 : ¬ (w < 0) := c3
    refine LoadAt.mk 1 _ _ rfl rfl ?_
    refine bcond_dec (fun c4 => ?_) (fun c4 => ?_)
    · have c4 : 1024 < w := c4
      exact .drop 0 2 (.done ⟨av_int (chk10 (is_no (by omega))), rfl⟩)
    · have c4 : ¬ (1024 < w) := c4
      refine bcond_dec (fun c5 => ?_) (fun c5 => ?_)
      · have c5 : what = 1 := c5
        refine LoadAt.mk 0 _ _ rfl rfl ?_
        refine LoadAt.mk 1 _ _ rfl rfl ?_
        refine callB [] (aFits10 g w _ hg lg) (fun cG => ?_) (fun cG => ?_)
        · refine LoadAt.mk 0 _ _ rfl rfl ?_
          refine LoadAt.mk 1 _ _ rfl rfl ?_
          refine callB [] (aFits10 k w _ hk lk) (fun cK => ?_) (fun cK => ?_)
          · refine LoadAt.mk 0 _ _ rfl rfl ?_
            refine bcond_dec (fun c6 => ?_) (fun c6 => ?_)
            · have c6 : (↑l.length : Int) = 0 := c6
              have hl0 : decide (l.length = 0) = true := decide_eq_true (by have h0 : (l.length : Int) = 0 := c6; omega)
              exact .drop 0 2 (.done ⟨av_int (chk0 (is_yes (by omega)) (by rw [trS (by omega), hl0, cG, cK]; rfl)), rfl⟩)
            · have c6 : ¬ ((↑l.length : Int) = 0) := c6
              have hl0 : decide (l.length = 0) = false := decide_eq_false (by have h0 : ¬ (l.length : Int) = 0 := c6; omega)
              exact .drop 0 2 (.done ⟨av_int (chk2 (is_yes (by omega)) (by rw [trS (by omega), hl0]; rfl)), rfl⟩)
          · exact .drop 0 2 (.done ⟨av_int (chk2 (is_yes (by omega)) (by rw [trS (by omega), cK]; simp)), rfl⟩)
        · exact .drop 0 2 (.done ⟨av_int (chk2 (is_yes (by omega)) (by rw [trS (by omega), cG]; simp)), rfl⟩)
      · have c5 : ¬ (what = 1) := c5
        refine bcond_dec (fun c7 => ?_) (fun c7 => ?_)
        · have c7 : what = 2 := c7
          refine LoadAt.mk 0 _ _ rfl rfl ?_
          refine LoadAt.mk 1 _ _ rfl rfl ?_
          refine callB [] (aFits10 g w _ hg lg) (fun cG => ?_) (fun cG => ?_)
          · refine LoadAt.mk 0 _ _ rfl rfl ?_
            refine LoadAt.mk 1 _ _ rfl rfl ?_
            refine callB [] (aFits10 k w _ hk lk) (fun cK => ?_) (fun cK => ?_)
            · refine LoadAt.mk 0 _ _ rfl rfl ?_
              refine bcond_dec (fun c8 => ?_) (fun c8 => ?_)
              · have c8 : (↑l.length : Int) = 0 := c8
                have hl0 : decide (l.length = 0) = true := decide_eq_true (by have h0 : (l.length : Int) = 0 := c8; omega)
                exact .drop 0 2 (.done ⟨av_int (chk0 (is_yes (by omega)) (by rw [trS (by omega), hl0, cG, cK]; rfl)), rfl⟩)
              · have c8 : ¬ ((↑l.length : Int) = 0) := c8
                have hl0 : decide (l.length = 0) = false := decide_eq_false (by have h0 : ¬ (l.length : Int) = 0 := c8; omega)
                exact .drop 0 2 (.done ⟨av_int (chk2 (is_yes (by omega)) (by rw [trS (by omega), hl0]; rfl)), rfl⟩)
            · exact .drop 0 2 (.done ⟨av_int (chk2 (is_yes (by omega)) (by rw [trS (by omega), cK]; simp)), rfl⟩)
          · exact .drop 0 2 (.done ⟨av_int (chk2 (is_yes (by omega)) (by rw [trS (by omega), cG]; simp)), rfl⟩)
        · have c7 : ¬ (what = 2) := c7
          refine bcond_dec (fun c9 => ?_) (fun c9 => ?_)
          · have c9 : what = 3 := c9
            refine LoadAt.mk 0 _ _ rfl rfl ?_
            refine LoadAt.mk 0 _ _ rfl rfl ?_
            refine bcond_dec (fun c10 => ?_) (fun c10 => ?_)
            · have c10 : IntKind.i64.wrap ((↑g.length : Int) + (↑k.length : Int)) = 0 := c10
              refine LoadAt.mk 0 _ _ rfl rfl ?_
              rw [w64 (by omega)] at c10
              refine callB [1] (aContainsC 124 [.ptr bl1 0] l (fun c => !codeR w c) _ ll (fun i hi => aCheckC1 w l[i] bl1 _)) (fun cL => ?_) (fun cL => ?_)
              · exact .drop 0 2 (.done ⟨av_int (chk2 (is_yes (by omega)) (by rw [trN c9, all_l l cL]; simp)), rfl⟩)
              · exact .drop 0 2 (.done ⟨av_int (chk0 (is_yes (by omega)) (by rw [trN c9, all_l l cL, decide_eq_true (by omega)]; rfl)), rfl⟩)
            · have c10 : ¬ (IntKind.i64.wrap ((↑g.length : Int) + (↑k.length : Int)) = 0) := c10
              exact .drop 0 2 (.done ⟨av_int (chk2 (is_yes (by omega)) (by rw [w64 (by omega)] at c10; rw [trN c9, decide_eq_false (by omega)]; rfl)), rfl⟩)
          · have c9 : ¬ (what = 3) := c9
            exact .drop 0 2 (.done ⟨av_int (chk10 (is_no (by omega))), rfl⟩)
end Go.Proofs.YtggcpiddnhipiaaGreat
