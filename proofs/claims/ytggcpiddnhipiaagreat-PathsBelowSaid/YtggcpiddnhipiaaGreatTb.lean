/-
  transfer.Apply.
-/
import Derived.Test.YtggcpiddnhipiaaGreatTa
namespace Go.Proofs.YtggcpiddnhipiaaGreat
open Go.RowKit
set_option maxRecDepth 100000
/-- What Apply tells. -/
def errA (what w : Int) (g k : List Int) (l : List CodeT) (a : List Int) : Int := if checkT what w g k l = 0 then (if valL what w a = true then 0 else 2) else checkT what w g k l
theorem errA_chk {what w : Int} {g k : List Int} {l : List CodeT} {a : List Int} (h : ¬ checkT what w g k l = 0) : errA what w g k l a = checkT what w g k l := if_neg h
theorem errA_ok {what w : Int} {g k : List Int} {l : List CodeT} {a : List Int} (h : checkT what w g k l = 0) (hv : valL what w a = true) : errA what w g k l a = 0 := by unfold errA; rw [if_pos h, if_pos hv]
theorem errA_val {what w : Int} {g k : List Int} {l : List CodeT} {a : List Int} (h : checkT what w g k l = 0) (hv : valL what w a = false) : errA what w g k l a = 2 := by unfold errA; rw [if_pos h, hv]; rfl
theorem chk_zero {what w : Int} {g k : List Int} {l : List CodeT} (h : checkT what w g k l = 0) : is12 what w = true ∧ trOk what w g k l = true := by
  unfold checkT at h
  cases hi : is12 what w with
  | false => rw [hi] at h; exact absurd h (by simp)
  | true =>
    rw [hi, if_pos rfl] at h
    cases ht : trOk what w g k l with
    | false => rw [ht] at h; exact absurd h (by simp)
    | true => exact ⟨rfl, rfl⟩
/-- A value of numbers is as long as it is wide. -/
theorem val_width {what w : Int} {a : List Int} (h : valL what w a = true) (h3 : what = 3) : (a.length : Int) = w := by
  have hl := val_len h
  have hi : is12 what w = true := by unfold valL at h; simp at h; exact h.1.1
  rw [hl]; unfold wordsL; rw [if_pos hi, if_pos h3]
theorem bot_zero {what w : Int} {a : List Int} (h : valL what w a = true) (h3 : what = 3) : botL what w = List.replicate a.length 0 := by
  unfold botL
  rw [if_neg (fun h => by omega), ← val_len h, Int.toNat_natCast]
theorem aTApply (what w : Int) (g k : List Int) (l : List CodeT) (a : List Int) (σ : Hp) (hg : A64 g) (hk : A64 k) (ha : A64 a) (lg : g.length ≤ 10000) (lk : k.length ≤ 10000) (la : a.length ≤ 10000) (ll : l.length ≤ 1000000) : ACalls Tryz.prog 72 [.int .i64 what, .int .i64 w, .agg (trC g k l), .fsl (.int .u64) a] σ (Ret (.tup [.fsl (.int .u64) (okL (errA what w g k l a) (applyR what g k l a)), .int .i64 (errA what w g k l a)]) σ) := by
  refine okF Tryz.func72 (by kernel_rfl) ?_
  have hm : (bothW anW a k).length ≤ 10000 := by rw [bothW_length]; omega
  intro bl1
  refine LoadAt.mk 0 _ _ rfl rfl ?_
  refine callR [] (aTCheck what w g k l _ hg hk lg lk ll) ?_
  refine bcond_split (fun c2 => ?_) (fun c2 => ?_)
  · have c2 : ¬ (checkT what w g k l = 0) := by simpa using c2
    rw [errA_chk c2, okL_neg c2]
    exact .nil (frz_cons (.nil _) (.refl _)) (.drop 0 1 (.done ⟨rfl, rfl⟩))
  · have c2 : checkT what w g k l = 0 := by simpa using c2
    refine callB [] (aLIs what w a _ ha (by omega)) (fun cV => ?_) (fun cV => ?_)
    · refine bcond_split (fun c3 => ?_) (fun c3 => ?_)
      · have c3 : ¬ (what = 3) := by simpa using c3
        refine .quiet (by kernel_rfl) ?_
        refine LoadAt.mk 0 _ _ rfl rfl ?_
        refine callQ [] (aMinus a k _ (by omega) (by omega)) ?_
        refine LoadAt.mk 0 _ _ rfl rfl ?_
        refine callQ [] (aUnion (bothW anW a k) g _ (by omega) (by omega)) ?_
        rw [errA_ok c2 cV, okL_pos rfl, applyR_set c3]
        exact .drop 0 1 (.done ⟨rfl, rfl⟩)
      · have c3 : what = 3 := by simpa using c3
        refine callB [] (aContainsE a 0 _ (by omega)) (fun cZ => ?_) (fun cZ => ?_)
        · refine callR [] (aLBottom what w _) ?_
          rw [errA_ok c2 cV, okL_pos rfl, applyR_zero c3 cZ, ← bot_zero cV c3]
          exact .drop 0 1 (.done ⟨rfl, rfl⟩)
        · refine LoadAt.mk 0 _ _ rfl rfl ?_
          have hal : l.all (codeR a.length) = true := by
            have ht := (chk_zero c2).2
            rw [trN c3, Bool.and_eq_true] at ht
            rw [val_width cV c3]; exact ht.2
          rw [errA_ok c2 cV, okL_pos rfl, applyR_do c3 cZ]
          refine callR [] (aTDo a l _ ha la ll hal) ?_
          exact .drop 0 1 (.done ⟨rfl, rfl⟩)
    · rw [errA_val c2 cV, okL_neg (by decide)]
      exact .nil (frz_cons (.nil _) (.refl _)) (.drop 0 1 (.done ⟨rfl, rfl⟩))
end Go.Proofs.YtggcpiddnhipiaaGreat
