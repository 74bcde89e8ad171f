/-
  Te; Th: what the claim uses of them.
-/
import Derived.Test.YtljbnigceammdaaGreatDoorBn25
namespace Go.Proofs.YtljbnigceammdaaGreatDoor
open Go.RowKit
set_option maxRecDepth 100000
instance instRefT : DecidableEq RefT := inferInstance
instance instCodeT : DecidableEq CodeT := inferInstance
end Go.Proofs.YtljbnigceammdaaGreatDoor
namespace Go.Proofs.YtljbnigceammdaaGreatDoor
open Go.RowKit
set_option maxRecDepth 100000
theorem one64 {n : Int} (h : W64 n) : A64 [n] := fun z hz => by rw [List.mem_singleton.1 hz]; exact h
/-- What is nil is an empty list. -/
theorem acalls_nil {f : FuncId} {xs ys : List AV} {σ : Hp} {R : AV → Hp → Prop} (h : FrzRel 0 0 0 0 .bool [] (.tup xs) (.tup ys)) (hc : ACalls Tryz.prog f ys σ R) : ACalls Tryz.prog f xs σ R :=
  ⟨hc.1, fun F w vs hvs hσ => hc.2 F w vs (by
    have := frzrel_sound (.refl F w) (fun v hv => by
      obtain ⟨a, cap, rfl, c, T, fz, m1, m2, m3, m4⟩ := hv.mrefv
      exact .fsl _ _ _ ⟨some a, cap, rfl, m2, m3, (fun e => by cases e), fun hne => absurd rfl hne⟩) h (.tuple vs) (.tup xs vs hvs.1 hvs.2)
    cases this with
    | tup _ _ h1 h2 => exact ⟨h1, h2⟩) hσ⟩
/-- Apply, of what is right. -/
theorem aTApplyOk (what w : Int) (g k : List Int) (l : List CodeT) (a : List Int) (σ : Hp) (hg : A64 g) (hk : A64 k) (ha : A64 a) (lg : g.length ≤ 10000) (lk : k.length ≤ 10000) (la : a.length ≤ 10000) (ll : l.length ≤ 1000000) (hc : checkT what w g k l = 0) (hv : valL what w a = true) : ACalls Tryz.prog 136 [.int .i64 what, .int .i64 w, .agg (trC g k l), .fsl (.int .u64) a] σ (Ret (.tup [.fsl (.int .u64) (applyR what g k l a), .int .i64 0]) σ) := by
  have h := aTApply what w g k l a σ hg hk ha lg lk la ll
  rw [errA_ok hc hv, okL_pos rfl] at h
  exact h
theorem aLJoinOk (what w : Int) (xs ys : List Int) (σ : Hp) (hx : A64 xs) (hy : A64 ys) (lx : xs.length ≤ 1000000) (ly : ys.length ≤ 1000000) (vx : valL what w xs = true) (vy : valL what w ys = true) : ACalls Tryz.prog 137 [.int .i64 what, .int .i64 w, .fsl (.int .u64) xs, .fsl (.int .u64) ys] σ (Ret (.tup [.fsl (.int .u64) (join12 what xs ys), .int .i64 0]) σ) := by
  have h := aLJoin what w xs ys σ hx hy lx ly
  rw [checkL_ok vx vy, okL_pos rfl] at h
  exact h
end Go.Proofs.YtljbnigceammdaaGreatDoor
