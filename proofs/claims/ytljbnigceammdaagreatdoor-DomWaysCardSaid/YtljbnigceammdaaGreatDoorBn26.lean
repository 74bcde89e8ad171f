/-
  Te; Th: what the claim uses of them.
-/
import Derived.Test.YtljbnigceammdaaGreatDoorBn25
namespace Go.Proofs.YtljbnigceammdaaGreatDoor
open Go.RowKit
set_option maxRecDepth 100000
instance instRefT : DecidableEq RefT := inferInstance
instance instCodeT : DecidableEq CodeT := inferInstance
theorem eq8 (x y : CodeT) : allB (eqAll (codeC x) (codeC y)) = decide (x = y) := by
  obtain ⟨a1, a2, ⟨a3, ⟨a4, a5, _⟩, _⟩, ⟨a6, ⟨a7, a8, _⟩, _⟩, _⟩ := x
  obtain ⟨b1, b2, ⟨b3, ⟨b4, b5, _⟩, _⟩, ⟨b6, ⟨b7, b8, _⟩, _⟩, _⟩ := y
  rw [Bool.eq_iff_iff]
  simp [allB, eqAll, leafEq, Prod.ext_iff, and_assoc]
/-- Are transfers alike? -/
def sameT (g1 k1 : List Int) (l1 : List CodeT) (g2 k2 : List Int) (l2 : List CodeT) : Bool := decide (g1 = g2) && decide (k1 = k2) && decide (l1 = l2)
theorem aRSame16 (g1 k1 : List Int) (l1 : List CodeT) (g2 k2 : List Int) (l2 : List CodeT) (σ : Hp) (lg : g1.length ≤ 1000000) (lk : k1.length ≤ 1000000) (ll : l1.length ≤ 1000000) : ACalls Tryz.prog 48 [.agg (trC g1 k1 l1), .agg (trC g2 k2 l2)] σ (Ret (.bool (sameT g1 k1 l1 g2 k2 l2)) σ) := by
  refine okF Tryz.func48 (by kernel_rfl) ?_
  intro bl1
  intro bl2
  refine LoadAt.mk 1 _ _ rfl rfl ?_
  refine LoadAt.mk 0 _ _ rfl rfl ?_
  refine bcond_split (fun c3 => ?_) (fun c3 => ?_)
  · have c3 : (!decide ((↑l1.length : Int) = (↑l2.length : Int))) = true := c3
    have : l1 ≠ l2 := by rintro rfl; simp at c3
    exact .drop 0 2 (.done ⟨av_bool (by unfold sameT; rw [decide_eq_false this, Bool.and_false]), rfl⟩)
  · have c3 : (!decide ((↑l1.length : Int) = (↑l2.length : Int))) = false := c3
    refine LoadAt.mk 1 _ _ rfl rfl ?_
    have hlen : l1.length = l2.length := by simp at c3; omega
    refine loopS (S := Nat) (fun k => [(2, .ptr bl1 0), (3, .ptr bl2 0), (15, .int .i64 l1.length), (16, .int .i64 k)]) (fun _ => (bl2, trC g2 k2 l2) :: (bl1, trC g1 k1 l1) :: σ) (fun k => k ≤ l1.length ∧ l1.take k = l2.take k) (fun k => l1.length - k) 0 ⟨⟨Nat.zero_le _, rfl⟩, ⟨rfl, rfl, rfl, rfl, trivial⟩, rfl⟩ ?_
    rintro k g ⟨hk0, htk0⟩
    have hk : k ≤ l1.length := hk0
    have htk : l1.take k = l2.take k := htk0
    clear hk0 htk0
    refine bcond_dec (fun hlt => ?_) (fun hge => ?_)
    · have hk' : k < l1.length := by have hlt : (k : Int) < l1.length := hlt; omega
      have hk'' : k < l2.length := by omega
      refine .quiet (by kernel_rfl) ?_
      refine LoadAt.mk 1 _ _ rfl rfl ?_
      refine With.mk rfl ?_
      refine IdxF.mk l1[k] (by omega) (get_some hk') ?_
      refine LoadAt.mk 0 _ _ rfl rfl ?_
      refine With.mk rfl ?_
      refine IdxF.mk l2[k] (by omega) (get_some hk'') ?_
      refine EqAt.mk (by kernel_rfl) (by kernel_rfl) ?_
      refine bcond_split (fun hx => ?_) (fun hx => ?_)
      · have hx : (!allB (eqAll (codeC l1[k]) (codeC l2[k]))) = true := hx
        have : l1 ≠ l2 := by rintro rfl; rw [eq8] at hx; simp at hx
        exact .drop 0 2 (.done ⟨av_bool (by unfold sameT; rw [decide_eq_false this, Bool.and_false]), rfl⟩)
      · have hx : (!allB (eqAll (codeC l1[k]) (codeC l2[k]))) = false := hx
        rw [eq8] at hx
        have hx' : l1[k] = l2[k] := by simpa using hx
        refine nextS (k + 1) (by show l1.length - (k + 1) < l1.length - k; omega) ⟨hk', ?_⟩ ⟨rfl, rfl, rfl, inc64 (by omega), trivial⟩ (.refl _)
        rw [List.take_succ_eq_append_getElem hk', List.take_succ_eq_append_getElem hk'', htk, hx']
    · have hge : k = l1.length := by have hge : ¬ (k : Int) < l1.length := hge; omega
      subst hge
      have hl : l1 = l2 := by
        rw [List.take_length] at htk
        rw [htk, hlen, List.take_length]
      refine LoadAt.mk 1 _ _ rfl rfl ?_
      refine LoadAt.mk 0 _ _ rfl rfl ?_
      refine callB [] (same10 g1 g2 _ lg) (fun c1 => ?_) (fun c1 => ?_)
      · refine LoadAt.mk 1 _ _ rfl rfl ?_
        refine LoadAt.mk 0 _ _ rfl rfl ?_
        refine callB [] (same10 k1 k2 _ lk) (fun c2 => ?_) (fun c2 => ?_)
        · exact .drop 0 2 (.done ⟨av_bool (by unfold sameT; rw [c1, c2, decide_eq_true hl]; rfl), rfl⟩)
        · exact .drop 0 2 (.done ⟨av_bool (by unfold sameT; rw [c1, c2]; rfl), rfl⟩)
      · exact .drop 0 2 (.done ⟨av_bool (by unfold sameT; rw [c1]; rfl), rfl⟩)
end Go.Proofs.YtljbnigceammdaaGreatDoor
namespace Go.Proofs.YtljbnigceammdaaGreatDoor
open Go.RowKit
set_option maxRecDepth 100000
theorem one64 {n : Int} (h : W64 n) : A64 [n] := fun z hz => by rw [List.mem_singleton.1 hz]; exact h
theorem sameT_refl (g k : List Int) (l : List CodeT) : sameT g k l g k l = true := by unfold sameT; simp
/-- What is nil is an empty list. -/
theorem acalls_nil {f : FuncId} {xs ys : List AV} {σ : Hp} {R : AV → Hp → Prop} (h : FrzRel 0 0 0 0 .bool [] (.tup xs) (.tup ys)) (hc : ACalls Tryz.prog f ys σ R) : ACalls Tryz.prog f xs σ R :=
  ⟨hc.1, fun F w vs hvs hσ => hc.2 F w vs (by
    have := frzrel_sound (.refl F w) (fun v hv => by
      obtain ⟨a, cap, rfl, c, T, fz, m1, m2, m3, m4⟩ := hv.mrefv
      exact .fsl _ _ _ ⟨some a, cap, rfl, m2, m3, (fun e => by cases e), fun hne => absurd rfl hne⟩) h (.tuple vs) (.tup xs vs hvs.1 hvs.2)
    cases this with
    | tup _ _ h1 h2 => exact ⟨h1, h2⟩) hσ⟩
/-- Apply, of what is right. -/
theorem aTApplyOk (what w : Int) (g k : List Int) (l : List CodeT) (a : List Int) (σ : Hp) (hg : A64 g) (hk : A64 k) (ha : A64 a) (lg : g.length ≤ 10000) (lk : k.length ≤ 10000) (la : a.length ≤ 10000) (ll : l.length ≤ 1000000) (hc : checkT what w g k l = 0) (hv : valL what w a = true) : ACalls Tryz.prog 136 [.int .i64 what, .int .i64 w, .agg (trC g k l), .fsl (.int .u64) a] σ (Ret (.tup [.fsl (.int .u64) (applyR what g k l a), .int .i64 0]) σ) := by
  have h := aTApply what w g k l a σ hg hk ha lg lk la ll
  rw [errA_ok hc hv, okL_pos rfl] at h
  exact h
theorem aLJoinOk (what w : Int) (xs ys : List Int) (σ : Hp) (hx : A64 xs) (hy : A64 ys) (lx : xs.length ≤ 1000000) (ly : ys.length ≤ 1000000) (vx : valL what w xs = true) (vy : valL what w ys = true) : ACalls Tryz.prog 137 [.int .i64 what, .int .i64 w, .fsl (.int .u64) xs, .fsl (.int .u64) ys] σ (Ret (.tup [.fsl (.int .u64) (join12 what xs ys), .int .i64 0]) σ) := by
  have h := aLJoin what w xs ys σ hx hy lx ly
  rw [checkL_ok vx vy, okL_pos rfl] at h
  exact h
end Go.Proofs.YtljbnigceammdaaGreatDoor
