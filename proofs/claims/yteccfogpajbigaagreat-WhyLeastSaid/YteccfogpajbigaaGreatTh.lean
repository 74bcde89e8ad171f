/-
  The laws of transfers, walked: what is drawn, what Apply and Then tell, is what the document says.
-/
import Derived.Test.YteccfogpajbigaaGreatTe
namespace Go.Proofs.YteccfogpajbigaaGreat
open Go.RowKit
set_option maxRecDepth 100000
/-- Is a transfer short? -/
def smT (g k : List Int) (l : List CodeT) : Bool := decide (g.length ≤ 17) && decide (k.length ≤ 17) && decide (l.length ≤ 40)
def fewTr (w : Int) (g1 k1 : List Int) (l1 : List CodeT) (g2 k2 : List Int) (l2 : List CodeT) (a b : List Int) : Bool := (decide (w ≤ 70) || decide (1024 < w)) && smT g1 k1 l1 && smT g2 k2 l2 && decide (a.length ≤ 70) && decide (b.length ≤ 70)
theorem awake_chk : checkT 1 4 [2] [4] [] = 0 := by decide +kernel
theorem awake_val : valL 1 4 [12] = true := by decide +kernel
theorem awake_apply : applyR 1 [2] [4] [] [12] = [10] := by decide +kernel
theorem errA_zero {what w : Int} {g k a : List Int} {l : List CodeT} (h : checkT what w g k l = 0) (hv : valL what w a = true) (R : List Int) (hR : applyR what g k l a = R) : okL (errA what w g k l a) (applyR what g k l a) = R ∧ errA what w g k l a = 0 := by
  rw [errA_ok h hv, okL_pos rfl]; exact ⟨hR, rfl⟩
theorem one64 {n : Int} (h : W64 n) : A64 [n] := fun z hz => by rw [List.mem_singleton.1 hz]; exact h
theorem few_bounds {w : Int} {g1 k1 g2 k2 a b : List Int} {l1 l2 : List CodeT} (h : fewTr w g1 k1 l1 g2 k2 l2 a b = true) : (g1.length ≤ 17 ∧ k1.length ≤ 17 ∧ l1.length ≤ 40) ∧ (g2.length ≤ 17 ∧ k2.length ≤ 17 ∧ l2.length ≤ 40) ∧ a.length ≤ 70 ∧ b.length ≤ 70 := by
  unfold fewTr smT at h
  simp at h
  omega
theorem okL_len {e : Int} {l : List Int} {n : Nat} (h : l.length ≤ n) : (okL e l).length ≤ n := by unfold okL; split <;> simp_all
theorem okL_64 {e : Int} {l : List Int} (h : A64 l) : A64 (okL e l) := by
  unfold okL; split
  · exact h
  · exact fun z hz => absurd hz List.not_mem_nil
theorem applyR_le {what : Int} {g k a : List Int} {l : List CodeT} {n : Nat} (h1 : g.length ≤ n) (h2 : k.length ≤ n) (h3 : a.length ≤ n) : (applyR what g k l a).length ≤ n := by
  unfold applyR
  split
  · split
    · rw [List.length_replicate]; exact h3
    · rw [doR_length]; exact h3
  · rw [bothW_length, bothW_length]; omega
theorem thG_len {what : Int} {g1 g2 k2 : List Int} {n : Nat} (h1 : g1.length ≤ n) (h2 : g2.length ≤ n) (h3 : k2.length ≤ n) : (thG what g1 g2 k2).length ≤ n := by
  unfold thG; split
  · exact Nat.zero_le _
  · unfold thenG; rw [bothW_length, bothW_length]; omega
theorem thK_len {what : Int} {g1 k1 g2 k2 : List Int} {n : Nat} (h1 : g1.length ≤ n) (h2 : g2.length ≤ n) (h3 : k2.length ≤ n) (h4 : k1.length ≤ n) : (thK what g1 k1 g2 k2).length ≤ n := by
  unfold thK; split
  · exact Nat.zero_le _
  · unfold thenK thenG; rw [bothW_length, bothW_length, bothW_length, bothW_length]; omega
theorem thL_len {what : Int} {l1 l2 : List CodeT} {n : Nat} (h : l1.length + l2.length ≤ n) : (thL what l1 l2).length ≤ n := by
  unfold thL; split
  · rw [List.length_append]; exact h
  · exact Nat.zero_le _
theorem sameT_refl (g k : List Int) (l : List CodeT) : sameT g k l g k l = true := by unfold sameT; simp
/-- What is nil is an empty list. -/
theorem acalls_nil {f : FuncId} {xs ys : List AV} {σ : Hp} {R : AV → Hp → Prop} (h : FrzRel 0 0 0 0 .bool [] (.tup xs) (.tup ys)) (hc : ACalls Tryz.prog f ys σ R) : ACalls Tryz.prog f xs σ R :=
  ⟨hc.1, fun F w vs hvs hσ => hc.2 F w vs (by
    have := frzrel_sound (.refl F w) (fun v hv => by
      obtain ⟨a, cap, rfl, c, T, fz, m1, m2, m3, m4⟩ := hv.mrefv
      exact .fsl _ _ _ ⟨some a, cap, rfl, m2, m3, (fun e => by cases e), fun hne => absurd rfl hne⟩) h (.tuple vs) (.tup xs vs hvs.1 hvs.2)
    cases this with
    | tup _ _ h1 h2 => exact ⟨h1, h2⟩) hσ⟩
theorem thE_no {what w : Int} {g1 k1 g2 k2 : List Int} {l1 l2 : List CodeT} (h : ¬ (checkT what w g1 k1 l1 = 0 ∧ checkT what w g2 k2 l2 = 0)) : ¬ thE what w g1 k1 l1 g2 k2 l2 = 0 := by
  unfold thE; split
  · rename_i h1; exact fun h2 => h ⟨h1, h2⟩
  · assumption
theorem thV_no {e : Int} (g k : List Int) (l : List CodeT) (hn : ¬ e = 0) : thV e g k l = AV.tup [.agg (trC [] [] []), .int .i64 e] := (thV_bad g k l rfl hn).symm
theorem thV_yes {e : Int} (g k : List Int) (l : List CodeT) (h : e = 0) : thV e g k l = AV.tup [.agg (trC g k l), .int .i64 0] := (thV_ok h rfl rfl rfl).symm
/-- Apply, of what is right. -/
theorem aTApplyOk (what w : Int) (g k : List Int) (l : List CodeT) (a : List Int) (σ : Hp) (hg : A64 g) (hk : A64 k) (ha : A64 a) (lg : g.length ≤ 10000) (lk : k.length ≤ 10000) (la : a.length ≤ 10000) (ll : l.length ≤ 1000000) (hc : checkT what w g k l = 0) (hv : valL what w a = true) : ACalls Tryz.prog 84 [.int .i64 what, .int .i64 w, .agg (trC g k l), .fsl (.int .u64) a] σ (Ret (.tup [.fsl (.int .u64) (applyR what g k l a), .int .i64 0]) σ) := by
  have h := aTApply what w g k l a σ hg hk ha lg lk la ll
  rw [errA_ok hc hv, okL_pos rfl] at h
  exact h
theorem aLJoinOk (what w : Int) (xs ys : List Int) (σ : Hp) (hx : A64 xs) (hy : A64 ys) (lx : xs.length ≤ 1000000) (ly : ys.length ≤ 1000000) (vx : valL what w xs = true) (vy : valL what w ys = true) : ACalls Tryz.prog 55 [.int .i64 what, .int .i64 w, .fsl (.int .u64) xs, .fsl (.int .u64) ys] σ (Ret (.tup [.fsl (.int .u64) (join12 what xs ys), .int .i64 0]) σ) := by
  have h := aLJoin what w xs ys σ hx hy lx ly
  rw [checkL_ok vx vy, okL_pos rfl] at h
  exact h
end Go.Proofs.YteccfogpajbigaaGreat
