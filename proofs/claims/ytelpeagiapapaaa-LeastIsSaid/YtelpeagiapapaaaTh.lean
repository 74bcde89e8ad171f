/-
  The laws of transfers, walked: what is drawn, what Apply and Then tell, is what the document says.
-/
import Derived.Test.YtelpeagiapapaaaTe
namespace Go.Proofs.Ytelpeagiapapaaa
open Go.RowKit
set_option maxRecDepth 100000
/-- Is a transfer short? -/
def smT (g k : List Int) (l : List CodeT) : Bool := decide (g.length ≤ 17) && decide (k.length ≤ 17) && decide (l.length ≤ 40)
theorem aSmallT (g k : List Int) (l : List CodeT) (σ : Hp) : ACalls Try.prog 33 [.agg (trC g k l)] σ (Ret (.bool (smT g k l)) σ) := by
  refine okF Try.func33 (by kernel_rfl) ?_
  intro bl1
  refine LoadAt.mk 0 _ _ rfl rfl ?_
  refine bcond_dec (fun c2 => ?_) (fun c2 => ?_)
  · have c2 : (↑g.length : Int) ≤ 17 := c2
    refine LoadAt.mk 0 _ _ rfl rfl ?_
    refine bcond_dec (fun c3 => ?_) (fun c3 => ?_)
    · have c3 : (↑k.length : Int) ≤ 17 := c3
      refine LoadAt.mk 0 _ _ rfl rfl ?_
      refine bcond_dec (fun c4 => ?_) (fun c4 => ?_)
      · have c4 : (↑l.length : Int) ≤ 40 := c4
        exact .drop 0 1 (.done ⟨av_bool (by unfold smT; simp; omega), rfl⟩)
      · have c4 : ¬ ((↑l.length : Int) ≤ 40) := c4
        exact .drop 0 1 (.done ⟨av_bool (by unfold smT; simp; omega), rfl⟩)
    · have c3 : ¬ ((↑k.length : Int) ≤ 17) := c3
      exact .drop 0 1 (.done ⟨av_bool (by unfold smT; simp; omega), rfl⟩)
  · have c2 : ¬ ((↑g.length : Int) ≤ 17) := c2
    exact .drop 0 1 (.done ⟨av_bool (by unfold smT; simp; omega), rfl⟩)
def fewT (w : Int) (g1 k1 : List Int) (l1 : List CodeT) (g2 k2 : List Int) (l2 : List CodeT) (a b : List Int) : Bool := (decide (w ≤ 70) || decide (1024 < w)) && smT g1 k1 l1 && smT g2 k2 l2 && decide (a.length ≤ 70) && decide (b.length ≤ 70)
theorem aFewT (w : Int) (g1 k1 : List Int) (l1 : List CodeT) (g2 k2 : List Int) (l2 : List CodeT) (a b : List Int) (σ : Hp) : ACalls Try.prog 9 [.int .i64 w, .agg (trC g1 k1 l1), .agg (trC g2 k2 l2), .fsl (.int .u64) a, .fsl (.int .u64) b] σ (Ret (.bool (fewT w g1 k1 l1 g2 k2 l2 a b)) σ) := by
  refine okF Try.func9 (by kernel_rfl) ?_
  intro bl1
  intro bl2
  refine bcond_dec (fun d3 => ?_) (fun d3 => ?_)
  · have d3 : w ≤ 70 := d3
    refine LoadAt.mk 1 _ _ rfl rfl ?_
    refine callB [] (aSmallT g1 k1 l1 _) (fun c1 => ?_) (fun c1 => ?_)
    · refine LoadAt.mk 0 _ _ rfl rfl ?_
      refine callB [] (aSmallT g2 k2 l2 _) (fun c2 => ?_) (fun c2 => ?_)
      · refine bcond_dec (fun c3 => ?_) (fun c3 => ?_)
        · have c3 : (a.length : Int) ≤ 70 := c3
          refine bcond_dec (fun c4 => ?_) (fun c4 => ?_)
          · have c4 : (b.length : Int) ≤ 70 := c4
            exact .drop 0 2 (.done ⟨av_bool (by unfold fewT; rw [c1, c2]; simp; omega), rfl⟩)
          · have c4 : ¬ ((b.length : Int) ≤ 70) := c4
            exact .drop 0 2 (.done ⟨av_bool (by unfold fewT; rw [c1, c2]; simp; omega), rfl⟩)
        · have c3 : ¬ ((a.length : Int) ≤ 70) := c3
          exact .drop 0 2 (.done ⟨av_bool (by unfold fewT; rw [c1, c2]; simp; omega), rfl⟩)
      · exact .drop 0 2 (.done ⟨av_bool (by unfold fewT; rw [c1, c2]; simp), rfl⟩)
    · exact .drop 0 2 (.done ⟨av_bool (by unfold fewT; rw [c1]; simp), rfl⟩)
  · have d3 : ¬ (w ≤ 70) := d3
    refine bcond_dec (fun d4 => ?_) (fun d4 => ?_)
    · have d4 : 1024 < w := d4
      refine LoadAt.mk 1 _ _ rfl rfl ?_
      refine callB [] (aSmallT g1 k1 l1 _) (fun c1 => ?_) (fun c1 => ?_)
      · refine LoadAt.mk 0 _ _ rfl rfl ?_
        refine callB [] (aSmallT g2 k2 l2 _) (fun c2 => ?_) (fun c2 => ?_)
        · refine bcond_dec (fun c3 => ?_) (fun c3 => ?_)
          · have c3 : (a.length : Int) ≤ 70 := c3
            refine bcond_dec (fun c4 => ?_) (fun c4 => ?_)
            · have c4 : (b.length : Int) ≤ 70 := c4
              exact .drop 0 2 (.done ⟨av_bool (by unfold fewT; rw [c1, c2]; simp; omega), rfl⟩)
            · have c4 : ¬ ((b.length : Int) ≤ 70) := c4
              exact .drop 0 2 (.done ⟨av_bool (by unfold fewT; rw [c1, c2]; simp; omega), rfl⟩)
          · have c3 : ¬ ((a.length : Int) ≤ 70) := c3
            exact .drop 0 2 (.done ⟨av_bool (by unfold fewT; rw [c1, c2]; simp; omega), rfl⟩)
        · exact .drop 0 2 (.done ⟨av_bool (by unfold fewT; rw [c1, c2]; simp), rfl⟩)
      · exact .drop 0 2 (.done ⟨av_bool (by unfold fewT; rw [c1]; simp), rfl⟩)
    · have d4 : ¬ (1024 < w) := d4
      exact .drop 0 2 (.done ⟨av_bool (by unfold fewT; simp; omega), rfl⟩)
theorem awake_chk : checkT 1 4 [2] [4] [] = 0 := by decide +kernel
theorem awake_val : valL 1 4 [12] = true := by decide +kernel
theorem awake_apply : applyR 1 [2] [4] [] [12] = [10] := by decide +kernel
theorem errA_zero {what w : Int} {g k a : List Int} {l : List CodeT} (h : checkT what w g k l = 0) (hv : valL what w a = true) (R : List Int) (hR : applyR what g k l a = R) : okL (errA what w g k l a) (applyR what g k l a) = R ∧ errA what w g k l a = 0 := by
  rw [errA_ok h hv, okL_pos rfl]; exact ⟨hR, rfl⟩
theorem one64 {n : Int} (h : W64 n) : A64 [n] := fun z hz => by rw [List.mem_singleton.1 hz]; exact h
theorem aAwake16 (σ : Hp) : ACalls Try.prog 8 [] σ (Ret (.bool true) σ) := by
  have hA := fun σ => aTApply 1 4 [2] [4] [] [12] σ (one64 (by unfold W64; omega)) (one64 (by unfold W64; omega)) (one64 (by unfold W64; omega)) (by decide) (by decide) (by decide) (by decide)
  have hE := errA_zero awake_chk awake_val _ awake_apply
  rw [hE.1, hE.2] at hA
  refine okF Try.func8 (by kernel_rfl) ?_
  intro bl1
  intro bl2
  intro bl3
  refine .frz (args' := [.int .i64 1, .int .i64 4, .agg [.mref bl1 0 1 1, .mref bl2 0 1 1, .nils], .fsl (.int .u64) ([12] : List Int)]) 0 bl3 0 1 1 _ (.int .u64) ([12] : List Int) rfl rfl ⟨rfl, rfl, by decide⟩ (frz_cons (.refl _) (frz_cons (.refl _) (frz_cons (.refl _) (frz_cons .here frz_nil)))) ?_
  refine .frz (args' := [.int .i64 1, .int .i64 4, .agg [.mref bl1 0 1 1, .fsl (.int .u64) ([4] : List Int), .nils], .fsl (.int .u64) ([12] : List Int)]) 0 bl2 0 1 1 _ (.int .u64) ([4] : List Int) rfl rfl ⟨rfl, rfl, by decide⟩ (frz_cons (.refl _) (frz_cons (.refl _) (frz_cons (frzT3 (.refl _) .here (.refl _) rfl rfl rfl) (.refl _)))) ?_
  refine .frz (args' := [.int .i64 1, .int .i64 4, .agg (trC [2] [4] []), .fsl (.int .u64) ([12] : List Int)]) 0 bl1 0 1 1 _ (.int .u64) ([2] : List Int) rfl rfl ⟨rfl, rfl, by decide⟩ (frz_cons (.refl _) (frz_cons (.refl _) (frz_cons (frzT3 .here (.refl _) (.nil _) rfl rfl rfl) (.refl _)))) (callR [] (hA _) ?_)
  refine With.mk rfl ?_
  refine IdxF.mk (10 : Int) (by decide) rfl ?_
  exact .done ⟨rfl, rfl⟩
theorem few_bounds {w : Int} {g1 k1 g2 k2 a b : List Int} {l1 l2 : List CodeT} (h : fewT w g1 k1 l1 g2 k2 l2 a b = true) : (g1.length ≤ 17 ∧ k1.length ≤ 17 ∧ l1.length ≤ 40) ∧ (g2.length ≤ 17 ∧ k2.length ≤ 17 ∧ l2.length ≤ 40) ∧ a.length ≤ 70 ∧ b.length ≤ 70 := by
  unfold fewT smT at h
  simp at h
  omega
theorem transferApplies_walk (what w : Int) (g k : List Int) (l : List CodeT) (a : List Int) (hg : A64 g) (hk : A64 k) (ha : A64 a) : ACalls Try.prog 3 [.int .i64 what, .int .i64 w, .agg (trC g k l), .fsl (.int .u64) a] [] (fun r _ => r = .bool true) := by
  refine okF Try.func3 (by kernel_rfl) ?_
  intro bl1
  refine callR [] (aAwake16 _) ?_
  refine LoadAt.mk 0 _ _ rfl rfl ?_
  refine LoadAt.mk 0 _ _ rfl rfl ?_
  refine callB [] (aFewT w g k l g k l a a _) (fun cf => ?_) (fun cf => ?_)
  · obtain ⟨⟨q1, q2, q3⟩, -, q4, -⟩ := few_bounds cf
    refine LoadAt.mk 0 _ _ rfl rfl ?_
    refine callR [] (aTApply what w g k l a _ hg hk ha (by omega) (by omega) (by omega) (by omega)) ?_
    refine LoadAt.mk 0 _ _ rfl rfl ?_
    refine callR [] (aTCheckR what w g k l _ hg hk (by omega) (by omega) (by omega)) ?_
    refine bcond_split (fun c1 => ?_) (fun c1 => ?_)
    · have c1 : ¬ (checkT what w g k l = 0) := by simpa using c1
      refine bcond_dec (fun c2 => ?_) (fun c2 => ?_)
      · have c2 : errA what w g k l a = checkT what w g k l := c2
        refine bcond_dec (fun c3 => ?_) (fun c3 => ?_)
        · have c3 : (↑(okL (errA what w g k l a) (applyR what g k l a)).length : Int) = 0 := c3
          refine LoadAt.mk 0 _ _ rfl rfl ?_
          refine callR [] (aTCheck what w g k l _ hg hk (by omega) (by omega) (by omega)) ?_
          refine bcond_dec (fun c1 => ?_) (fun c1 => ?_)
          · have c1 : checkT what w g k l = checkT what w g k l := c1
            exact .done rfl
          · have c1 : ¬ (checkT what w g k l = checkT what w g k l) := c1
            exact absurd rfl c1
        · have c3 : ¬ ((↑(okL (errA what w g k l a) (applyR what g k l a)).length : Int) = 0) := c3
          have hn : ¬ errA what w g k l a = 0 := by rw [c2]; exact c1
          exact absurd (by rw [okL_neg hn]; rfl) c3
      · have c2 : ¬ (errA what w g k l a = checkT what w g k l) := c2
        exact absurd (errA_chk c1) c2
    · have c1 : checkT what w g k l = 0 := by simpa using c1
      have kc := c1
      refine LoadAt.mk 0 _ _ rfl rfl ?_
      refine callR [] (aTCheck what w g k l _ hg hk (by omega) (by omega) (by omega)) ?_
      refine bcond_split (fun c2 => ?_) (fun c2 => ?_)
      · exact absurd c1 (by simpa using c2)
      · refine callB [] (aRValueL what w a _ ha) (fun c3 => ?_) (fun c3 => ?_)
        · refine bcond_dec (fun c1 => ?_) (fun c1 => ?_)
          · have c1 : errA what w g k l a = 0 := c1
            refine LoadAt.mk 0 _ _ rfl rfl ?_
            refine callR [] (aRApply what g k l a _ hg hk ha (by omega) (by omega) (by omega) (by omega) (fun h3 => by rw [val_width c3 h3]; exact (tr_flat kc h3).2.2)) ?_
            refine callB [] (same10 _ _ _ ?_) (fun c4 => ?_) (fun c4 => ?_)
            · rw [okL_pos c1, applyR_length kc c3]; omega
            · exact .done rfl
            · rw [okL_pos c1] at c4; simp at c4
          · have c1 : ¬ (errA what w g k l a = 0) := c1
            exact absurd (errA_ok kc c3) c1
        · refine bcond_dec (fun c1 => ?_) (fun c1 => ?_)
          · have c1 : errA what w g k l a = 2 := c1
            refine bcond_dec (fun c2 => ?_) (fun c2 => ?_)
            · have c2 : (↑(okL (errA what w g k l a) (applyR what g k l a)).length : Int) = 0 := c2
              exact .done rfl
            · have c2 : ¬ ((↑(okL (errA what w g k l a) (applyR what g k l a)).length : Int) = 0) := c2
              exact absurd (by rw [okL_neg (by rw [c1]; decide)]; rfl) c2
          · have c1 : ¬ (errA what w g k l a = 2) := c1
            exact absurd (errA_val kc c3) c1
  · exact .done rfl
theorem okL_len {e : Int} {l : List Int} {n : Nat} (h : l.length ≤ n) : (okL e l).length ≤ n := by unfold okL; split <;> simp_all
theorem okL_64 {e : Int} {l : List Int} (h : A64 l) : A64 (okL e l) := by
  unfold okL; split
  · exact h
  · exact fun z hz => absurd hz List.not_mem_nil
theorem applyR_le {what : Int} {g k a : List Int} {l : List CodeT} {n : Nat} (h1 : g.length ≤ n) (h2 : k.length ≤ n) (h3 : a.length ≤ n) : (applyR what g k l a).length ≤ n := by
  unfold applyR
  split
  · split
    · rw [List.length_replicate]; exact h3
    · rw [doR_length]; exact h3
  · rw [bothW_length, bothW_length]; omega
theorem thG_len {what : Int} {g1 g2 k2 : List Int} {n : Nat} (h1 : g1.length ≤ n) (h2 : g2.length ≤ n) (h3 : k2.length ≤ n) : (thG what g1 g2 k2).length ≤ n := by
  unfold thG; split
  · exact Nat.zero_le _
  · unfold thenG; rw [bothW_length, bothW_length]; omega
theorem thK_len {what : Int} {g1 k1 g2 k2 : List Int} {n : Nat} (h1 : g1.length ≤ n) (h2 : g2.length ≤ n) (h3 : k2.length ≤ n) (h4 : k1.length ≤ n) : (thK what g1 k1 g2 k2).length ≤ n := by
  unfold thK; split
  · exact Nat.zero_le _
  · unfold thenK thenG; rw [bothW_length, bothW_length, bothW_length, bothW_length]; omega
theorem thL_len {what : Int} {l1 l2 : List CodeT} {n : Nat} (h : l1.length + l2.length ≤ n) : (thL what l1 l2).length ≤ n := by
  unfold thL; split
  · rw [List.length_append]; exact h
  · exact Nat.zero_le _
theorem sameT_refl (g k : List Int) (l : List CodeT) : sameT g k l g k l = true := by unfold sameT; simp
/-- What is nil is an empty list. -/
theorem acalls_nil {f : FuncId} {xs ys : List AV} {σ : Hp} {R : AV → Hp → Prop} (h : FrzRel 0 0 0 0 .bool [] (.tup xs) (.tup ys)) (hc : ACalls Try.prog f ys σ R) : ACalls Try.prog f xs σ R :=
  ⟨hc.1, fun F w vs hvs hσ => hc.2 F w vs (by
    have := frzrel_sound (.refl F w) (fun v hv => by
      obtain ⟨a, cap, rfl, c, T, fz, m1, m2, m3, m4⟩ := hv.mrefv
      exact .fsl _ _ _ ⟨some a, cap, rfl, m2, m3, (fun e => by cases e), fun hne => absurd rfl hne⟩) h (.tuple vs) (.tup xs vs hvs.1 hvs.2)
    cases this with
    | tup _ _ h1 h2 => exact ⟨h1, h2⟩) hσ⟩
theorem thE_no {what w : Int} {g1 k1 g2 k2 : List Int} {l1 l2 : List CodeT} (h : ¬ (checkT what w g1 k1 l1 = 0 ∧ checkT what w g2 k2 l2 = 0)) : ¬ thE what w g1 k1 l1 g2 k2 l2 = 0 := by
  unfold thE; split
  · rename_i h1; exact fun h2 => h ⟨h1, h2⟩
  · assumption
theorem thV_no {e : Int} (g k : List Int) (l : List CodeT) (hn : ¬ e = 0) : thV e g k l = AV.tup [.agg (trC [] [] []), .int .i64 e] := (thV_bad g k l rfl hn).symm
theorem thV_yes {e : Int} (g k : List Int) (l : List CodeT) (h : e = 0) : thV e g k l = AV.tup [.agg (trC g k l), .int .i64 0] := (thV_ok h rfl rfl rfl).symm
/-- Apply, of what is right. -/
theorem aTApplyOk (what w : Int) (g k : List Int) (l : List CodeT) (a : List Int) (σ : Hp) (hg : A64 g) (hk : A64 k) (ha : A64 a) (lg : g.length ≤ 10000) (lk : k.length ≤ 10000) (la : a.length ≤ 10000) (ll : l.length ≤ 1000000) (hc : checkT what w g k l = 0) (hv : valL what w a = true) : ACalls Try.prog 10 [.int .i64 what, .int .i64 w, .agg (trC g k l), .fsl (.int .u64) a] σ (Ret (.tup [.fsl (.int .u64) (applyR what g k l a), .int .i64 0]) σ) := by
  have h := aTApply what w g k l a σ hg hk ha lg lk la ll
  rw [errA_ok hc hv, okL_pos rfl] at h
  exact h
theorem aLJoinOk (what w : Int) (xs ys : List Int) (σ : Hp) (hx : A64 xs) (hy : A64 ys) (lx : xs.length ≤ 1000000) (ly : ys.length ≤ 1000000) (vx : valL what w xs = true) (vy : valL what w ys = true) : ACalls Try.prog 20 [.int .i64 what, .int .i64 w, .fsl (.int .u64) xs, .fsl (.int .u64) ys] σ (Ret (.tup [.fsl (.int .u64) (join12 what xs ys), .int .i64 0]) σ) := by
  have h := aLJoin what w xs ys σ hx hy lx ly
  rw [checkL_ok vx vy, okL_pos rfl] at h
  exact h
theorem acalls_eq {f : FuncId} {xs : List AV} {σ σ' : Hp} {x y : AV} (h : ACalls Try.prog f xs σ (Ret x σ')) (e : x = y) : ACalls Try.prog f xs σ (Ret y σ') := e ▸ h
theorem transferThen_walk (what w : Int) (g1 k1 : List Int) (l1 : List CodeT) (g2 k2 : List Int) (l2 : List CodeT) (a : List Int) (hg1 : A64 g1) (hk1 : A64 k1) (hg2 : A64 g2) (hk2 : A64 k2) (ha : A64 a) : ACalls Try.prog 4 [.int .i64 what, .int .i64 w, .agg (trC g1 k1 l1), .agg (trC g2 k2 l2), .fsl (.int .u64) a] [] (fun r _ => r = .bool true) := by
  refine okF Try.func4 (by kernel_rfl) ?_
  intro bl1
  intro bl2
  refine callR [] (aAwake16 _) ?_
  refine LoadAt.mk 1 _ _ rfl rfl ?_
  refine LoadAt.mk 0 _ _ rfl rfl ?_
  refine callB [] (aFewT w g1 k1 l1 g2 k2 l2 a a _) (fun cf => ?_) (fun cf => ?_)
  · obtain ⟨⟨q1, q2, q3⟩, ⟨p1, p2, p3⟩, q4, -⟩ := few_bounds cf
    refine LoadAt.mk 1 _ _ rfl rfl ?_
    refine LoadAt.mk 0 _ _ rfl rfl ?_
    have hT := fun σ => aTThen what w g1 k1 l1 g2 k2 l2 σ hg1 hk1 hg2 hk2 (by omega) (by omega) (by omega) (by omega) (by omega) (by omega)
    by_cases hc : checkT what w g1 k1 l1 = 0 ∧ checkT what w g2 k2 l2 = 0
    · have hz : thE what w g1 k1 l1 g2 k2 l2 = 0 := (thE_2 hc.1).trans hc.2
      refine callR [] (acalls_eq (hT _) (thV_yes _ _ _ hz)) ?_
      intro bl3
      refine StoreAt.mk 0 _ _ rfl rfl ?_
      refine .quiet (by kernel_rfl) ?_
      refine LoadAt.mk 2 _ _ rfl rfl ?_
      refine LoadAt.mk 1 _ _ rfl rfl ?_
      have hS1 := fun σ => aTSame g1 k1 l1 g2 k2 l2 σ (by omega) (by omega) (by omega)
      have hS2 := fun σ => aRSame16 g1 k1 l1 g2 k2 l2 σ (by omega) (by omega) (by omega)
      generalize sameT g1 k1 l1 g2 k2 l2 = sm at hS1 hS2
      refine callQ [] (hS1 _) ?_
      refine LoadAt.mk 2 _ _ rfl rfl ?_
      refine LoadAt.mk 1 _ _ rfl rfl ?_
      refine callQ [] (hS2 _) ?_
      refine bcond_split (fun cs => ?_) (fun cs => ?_)
      · exact absurd cs (by cases sm <;> decide)
      · refine LoadAt.mk 2 _ _ rfl rfl ?_
        refine callR [] (acalls_eq (aTCheckR what w g1 k1 l1 _ hg1 hk1 (by omega) (by omega) (by omega)) (av_int hc.1)) ?_
        refine LoadAt.mk 1 _ _ rfl rfl ?_
        refine callR [] (acalls_eq (aTCheckR what w g2 k2 l2 _ hg2 hk2 (by omega) (by omega) (by omega)) (av_int hc.2)) ?_
        have nG : (thG what g1 g2 k2).length ≤ 17 := thG_len q1 p1 p2
        have nK : (thK what g1 k1 g2 k2).length ≤ 17 := thK_len q1 p1 p2 q2
        have nL : (thL what l1 l2).length ≤ 80 := thL_len (by omega)
        refine .quiet (by kernel_rfl) ?_
        refine LoadAt.mk 0 _ _ rfl rfl ?_
        refine LoadAt.mk 2 _ _ rfl rfl ?_
        refine LoadAt.mk 1 _ _ rfl rfl ?_
        refine callQ [] (aRThen what g1 k1 l1 g2 k2 l2 _ hg1 hk1 hg2 hk2 (by omega) (by omega) (by omega) (by omega) (by omega) (by omega)) ?_
        refine callQ [] (acalls_eq (aRSame16 (thG what g1 g2 k2) (thK what g1 k1 g2 k2) (thL what l1 l2) (thG what g1 g2 k2) (thK what g1 k1 g2 k2) (thL what l1 l2) _ (by omega) (by omega) (by omega)) (av_bool (sameT_refl _ _ _))) ?_
        refine LoadAt.mk 2 _ _ rfl rfl ?_
        have hU := th_check hg1 hk1 hg2 hk2 hc.1 hc.2
        by_cases va : valL what w a = true
        · have vb := apply_val hg1 hk1 ha hc.1 va
          have lb : (applyR what g1 k1 l1 a).length ≤ 70 := by rw [applyR_length hc.1 va]; exact q4
          refine callR [] (aTApplyOk what w g1 k1 l1 a _ hg1 hk1 ha (by omega) (by omega) (by omega) (by omega) hc.1 va) ?_
          refine LoadAt.mk 1 _ _ rfl rfl ?_
          refine callR [] (aTApplyOk what w g2 k2 l2 (applyR what g1 k1 l1 a) _ hg2 hk2 (applyR_64 ha) (by omega) (by omega) (by omega) (by omega) hc.2 vb) ?_
          refine LoadAt.mk 0 _ _ rfl rfl ?_
          refine callR [] (aTApplyOk what w (thG what g1 g2 k2) (thK what g1 k1 g2 k2) (thL what l1 l2) a _ th_64 thK_64 ha (by omega) (by omega) (by omega) (by omega) hU va) ?_
          refine callR [] (acalls_eq (same10 _ _ _ (by rw [applyR_length hc.2 vb]; omega)) (av_bool (decide_eq_true (th_apply hg1 hk1 hg2 hk2 ha hc.1 hc.2 va)))) ?_
          exact .done rfl
        · have va : valL what w a = false := by simpa using va
          have e1 := errA_val hc.1 va
          have e2 := errA_val hU va
          refine callR [] (acalls_eq (aTApply what w g1 k1 l1 a _ hg1 hk1 ha (by omega) (by omega) (by omega) (by omega)) (by rw [e1])) ?_
          refine LoadAt.mk 1 _ _ rfl rfl ?_
          refine callR [] (aTApply what w g2 k2 l2 [] _ hg2 hk2 (fun z hz => absurd hz List.not_mem_nil) (by omega) (by omega) (by simp) (by omega)) ?_
          refine LoadAt.mk 0 _ _ rfl rfl ?_
          refine callR [] (acalls_eq (aTApply what w (thG what g1 g2 k2) (thK what g1 k1 g2 k2) (thL what l1 l2) a _ th_64 thK_64 ha (by omega) (by omega) (by omega) (by omega)) (by rw [e2])) ?_
          exact .done rfl
    · have hz := thE_no hc
      refine callR [] (acalls_eq (hT _) (thV_no _ _ _ hz)) ?_
      intro bl3
      refine StoreAt.mk 0 _ _ rfl rfl ?_
      refine .quiet (by kernel_rfl) ?_
      refine LoadAt.mk 2 _ _ rfl rfl ?_
      refine LoadAt.mk 1 _ _ rfl rfl ?_
      have hS1 := fun σ => aTSame g1 k1 l1 g2 k2 l2 σ (by omega) (by omega) (by omega)
      have hS2 := fun σ => aRSame16 g1 k1 l1 g2 k2 l2 σ (by omega) (by omega) (by omega)
      generalize sameT g1 k1 l1 g2 k2 l2 = sm at hS1 hS2
      refine callQ [] (hS1 _) ?_
      refine LoadAt.mk 2 _ _ rfl rfl ?_
      refine LoadAt.mk 1 _ _ rfl rfl ?_
      refine callQ [] (hS2 _) ?_
      refine bcond_split (fun cs => ?_) (fun cs => ?_)
      · exact absurd cs (by cases sm <;> decide)
      · refine LoadAt.mk 2 _ _ rfl rfl ?_
        have hN := fun σ => acalls_nil (frz_cons (.refl _) (frz_cons (frzT3 (.nil _) (.nil _) (.nil codeSh) rfl rfl rfl) frz_nil)) (acalls_eq (aRSame16 [] [] [] [] [] [] σ (by simp) (by simp) (by simp)) (av_bool (sameT_refl _ _ _)))
        by_cases c1 : checkT what w g1 k1 l1 = 0
        · have c2 : ¬ checkT what w g2 k2 l2 = 0 := fun h => hc ⟨c1, h⟩
          have e := thE_2 (g2 := g2) (k2 := k2) (l2 := l2) c1
          refine callR [] (acalls_eq (aTCheckR what w g1 k1 l1 _ hg1 hk1 (by omega) (by omega) (by omega)) (av_int c1)) ?_
          refine LoadAt.mk 1 _ _ rfl rfl ?_
          refine callR [] (aTCheckR what w g2 k2 l2 _ hg2 hk2 (by omega) (by omega) (by omega)) ?_
          refine bcond_split (fun c3 => ?_) (fun c3 => ?_)
          · refine bcond_dec (fun c4 => ?_) (fun c4 => ?_)
            · refine LoadAt.mk 0 _ _ rfl rfl ?_
              refine callR [] (hN _) ?_
              exact .done rfl
            · exact absurd e c4
          · exact absurd (by simpa using c3) c2
        · have e := thE_1 (g2 := g2) (k2 := k2) (l2 := l2) c1
          refine callR [] (aTCheckR what w g1 k1 l1 _ hg1 hk1 (by omega) (by omega) (by omega)) ?_
          refine bcond_dec (fun c3 => ?_) (fun c3 => ?_)
          · exact absurd c3 c1
          · refine bcond_split (fun c3 => ?_) (fun c3 => ?_)
            · refine bcond_dec (fun c4 => ?_) (fun c4 => ?_)
              · refine LoadAt.mk 0 _ _ rfl rfl ?_
                refine callR [] (hN _) ?_
                exact .done rfl
              · exact absurd e c4
            · exact absurd (by simpa using c3) c1
  · exact .done rfl
theorem transferRises_walk (what w : Int) (g k : List Int) (l : List CodeT) (a b : List Int) (hg : A64 g) (hk : A64 k) (ha : A64 a) (hb : A64 b) : ACalls Try.prog 5 [.int .i64 what, .int .i64 w, .agg (trC g k l), .fsl (.int .u64) a, .fsl (.int .u64) b] [] (fun r _ => r = .bool true) := by
  refine okF Try.func5 (by kernel_rfl) ?_
  intro bl1
  refine callR [] (aAwake16 _) ?_
  refine LoadAt.mk 0 _ _ rfl rfl ?_
  refine LoadAt.mk 0 _ _ rfl rfl ?_
  refine callB [] (aFewT w g k l g k l a b _) (fun cf => ?_) (fun cf => ?_)
  · obtain ⟨⟨q1, q2, q3⟩, -, q4, q5⟩ := few_bounds cf
    refine LoadAt.mk 0 _ _ rfl rfl ?_
    refine callR [] (aTCheckR what w g k l _ hg hk (by omega) (by omega) (by omega)) ?_
    refine bcond_split (fun c1 => ?_) (fun c1 => ?_)
    · exact .done rfl
    · have hc : checkT what w g k l = 0 := by simpa using c1
      refine callB [] (aRValueL what w a _ ha) (fun va => ?_) (fun va => ?_)
      · refine callB [] (aRValueL what w b _ hb) (fun vb => ?_) (fun vb => ?_)
        · have hj64 : A64 (join12 what a b) := join_64 ha hb
          have vj := join_val ha hb va vb
          have vx := apply_val hg hk ha hc va
          have vy := apply_val hg hk hb hc vb
          have vz := apply_val hg hk hj64 hc vj
          have hr := rises hg hk ha hb hc va vb
          have lj : (join12 what a b).length ≤ 70 := Nat.le_trans (join_le what a b) q4
          have lx : (applyR what g k l a).length ≤ 70 := by rw [applyR_length hc va]; exact q4
          have ly : (applyR what g k l b).length ≤ 70 := by rw [applyR_length hc vb]; exact q5
          have lz : (applyR what g k l (join12 what a b)).length ≤ 70 := by rw [applyR_length hc vj]; exact lj
          refine callR [] (aLJoinOk what w a b _ ha hb (by omega) (by omega) va vb) ?_
          refine LoadAt.mk 0 _ _ rfl rfl ?_
          refine callR [] (aTApplyOk what w g k l a _ hg hk ha (by omega) (by omega) (by omega) (by omega) hc va) ?_
          refine LoadAt.mk 0 _ _ rfl rfl ?_
          refine callR [] (aTApplyOk what w g k l b _ hg hk hb (by omega) (by omega) (by omega) (by omega) hc vb) ?_
          refine LoadAt.mk 0 _ _ rfl rfl ?_
          refine callR [] (aTApplyOk what w g k l (join12 what a b) _ hg hk hj64 (by omega) (by omega) (by omega) (by omega) hc vj) ?_
          refine callR [] (aLJoinOk what w (applyR what g k l a) (applyR what g k l b) _ (applyR_64 ha) (applyR_64 hb) (by omega) (by omega) vx vy) ?_
          refine callR [] (acalls_eq (aLBelow what w (applyR what g k l a) (applyR what g k l (join12 what a b)) _ (applyR_64 ha) (applyR_64 hj64) (by omega) (by omega)) (av_bool hr.1)) ?_
          refine callR [] (acalls_eq (aLBelow what w (applyR what g k l b) (applyR what g k l (join12 what a b)) _ (applyR_64 hb) (applyR_64 hj64) (by omega) (by omega)) (av_bool hr.2.1)) ?_
          refine callR [] (acalls_eq (aLIs what w (applyR what g k l (join12 what a b)) _ (applyR_64 hj64) (by omega)) (av_bool vz)) ?_
          refine bcond_dec (fun c1 => ?_) (fun c1 => ?_)
          · have c1 : what = 3 := c1
            exact .done rfl
          · have c1 : ¬ (what = 3) := c1
            refine callR [] (acalls_eq (same10 _ _ _ (Nat.le_trans (join_le _ _ _) (by omega))) (av_bool (decide_eq_true (hr.2.2 c1)))) ?_
            exact .done rfl
        · exact .done rfl
      · exact .done rfl
  · exact .done rfl
end Go.Proofs.Ytelpeagiapapaaa
