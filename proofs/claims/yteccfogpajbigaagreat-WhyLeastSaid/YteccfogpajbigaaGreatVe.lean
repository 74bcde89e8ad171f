/-
  soughlaw21.awake; WhyFacts.
-/
import Derived.Test.YteccfogpajbigaaGreatVd
namespace Go.Proofs.YteccfogpajbigaaGreat
open Go.RowKit
set_option maxRecDepth 100000
theorem exS_to (x : Int) : toS exS.n exS.edges x = [] := by
  refine List.eq_nil_iff_forall_not_mem.2 fun b hb => ?_
  obtain ⟨_, _, e, he, _⟩ := mem_toS.1 hb
  cases he
theorem exS_rs {w : List Int} {x : Int} (h : RsW exS 1 w x) : w = [x] := by
  cases h with
  | one a h hb => rfl
  | born a b h hn hb => rw [exS_to] at hn; cases hn
  | app w x b h hp hn => rw [exS_to] at hn; cases hn
theorem aFindEx (σ : Hp) : ACalls Tryz.prog 44 [.agg (sysC exS), .int .i64 0, .int .i64 1] σ (Ret (.tup [.fsl (.int .i64) ([0] : List Int), .bool true, .int .i64 0]) σ) := by
  refine (aFind21 exS 0 1 σ exS_fit (by decide +kernel)).mono ?_
  rintro r σ' ⟨rfl, ⟨rfl, ml, h1, h2⟩ | ⟨w, rfl, h1, _⟩⟩
  · have h3 := (h2 0 (by decide) (by decide)).1 (by decide +kernel)
    rw [h1.v0] at h3; cases h3
  · rw [exS_rs h1]; exact ⟨rfl, rfl⟩
theorem aRInts21 (l : List Int) (σ : Hp) (hl : l.length ≤ 1000000) : ACalls Tryz.prog 30 [.fsl (.int .i64) l, .fsl (.int .i64) l] σ (Ret (.bool true) σ) := by
  refine okF Tryz.func30 (by kernel_rfl) ?_
  refine bcond_split (fun c => absurd c (by simp)) (fun c => ?_)
  refine loopS (S := Nat) (fun k => [(0, .fsl (.int .i64) l), (1, .fsl (.int .i64) l), (12, .int .i64 l.length), (13, .int .i64 k)]) (fun _ => σ) (fun k => k ≤ l.length) (fun k => l.length - k) 0 ⟨Nat.zero_le _, ⟨rfl, rfl, rfl, rfl, trivial⟩, rfl⟩ ?_
  rintro k g hk0
  have hk : k ≤ l.length := hk0
  refine bcond_dec (fun hlt => ?_) (fun hge => ?_)
  · have hlt : k < l.length := by have hlt : (k : Int) < l.length := hlt; omega
    refine DrawW.quiet (by kernel_rfl) ?_
    refine With.mk rfl (IdxF.mk l[k] (by omega) (get_some hlt) ?_)
    refine With.mk rfl (IdxF.mk l[k] (by omega) (get_some hlt) ?_)
    refine bcond_split (fun c => absurd c (by simp)) (fun c => ?_)
    exact nextS (k + 1) (by show l.length - (k + 1) < l.length - k; omega) hlt ⟨rfl, rfl, rfl, inc64 (by omega), trivial⟩ (.refl _)
  · exact .done ⟨rfl, rfl⟩
theorem aAwake21 (σ : Hp) : ACalls Tryz.prog 18 [] σ (Ret (.bool true) σ) := by
  refine okF Tryz.func18 (by kernel_rfl) ?_
  intro bl1
  intro bl2
  intro bl3
  intro bl4
  intro bl5
  intro bl6
  refine StoreAt.mk 0 _ _ rfl rfl ?_
  refine LoadAt.mk 0 _ _ rfl rfl ?_
  refine .frzc 3 bl3 0 1 1 _ (.int .u64) ([0] : List Int) rfl rfl ⟨rfl, rfl, by decide⟩ 1 0 bl5 _ rfl rfl ?_
  refine .frzc 2 bl4 0 1 1 _ (.int .u64) ([0] : List Int) rfl rfl ⟨rfl, rfl, by decide⟩ 1 1 bl5 _ rfl rfl ?_
  refine callNil 1 2 bl5 _ codeSh rfl rfl ?_
  refine .frz (args' := [.agg [.int .i64 1, .int .i64 2, .int .i64 1, .nils, .mref bl1 0 1 1, .mref bl2 0 1 1, .fsl transSh exS.T], .int .i64 0, .int .i64 1]) 1 bl5 0 1 3 _ transSh exS.T rfl rfl ⟨rfl, rfl, by decide⟩ (frz_cons (frz_agg (frz_cons (.refl _) (frz_cons (.refl _) (frz_cons (.refl _) (frz_cons (.refl _) (frz_cons (.refl _) (frz_cons (.refl _) (frz_cons .here frz_nil))))))) rfl) (.refl _)) ?_
  refine .frz (args' := [.agg [.int .i64 1, .int .i64 2, .int .i64 1, .nils, .mref bl1 0 1 1, .fsl (.int .u64) exS.init, .fsl transSh exS.T], .int .i64 0, .int .i64 1]) 1 bl2 0 1 1 _ (.int .u64) exS.init rfl rfl ⟨rfl, rfl, by decide⟩ (frz_cons (frz_agg (frz_cons (.refl _) (frz_cons (.refl _) (frz_cons (.refl _) (frz_cons (.refl _) (frz_cons (.refl _) (frz_cons .here (.refl _))))))) rfl) (.refl _)) ?_
  refine .frz (args' := [.agg (sysC exS), .int .i64 0, .int .i64 1]) 1 bl1 0 1 1 _ (.int .i64) exS.entry rfl rfl ⟨rfl, rfl, by decide⟩ (frz_cons (frz_agg (frz_cons (.refl _) (frz_cons (.refl _) (frz_cons (.refl _) (frz_cons (.nil edgeSh) (frz_cons .here (.refl _)))))) rfl) (.refl _)) ?_
  refine callR [] (aFindEx _) ?_
  intro bl1
  refine .frz (args' := [.fsl (.int .i64) ([0] : List Int), .fsl (.int .i64) ([0] : List Int)]) 0 bl1 0 1 1 _ (.int .i64) ([0] : List Int) rfl rfl ⟨rfl, rfl, by decide⟩ (frz_cons (.refl _) (frz_cons .here frz_nil)) ?_
  refine callR [] (aRInts21 ([0] : List Int) _ (by decide)) ?_
  exact .drop 0 1 (.done ⟨rfl, rfl⟩)
theorem whyFacts_walk (s : Sy) (v n : Int) (x : List Int) (hi : A64 s.init) (ht : ∀ t ∈ s.T, A64 t.1 ∧ A64 t.2.1) (hx : A64 x) : ACalls Tryz.prog 4 [.agg (sysC s), .int .i64 v, .int .i64 n, .fsl (.int .u64) x] [] (fun r _ => r = .bool true) := by
  refine okF Tryz.func4 (by kernel_rfl) ?_
  intro bl1
  refine callR [] (aAwake21 _) ?_
  refine LoadAt.mk 0 _ _ rfl rfl ?_
  refine callS [] (aSmall17 s _) (fun hsm => ?_) ?_
  rotate_left
  · exact .done rfl
  have hf := fit_of hsm hi ht
  refine bcond_dec (fun c1 => ?_) (fun c1 => ?_)
  · exact .done rfl
  have c1 : x.length ≤ 20 := by have c1 : ¬ (20 < (x.length : Int)) := c1; omega
  refine LoadAt.mk 0 _ _ rfl rfl ?_
  refine callB [] (aLawRight21 s v n _ hf) (fun hr => ?_) (fun hr => ?_)
  · refine LoadAt.mk 0 _ _ rfl rfl ?_
    refine LoadAt.mk 0 _ _ rfl rfl ?_
    intro bl1
    refine .frz (args' := [.agg (sysC ⟨s.what, s.w, 1, [], [], [], []⟩), .fsl (.slice (.int .u64)) ([x] : List (List Int))]) 0 bl1 0 1 1 _ (.slice (.int .u64)) ([x] : List (List Int)) rfl rfl ⟨rfl, rfl, by decide⟩ (frz_cons (frz_agg (frz_cons (.refl _) (frz_cons (.refl _) (frz_cons (.refl _) (frz_cons (.nil edgeSh) (frz_cons (.nil _) (frz_cons (.nil _) (frz_cons (.nil transSh) frz_nil))))))) rfl) (frz_cons .here frz_nil)) ?_
    have hr2 := right_w hr
    have hg := good_of hr2.2.1
    have hn1 := hg.n1
    obtain ⟨m, rfl, hm, hm2⟩ := right_nat hr
    obtain ⟨k, t, rfl, hk, htm, e⟩ := right_tr hr
    have hr0 : rightB s 0 m = true := by unfold rightB; exact decide_eq_true ⟨hr2.1, hr2.2.1, by decide, by omega, hr2.2.2.2.2⟩
    have hw12 : s.what = 1 ∨ s.what = 2 := by have := check_what hr2.2.1; omega
    have hV : valsS ⟨s.what, s.w, 1, [], [], [], []⟩ [x] = fitsW x s.w := by
      rw [← Bool.eq_iff_iff.2 (val_set hg.isL hr2.1 : valL s.what s.w x = true ↔ fitsW x s.w = true)]; unfold valsS; simp
    have hH : whyHasB s x m = (valsS ⟨s.what, s.w, 1, [], [], [], []⟩ [x] && rHasB s x m) := by
      unfold whyHasB rHasB; rw [hr0, hV, Bool.true_and]
    have hin : fitsW s.init s.w = true := (val_set hg.isL hr2.1).1 hg.ini
    have hBg : beginsB s k m = rBegB s k m := by
      unfold beginsB rBegB whyHasB rHasB; rw [hr, hr0, hin, Bool.true_and, Bool.true_and, Bool.true_and]
    have hBo : bornB s k m = rAftB s t m false := by
      unfold bornB rAftB; rw [hr, e, Int.toNat_natCast]
      rcases hw12 with h | h <;> rw [h] <;> cases hasB t.1 m <;> cases hasB t.2.1 m <;> rfl
    have hPa : passB s k m = rAftB s t m true := by
      unfold passB rAftB; rw [hr, e, Int.toNat_natCast]
      rcases hw12 with h | h <;> rw [h] <;> cases hasB t.1 m <;> cases hasB t.2.1 m <;> rfl
    have k1 := fun σ => aWhyBegins s k m σ hf
    have k2 := fun σ => aWhyBorn s k m σ hf
    have k3 := fun σ => aWhyPasses s k m σ hf
    have k4 := fun σ => aWhyHas s x m σ hf hx (by omega)
    have r1 := fun σ => aRBegins21 s k m σ hf hm
    have r2 := fun σ => aRAfter s k t m σ hf hk htm hm false
    have r3 := fun σ => aRAfter s k t m σ hf hk htm hm true
    have r4 := fun σ => aRHas21 s x m σ hx hm
    have r5 := fun σ => aRValues17 ⟨s.what, s.w, 1, [], [], [], []⟩ [x] σ ⟨by simp, by simpa using ⟨hx, by omega⟩⟩
    rw [hBg] at k1
    rw [hBo] at k2
    rw [hPa] at k3
    rw [hH] at k4
    clear hH hBg hBo hPa hV
    generalize rBegB s k m = b1 at k1 r1
    generalize rAftB s t m false = b2 at k2 r2
    generalize rAftB s t m true = b3 at k3 r3
    generalize rHasB s x m = b4 at k4 r4
    generalize valsS ⟨s.what, s.w, 1, [], [], [], []⟩ [x] = b5 at k4 r5
    cases b5 with
    | false =>
      refine callR [] (r5 _) ?_
      cases b1 <;> cases b2 <;> cases b3 <;> cases b4
      all_goals
        refine .quiet (by kernel_rfl) ?_
        refine LoadAt.mk 0 _ _ rfl rfl ?_
        refine callQ [] (k1 _) ?_
        refine LoadAt.mk 0 _ _ rfl rfl ?_
        refine callQ [] (r1 _) ?_
        refine LoadAt.mk 0 _ _ rfl rfl ?_
        refine callQ [] (k2 _) ?_
        refine LoadAt.mk 0 _ _ rfl rfl ?_
        refine callQ [] (r2 _) ?_
        refine LoadAt.mk 0 _ _ rfl rfl ?_
        refine callQ [] (k3 _) ?_
        refine LoadAt.mk 0 _ _ rfl rfl ?_
        refine callQ [] (r3 _) ?_
        refine LoadAt.mk 0 _ _ rfl rfl ?_
        refine callQ [] (k4 _) ?_
        exact .done rfl
    | true =>
      refine callR [] (r5 _) ?_
      refine LoadAt.mk 0 _ _ rfl rfl ?_
      refine callR [] (r4 _) ?_
      cases b1 <;> cases b2 <;> cases b3 <;> cases b4
      all_goals
        refine .quiet (by kernel_rfl) ?_
        refine LoadAt.mk 0 _ _ rfl rfl ?_
        refine callQ [] (k1 _) ?_
        refine LoadAt.mk 0 _ _ rfl rfl ?_
        refine callQ [] (r1 _) ?_
        refine LoadAt.mk 0 _ _ rfl rfl ?_
        refine callQ [] (k2 _) ?_
        refine LoadAt.mk 0 _ _ rfl rfl ?_
        refine callQ [] (r2 _) ?_
        refine LoadAt.mk 0 _ _ rfl rfl ?_
        refine callQ [] (k3 _) ?_
        refine LoadAt.mk 0 _ _ rfl rfl ?_
        refine callQ [] (r3 _) ?_
        refine LoadAt.mk 0 _ _ rfl rfl ?_
        refine callQ [] (k4 _) ?_
        exact .done rfl
  · have hB : ∀ σ, ACalls Tryz.prog 20 [.agg (sysC s), .int .i64 v, .int .i64 n] σ (Ret (.bool false) σ) := fun σ => acalls_eq (aWhyBegins s v n σ hf) (av_bool (by unfold beginsB; rw [hr]; rfl))
    have hN : ∀ σ, ACalls Tryz.prog 21 [.agg (sysC s), .int .i64 v, .int .i64 n] σ (Ret (.bool false) σ) := fun σ => acalls_eq (aWhyBorn s v n σ hf) (av_bool (by unfold bornB; rw [hr]; rfl))
    have hP : ∀ σ, ACalls Tryz.prog 22 [.agg (sysC s), .int .i64 v, .int .i64 n] σ (Ret (.bool false) σ) := fun σ => acalls_eq (aWhyPasses s v n σ hf) (av_bool (by unfold passB; rw [hr]; rfl))
    refine LoadAt.mk 0 _ _ rfl rfl ?_
    refine callR [] (hB _) ?_
    refine LoadAt.mk 0 _ _ rfl rfl ?_
    refine callR [] (hN _) ?_
    refine LoadAt.mk 0 _ _ rfl rfl ?_
    refine callR [] (hP _) ?_
    exact .done rfl
end Go.Proofs.YteccfogpajbigaaGreat
