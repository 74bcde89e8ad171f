/-
  Facts, plain: what a Step makes of them; there is a reason just if the least solution has the fact.
  soughref21.Check of what was found; WhyLeast.
-/
import Derived.Test.YteccfogpajbigaaGreatVe
namespace Go.Proofs.YteccfogpajbigaaGreat
open Go.RowKit
set_option maxRecDepth 100000
theorem has_bit (a : List Int) (n : Nat) : hasB a n = bitW a (n / 64) (n % 64) := rfl
theorem fact_join {s : Sy} {x y : List Int} {n : Nat} (hs : s.what = 1 ∨ s.what = 2) (hx : Val s.what s.w x) (hy : Val s.what s.w y) (hn : n / 64 < x.length) : rHasB s (join12 s.what x y) n = (rHasB s x n || rHasB s y n) := by
  unfold rHasB
  rw [Int.toNat_natCast, has_bit, has_bit, has_bit, join_bit hs hx.w64 hy.w64 (val_eqlen hx.v hy.v) _ _ hn]
  unfold opB
  rcases hs with h | h <;> rw [h] <;> cases bitW x (n / 64) (n % 64) <;> cases bitW y (n / 64) (n % 64) <;> rfl
theorem fact_out0 {what : Int} {g kk x : List Int} {l : List CodeT} {n : Nat} (hs : what = 1 ∨ what = 2) (hx : A64 x) (h1 : A64 g) (h2 : A64 kk) : (hasB (applyR what g kk l x) n == decide (what = 1)) = (((((false == decide (what = 1)) && !hasB kk n) || hasB g n) == decide (what = 1)) || ((hasB x n == decide (what = 1)) && ((((true == decide (what = 1)) && !hasB kk n) || hasB g n) == decide (what = 1)))) := by
  rw [applyR_set (by omega), has_bit, has_bit, has_bit, has_bit, or_bit (minus_64 x kk) h1, an_bit hx h2 _ (Nat.mod_lt _ (by decide))]
  rcases hs with h | h <;> rw [h] <;> cases bitW x (n / 64) (n % 64) <;> cases bitW g (n / 64) (n % 64) <;> cases bitW kk (n / 64) (n % 64) <;> rfl
theorem fact_out {s : Sy} {x : List Int} {v n : Nat} {t : transSh.T} (hf : Fit s) (hs : s.what = 1 ∨ s.what = 2) (hx : A64 x) (hv : s.T[v]? = some t) (ht : t ∈ s.T) : rHasB s (outS s x v) n = (rAftB s t n false || (rHasB s x n && rAftB s t n true)) := by
  have e : s.T.getD v ([], [], [], ()) = t := by rw [List.getD_eq_getElem?_getD, hv]; rfl
  unfold rHasB rAftB outS
  rw [e, Int.toNat_natCast]
  exact fact_out0 hs hx (hf.ts t ht).1 (hf.ts t ht).2.1
theorem fact_bot {s : Sy} {n : Nat} (hg : Good s) (hs : s.what = 1 ∨ s.what = 2) (hn : (n : Int) < s.w) : rHasB s (botL s.what s.w) n = false := by
  have hw := w_small hg
  unfold rHasB botL
  rw [Int.toNat_natCast]
  rcases hs with h | h
  · rw [h, if_neg (by omega)]
    have : hasB (List.replicate (wordsL 1 s.w).toNat 0) n = false := by
      unfold hasB wd
      rw [List.getElem?_replicate]
      split <;> exact Nat.zero_testBit _
    rw [this]; rfl
  · rw [if_pos ⟨h, hg.isL⟩, h]
    have hc : cutW s.w = s.w := by unfold cutW; omega
    have : hasB (fullW s.w) n = true := by
      unfold hasB
      rw [fullW_wd s.w (by unfold sizeW; omega), Int.toNat_natCast, Nat.testBit_two_pow_sub_one]
      exact decide_eq_true (by omega)
    rw [this]; rfl
theorem fact_start {s : Sy} {n : Nat} (hg : Good s) (hs : s.what = 1 ∨ s.what = 2) (hn : (n : Int) < s.w) (v : Int) : rHasB s (startS s v) n = rBegB s v n := by
  unfold startS rBegB
  split
  · rename_i h; rw [h, Bool.true_and]
  · rename_i h; rw [Bool.eq_false_iff.2 h, Bool.false_and]; exact fact_bot hg hs hn
theorem out_Val {s : Sy} (hf : Fit s) (hg : Good s) {a : List (List Int)} (ha : Vals s a) {d : EdgeT} (hd : d ∈ s.edges) : Val s.what s.w (outS s (a.getD d.1.toNat []) d.1.toNat) := by
  have h := hg.edge d hd
  have hv : ((d.1.toNat : Nat) : Int) < s.n := by omega
  exact (out_mono hf hg (leV.refl (ha.get hv)) hv).1
theorem val_idx {s : Sy} {n : Nat} (hg : Good s) (hs : s.what = 1 ∨ s.what = 2) (hn : (n : Int) < s.w) {x : List Int} (hx : Val s.what s.w x) : n / 64 < x.length := by
  have h1 := val_len hx.v
  rw [words_set hg.isL (by omega)] at h1
  have hw := w_small hg
  have hc : cutW s.w = s.w := by unfold cutW; omega
  unfold sizeW at h1
  omega
theorem fact_stepV {s : Sy} {n : Nat} (hf : Fit s) (hg : Good s) (hs : s.what = 1 ∨ s.what = 2) (hn : (n : Int) < s.w) {a : List (List Int)} (ha : Vals s a) (v : Nat) (hv : (v : Int) < s.n) : ∀ k, k ≤ s.edges.length → (rHasB s (stepV s a k v) n = true ↔ rBegB s v n = true ∨ ∃ e ∈ s.edges.take k, e.2.1 = v ∧ rHasB s (outS s (a.getD e.1.toNat []) e.1.toNat) n = true)
  | 0, _ => by
    unfold stepV
    rw [List.take_zero, List.foldl_nil, fact_start hg hs hn]
    exact ⟨.inl, fun h => h.resolve_right fun ⟨e, he, _⟩ => by cases he⟩
  | k + 1, hk => by
    have hlt : k < s.edges.length := hk
    have ih := fact_stepV hf hg hs hn ha v hv k (by omega)
    have hV := stepV_Val hf hg ha v k (by omega)
    rw [stepV_succ s a hlt, List.take_succ_eq_append_getElem hlt]
    obtain ⟨d, hd⟩ : ∃ d : EdgeT, s.edges[k] = d := ⟨_, rfl⟩
    have hdm : d ∈ s.edges := hd ▸ List.getElem_mem hlt
    rw [hd]
    unfold joinE
    by_cases h : d.2.1 = v
    · rw [if_pos h, fact_join hs hV (out_Val hf hg ha hdm) (val_idx hg hs hn hV), Bool.or_eq_true, ih]
      constructor
      · rintro ((h1 | ⟨e, he, h1⟩) | h1)
        · exact .inl h1
        · exact .inr ⟨e, List.mem_append_left _ he, h1⟩
        · exact .inr ⟨d, List.mem_append_right _ (List.mem_cons_self ..), h, h1⟩
      · rintro (h1 | ⟨e, he, h1, h2⟩)
        · exact .inl (.inl h1)
        · rcases List.mem_append.1 he with he | he
          · exact .inl (.inr ⟨e, he, h1, h2⟩)
          · rw [List.mem_singleton.1 he] at h2; exact .inr h2
    · rw [if_neg h, ih]
      constructor
      · rintro (h1 | ⟨e, he, h1⟩)
        · exact .inl h1
        · exact .inr ⟨e, List.mem_append_left _ he, h1⟩
      · rintro (h1 | ⟨e, he, h1, h2⟩)
        · exact .inl h1
        · rcases List.mem_append.1 he with he | he
          · exact .inr ⟨e, he, h1, h2⟩
          · rw [List.mem_singleton.1 he] at h1; exact absurd h1 h
theorem fact_step {s : Sy} {n : Nat} (hf : Fit s) (hg : Good s) (hs : s.what = 1 ∨ s.what = 2) (hn : (n : Int) < s.w) {a : List (List Int)} (ha : Vals s a) (v : Nat) (hv : (v : Int) < s.n) : rHasB s ((stepS s a).getD v []) n = true ↔ rBegB s v n = true ∨ ∃ e ∈ s.edges, e.2.1 = v ∧ rHasB s (outS s (a.getD e.1.toNat []) e.1.toNat) n = true := by
  rw [stepS_get s a hv, fact_stepV hf hg hs hn ha v hv _ (Nat.le_refl _), List.take_length]
/-- What stays of an iteration's start stays of its end. -/
theorem runL_keep {s : Sy} (hf : Fit s) (hg : Good s) (P : List (List Int) → Prop) (hP : ∀ a, Vals s a → P a → P (stepS s a)) : ∀ (m : Nat) (a : List (List Int)) (k : Nat), Vals s a → P a → P (runL s m a k).1
  | 0, a, k, _, h => h
  | m + 1, a, k, ha, h => by
    by_cases e : a = stepS s a
    · rw [runL_stop _ _ e]; exact h
    · rw [runL_go _ _ e]; exact runL_keep hf hg P hP m _ _ (step_Vals hf hg ha) (hP a ha h)
theorem begins_eq {s : Sy} {v n : Int} (hr : rightB s v n = true) : beginsB s v n = rBegB s v n := by
  have hr2 := right_w hr
  have hg := good_of hr2.2.1
  have hn1 := hg.n1
  have hr0 : rightB s 0 n = true := by unfold rightB; exact decide_eq_true ⟨hr2.1, hr2.2.1, by decide, by omega, hr2.2.2.2.2⟩
  have hin : fitsW s.init s.w = true := (val_set hg.isL hr2.1).1 hg.ini
  unfold beginsB rBegB whyHasB rHasB; rw [hr, hr0, hin, Bool.true_and, Bool.true_and, Bool.true_and]
theorem born_eq {s : Sy} {k m : Nat} {t : transSh.T} (hr : rightB s k m = true) (e : trOf s k = t) : bornB s k m = rAftB s t m false := by
  have hr2 := right_w hr
  have hw12 : s.what = 1 ∨ s.what = 2 := by have := check_what hr2.2.1; omega
  unfold bornB rAftB; rw [hr, e, Int.toNat_natCast]
  rcases hw12 with h | h <;> rw [h] <;> cases hasB t.1 m <;> cases hasB t.2.1 m <;> rfl
theorem pass_eq {s : Sy} {k m : Nat} {t : transSh.T} (hr : rightB s k m = true) (e : trOf s k = t) : passB s k m = rAftB s t m true := by
  have hr2 := right_w hr
  have hw12 : s.what = 1 ∨ s.what = 2 := by have := check_what hr2.2.1; omega
  unfold passB rAftB; rw [hr, e, Int.toNat_natCast]
  rcases hw12 with h | h <;> rw [h] <;> cases hasB t.1 m <;> cases hasB t.2.1 m <;> rfl
theorem right_at {s : Sy} {v n x : Int} (hr : rightB s v n = true) (hx : 0 ≤ x ∧ x < s.n) : rightB s x n = true := by
  have hr2 := right_w hr
  unfold rightB
  exact decide_eq_true ⟨hr2.1, hr2.2.1, hx.1, hx.2, hr2.2.2.2.2⟩
theorem fact_out2 {s : Sy} {v : Int} {n : Nat} {x : List Int} (hf : Fit s) (hr : rightB s v n = true) (hx : A64 x) : rHasB s (outS s x v.toNat) n = (bornB s v n || (rHasB s x n && passB s v n)) := by
  have hr2 := right_w hr
  have hs : s.what = 1 ∨ s.what = 2 := by have := check_what hr2.2.1; omega
  obtain ⟨k, t, rfl, hk, ht, e⟩ := right_tr hr
  rw [born_eq hr e, pass_eq hr e, Int.toNat_natCast]
  exact fact_out hf hs hx hk ht
/-- No reason: no value that Steps come to has the fact. -/
theorem none_fact {s : Sy} {v : Int} {n : Nat} {ml : List (Int × Int)} (hf : Fit s) (hr : rightB s v n = true) (hF : FarI s v n ml [] (fun _ => False)) (hC : NoC s n ml s.n) : rHasB s ((solS s).1.getD v.toNat []) n = false := by
  have hr2 := right_w hr
  have hg := good_of hr2.2.1
  have hs : s.what = 1 ∨ s.what = 2 := by have := check_what hr2.2.1; omega
  have hn := hr2.2.2.2.2.2
  refine runL_keep hf hg (fun a => ∀ x d, getM ml x = some d → rHasB s (a.getD x.toNat []) n = false) (fun a ha hP x d hx => ?_) _ _ _ (bottom_Vals hg) (fun x d hx => ?_) v 0 hF.v0
  · have hxr := (hF.rng x d hx).1
    obtain ⟨k, rfl⟩ : ∃ k : Nat, x = k := ⟨x.toNat, by omega⟩
    rw [Int.toNat_natCast]
    refine Bool.eq_false_iff.2 fun h => ?_
    rcases (fact_step hf hg hs hn ha k hxr.2).1 h with h1 | ⟨e, he, h1, h2⟩
    · have := (hC k hxr.1 hxr.2).1 ((begins_eq (right_at hr hxr)).trans h1)
      rw [hx] at this; cases this
    · have hee := hg.edge e he
      have hv : ((e.1.toNat : Nat) : Int) < s.n := by omega
      have hto : (k : Int) ∈ toS s.n s.edges e.1 := mem_toS.2 ⟨hxr, hee.1, e, he, rfl, h1⟩
      rw [fact_out2 hf (right_at hr hee.1) (ha.get hv).w64, Bool.or_eq_true, Bool.and_eq_true] at h2
      rcases h2 with h2 | ⟨h2, h3⟩
      · have := (hC e.1 hee.1.1 hee.1.2).2 k hto h2
        rw [hx] at this; cases this
      · have hback : e.1 ∈ backL s n k := by
          unfold backL
          refine List.mem_filter.2 ⟨mem_toS.2 ⟨hee.1, hxr, turnP e, (sortedE_mem _ _).2 (List.mem_map.2 ⟨e, he, rfl⟩), h1, rfl⟩, h3⟩
        rcases hF.cl k d hx with h4 | h4 | h4
        · cases h4
        · exact h4
        · obtain ⟨d', hd'⟩ := h4 e.1 hback
          rw [hP e.1 d' hd'] at h2; cases h2
  · have hxr := (hF.rng x d hx).1
    rw [bottomS_get (by omega)]
    exact fact_bot hg hs hn
/-- A reason: the least solution has the fact. -/
theorem some_fact {s : Sy} {v : Int} {n : Nat} (hf : Fit s) (hr : rightB s v n = true) {w : List Int} {x : Int} (h : RsW s n w x) : rHasB s ((solS s).1.getD x.toNat []) n = true := by
  have hr2 := right_w hr
  have hg := good_of hr2.2.1
  have hs : s.what = 1 ∨ s.what = 2 := by have := check_what hr2.2.1; omega
  have hn := hr2.2.2.2.2.2
  obtain ⟨hV, hfix, _, _⟩ := sol_least hf hg
  have hstep : ∀ (z : Int), 0 ≤ z ∧ z < s.n → (rBegB s z n = true ∨ ∃ a, z ∈ toS s.n s.edges a ∧ rHasB s (outS s ((solS s).1.getD a.toNat []) a.toNat) n = true) → rHasB s ((solS s).1.getD z.toNat []) n = true := fun z hz h => by
    obtain ⟨k, rfl⟩ : ∃ k : Nat, z = k := ⟨z.toNat, by omega⟩
    rw [Int.toNat_natCast, hfix]
    refine (fact_step hf hg hs hn hV k hz.2).2 ?_
    rcases h with h | ⟨a, h1, h2⟩
    · exact .inl h
    · obtain ⟨_, h3, e, he, h4, h5⟩ := mem_toS.1 h1
      exact .inr ⟨e, he, h5, by rw [h4]; exact h2⟩
  have hout : ∀ a : Int, 0 ≤ a ∧ a < s.n → (bornB s a n = true ∨ (rHasB s ((solS s).1.getD a.toNat []) n = true ∧ passB s a n = true)) → rHasB s (outS s ((solS s).1.getD a.toNat []) a.toNat) n = true := fun a ha h => by
    have hv : ((a.toNat : Nat) : Int) < s.n := by omega
    rw [fact_out2 hf (right_at hr ha) (hV.get hv).w64, Bool.or_eq_true, Bool.and_eq_true]
    exact h
  induction h with
  | one a h hb => exact hstep a h (.inl ((begins_eq (right_at hr h)).symm.trans hb))
  | born a b h hn2 hb => exact hstep b (mem_toS.1 hn2).1 (.inr ⟨a, hn2, hout a h (.inl hb)⟩)
  | app w x b h hp hn2 ih => exact hstep b (mem_toS.1 hn2).1 (.inr ⟨x, hn2, hout x (mem_toS.1 hn2).2.1 (.inr ⟨ih, hp⟩)⟩)
end Go.Proofs.YteccfogpajbigaaGreat
namespace Go.Proofs.YteccfogpajbigaaGreat
open Go.RowKit
set_option maxRecDepth 100000
theorem getD_app {w : List Int} {b : Int} {i : Nat} (h : i < w.length) : (w ++ [b]).getD i 0 = w.getD i 0 := by
  rw [List.getD_eq_getElem?_getD, List.getD_eq_getElem?_getD, List.getElem?_append_left h]
theorem getD_end {w : List Int} {b : Int} : (w ++ [b]).getD w.length 0 = b := by
  rw [List.getD_eq_getElem?_getD, List.getElem?_append_right (Nat.le_refl _), Nat.sub_self]; rfl
theorem chain_app {n : Int} {l : List EdgeT} {w : List Int} {b : Int} (h : chainB n l w w.length = true) : chainB n l (w ++ [b]) w.length = true := by
  unfold chainB at h ⊢
  rw [List.all_eq_true] at h ⊢
  intro i hi
  have hlt := List.mem_range.1 hi
  have := h i hi
  by_cases h0 : i = 0
  · rw [h0]; rfl
  · rw [getD_app hlt, getD_app (by omega)]; exact this
theorem way_one {s : Sy} {a : Int} (h : 0 ≤ a ∧ a < s.n) : wayB s [a] = true := by
  unfold wayB chainB
  simp [node_iff.2 h]
theorem way_app {s : Sy} {w : List Int} {x b : Int} (h : wayB s w = true) (hl : w.getD (w.length - 1) 0 = x) (hb : b ∈ toS s.n s.edges x) : wayB s (w ++ [b]) = true := by
  unfold wayB at h ⊢
  simp only [Bool.and_eq_true, decide_eq_true_eq] at h ⊢
  obtain ⟨⟨h1, h2⟩, h3⟩ := h
  refine ⟨⟨by simp, by rw [getD_app h1]; exact h2⟩, ?_⟩
  rw [List.length_append, List.length_singleton, chainB_succ, chain_app h3, Bool.true_and, getD_end, getD_app (by omega), hl]
  simp [hb]
theorem RsW.idx {s : Sy} {n : Int} {w : List Int} {x : Int} (h : RsW s n w x) : wayB s w = true ∧ 0 < w.length ∧ w.getD (w.length - 1) 0 = x ∧ (w.length = 1 → beginsB s x n = true) ∧ (1 < w.length → bornB s (w.getD 0 0) n = true ∨ (beginsB s (w.getD 0 0) n = true ∧ passB s (w.getD 0 0) n = true)) ∧ ∀ i, 1 ≤ i → i + 1 < w.length → passB s (w.getD i 0) n = true := by
  induction h with
  | one a h hb => exact ⟨way_one h, by simp, rfl, fun _ => hb, fun h => absurd h (by simp), fun i h1 h2 => absurd h2 (by simp)⟩
  | born a b h hn hb => exact ⟨way_app (way_one h) rfl hn, by simp, rfl, fun h => absurd h (by simp), fun _ => .inl hb, fun i h1 h2 => absurd h2 (by simp; omega)⟩
  | app w x b h hp hn ih =>
    obtain ⟨h1, h2, h3, h4, h5, h6⟩ := ih
    refine ⟨way_app h1 h3 hn, by simp, by rw [List.length_append, List.length_singleton, Nat.add_sub_cancel, getD_end], fun h => ?_, fun _ => ?_, fun i hi hi2 => ?_⟩
    · rw [List.length_append, List.length_singleton] at h; omega
    · rw [getD_app h2]
      by_cases hl : w.length = 1
      · rw [hl] at h3
        rw [show w.getD 0 0 = x from h3]
        exact .inr ⟨h4 hl, hp⟩
      · exact h5 (by omega)
    · rw [List.length_append, List.length_singleton] at hi2
      rw [getD_app (by omega)]
      by_cases hl : i + 1 < w.length
      · exact h6 i hi hl
      · rw [show i = w.length - 1 by omega, h3]; exact hp
theorem aRAft (s : Sy) (v a : Int) (n : Nat) (b : Bool) (σ : Hp) (hf : Fit s) (hr : rightB s v n = true) (ha : 0 ≤ a ∧ a < s.n) : ACalls Tryz.prog 26 [.agg (sysC s), .int .i64 a, .int .i64 n, .bool b] σ (Ret (.bool (if b = true then passB s a n else bornB s a n)) σ) := by
  have hr2 := right_at hr ha
  obtain ⟨m, hm0, hm, hm2⟩ := right_nat hr
  obtain ⟨k, t, rfl, hk, ht, e⟩ := right_tr hr2
  refine acalls_eq (aRAfter s k t n σ hf hk ht (by omega) b) (av_bool ?_)
  cases b with
  | true => rw [if_pos rfl]; exact (pass_eq hr2 e).symm
  | false => rw [if_neg (by decide)]; exact (born_eq hr2 e).symm
theorem aRCheckW (s : Sy) (v : Int) (n : Nat) (w : List Int) (σ : Hp) (hf : Fit s) (hr : rightB s v n = true) (hw : RsW s n w v) (hl : w.length ≤ 1000) : ACalls Tryz.prog 46 [.agg (sysC s), .int .i64 v, .int .i64 n, .fsl (.int .i64) w] σ (Ret (.bool true) σ) := by
  obtain ⟨h1, h2, h3, h4, h5, h6⟩ := hw.idx
  have hr2 := right_w hr
  have hg := good_of hr2.2.1
  obtain ⟨m, hm0, hm, hm2⟩ := right_nat hr
  have hI := fun σ => acalls_eq (aRIs20 s w σ hf hg (by omega)) (av_bool h1)
  have hlast : (0 ≤ IntKind.i64.wrap ((w.length : Int) - 1) ∧ IntKind.i64.wrap ((w.length : Int) - 1) < w.length) ∧ w[(IntKind.i64.wrap ((w.length : Int) - 1)).toNat]? = some v := by
    have e : IntKind.i64.wrap ((w.length : Int) - 1) = ((w.length - 1 : Nat) : Int) := by rw [IntKind.wrap_i64]; omega
    rw [e]
    exact ⟨by omega, (gz (by omega) rfl).trans (congrArg some h3)⟩
  refine okF Tryz.func46 (by kernel_rfl) ?_
  intro bl1
  refine LoadAt.mk 0 _ _ rfl rfl ?_
  refine callR [] (hI _) ?_
  refine With.mk rfl (IdxF.mk v hlast.1.1 hlast.2 ?_)
  refine bcond_split (fun c => absurd c (by simp)) (fun c => ?_)
  refine bcond_dec (p := (w.length : Int) = 1) (fun c1 => ?_) (fun c1 => ?_)
  · refine LoadAt.mk 0 _ _ rfl rfl ?_
    refine callR [] (acalls_eq (aRBegins21 s v n _ hf (by omega)) (av_bool ((begins_eq hr).symm.trans (h4 (by omega))))) ?_
    exact .drop 0 1 (.done ⟨rfl, rfl⟩)
  · have hl1 : 1 < w.length := by omega
    have hn0 := way_node h1 (i := 0) h2
    have h5 := h5 hl1
    obtain ⟨w0, hw0⟩ : ∃ w0, w.getD 0 0 = w0 := ⟨_, rfl⟩
    have hget : w[(0 : Int).toNat]? = some w0 := hw0 ▸ gz h2 rfl
    rw [hw0] at hn0 h5
    have hA0 := fun σ => aRAft s v w0 n false σ hf hr hn0
    have hA1 := fun σ => aRAft s v w0 n true σ hf hr hn0
    have hB0 := fun σ => acalls_eq (aRBegins21 s w0 n σ hf (by omega)) (av_bool (begins_eq (right_at hr hn0)).symm)
    rw [if_neg (by decide)] at hA0
    rw [if_pos rfl] at hA1
    cases hb : bornB s w0 n with
    | true =>
      rw [hb] at hA0
      refine .quiet (by kernel_rfl) ?_
      refine LoadAt.mk 0 _ _ rfl rfl ?_
      refine With.mk rfl ?_
      refine IdxF.mk w0 (by omega) hget ?_
      refine callQ [] (hA0 _) ?_
      refine loopS (S := Nat) (fun i => [(2, .int .i64 n), (3, .fsl (.int .i64) w), (4, .ptr bl1 0), (9, .int .i64 i)]) (fun _ => (bl1, sysC s) :: σ) (fun i => 1 ≤ i ∧ i + 1 ≤ w.length) (fun i => w.length - i) 1 ⟨⟨Nat.le_refl _, by show 1 + 1 ≤ w.length; omega⟩, ⟨rfl, rfl, rfl, rfl, trivial⟩, rfl⟩ ?_
      rintro i g ⟨hi0, hi1⟩
      have hi0 : 1 ≤ i := hi0
      have hi1 : i + 1 ≤ w.length := hi1
      refine bcond_dec (p := IntKind.i64.wrap ((i : Int) + 1) < (w.length : Int)) (fun c4 => ?_) (fun c4 => ?_)
      · have c4 : i + 1 < w.length := by
          have c4 : IntKind.i64.wrap ((i : Int) + 1) < (w.length : Int) := c4
          rw [IntKind.wrap_i64] at c4; omega
        have hp := h6 i hi0 c4
        obtain ⟨wi, hwi⟩ : ∃ wi, w.getD i 0 = wi := ⟨_, rfl⟩
        have hgi : w[((i : Nat) : Int).toNat]? = some wi := hwi ▸ gz (by omega) rfl
        have hni := way_node h1 (i := i) (by omega)
        rw [hwi] at hp hni
        have hAi := fun σ => aRAft s v wi n true σ hf hr hni
        rw [if_pos rfl, hp] at hAi
        refine .quiet (by kernel_rfl) ?_
        refine LoadAt.mk 0 _ _ rfl rfl ?_
        refine With.mk rfl ?_
        refine IdxF.mk wi (by omega) hgi ?_
        refine callQ [] (hAi _) ?_
        exact nextS (i + 1) (by show w.length - (i + 1) < w.length - i; omega) ⟨by show 1 ≤ i + 1; omega, by show i + 1 + 1 ≤ w.length; omega⟩ ⟨rfl, rfl, rfl, inc64 (by omega), trivial⟩ (.refl _)
      · exact .drop 0 1 (.done ⟨rfl, rfl⟩)
    | false =>
      rw [hb] at hA0
      obtain ⟨hb1, hb2⟩ := h5.resolve_left (by rw [hb]; decide)
      rw [hb1] at hB0
      rw [hb2] at hA1
      refine .quiet (by kernel_rfl) ?_
      refine LoadAt.mk 0 _ _ rfl rfl ?_
      refine With.mk rfl ?_
      refine IdxF.mk w0 (by omega) hget ?_
      refine callQ [] (hA0 _) ?_
      refine LoadAt.mk 0 _ _ rfl rfl ?_
      refine With.mk rfl ?_
      refine IdxF.mk w0 (by omega) hget ?_
      refine callQ [] (hB0 _) ?_
      refine LoadAt.mk 0 _ _ rfl rfl ?_
      refine With.mk rfl ?_
      refine IdxF.mk w0 (by omega) hget ?_
      refine callQ [] (hA1 _) ?_
      refine loopS (S := Nat) (fun i => [(2, .int .i64 n), (3, .fsl (.int .i64) w), (4, .ptr bl1 0), (9, .int .i64 i)]) (fun _ => (bl1, sysC s) :: σ) (fun i => 1 ≤ i ∧ i + 1 ≤ w.length) (fun i => w.length - i) 1 ⟨⟨Nat.le_refl _, by show 1 + 1 ≤ w.length; omega⟩, ⟨rfl, rfl, rfl, rfl, trivial⟩, rfl⟩ ?_
      rintro i g ⟨hi0, hi1⟩
      have hi0 : 1 ≤ i := hi0
      have hi1 : i + 1 ≤ w.length := hi1
      refine bcond_dec (p := IntKind.i64.wrap ((i : Int) + 1) < (w.length : Int)) (fun c4 => ?_) (fun c4 => ?_)
      · have c4 : i + 1 < w.length := by
          have c4 : IntKind.i64.wrap ((i : Int) + 1) < (w.length : Int) := c4
          rw [IntKind.wrap_i64] at c4; omega
        have hp := h6 i hi0 c4
        obtain ⟨wi, hwi⟩ : ∃ wi, w.getD i 0 = wi := ⟨_, rfl⟩
        have hgi : w[((i : Nat) : Int).toNat]? = some wi := hwi ▸ gz (by omega) rfl
        have hni := way_node h1 (i := i) (by omega)
        rw [hwi] at hp hni
        have hAi := fun σ => aRAft s v wi n true σ hf hr hni
        rw [if_pos rfl, hp] at hAi
        refine .quiet (by kernel_rfl) ?_
        refine LoadAt.mk 0 _ _ rfl rfl ?_
        refine With.mk rfl ?_
        refine IdxF.mk wi (by omega) hgi ?_
        refine callQ [] (hAi _) ?_
        exact nextS (i + 1) (by show w.length - (i + 1) < w.length - i; omega) ⟨by show 1 ≤ i + 1; omega, by show i + 1 + 1 ≤ w.length; omega⟩ ⟨rfl, rfl, rfl, inc64 (by omega), trivial⟩ (.refl _)
      · exact .drop 0 1 (.done ⟨rfl, rfl⟩)
theorem whyLeast_walk (s : Sy) (v n : Int) (hi : A64 s.init) (ht : ∀ t ∈ s.T, A64 t.1 ∧ A64 t.2.1) : ACalls Tryz.prog 10 [.agg (sysC s), .int .i64 v, .int .i64 n] [] (fun r _ => r = .bool true) := by
  refine okF Tryz.func10 (by kernel_rfl) ?_
  intro bl1
  refine callR [] (aAwake21 _) ?_
  refine LoadAt.mk 0 _ _ rfl rfl ?_
  refine callS [] (aSmall17 s _) (fun hsm => ?_) ?_
  rotate_left
  · exact .done rfl
  have hf := fit_of hsm hi ht
  refine LoadAt.mk 0 _ _ rfl rfl ?_
  refine callB [] (aLawRight21 s v n _ hf) (fun hr => ?_) (fun hr => ?_)
  rotate_left
  · exact .done rfl
  have hr2 := right_w hr
  have hg := good_of hr2.2.1
  have hn2 := hg.n2
  obtain ⟨m, rfl, hm, hm2⟩ := right_nat hr
  obtain ⟨k, rfl⟩ : ∃ k : Nat, v = k := ⟨v.toNat, by omega⟩
  obtain ⟨hV, _, _, _⟩ := sol_least hf hg
  have hS := fun σ => aSolve s σ hf
  unfold okG at hS
  rw [if_pos hr2.2.1, if_pos hr2.2.1, hr2.2.1] at hS
  obtain ⟨z, hz⟩ : ∃ z : Int, z = 0 := ⟨0, rfl⟩
  have hlen := hV.len
  have hk : k < (solS s).1.length := by omega
  have hget : (solS s).1[((k : Nat) : Int).toNat]? = some ((solS s).1.getD k []) := by
    rw [Int.toNat_natCast, List.getD_eq_getElem?_getD, List.getElem?_eq_getElem hk]; rfl
  have hval := hV.get (i := k) hr2.2.2.2.1
  have hH := fun σ => aRHas21 s ((solS s).1.getD k []) m σ hval.w64 hm
  have hnone := fun ml => none_fact (ml := ml) hf hr
  have hsome := fun w => some_fact (w := w) (x := (k : Int)) hf hr
  rw [Int.toNat_natCast] at hnone hsome
  generalize (solS s).1.getD k [] = x at hget hH hnone hsome
  generalize hso : solS s = so at hS hget hk
  obtain ⟨sv, sk⟩ := so
  refine LoadAt.mk 0 _ _ rfl rfl ?_
  refine .mk [] _ (aFind21 s k m _ hf hr) ?_
  rintro r σ' ⟨rfl, ⟨rfl, ml, h1, h2⟩ | ⟨w, rfl, h1, h2⟩⟩
  · rw [hnone ml h1 h2] at hH
    refine LoadAt.mk 0 _ _ rfl rfl ?_
    refine callR [] (hS _) ?_
    refine .quiet (by kernel_rfl) ?_
    refine LoadAt.mk 0 _ _ rfl rfl ?_
    refine With.mk rfl ?_
    refine IdxF.mk x (by omega) hget ?_
    refine callQ [] (hH _) ?_
    exact .done rfl
  · rw [hsome w h1] at hH
    have hC := fun σ => aRCheckW s k m w σ hf hr h1 (Nat.le_trans h2 (by decide))
    have hI := fun σ => acalls_eq (aRIs20 s w σ hf hg (Nat.le_trans h2 (by decide))) (av_bool h1.idx.1)
    refine LoadAt.mk 0 _ _ rfl rfl ?_
    refine callR [] (hS _) ?_
    refine .quiet (by kernel_rfl) ?_
    refine LoadAt.mk 0 _ _ rfl rfl ?_
    refine With.mk rfl ?_
    refine IdxF.mk x (by omega) hget ?_
    refine callQ [] (hH _) ?_
    refine LoadAt.mk 0 _ _ rfl rfl ?_
    refine callQ [] (hC _) ?_
    refine LoadAt.mk 0 _ _ rfl rfl ?_
    refine callQ [] (hI _) ?_
    exact .done rfl
end Go.Proofs.YteccfogpajbigaaGreat
