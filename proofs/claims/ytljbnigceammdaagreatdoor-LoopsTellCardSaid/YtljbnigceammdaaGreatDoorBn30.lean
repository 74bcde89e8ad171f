/-
  Yg; Yi; Zb; Yh: what the claim uses of them.
-/
import Derived.Test.YtljbnigceammdaaGreatDoorBn29
import Derived.Test.YtljbnigceammdaaGreatDoorBn15
import Derived.Test.YtljbnigceammdaaGreatDoorBn28
namespace Go.Proofs.YtljbnigceammdaaGreatDoor
open Go.RowKit
set_option maxRecDepth 100000
/-- Steps from a on, till nothing changes, m at most. -/
def runL (s : Sy) : Nat → List (List Int) → Nat → List (List Int) × Nat
  | 0, a, k => (a, k)
  | m + 1, a, k => if a = stepS s a then (a, k) else runL s m (stepS s a) (k + 1)
theorem runL_stop {s : Sy} {a : List (List Int)} (m k : Nat) (h : a = stepS s a) : runL s m a k = (a, k) := by
  cases m with
  | zero => rfl
  | succ m => exact if_pos h
theorem runL_go {s : Sy} {a : List (List Int)} (m k : Nat) (h : ¬ a = stepS s a) : runL s (m + 1) a k = runL s m (stepS s a) (k + 1) := if_neg h
theorem aLSame (a b : List (List Int)) (σ : Hp) (ha : okLL a) : ACalls Tryz.prog 102 [.fsl (.slice (.int .u64)) a, .fsl (.slice (.int .u64)) b] σ (Ret (.bool (decide (a = b))) σ) := by
  refine okF Tryz.func102 (by kernel_rfl) ?_
  refine callR [] (aEqualFn 139 [] a b (fun x y => decide (x = y)) _ (Nat.le_trans ha.1 (by decide)) (fun x hx y _ => aEqualUF x y _ (Nat.le_trans (ha.2 x hx).2 (by decide)))) ?_
  exact .done ⟨av_bool (allTwo_eq a b), rfl⟩
theorem aIterate1 (s : Sy) (a : List (List Int)) (q r : Nat) (σ : Hp) (hf : Fit s) (hg : Good s) (ha : Vals s a) : ACalls Tryz.prog 100 [.ptr q 0, .ptr r 0] ((r, [.fsl (.slice (.int .u64)) a]) :: (q, sysC s) :: σ) (Ret (.fsl (.slice (.int .u64)) (stepS s a)) ((r, [.fsl (.slice (.int .u64)) a]) :: (q, sysC s) :: σ)) := by
  refine okF Tryz.func100 (by kernel_rfl) ?_
  refine LoadAt.mk 1 _ _ rfl rfl ?_
  refine LoadAt.mk 0 _ _ rfl rfl ?_
  refine callR [] (acalls_eq (aSysStep s a _ hf (ha.ok hg)) (by rw [errS_ok hg ha])) ?_
  exact .done ⟨rfl, rfl⟩
theorem bottom_Vals {s : Sy} (hg : Good s) : Vals s (bottomS s) := by
  refine ⟨by rw [bottomS_length]; have := hg.n1; omega, fun x hx => ?_⟩
  rw [(List.mem_replicate.1 hx).2]
  exact ⟨bot_val hg.isL, bot_64 _ _⟩
theorem aIterate (s : Sy) (most0 : Int) (σ : Hp) (hf : Fit s) (hm : checkS s = 0 → 0 ≤ most0 ∧ most0 ≤ 1000000) : ACalls Tryz.prog 75 [.agg (sysC s), .int .i64 most0] σ (Ret (.tup [.fsl (.slice (.int .u64)) (okG (checkS s) (runL s most0.toNat (bottomS s) 0).1), .int .i64 (if checkS s = 0 then ((runL s most0.toNat (bottomS s) 0).2 : Int) else 0), .int .i64 (checkS s)]) σ) := by
  refine okF Tryz.func75 (by kernel_rfl) ?_
  intro bl1
  refine LoadAt.mk 0 _ _ rfl rfl ?_
  by_cases c1 : checkS s = 0
  · have hg := good_of c1
    have hb := bottom_Vals hg
    have hm := hm c1
    obtain ⟨most, rfl⟩ : ∃ most : Nat, most0 = most := ⟨most0.toNat, by omega⟩
    rw [Int.toNat_natCast]
    refine callR [] (acalls_eq (aSysBottom s _ hf) (by rw [c1])) ?_
    intro br
    refine StoreAt.mk 0 _ _ rfl rfl ?_
    have hR : runL s (most - 0) (bottomS s) 0 = runL s most (bottomS s) 0 := rfl
    refine callR [] (aIterate1 s (bottomS s) bl1 br _ hf hg hb) ?_
    refine bcond_dec (p := ((0 : Nat) : Int) < (most : Int)) (fun d1 => ?_) (fun d1 => ?_)
    rotate_left
    · have d2 : most - 0 = 0 := by omega
      refine LoadAt.mk 0 _ _ rfl rfl ?_
      rw [d2] at hR
      exact .drop 0 2 (.done ⟨by rw [← hR, c1]; rfl, rfl⟩)
    refine LoadAt.mk 0 _ _ rfl rfl ?_
    refine callB [] (aLSame (bottomS s) (stepS s (bottomS s)) _ ((hb).ok hg)) (fun d2 => ?_) (fun d2 => ?_)
    · have d2 : (bottomS s) = stepS s (bottomS s) := of_decide_eq_true d2
      refine LoadAt.mk 0 _ _ rfl rfl ?_
      rw [runL_stop _ _ d2] at hR
      exact .drop 0 2 (.done ⟨by rw [← hR, c1]; rfl, rfl⟩)
    have d2 : ¬ (bottomS s) = stepS s (bottomS s) := of_decide_eq_false d2
    refine StoreAt.mk 0 _ _ rfl rfl ?_
    rw [show most - 0 = (most - (0 + 1)) + 1 by omega, runL_go _ _ d2] at hR
    refine .loop (S := List (List Int) × Nat) (fun _ => 0) (fun x => [(1, .int .i64 most), (2, .ptr bl1 0), (7, .ptr br 0), (9, .int .i64 x.2), (10, .fn (.func 100) [] [.ptr bl1 0, .ptr br 0])]) (fun x => (br, [.fsl (.slice (.int .u64)) x.1]) :: (bl1, sysC s) :: σ) (fun x => (Vals s x.1 ∧ x.2 ≤ most) ∧ runL s (most - x.2) x.1 x.2 = runL s most (bottomS s) 0) (fun x => most - x.2) (stepS s (bottomS s), 1) ⟨rfl, ⟨⟨step_Vals hf hg hb, by omega⟩, hR⟩, ⟨rfl, rfl, rfl, rfl, rfl, trivial⟩, .refl _⟩ ?_
    rintro ⟨a, k⟩ t ⟨⟨ha0, hk0⟩, hR0⟩
    have ha : Vals s a := ha0
    have hk : k ≤ most := hk0
    have hR : runL s (most - k) a k = runL s most (bottomS s) 0 := hR0
    clear ha0 hk0 hR0
    refine callR [] (aIterate1 s a bl1 br _ hf hg ha) ?_
    refine bcond_dec (p := ((k : Nat) : Int) < (most : Int)) (fun d1 => ?_) (fun d1 => ?_)
    rotate_left
    · have d2 : most - k = 0 := by omega
      refine LoadAt.mk 0 _ _ rfl rfl ?_
      rw [d2] at hR
      exact .drop 0 2 (.done ⟨by rw [← hR, c1]; rfl, rfl⟩)
    refine LoadAt.mk 0 _ _ rfl rfl ?_
    refine callB [] (aLSame a (stepS s a) _ ((ha).ok hg)) (fun d2 => ?_) (fun d2 => ?_)
    · have d2 : a = stepS s a := of_decide_eq_true d2
      refine LoadAt.mk 0 _ _ rfl rfl ?_
      rw [runL_stop _ _ d2] at hR
      exact .drop 0 2 (.done ⟨by rw [← hR, c1]; rfl, rfl⟩)
    have d2 : ¬ a = stepS s a := of_decide_eq_false d2
    refine StoreAt.mk 0 _ _ rfl rfl ?_
    rw [show most - k = (most - (k + 1)) + 1 by omega, runL_go _ _ d2] at hR
    exact .mk (stepS s a, k + 1) rfl (by show most - (k + 1) < most - k; omega) ⟨⟨step_Vals hf hg ha, by show k + 1 ≤ most; omega⟩, hR⟩ ⟨rfl, rfl, rfl, inc64 (by omega), rfl, trivial⟩ (.refl _)
  · refine callR [] (aSysBottom s _ hf) ?_
    intro br
    refine StoreAt.mk 0 _ _ rfl rfl ?_
    refine bcond_split (fun _ => ?_) (fun c2 => ?_)
    · exact .nil (frz_cons (.nil _) (.refl _)) (.drop 0 2 (.done ⟨by unfold okG; rw [if_neg c1, if_neg c1]; rfl, rfl⟩))
    · have c2 : (!decide (checkS s = 0)) = false := c2
      exact absurd (by simpa using c2) c1
def enoughS (s : Sy) : Int := s.n * heightL s.what s.w + 1
theorem height_le (what w : Int) : 0 ≤ heightL what w ∧ heightL what w ≤ 2048 := by
  unfold heightL
  split
  · rename_i h
    unfold is12 at h; simp at h
    split <;> omega
  · omega
theorem aEnough (s : Sy) (σ : Hp) : ACalls Tryz.prog 76 [.agg (sysC s)] σ (Ret (.int .i64 (IntKind.i64.wrap (IntKind.i64.wrap (s.n * heightL s.what s.w) + 1))) σ) := by
  refine okF Tryz.func76 (by kernel_rfl) ?_
  intro bl1
  refine .quiet (by kernel_rfl) ?_
  refine LoadAt.mk 0 _ _ rfl rfl ?_
  refine LoadAt.mk 0 _ _ rfl rfl ?_
  refine LoadAt.mk 0 _ _ rfl rfl ?_
  refine callQ [] (aLHeight _ _ _) ?_
  exact .drop 0 1 (.done ⟨rfl, rfl⟩)
theorem enough_eq {s : Sy} (hg : Good s) : IntKind.i64.wrap (IntKind.i64.wrap (s.n * heightL s.what s.w) + 1) = enoughS s ∧ 0 ≤ enoughS s ∧ enoughS s ≤ 1000000 := by
  have h1 := hg.n1
  have h2 := hg.n2
  have h3 := height_le s.what s.w
  have h4 : s.n * heightL s.what s.w ≤ 256 * 2048 := Int.mul_le_mul h2 h3.2 h3.1 (by decide)
  have h5 : 0 ≤ s.n * heightL s.what s.w := Int.mul_nonneg (by omega) h3.1
  unfold enoughS
  rw [w64 (n := s.n * heightL s.what s.w) (by omega), w64 (by omega)]
  omega
/-- The least solution, and when it comes. -/
def solS (s : Sy) : List (List Int) × Nat := runL s (enoughS s).toNat (bottomS s) 0
theorem aSolve (s : Sy) (σ : Hp) (hf : Fit s) : ACalls Tryz.prog 41 [.agg (sysC s)] σ (Ret (.tup [.fsl (.slice (.int .u64)) (okG (checkS s) (solS s).1), .int .i64 (if checkS s = 0 then ((solS s).2 : Int) else 0), .int .i64 (checkS s)]) σ) := by
  refine okF Tryz.func41 (by kernel_rfl) ?_
  intro bl1
  refine .quiet (by kernel_rfl) ?_
  refine LoadAt.mk 0 _ _ rfl rfl ?_
  refine LoadAt.mk 0 _ _ rfl rfl ?_
  refine callQ [] (aEnough s _) ?_
  refine callQ [] (aIterate s _ _ hf (fun h => ?_)) ?_
  · have := enough_eq (good_of h)
    rw [this.1]; exact this.2
  · refine .drop 0 1 (.done ⟨?_, rfl⟩)
    by_cases h : checkS s = 0
    · unfold solS
      rw [(enough_eq (good_of h)).1]
      rfl
    · unfold okG
      rw [if_neg h, if_neg h, if_neg h, if_neg h]
      rfl
def sumR (n : Nat) (f : Nat → Nat) : Nat := ((List.range n).map f).sum
theorem sumR_succ (n : Nat) (f : Nat → Nat) : sumR (n + 1) f = sumR n f + f n := by unfold sumR; rw [List.range_succ, List.map_append, List.sum_append]; simp
theorem sumR_mono {f g : Nat → Nat} : ∀ n, (∀ i, i < n → f i ≤ g i) → sumR n f ≤ sumR n g ∧ (sumR n f = sumR n g → ∀ i, i < n → f i = g i)
  | 0, _ => ⟨Nat.le_refl _, fun _ i h => absurd h (Nat.not_lt_zero i)⟩
  | n + 1, h => by
    obtain ⟨h1, h2⟩ := sumR_mono n fun i hi => h i (by omega)
    have h3 := h n (by omega)
    rw [sumR_succ, sumR_succ]
    refine ⟨by omega, fun e i hi => ?_⟩
    by_cases hin : i = n
    · subst hin; omega
    · exact h2 (by omega) i (by omega)
theorem sumR_le {f : Nat → Nat} {c : Nat} : ∀ n, (∀ i, i < n → f i ≤ c) → sumR n f ≤ n * c
  | 0, _ => Nat.zero_le _
  | n + 1, h => by
    have h1 := sumR_le n fun i hi => h i (by omega)
    have h2 := h n (by omega)
    rw [sumR_succ, Nat.succ_mul]; omega
/-- How little is known, at a place. -/
def rkB (b : Bool) : Nat := if b = true then 1 else 0
def rkW (z : Int) : Nat := if z = 0 then 0 else if z = 1 then 2 else 1
def rkP (what : Int) (x : List Int) (j : Nat) : Nat := if what = 3 then rkW (wd x j) else if what = 1 then rkB (bitW x (j / 64) (j % 64)) else rkB (!bitW x (j / 64) (j % 64))
def rankV (what w : Int) (x : List Int) : Nat := sumR w.toNat (rkP what x)
theorem le_flat {w : Int} {a b : List Int} (h : leV 3 w a b) {i : Nat} (hi : i < a.length) : wd a i = wd b i ∨ wd a i = 0 ∨ wd b i = 1 := by
  have hl := val_eqlen h.1.v h.2.1.v
  have va := ((val_flat (val_is h.1.v) rfl).1 h.1.v).2
  have vb := ((val_flat (val_is h.1.v) rfl).1 h.2.1.v).2
  have := flat_join va vb hi (by omega)
  rw [h.2.2] at this
  unfold jn at this
  split at this
  · exact .inl this.symm
  · split at this
    · rename_i h0; exact .inr (.inl h0)
    · exact .inr (.inr this)
theorem le_bits {what w : Int} (hs : what = 1 ∨ what = 2) {a b : List Int} (h : leV what w a b) {i k : Nat} (hi : i < a.length) : opB what (bitW a i k) (bitW b i k) = bitW b i k := by
  have hl := val_eqlen h.1.v h.2.1.v
  rw [← join_bit hs h.1.w64 h.2.1.w64 hl i k hi, h.2.2]
theorem rkP_le {what w : Int} {a b : List Int} (h : leV what w a b) {j : Nat} (hj : j < w.toNat) : rkP what a j ≤ rkP what b j := by
  have hi := val_is h.1.v
  by_cases h3 : what = 3
  · subst h3
    have hl := ((val_flat hi rfl).1 h.1.v).1
    unfold rkP rkW
    rw [if_pos rfl, if_pos rfl]
    rcases le_flat h (i := j) (by omega) with e | e | e
    · rw [e]; exact Nat.le_refl _
    · rw [if_pos e]; exact Nat.zero_le _
    · rw [e]
      rw [if_neg (show ¬ (1 : Int) = 0 by decide), if_pos rfl]
      split
      · omega
      · split <;> omega
  · have hs := is_set hi h3
    have hla := fits_len ((val_set hi h3).1 h.1.v)
    have hw : cutW w = w.toNat := by unfold is12 at hi; simp at hi; unfold cutW; omega
    have hlt : j / 64 < a.length := by rw [hla]; unfold sizeW; omega
    have hb := le_bits hs h (k := j % 64) hlt
    unfold rkP rkB
    rw [if_neg h3, if_neg h3]
    unfold opB at hb
    rcases hs with rfl | rfl
    · rw [if_pos rfl, if_pos rfl]
      rw [if_pos rfl] at hb
      revert hb
      cases bitW a (j / 64) (j % 64) <;> cases bitW b (j / 64) (j % 64) <;> simp
    · rw [if_neg (show ¬ (2 : Int) = 1 by decide), if_neg (show ¬ (2 : Int) = 1 by decide)]
      rw [if_neg (show ¬ (2 : Int) = 1 by decide)] at hb
      revert hb
      cases bitW a (j / 64) (j % 64) <;> cases bitW b (j / 64) (j % 64) <;> simp
theorem rkP_eq {what w : Int} {a b : List Int} (h : leV what w a b) (he : ∀ j, j < w.toNat → rkP what a j = rkP what b j) : a = b := by
  have hi := val_is h.1.v
  have hl := val_eqlen h.1.v h.2.1.v
  refine join_ext h.1 h.2.1 (fun h3 i hlt => ?_) (fun hs i k hlt hk => ?_)
  · subst h3
    have hw := ((val_flat hi rfl).1 h.1.v).1
    have := he i (by omega)
    unfold rkP rkW at this
    rw [if_pos rfl, if_pos rfl] at this
    rcases le_flat h hlt with e | e | e
    · exact e
    · rw [if_pos e] at this
      split at this
      · omega
      · split at this <;> omega
    · rw [e, if_neg (show ¬ (1 : Int) = 0 by decide), if_pos rfl] at this
      split at this
      · omega
      · split at this
        · omega
        · omega
  · have h3 : ¬ what = 3 := by omega
    have fa := (val_set hi h3).1 h.1.v
    have fb := (val_set hi h3).1 h.2.1.v
    have hw : cutW w = w.toNat := by unfold is12 at hi; simp at hi; unfold cutW; omega
    by_cases hc : 64 * i + k < cutW w
    · have := he (64 * i + k) (by omega)
      unfold rkP rkB at this
      rw [if_neg h3, if_neg h3, show (64 * i + k) / 64 = i by omega, show (64 * i + k) % 64 = k by omega] at this
      revert this
      split <;> cases bitW a i k <;> cases bitW b i k <;> simp
    · rw [(fits_bit h.1.w64 (fits_len fa)).1 fa i k hlt hk (by omega), (fits_bit h.2.1.w64 (fits_len fb)).1 fb i k (by omega) hk (by omega)]
theorem rank_height {what w : Int} (x : List Int) (hi : is12 what w = true) : (rankV what w x : Int) ≤ heightL what w := by
  unfold heightL rankV
  rw [if_pos hi]
  unfold is12 at hi; simp at hi
  by_cases h3 : what = 3
  · rw [if_pos h3]
    have := sumR_le (f := rkP what x) (c := 2) w.toNat fun i _ => by
      unfold rkP rkW
      rw [if_pos h3]
      split
      · omega
      · split <;> omega
    omega
  · rw [if_neg h3]
    have := sumR_le (f := rkP what x) (c := 1) w.toNat fun i _ => by
      unfold rkP rkB
      rw [if_neg h3]
      split <;> split <;> omega
    omega
theorem rank_le {what w : Int} {a b : List Int} (h : leV what w a b) : rankV what w a ≤ rankV what w b ∧ (rankV what w a = rankV what w b → a = b) := by
  have := sumR_mono w.toNat fun j hj => rkP_le h hj
  exact ⟨this.1, fun e => rkP_eq h (this.2 e)⟩
/-- Ranks of a system's values, put together. -/
def totR (s : Sy) (a : List (List Int)) : Nat := sumR s.n.toNat fun v => rankV s.what s.w (a.getD v [])
theorem totR_le {s : Sy} {a b : List (List Int)} (h : leA s a b) : totR s a ≤ totR s b ∧ (totR s a = totR s b → a = b) := by
  have := sumR_mono (f := fun v => rankV s.what s.w (a.getD v [])) (g := fun v => rankV s.what s.w (b.getD v [])) s.n.toNat fun v hv => (rank_le (h.2.2 v (by omega))).1
  refine ⟨this.1, fun e => ?_⟩
  have la := h.1.len
  have lb := h.2.1.len
  refine List.ext_getElem (by omega) fun i h1 h2 => ?_
  have hv := (rank_le (h.2.2 i (by omega))).2 (this.2 e i (by omega))
  rw [List.getD_eq_getElem?_getD, List.getD_eq_getElem?_getD, List.getElem?_eq_getElem h1, List.getElem?_eq_getElem h2] at hv
  exact hv
theorem totR_most {s : Sy} (hg : Good s) (a : List (List Int)) : (totR s a : Int) ≤ s.n * heightL s.what s.w := by
  have hh := height_le s.what s.w
  have := sumR_le (f := fun v => rankV s.what s.w (a.getD v [])) (c := (heightL s.what s.w).toNat) s.n.toNat fun v _ => by
    have := rank_height (a.getD v []) hg.isL
    omega
  have hn := hg.n1
  have e : (s.n.toNat * (heightL s.what s.w).toNat : Nat) = s.n * heightL s.what s.w := by
    rw [Int.natCast_mul, Int.toNat_of_nonneg (by omega), Int.toNat_of_nonneg hh.1]
  unfold totR
  omega
theorem bottomS_get {s : Sy} {i : Nat} (h : (i : Int) < s.n) : (bottomS s).getD i [] = botL s.what s.w := by
  unfold bottomS
  rw [List.getD_eq_getElem?_getD, List.getElem?_replicate, if_pos (by omega)]; rfl
theorem bottom_le {s : Sy} (hg : Good s) {a : List (List Int)} (h : Vals s a) : leA s (bottomS s) a :=
  ⟨bottom_Vals hg, h, fun i hi => by rw [bottomS_get hi]; exact bot_le (h.get hi)⟩
/-- What Steps come to. -/
theorem runL_least {s : Sy} (hf : Fit s) (hg : Good s) : ∀ (m : Nat) (a : List (List Int)) (k : Nat), leA s a (stepS s a) → k ≤ totR s a → s.n * heightL s.what s.w + 1 ≤ (k + m : Nat) →
    Vals s (runL s m a k).1 ∧ (runL s m a k).1 = stepS s (runL s m a k).1 ∧ ((runL s m a k).2 : Int) ≤ s.n * heightL s.what s.w ∧ ∀ y, leA s (stepS s y) y → leA s a y → leA s (runL s m a k).1 y
  | 0, a, k, h, hk, hm => by have := totR_most hg a; omega
  | m + 1, a, k, h, hk, hm => by
    by_cases e : a = stepS s a
    · rw [runL_stop _ _ e]
      have := totR_most hg a
      exact ⟨h.1, e, by show ((k : Nat) : Int) ≤ _; omega, fun y _ hy => hy⟩
    · rw [runL_go _ _ e]
      have h2 := step_mono hf hg h
      have hlt : k + 1 ≤ totR s (stepS s a) := by
        have := totR_le h
        by_cases e2 : totR s a = totR s (stepS s a)
        · exact absurd (this.2 e2) e
        · omega
      obtain ⟨q1, q2, q3, q4⟩ := runL_least hf hg m (stepS s a) (k + 1) h2 hlt (by omega)
      exact ⟨q1, q2, q3, fun y hy hay => q4 y hy ((step_mono hf hg hay).trans hy)⟩
/-- The least solution. -/
theorem sol_least {s : Sy} (hf : Fit s) (hg : Good s) : Vals s (solS s).1 ∧ (solS s).1 = stepS s (solS s).1 ∧ ((solS s).2 : Int) ≤ s.n * heightL s.what s.w ∧ ∀ y, leA s (stepS s y) y → leA s (solS s).1 y := by
  have hb := bottom_Vals hg
  have he := enough_eq hg
  obtain ⟨q1, q2, q3, q4⟩ := runL_least hf hg (enoughS s).toNat (bottomS s) 0 (bottom_le hg (step_Vals hf hg hb)) (Nat.zero_le _) (by unfold enoughS at he ⊢; omega)
  exact ⟨q1, q2, q3, fun y hy => q4 y hy (bottom_le hg hy.2.1)⟩
end Go.Proofs.YtljbnigceammdaaGreatDoor
namespace Go.Proofs.YtljbnigceammdaaGreatDoor
open Go.RowKit
set_option maxRecDepth 100000
theorem aRRight (n : Int) (l : List EdgeT) (σ : Hp) (hl : l.length ≤ 1000000) : ACalls Tryz.prog 14 [.int .i64 n, .fsl edgeSh l] σ (Ret (.bool (rightE n l)) σ) := by
  refine okF Tryz.func14 (by kernel_rfl) ?_
  refine bcond_dec (p := n < 1) (fun c1 => ?_) (fun c1 => ?_)
  · exact .done ⟨av_bool (by unfold rightE; simp; omega), rfl⟩
  refine bcond_dec (p := 256 < n) (fun c2 => ?_) (fun c2 => ?_)
  · exact .done ⟨av_bool (by unfold rightE; simp; omega), rfl⟩
  refine bcond_dec (p := 1024 < (l.length : Int)) (fun c3 => ?_) (fun c3 => ?_)
  · exact .done ⟨av_bool (by unfold rightE; simp; omega), rfl⟩
  have hbase : rightE n l = l.all fun e => nodeB n e.1 && nodeB n e.2.1 := by
    unfold rightE
    rw [decide_eq_true (by omega), decide_eq_true (by omega), decide_eq_true (by omega)]; simp
  refine loopS (S := Nat) (fun k => [(0, .int .i64 n), (18, .fsl edgeSh l), (19, .int .i64 l.length), (20, .int .i64 k)]) (fun _ => σ) (fun k => k ≤ l.length ∧ ((l.take k).any fun e => !(nodeB n e.1 && nodeB n e.2.1)) = false) (fun k => l.length - k) 0 ⟨⟨Nat.zero_le _, rfl⟩, ⟨rfl, rfl, rfl, rfl, trivial⟩, rfl⟩ ?_
  rintro k g ⟨hk0, ha0⟩
  have hk : k ≤ l.length := hk0
  have ha : ((l.take k).any fun e => !(nodeB n e.1 && nodeB n e.2.1)) = false := ha0
  clear hk0 ha0
  refine bcond_dec (fun hlt => ?_) (fun hge => ?_)
  · have hlt : k < l.length := by have hlt : (k : Int) < l.length := hlt; omega
    have hs := any_take hlt fun e : EdgeT => !(nodeB n e.1 && nodeB n e.2.1)
    rw [ha, Bool.false_or] at hs
    have hm := List.getElem_mem hlt
    obtain ⟨d, hd⟩ : ∃ d : EdgeT, l[k] = d := ⟨_, rfl⟩
    rw [hd] at hs hm
    have hbad : (nodeB n d.1 && nodeB n d.2.1) = false → false = rightE n l := fun h => by
      rw [hbase, all_not]
      have : (l.any fun e => !(nodeB n e.1 && nodeB n e.2.1)) = true := List.any_eq_true.2 ⟨d, hm, by rw [h]; rfl⟩
      rw [this]; rfl
    refine With.mk rfl (IdxF.mk d (by omega) ((get_some hlt).trans (congrArg some hd)) ?_)
    intro bl2
    refine StoreAt.mk 0 _ _ rfl rfl ?_
    refine LoadAt.mk 0 _ _ rfl rfl ?_
    refine bcond_dec (p := d.1 < 0) (fun d1 => ?_) (fun d1 => ?_)
    · exact .drop 0 1 (.done ⟨av_bool (hbad (by unfold nodeB; simp; omega)), rfl⟩)
    refine LoadAt.mk 0 _ _ rfl rfl ?_
    refine bcond_dec (p := n ≤ d.1) (fun d2 => ?_) (fun d2 => ?_)
    · exact .drop 0 1 (.done ⟨av_bool (hbad (by unfold nodeB; simp; omega)), rfl⟩)
    refine LoadAt.mk 0 _ _ rfl rfl ?_
    refine bcond_dec (p := d.2.1 < 0) (fun d3 => ?_) (fun d3 => ?_)
    · exact .drop 0 1 (.done ⟨av_bool (hbad (by unfold nodeB; simp; omega)), rfl⟩)
    refine LoadAt.mk 0 _ _ rfl rfl ?_
    refine bcond_dec (p := n ≤ d.2.1) (fun d4 => ?_) (fun d4 => ?_)
    · exact .drop 0 1 (.done ⟨av_bool (hbad (by unfold nodeB; simp; omega)), rfl⟩)
    exact nextS (k + 1) (by show l.length - (k + 1) < l.length - k; omega) ⟨hlt, hs.trans (by unfold nodeB; simp; omega)⟩ ⟨rfl, rfl, rfl, inc64 (by omega), trivial⟩ (.drop 0 1 (.refl _))
  · have hge : k = l.length := by have hge : ¬ (k : Int) < l.length := hge; omega
    subst hge
    rw [List.take_length] at ha
    exact .done ⟨av_bool (by rw [hbase, all_not, ha]; rfl), rfl⟩
end Go.Proofs.YtljbnigceammdaaGreatDoor
namespace Go.Proofs.YtljbnigceammdaaGreatDoor
open Go.RowKit
theorem mem_toS {n : Int} {l : List EdgeT} {a b : Int} : b ∈ toS n l a ↔ (0 ≤ b ∧ b < n) ∧ (0 ≤ a ∧ a < n) ∧ ∃ e ∈ l, e.1 = a ∧ e.2.1 = b := by
  unfold toS nextZ
  rw [List.mem_filter, decide_eq_true_eq, List.mem_map, List.mem_map]
  constructor
  · rintro ⟨⟨i, hi, rfl⟩, e, he, h2⟩
    have hi := List.mem_range.1 hi
    obtain ⟨h3, h4⟩ := List.mem_filter.1 he
    simp only [Bool.and_eq_true, decide_eq_true_eq, node_iff] at h4
    exact ⟨by omega, h4.1.2, e, h3, h4.1.1, h2⟩
  · rintro ⟨h1, h2, e, h3, h4, h5⟩
    refine ⟨⟨b.toNat, List.mem_range.2 (by omega), by omega⟩, e, List.mem_filter.2 ⟨h3, ?_⟩, h5⟩
    simp only [Bool.and_eq_true, decide_eq_true_eq, node_iff]
    exact ⟨⟨h4, h2⟩, by omega⟩
theorem toS_length (n : Int) (l : List EdgeT) (a : Int) : (toS n l a).length ≤ n.toNat := by
  unfold toS
  exact Nat.le_trans (List.length_filter_le _ _) (by simp)
/-- A Step brings what goes along an edge. -/
theorem stepV_edge {s : Sy} (hf : Fit s) (hg : Good s) {a : List (List Int)} (ha : Vals s a) (v : Nat) : ∀ k, k ≤ s.edges.length → leV s.what s.w (startS s v) (stepV s a k v) ∧ ∀ e ∈ s.edges.take k, e.2.1 = v → leV s.what s.w (outS s (a.getD e.1.toNat []) e.1.toNat) (stepV s a k v)
  | 0, _ => ⟨leV.refl (start_Val hf hg v), fun e he => by cases he⟩
  | k + 1, hk => by
    obtain ⟨h1, h2⟩ := stepV_edge hf hg ha v k (by omega)
    have hlt : k < s.edges.length := by omega
    have hv := stepV_Val hf hg ha v k (by omega)
    have he := hg.edge _ (List.getElem_mem hlt)
    have ho : Val s.what s.w (outS s (a.getD s.edges[k].1.toNat []) s.edges[k].1.toNat) := by
      have hx := ha.get (i := s.edges[k].1.toNat) (by omega)
      have := out_val hf hg hx.w64 hx.v (v := s.edges[k].1.toNat) (by omega)
      exact ⟨this.1, this.2⟩
    have hup : leV s.what s.w (stepV s a k v) (stepV s a (k + 1) v) := by
      rw [stepV_succ s a hlt]
      unfold joinE
      split
      · exact leV.left hv ho
      · exact leV.refl hv
    refine ⟨h1.trans hup, fun e hm hev => ?_⟩
    rw [List.take_succ_eq_append_getElem hlt] at hm
    rcases List.mem_append.1 hm with hm | hm
    · exact (h2 e hm hev).trans hup
    · rw [List.mem_singleton.1 hm] at hev ⊢
      rw [stepV_succ s a hlt]
      unfold joinE
      rw [if_pos hev]
      exact leV.right hv ho
end Go.Proofs.YtljbnigceammdaaGreatDoor
namespace Go.Proofs.YtljbnigceammdaaGreatDoor
open Go.RowKit
set_option maxRecDepth 100000
theorem aSolveOk (s : Sy) (σ : Hp) (hf : Fit s) (hg : Good s) : ACalls Tryz.prog 41 [.agg (sysC s)] σ (Ret (.tup [.fsl (.slice (.int .u64)) (solS s).1, .int .i64 (solS s).2, .int .i64 0]) σ) := by
  refine acalls_eq (aSolve s σ hf) ?_
  rw [good_zero hg]; rfl
end Go.Proofs.YtljbnigceammdaaGreatDoor
