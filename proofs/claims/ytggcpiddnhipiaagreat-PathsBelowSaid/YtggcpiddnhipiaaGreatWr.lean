/-
  soughref10: sets of numbers, as the reference has them.
-/
import Derived.Test.YtggcpiddnhipiaaGreatWs
namespace Go.Proofs.YtggcpiddnhipiaaGreat
open Go.RowKit
set_option maxRecDepth 100000
theorem aWidthR (n : Int) (σ : Hp) : ACalls Tryz.prog 127 [.int .i64 n] σ (Ret (.int .i64 (cutW n)) σ) := by
  refine okF Tryz.func127 (by kernel_rfl) ?_
  exact .done ⟨av_int (cutW_int n), rfl⟩
theorem sizeR_int (n : Int) : (IntKind.i64.wrap ((cutW n : Nat) + 63)).tdiv 64 = ((sizeW n : Nat) : Int) := by
  have := cutW_le n
  rw [IntKind.wrap_i64]
  unfold sizeW
  rw [Int.tdiv_eq_ediv_of_nonneg (by omega)]
  omega
theorem aSizeR (n : Int) (σ : Hp) : ACalls Tryz.prog 126 [.int .i64 n] σ (Ret (.int .i64 (sizeW n)) σ) := by
  refine okF Tryz.func126 (by kernel_rfl) ?_
  refine callR [] (aWidthR n _) ?_
  refine With.mk (by decide) ?_
  exact .done ⟨av_int (by rw [sizeR_int, wrap_size]), rfl⟩
/-- The bit that is asked, as the text asks it. -/
theorem has_int {x : Int} (ha : W64 x) {k : Nat} (h : k < 64) {z : Int} (hz : z = k) : (bits .and .u64 (x.fdiv (2 ^ min z.toNat IntKind.u64.bits)) 1 = 1) ↔ x.toNat.testBit k = true := by
  subst hz
  have e : min ((k : Int)).toNat IntKind.u64.bits = k := by show min k 64 = k; omega
  have hw := toNat_w ha
  rw [← hw, fdiv_nat _ _ _ e]
  have hlt := lt_w ha
  rw [show (1 : Int) = ((1 : Nat) : Int) from rfl, bits_u64_and (Nat.lt_of_le_of_lt (Nat.div_le_self _ _) hlt) (by decide)]
  rw [Int.toNat_natCast, Nat.and_one_is_mod, Nat.testBit_eq_decide_div_mod_eq, decide_eq_true_eq]
  omega
theorem aHasB (a : List Int) (n : Nat) (σ : Hp) (h64 : A64 a) (hn : n ≤ 1000000) : ACalls Tryz.prog 128 [.fsl (.int .u64) a, .int .i64 n] σ (Ret (.bool (hasB a n)) σ) := by
  refine okF Tryz.func128 (by kernel_rfl) ?_
  have hd := div64 n (by omega)
  have hm := mod64 n
  refine With.mk (by omega) ?_
  refine bcond_dec (fun c1 => ?_) (fun c1 => ?_)
  · have c1 : IntKind.i64.wrap ((↑n : Int).tdiv 64) < (↑a.length : Int) := c1
    refine With.mk (by omega) ?_
    have hi : n / 64 < a.length := by omega
    refine With.mk rfl (IdxF.mk a[n / 64] (by omega) (by rw [hd]; exact get_some hi) ?_)
    have hq := has_int (ha := h64 _ (List.getElem_mem hi)) (k := n % 64) (by omega) hm
    have hb : hasB a n = a[n / 64].toNat.testBit (n % 64) := by unfold hasB; rw [wd_get a hi]
    refine With.mk (by omega) ?_
    refine With.mk (by omega) ?_
    refine bcond_dec (fun c2 => .done ⟨av_bool ?_, rfl⟩) (fun c2 => .done ⟨av_bool ?_, rfl⟩)
    · rw [hb]; exact (hq.1 c2).symm
    · rw [hb]; exact (Bool.eq_false_iff.2 fun h => c2 (hq.2 h)).symm
  · have c1 : ¬ (IntKind.i64.wrap ((↑n : Int).tdiv 64) < (↑a.length : Int)) := c1
    have hb : hasB a n = false := by unfold hasB; rw [wd_none (by omega)]; simp
    rw [hb]
    exact .done ⟨rfl, rfl⟩
/-- A set and a number: a new row. -/
theorem aWithB (l : List Int) (n q len : Nat) (σ : Hp) (hl : l.length = len) (hm : len ≤ 10000) (hn : n / 64 < len) : ACalls Tryz.prog 172 [.mref q 0 len 1, .int .i64 n] ((q, woC l) :: σ) (fun r σ' => ∃ b, r = .mref b 0 len 1 ∧ σ' = (b, woC (l.set (n / 64) (orW (wd l (n / 64)) ((2 ^ (n % 64) : Nat) : Int)))) :: (q, woC l) :: σ) := by
  refine okF Tryz.func172 (by kernel_rfl) ?_
  have hd := div64 n (by omega)
  have hm := mod64 n
  intro bl1
  have hle2 : (woC l).length = len * 1 := by simp [woC, hl]
  have hle : 0 + len * 1 ≤ (woC l).length := by omega
  have hcut : ((woC l).drop 0).take (len * 1) = woC l := List.take_of_length_le (by rw [List.drop_zero]; omega)
  refine append_acc [] (acc := [(bl1, [])]) (k := 0) (cs := []) (n := len) (.mref bl1 0 [] rfl) (.mref 1 q 0 len (woC l) rfl hle) (by rw [hcut]; exact hle2) (by omega) (by decide) (by decide) (fun v' acc' h' => ?_)
  rw [Nat.zero_add, hcut, List.nil_append] at h'
  generalize hcs : woC l = cs at h'
  cases h' with
  | nil => omega
  | mref b k cs h =>
  subst hcs
  have hi : n / 64 < l.length := by omega
  refine .sched [] (upto [] 14 0) (by kernel_rfl) ?_
  refine With.mk (by omega) ?_
  refine With.mk (by omega) ?_
  refine With.mk ⟨rfl, by omega, by omega⟩ ?_
  refine LoadAt.mk 0 _ _ rfl (get64 hi hd) ?_
  have e64 := shl64 (n % 64) (by omega)
  rw [← hm] at e64
  refine With.mk (by omega) ?_
  refine With.mk (by omega) ?_
  refine With.mk ⟨rfl, by omega, by omega⟩ ?_
  refine StoreAt.mk 0 _ _ rfl (put64 hi _ hd) ?_
  rw [← e64]
  exact .done ⟨_, rfl, rfl⟩
set_option maxHeartbeats 4000000 in
theorem aBothR1 (a b : List Int) (σ : Hp) (ha : A64 a) (hb : A64 b) (la : a.length ≤ 10000) (lb : b.length ≤ 10000) : ACalls Tryz.prog 133 [.fsl (.int .u64) a, .fsl (.int .u64) b, .int .i64 1] σ (Ret (.fsl (.int .u64) (bothW orW a b)) σ) := by
  refine okF Tryz.func133 (by kernel_rfl) ?_
  obtain ⟨n, hn⟩ : ∃ n, n = max a.length b.length := ⟨_, rfl⟩
  have hmax : (if (a.length : Int) < b.length then (b.length : Int) else a.length) = (n : Int) := by split <;> omega
  have hT : (bothW orW a b).length = n := by rw [bothW_length, hn]
  have hT64 : A64 (bothW orW a b) := A64_map fun _ _ => orW_64 _ _
  have hbit : ∀ k, k < 64 * n → hasB (bothW orW a b) k = ((hasB a k).or (hasB b k)) := fun k hk => by
    unfold hasB
    rw [bothW_wd orW a b (by omega)]
    exact orW_bit (wd_64 ha _) (wd_64 hb _) _
  have hM : (0 : Int) ≤ (if (a.length : Int) < b.length then (b.length : Int) else a.length) ∧ (if (a.length : Int) < b.length then (b.length : Int) else a.length) ≤ 1048576 := by rw [hmax]; omega
  refine With.mk ⟨hM.1, Int.le_refl _, hM.2, by decide⟩ ?_
  intro q
  refine loopS (S := Nat × Nat) (fun s => [(0, .fsl (.int .u64) a), (1, .fsl (.int .u64) b), (2, .int .i64 1), (7, .mref s.2 0 n 1), (8, .int .i64 s.1)]) (fun s => (s.2, woC (ptW (bothW orW a b) s.1)) :: σ) (fun s => s.1 ≤ 64 * n) (fun s => 64 * n - s.1) (0, q) ⟨Nat.zero_le _, ⟨rfl, rfl, rfl, ?_, rfl, trivial⟩, ?_⟩ ?_
  · show AV.mref q 0 (if (a.length : Int) < b.length then (b.length : Int) else a.length).toNat 1 = .mref q 0 n 1
    rw [hmax, Int.toNat_natCast]
  · show (q, repC [.int .u64 0] (if (a.length : Int) < b.length then (b.length : Int) else a.length).toNat) :: σ = (q, woC (ptW (bothW orW a b) 0)) :: σ
    rw [hmax, Int.toNat_natCast, ptW_zero, hT, rep_woC]
  rintro ⟨k, p⟩ g hk0
  have hk : k ≤ 64 * n := hk0
  clear hk0
  have hlen : (ptW (bothW orW a b) k).length = n := by rw [ptW_length, hT]
  refine bcond_dec (fun hlt => ?_) (fun hge => ?_)
  · have hlt : k < 64 * n := by
      have hlt : (k : Int) < IntKind.i64.wrap (64 * (n : Int)) := hlt
      rw [IntKind.wrap_i64] at hlt; omega
    have hs := ptW_step (T := bothW orW a b) (n := k) (by omega)
    have hbk := hbit k hlt
    refine callB [] (aHasB a k _ ha (by omega)) (fun cA => ?_) (fun cA => ?_) <;> refine callB [] (aHasB b k _ hb (by omega)) (fun cB => ?_) (fun cB => ?_) <;> rw [cA, cB] at hbk <;> rw [hbk] at hs
    all_goals first
      | (refine .mk [] _ (aWithB _ k _ _ _ hlen (by omega) (by omega)) ?_
         rintro r σ' ⟨b', rfl, rfl⟩
         refine nextS (k + 1, b') (by show 64 * n - (k + 1) < 64 * n - k; omega) hlt ⟨rfl, rfl, rfl, rfl, inc64 (by omega), trivial⟩ (.drop 1 1 (shed_eq ?_))
         rw [hs.trans (if_pos rfl)]
         rfl)
      | (refine nextS (k + 1, p) (by show 64 * n - (k + 1) < 64 * n - k; omega) hlt ⟨rfl, rfl, rfl, rfl, inc64 (by omega), trivial⟩ (shed_eq ?_)
         rw [hs.trans (if_neg (by decide))]
         rfl)
  · have hge : k = 64 * n := by
      have hge : ¬ (k : Int) < IntKind.i64.wrap (64 * (n : Int)) := hge
      rw [IntKind.wrap_i64] at hge; omega
    subst hge
    rw [← hT, ptW_all hT64]
    exact .frz 0 p 0 _ 1 _ (.int .u64) (bothW orW a b) rfl (by rw [List.drop_zero, ← woC_flat]; exact List.take_of_length_le (by simp [woC]; exact Nat.le_refl _)) ⟨rfl, rfl, by decide⟩ .here (.done ⟨rfl, rfl⟩)
set_option maxHeartbeats 4000000 in
theorem aBothR3 (a b : List Int) (σ : Hp) (ha : A64 a) (hb : A64 b) (la : a.length ≤ 10000) (lb : b.length ≤ 10000) : ACalls Tryz.prog 133 [.fsl (.int .u64) a, .fsl (.int .u64) b, .int .i64 3] σ (Ret (.fsl (.int .u64) (bothW anW a b)) σ) := by
  refine okF Tryz.func133 (by kernel_rfl) ?_
  obtain ⟨n, hn⟩ : ∃ n, n = max a.length b.length := ⟨_, rfl⟩
  have hmax : (if (a.length : Int) < b.length then (b.length : Int) else a.length) = (n : Int) := by split <;> omega
  have hT : (bothW anW a b).length = n := by rw [bothW_length, hn]
  have hT64 : A64 (bothW anW a b) := A64_map fun _ _ => anW_64 _ _
  have hbit : ∀ k, k < 64 * n → hasB (bothW anW a b) k = ((hasB a k).and (!hasB b k)) := fun k hk => by
    unfold hasB
    rw [bothW_wd anW a b (by omega)]
    exact anW_bit (wd_64 ha _) (wd_64 hb _) (by omega)
  have hM : (0 : Int) ≤ (if (a.length : Int) < b.length then (b.length : Int) else a.length) ∧ (if (a.length : Int) < b.length then (b.length : Int) else a.length) ≤ 1048576 := by rw [hmax]; omega
  refine With.mk ⟨hM.1, Int.le_refl _, hM.2, by decide⟩ ?_
  intro q
  refine loopS (S := Nat × Nat) (fun s => [(0, .fsl (.int .u64) a), (1, .fsl (.int .u64) b), (2, .int .i64 3), (7, .mref s.2 0 n 1), (8, .int .i64 s.1)]) (fun s => (s.2, woC (ptW (bothW anW a b) s.1)) :: σ) (fun s => s.1 ≤ 64 * n) (fun s => 64 * n - s.1) (0, q) ⟨Nat.zero_le _, ⟨rfl, rfl, rfl, ?_, rfl, trivial⟩, ?_⟩ ?_
  · show AV.mref q 0 (if (a.length : Int) < b.length then (b.length : Int) else a.length).toNat 1 = .mref q 0 n 1
    rw [hmax, Int.toNat_natCast]
  · show (q, repC [.int .u64 0] (if (a.length : Int) < b.length then (b.length : Int) else a.length).toNat) :: σ = (q, woC (ptW (bothW anW a b) 0)) :: σ
    rw [hmax, Int.toNat_natCast, ptW_zero, hT, rep_woC]
  rintro ⟨k, p⟩ g hk0
  have hk : k ≤ 64 * n := hk0
  clear hk0
  have hlen : (ptW (bothW anW a b) k).length = n := by rw [ptW_length, hT]
  refine bcond_dec (fun hlt => ?_) (fun hge => ?_)
  · have hlt : k < 64 * n := by
      have hlt : (k : Int) < IntKind.i64.wrap (64 * (n : Int)) := hlt
      rw [IntKind.wrap_i64] at hlt; omega
    have hs := ptW_step (T := bothW anW a b) (n := k) (by omega)
    have hbk := hbit k hlt
    refine callB [] (aHasB a k _ ha (by omega)) (fun cA => ?_) (fun cA => ?_) <;> refine callB [] (aHasB b k _ hb (by omega)) (fun cB => ?_) (fun cB => ?_) <;> rw [cA, cB] at hbk <;> rw [hbk] at hs
    all_goals first
      | (refine .mk [] _ (aWithB _ k _ _ _ hlen (by omega) (by omega)) ?_
         rintro r σ' ⟨b', rfl, rfl⟩
         refine nextS (k + 1, b') (by show 64 * n - (k + 1) < 64 * n - k; omega) hlt ⟨rfl, rfl, rfl, rfl, inc64 (by omega), trivial⟩ (.drop 1 1 (shed_eq ?_))
         rw [hs.trans (if_pos rfl)]
         rfl)
      | (refine nextS (k + 1, p) (by show 64 * n - (k + 1) < 64 * n - k; omega) hlt ⟨rfl, rfl, rfl, rfl, inc64 (by omega), trivial⟩ (shed_eq ?_)
         rw [hs.trans (if_neg (by decide))]
         rfl)
  · have hge : k = 64 * n := by
      have hge : ¬ (k : Int) < IntKind.i64.wrap (64 * (n : Int)) := hge
      rw [IntKind.wrap_i64] at hge; omega
    subst hge
    rw [← hT, ptW_all hT64]
    exact .frz 0 p 0 _ 1 _ (.int .u64) (bothW anW a b) rfl (by rw [List.drop_zero, ← woC_flat]; exact List.take_of_length_le (by simp [woC]; exact Nat.le_refl _)) ⟨rfl, rfl, by decide⟩ .here (.done ⟨rfl, rfl⟩)
theorem aFitsR (a : List Int) (w : Int) (σ : Hp) (h64 : A64 a) : ACalls Tryz.prog 78 [.fsl (.int .u64) a, .int .i64 w] σ (Ret (.bool (fitsW a w)) σ) := by
  refine okF Tryz.func78 (by kernel_rfl) ?_
  have hsz := sizeW_le w
  have hcw := cutW_le w
  refine callR [] (aSizeR w _) ?_
  refine bcond_split (fun c => ?_) (fun c => ?_)
  · have c : a.length ≠ sizeW w := by have c : (!decide ((a.length : Int) = (sizeW w : Int))) = true := c; simp at c; omega
    have hf : fitsW a w = false := by unfold fitsW; rw [decide_eq_false c]; rfl
    rw [hf]
    exact .done ⟨rfl, rfl⟩
  · have c : a.length = sizeW w := by have c : (!decide ((a.length : Int) = (sizeW w : Int))) = false := c; simp at c; omega
    refine callR [] (aWidthR w _) ?_
    refine loopS (S := Nat) (fun s => [(0, .fsl (.int .u64) a), (5, .int .i64 s)]) (fun _ => σ) (fun s => cutW w ≤ s ∧ s ≤ 64 * a.length ∧ ∀ n, cutW w ≤ n → n < s → hasB a n = false) (fun s => 64 * a.length - s) (cutW w) ⟨⟨Nat.le_refl _, ?_, fun n h1 h2 => by omega⟩, ⟨rfl, rfl, trivial⟩, rfl⟩ ?_
    · rw [c]; unfold sizeW; omega
    intro k g hk0
    obtain ⟨hk1, hk2, hk3⟩ : cutW w ≤ k ∧ k ≤ 64 * a.length ∧ ∀ n, cutW w ≤ n → n < k → hasB a n = false := hk0
    refine bcond_dec (fun hlt => ?_) (fun hge => ?_)
    · have hlt : k < 64 * a.length := by
        have hlt : (k : Int) < IntKind.i64.wrap (64 * (a.length : Int)) := hlt
        rw [IntKind.wrap_i64] at hlt; omega
      refine callB [] (aHasB a k _ h64 (by omega)) (fun cA => ?_) (fun cA => ?_)
      · have hf : fitsW a w = false := Bool.eq_false_iff.2 fun h => by
          have := (fits_none h64 c).1 h k hk1 hlt
          rw [cA] at this; exact absurd this (by decide)
        rw [hf]
        exact .done ⟨rfl, rfl⟩
      · refine nextS (k + 1) (by show 64 * a.length - (k + 1) < 64 * a.length - k; omega) ⟨by omega, by omega, fun n h1 h2 => ?_⟩ ⟨rfl, inc64 (by omega), trivial⟩ (.refl _)
        rcases Nat.lt_or_ge n k with h3 | h3
        · exact hk3 n h1 h3
        · rw [show n = k by omega]; exact cA
    · have hge : k = 64 * a.length := by
        have hge : ¬ (k : Int) < IntKind.i64.wrap (64 * (a.length : Int)) := hge
        rw [IntKind.wrap_i64] at hge; omega
      have hf : fitsW a w = true := (fits_none h64 c).2 fun n h1 h2 => hk3 n h1 (by omega)
      rw [hf]
      exact .done ⟨rfl, rfl⟩
end Go.Proofs.YtggcpiddnhipiaaGreat
