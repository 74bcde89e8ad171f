/-
  soughref30's words, Sum, Get; a cell's words, put and got, in plain Lean.
-/
import Derived.Test.YtiihcgmnmcdcfaaCell
import Derived.Test.YtiihcgmnmcdcfaaRtk
namespace Go.Proofs.Ytiihcgmnmcdcfaa
open Go.RowKit
set_option maxRecDepth 100000
set_option maxHeartbeats 4000000
def W64 (z : Int) : Prop := 0 ≤ z ∧ z < 18446744073709551616
def A64 (l : List Int) : Prop := ∀ z ∈ l, W64 z
theorem wrap_64 (n : Int) : W64 (IntKind.u64.wrap n) := by rw [IntKind.wrap_u64]; unfold W64; omega
theorem norm_64 {w : Int} (h : W64 w) : W64 (normW w) := by
  unfold normW
  split
  · exact ⟨by decide, by decide⟩
  · split
    · exact ⟨by decide, by decide⟩
    · split
      · exact h
      · exact ⟨by decide, by decide⟩
theorem word_64 {what a b : Int} (ha : W64 a) (hb : W64 b) : W64 (wordW what a b) := by
  unfold wordW
  split
  · exact wrap_64 _
  · split
    · exact wrap_64 _
    · split
      · unfold joinW
        split
        · exact norm_64 ha
        · split
          · exact norm_64 hb
          · exact ⟨by decide, by decide⟩
      · exact ⟨by decide, by decide⟩
theorem wd_64 {l : List Int} (h : A64 l) (i : Nat) : W64 (wd l i) := by
  unfold wd
  cases hq : l[i]? with
  | none => exact ⟨by decide, by decide⟩
  | some x => exact h x (List.mem_of_getElem? hq)
theorem aRWd (a : List Int) (i : Nat) (σ : Hp) : ACalls Try.prog 98 [.fsl (.int .u64) a, .int .i64 i] σ (Ret (.int .u64 (wd a i)) σ) := by
  refine okF Try.func98 (by kernel_rfl) ?_
  refine bcond_dec (fun h => ?_) (fun h => ?_)
  · have h : (i : Int) < a.length := h
    have hi : i < a.length := by omega
    refine With.mk rfl (IdxF.mk a[i] (by omega) (get_some hi) ?_)
    exact .done ⟨av_int (by simp [wd, hi]), rfl⟩
  · have h : ¬ (i : Int) < a.length := h
    exact .done ⟨av_int (by simp [wd, List.getElem?_eq_none (show a.length ≤ i by omega)]), rfl⟩
/-- Words joined with a list's. -/
def joinL (what : Int) (c x : List Int) : List Int := c.mapIdx fun i z => wordW what z (wd x i)
def sumL (what : Int) (a : List Int) (l : List (List Int)) : List Int := l.foldl (joinL what) a
theorem joinL_length (what : Int) (c x : List Int) : (joinL what c x).length = c.length := by simp [joinL]
theorem joinL_64 {what : Int} {c x : List Int} (hc : A64 c) (hx : A64 x) : A64 (joinL what c x) := by
  intro z hz
  obtain ⟨i, hi, rfl⟩ := List.mem_mapIdx.1 hz
  exact word_64 (hc _ (List.getElem_mem hi)) (wd_64 hx i)
/-- Some words joined, the others as they were. -/
def mixL (what : Int) (c x : List Int) (k : Nat) : List Int := (joinL what c x).take k ++ c.drop k
theorem mixL_length (what : Int) (c x : List Int) (k : Nat) (h : k ≤ c.length) : (mixL what c x k).length = c.length := by
  unfold mixL; simp [joinL_length]; omega
theorem mixL_get (what : Int) (c x : List Int) (k : Nat) (h : k < c.length) : (mixL what c x k).getD k 0 = c[k] := by
  unfold mixL
  rw [List.getD_eq_getElem?_getD, List.getElem?_append_right (by simp [joinL_length]; omega)]
  simp [joinL_length, show min k c.length = k by omega, h]
theorem mixL_set (what : Int) (c x : List Int) (k : Nat) (h : k < c.length) : (mixL what c x k).set k (wordW what c[k] (wd x k)) = mixL what c x (k + 1) := by
  have hj : k < (joinL what c x).length := by rw [joinL_length]; exact h
  have e : (joinL what c x)[k] = wordW what c[k] (wd x k) := by simp [joinL]
  have hk : k - ((joinL what c x).take k).length = 0 := by simp [joinL_length]; omega
  unfold mixL
  rw [List.take_succ_eq_append_getElem hj, e, List.drop_eq_getElem_cons h, List.set_append_right _ _ (by simp [joinL_length]; omega), hk, List.set_cons_zero, List.append_assoc]
  rfl
theorem mixL_zero (what : Int) (c x : List Int) : mixL what c x 0 = c := by simp [mixL]
theorem mixL_all (what : Int) (c x : List Int) : mixL what c x c.length = joinL what c x := by
  unfold mixL
  rw [List.take_of_length_le (by rw [joinL_length]; exact Nat.le_refl _), List.drop_length, List.append_nil]
theorem sumL_succ (what : Int) (a : List Int) (l : List (List Int)) (k : Nat) (h : k < l.length) : sumL what a (l.take (k + 1)) = joinL what (sumL what a (l.take k)) l[k] := by
  unfold sumL
  rw [List.take_succ_eq_append_getElem h, List.foldl_append]
  rfl
theorem sumL_length (what : Int) (a : List Int) (l : List (List Int)) : (sumL what a l).length = a.length := by
  induction l generalizing a with
  | nil => rfl
  | cons x l ih => exact (ih (joinL what a x)).trans (joinL_length what a x)
theorem sumL_64 {what : Int} {a : List Int} {l : List (List Int)} (ha : A64 a) (hl : ∀ x ∈ l, A64 x) : A64 (sumL what a l) := by
  induction l generalizing a with
  | nil => exact ha
  | cons x l ih => exact ih (joinL_64 ha (hl x (List.mem_cons_self ..))) (fun y hy => hl y (List.mem_cons_of_mem _ hy))
theorem aRSum (what : Int) (a : List Int) (l : List (List Int)) (σ : Hp) (ha : A64 a) (hl : ∀ x ∈ l, A64 x) (h1 : a.length ≤ 100000) (h2 : l.length ≤ 100000) : ACalls Try.prog 48 [.int .i64 what, .fsl (.int .u64) a, .fsl (.slice (.int .u64)) l] σ (Ret (.fsl (.int .u64) (sumL what a l)) σ) := by
  refine okF Try.func48 (by kernel_rfl) ?_
  intro b
  refine AppendAt.more 0 b 0 a.length [] _ rfl rfl (Nat.le_of_ble_eq_true rfl) (.fsl (.int .u64) a rfl) (by omega) (by decide) (by decide) (fun b' => ?_)
  refine .shed (shed_eq (show _ = (b', woC a) :: σ by rw [woC_flat]; rfl)) ?_
  refine loopS (S := Nat) (fun s => [(0, .int .i64 what), (7, .mref b' 0 a.length 1), (14, .fsl (.slice (.int .u64)) l), (15, .int .i64 l.length), (16, .int .i64 s)]) (fun s => (b', woC (sumL what a (l.take s))) :: σ) (fun s => s ≤ l.length) (fun s => l.length - s) 0 ⟨Nat.zero_le _, ⟨rfl, by show AV.mref _ _ (0 + _) _ = _; rw [Nat.zero_add], rfl, rfl, rfl, trivial⟩, rfl⟩ ?_
  intro k g hk
  refine bcond_dec (fun h => ?_) (fun h => ?_)
  · have h : (k : Int) < l.length := h
    have hkl : k < l.length := by omega
    refine With.mk rfl (IdxF.mk l[k] (by omega) (get_some hkl) ?_)
    obtain ⟨c, hc⟩ : ∃ c, c = sumL what a (l.take k) := ⟨_, rfl⟩
    have hcl : c.length = a.length := by rw [hc, sumL_length]
    have hc64 : A64 c := by rw [hc]; exact sumL_64 ha fun x hx => hl x (List.mem_of_mem_take hx)
    have hx64 := hl l[k] (List.getElem_mem hkl)
    refine loopS (S := Nat) (fun s => [(0, .int .i64 what), (7, .mref b' 0 a.length 1), (9, .fsl (.int .u64) l[k]), (14, .fsl (.slice (.int .u64)) l), (15, .int .i64 l.length), (16, .int .i64 k), (21, .int .i64 a.length), (22, .int .i64 s)]) (fun s => (b', woC (mixL what c l[k] s)) :: σ) (fun s => s ≤ a.length) (fun s => a.length - s) 0 ⟨Nat.zero_le _, ⟨rfl, rfl, rfl, rfl, rfl, rfl, rfl, rfl, trivial⟩, by rw [mixL_zero, hc]⟩ ?_
    intro i g2 hi
    refine bcond_dec (fun h2 => ?_) (fun h2 => ?_)
    · have h2 : (i : Int) < a.length := h2
      have hic : i < c.length := by omega
      have hml : i < (mixL what c l[k] i).length := by rw [mixL_length _ _ _ _ (by omega)]; exact hic
      have hmg := mixL_get what c l[k] i hic
      refine .sched [9, 10] (upto [9, 10] 13 0) (by kernel_rfl) ?_
      refine With.mk ⟨rfl, by omega, by omega⟩ ?_
      refine LoadAt.mk 0 _ _ rfl (woC_get hml) ?_
      refine callQ [] (aRWd _ _ _) ?_
      refine callQ [] (aRWord _ _ _ _ (by rw [hmg]; exact (hc64 _ (List.getElem_mem hic)).1) (wd_64 hx64 i).1 (by rw [hmg]; exact (hc64 _ (List.getElem_mem hic)).2) (wd_64 hx64 i).2) ?_
      refine With.mk ⟨rfl, by omega, by omega⟩ ?_
      refine StoreAt.mk 0 _ _ rfl (woC_put _ hml) ?_
      refine next (i + 1) ?_ ?_ ⟨rfl, rfl, rfl, rfl, rfl, rfl, rfl, inc64 (by omega), trivial⟩ ?_
      · show a.length - (i + 1) < a.length - i; omega
      · show i + 1 ≤ a.length; omega
      · show (b', woC ((mixL what c l[k] i).set i (wordW what ((mixL what c l[k] i).getD i 0) (wd l[k] i)))) :: σ = _
        rw [hmg, mixL_set what c l[k] i hic]
    · have h2 : ¬ (i : Int) < a.length := h2
      obtain rfl : i = a.length := by have hi : i ≤ a.length := hi; omega
      refine next (k + 1) ?_ ?_ ⟨rfl, rfl, rfl, rfl, inc64 (by omega), trivial⟩ ?_
      · show l.length - (k + 1) < l.length - k; omega
      · show k + 1 ≤ l.length; omega
      · show (b', woC (mixL what c l[k] a.length)) :: σ = (b', woC (sumL what a (l.take (k + 1)))) :: σ
        rw [sumL_succ _ _ _ _ hkl, ← hc, ← hcl, mixL_all]
  · have h : ¬ (k : Int) < l.length := h
    obtain rfl : k = l.length := by omega
    refine .frz 0 b' 0 a.length 1 _ (.int .u64) (sumL what a l) rfl ?_ ⟨sumL_length what a l, rfl, by decide⟩ .here (.done ⟨rfl, rfl⟩)
    rw [List.take_length, ← woC_flat]
    exact List.take_of_length_le (by simp [woC, sumL_length])
theorem aJoinNil (m : AV) (d : Int) (σ : Hp) : ACalls Try.prog 90 [.nilp, m, .int .i64 d] σ (Ret (.bool true) σ) := by
  refine okF Try.func90 (by kernel_rfl) ?_
  exact .done ⟨rfl, rfl⟩
/-! ### Plain: what is put, is got -/
theorem mLoad_nat (ws : List Int) (k : Nat) : mLoad ws (k : Int) = ws.getD k 0 := load_hit
theorem wr_nat {k : Nat} (h : k < 1000000) : wr ((k : Nat) : Int) = k := by
  show IntKind.i64.wrap _ = _
  rw [IntKind.wrap_i64]; omega
theorem putW_get (base : Nat) (a ws : List Int) (n : Nat) (h : base + n ≤ ws.length) (hb : base + n ≤ 100000) : ∀ k, k ≤ n → ∀ i, (putW base a ws k).getD i 0 = if base ≤ i ∧ i < base + k then wd a (i - base) else ws.getD i 0 := by
  intro k
  induction k with
  | zero => intro _ i; rw [if_neg (by omega)]; rfl
  | succ k ih =>
    intro hk i
    rw [putW, show wr ((base : Int) + (k : Nat)) = ((base + k : Nat) : Int) by rw [← Int.natCast_add]; exact wr_nat (by omega), store_hit]
    rw [List.getD_eq_getElem?_getD, List.getElem?_set]
    by_cases e : base + k = i
    · subst e
      rw [if_pos rfl, if_pos (by rw [putW_length]; omega), if_pos (by omega)]
      simp
    · rw [if_neg e, ← List.getD_eq_getElem?_getD, ih (by omega) i]
      by_cases h1 : base ≤ i ∧ i < base + k
      · rw [if_pos h1, if_pos (by omega)]
      · rw [if_neg h1, if_neg (by omega)]
theorem getW_putW (base : Nat) (a ws : List Int) (n : Nat) (h : base + n ≤ ws.length) (hb : base + n ≤ 100000) : getW base (putW base a ws n) n = (List.range n).map (wd a) := by
  unfold getW
  refine List.map_congr_left fun i hi => ?_
  have hi := List.mem_range.1 hi
  rw [show wr ((base : Int) + (i : Nat)) = ((base + i : Nat) : Int) by rw [← Int.natCast_add]; exact wr_nat (by omega), mLoad_nat, putW_get base a ws n h hb n (Nat.le_refl _), if_pos (by omega), Nat.add_sub_cancel_left]
theorem or_zero {z : Int} (h : W64 z) : bits .or .u64 0 z = z := by
  show IntKind.u64.wrap ((BitVec.ofInt 64 0 ||| BitVec.ofInt 64 z).toNat : Int) = z
  rw [show (BitVec.ofInt 64 0 : BitVec 64) = 0#64 by decide, BitVec.zero_or, BitVec.toNat_ofInt, IntKind.wrap_u64]
  unfold W64 at h
  omega
theorem sum_zero (a : List Int) (n : Nat) (ha : A64 a) : sumL 1 (List.replicate n 0) [a] = (List.range n).map (wd a) := by
  show joinL 1 (List.replicate n 0) a = _
  refine List.ext_getElem (by simp [joinL]) fun i h1 h2 => ?_
  simp only [joinL, List.getElem_mapIdx, List.getElem_replicate, List.getElem_map, List.getElem_range]
  unfold wordW
  rw [if_pos rfl, or_zero (wd_64 ha i)]
end Go.Proofs.Ytiihcgmnmcdcfaa
