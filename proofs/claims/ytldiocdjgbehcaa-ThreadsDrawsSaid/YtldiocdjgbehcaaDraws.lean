/-
  threads.Draws and the document's Draws give one list; the walk of ThreadsDraws ends in true.
-/
import Derived.Test.YtldiocdjgbehcaaInts
namespace Go.Proofs.Ytldiocdjgbehcaa
open Go.RowKit
def dstep (x : Int) : Int := (x * 1103515245 + 12345) % 2147483648
def dst : Nat → Int → Int
  | 0, x => x
  | k + 1, x => dstep (dst k x)
def dlist (k : Nat) (x : Int) : List Int := (List.range k).map fun i => dst (i + 1) x / 65536
theorem dstep_bd (x : Int) : 0 ≤ dstep x ∧ dstep x < 2147483648 := by unfold dstep; omega
theorem dst_bd (k : Nat) (x : Int) (h : 0 ≤ x ∧ x < 2147483648) : 0 ≤ dst k x ∧ dst k x < 2147483648 := by
  cases k with
  | zero => exact h
  | succ k => exact dstep_bd _
theorem dlist_snoc (k : Nat) (x : Int) : dlist (k + 1) x = dlist k x ++ [dst (k + 1) x / 65536] := by
  simp [dlist, List.range_succ]
theorem dlist_length (k : Nat) (x : Int) : (dlist k x).length = k := by simp [dlist]
def cnt (n : Int) : Nat := (min (max n 0) 4096).toNat
def seed0 (s : Int) : Int := (IntKind.u64.wrap s).tmod 2147483648
theorem seed0_bd (s : Int) : 0 ≤ seed0 s ∧ seed0 s < 2147483648 := by
  unfold seed0
  have : 0 ≤ IntKind.u64.wrap s := by rw [IntKind.wrap_u64]; omega
  rw [Int.tmod_eq_emod_of_nonneg this]
  omega
theorem Try.info3 : (Try.prog.info? 3).map (fun i => (i.zero, i.size, i.bytes)) = some (some (.int .i64 0), 1, 8) := by kernel_rfl

theorem dmap_snoc (k : Nat) (x : Int) : (dlist (k + 1) x).map (Value.int .i64) = (dlist k x).map (Value.int .i64) ++ [.int .i64 (dst (k + 1) x / 65536)] := by
  rw [dlist_snoc]; simp

theorem rel_draws {B k : Nat} {x : Int} {w wr w1 : World} {v v' : Value} {o : Obj}
    (hB : B ≤ wr.heap.size) (hown : wr.ownsRow B 3 1 v k ((dlist k x).map (Value.int .i64))) (hnx : Below B w wr)
    (hown' : w1.ownsRow B 3 1 v' (k + 1) ((dlist k x).map (Value.int .i64) ++ [.int .i64 (dst (k + 1) x / 65536)])) (hgrow : (wr.alloc o).grownBy w1 v.ownBlock) :
    w1.ownsRow B 3 1 v' (k + 1) ((dlist (k + 1) x).map (Value.int .i64)) ∧ Below B w w1 :=
  ⟨by rw [dmap_snoc]; exact hown', (hnx.alloc hB o).grown hgrow (by simp; omega) (fun j hj => (hown.lt j hj).1)⟩

set_option maxHeartbeats 400000 in
set_option maxRecDepth 100000 in
theorem draws_any (seed n : Int) (w : World) :
    Calls Try.prog 27 #[.int .i64 seed, .int .i64 n] w fun e w' => ∃ v, e = .returned v ∧ w'.ownsRow w.heap.size 3 1 v (cnt n) ((dlist (cnt n) (seed0 seed)).map (.int .i64)) ∧ Below w.heap.size w w' := by
  obtain ⟨i0, hi, hz0, hz1, hz2⟩ := info_parts Try.info3
  obtain ⟨c, hc, hc1⟩ : ∃ c, c = cnt n ∧ c ≤ 4096 := ⟨_, rfl, by unfold cnt; omega⟩
  obtain ⟨x0, hx0⟩ : ∃ x0, x0 = seed0 seed := ⟨_, rfl⟩
  rw [← hc, ← hx0]
  have Hx := seed0_bd seed
  have Hxx := hid (show (IntKind.u64.wrap seed).tmod 2147483648 = x0 from hx0.symm)
  rw [← hx0] at Hx
  clear hx0
  have hcase : (n < 0 ∧ c ≤ 0) ∨ (0 ≤ n ∧ 4096 < n ∧ 4096 ≤ c) ∨ (0 ≤ n ∧ n ≤ 4096 ∧ (c : Int) ≤ n ∧ n ≤ (c : Int)) := by
    unfold cnt at hc; omega
  clear hc
  rcases hcase with ⟨g1, g2⟩ | ⟨g0, g1, g2⟩ | ⟨g0, g1, g2⟩
  all_goals
    go_enter Try.func27, Try.ntmps27
    go_wp2
    rw [Hxx.out]
    clear Hxx
    go_loopw [5, 6, 13] (fun v x i wr => ∃ k : Nat, k ≤ c ∧ i = .int .i64 k ∧ x = .int .u64 (dst k x0) ∧ wr.ownsRow w.heap.size 3 1 v k ((dlist k x0).map (.int .i64)) ∧ Below w.heap.size w wr) (fun _ _ i _ => c - (intOf i).toNat)
    case atStart => exact ⟨0, Nat.zero_le _, rfl, rfl, World.ownsRow_nil _ _ _ _, Below.refl _ _⟩
    case round =>
      obtain ⟨k, hk, rfl, rfl, hown, hb⟩ := hrel
      have hbd := dst_bd k x0 Hx
      have hB := hb.size
      have hsn : dstep (dst k x0) = dst (k + 1) x0 := rfl
      unfold dstep at hsn
      have HS := hid hsn
      clear hsn
      generalize hX : dst k x0 = X at *
      have HX := hid hX
      clear hX
      by_cases hlt : k < c
      · first
          | (exfalso; omega)
          | (have hlt' : ((k : Int) < (c : Int)) := by omega
             go_wp2_with (at_builtin; refine wpList_append_own _ rfl (.tmp 19) (.tmp 23) 24 rfl w.heap.size 3 i0 (.int .i64 0) 1 8 Try.underlying24 hi hz0 hz1 hz2 rfl (by decide) _ _ _ rfl (hown.alloc _) ⟨wr.heap.size, 0, none⟩ 1 1 [.int .i64 (dst (k + 1) x0 / 65536)] rfl rfl ?c1 ?c2 ?c3 ?c4 ?c5 ?_)
             case c1 => rw [HS.out]; exact (cell_one_new _ _ _)
             case c2 => intro u hu; simp at hu; subst hu; rfl
             case c3 => unfold maxLen; omega
             case c4 => omega
             case c5 => simp; omega
             intro v' w1 hown' hgrow _
             obtain ⟨hr1, hr2⟩ := rel_draws hB hown hb hown' hgrow
             clear hown' hgrow hown hb
             go_wp2
             go_roundw
             case rel => exact ⟨k + 1, by omega, by go_num, by rw [HS.out], hr1, hr2⟩
             case measure => simp [intOf]; omega)
      · go_wp2
        go_ret
        have hkc : k = c := by omega
        subst hkc
        exact ⟨_, rfl, hown, hb⟩
set_option maxHeartbeats 400000 in
set_option maxRecDepth 100000 in
theorem rdraws_any (seed n : Int) (w : World) :
    Calls Try.prog 28 #[.int .i64 seed, .int .i64 n] w fun e w' => ∃ v, e = .returned v ∧ w'.ownsRow w.heap.size 3 1 v (cnt n) ((dlist (cnt n) (seed0 seed)).map (.int .i64)) ∧ Below w.heap.size w w' := by
  obtain ⟨i0, hi, hz0, hz1, hz2⟩ := info_parts Try.info3
  obtain ⟨c, hc, hc1⟩ : ∃ c, c = cnt n ∧ c ≤ 4096 := ⟨_, rfl, by unfold cnt; omega⟩
  obtain ⟨x0, hx0⟩ : ∃ x0, x0 = seed0 seed := ⟨_, rfl⟩
  rw [← hc, ← hx0]
  have Hx := seed0_bd seed
  have Hxx := hid (show (IntKind.u64.wrap seed).tmod 2147483648 = x0 from hx0.symm)
  rw [← hx0] at Hx
  clear hx0
  have hcase : (n < 0 ∧ c ≤ 0) ∨ (0 ≤ n ∧ 4096 < n ∧ 4096 ≤ c) ∨ (0 ≤ n ∧ n ≤ 4096 ∧ (c : Int) ≤ n ∧ n ≤ (c : Int)) := by
    unfold cnt at hc; omega
  clear hc
  rcases hcase with ⟨g1, g2⟩ | ⟨g0, g1, g2⟩ | ⟨g0, g1, g2⟩
  all_goals
    go_enter Try.func28, Try.ntmps28
    go_wp2
    rw [Hxx.out]
    clear Hxx
    go_loopw [5, 6, 7] (fun v x i wr => ∃ k : Nat, k ≤ c ∧ i = .int .i64 k ∧ x = .int .u64 (dst k x0) ∧ wr.ownsRow w.heap.size 3 1 v k ((dlist k x0).map (.int .i64)) ∧ Below w.heap.size w wr) (fun _ _ i _ => c - (intOf i).toNat)
    case atStart => exact ⟨0, Nat.zero_le _, rfl, rfl, World.ownsRow_nil _ _ _ _, Below.refl _ _⟩
    case round =>
      obtain ⟨k, hk, rfl, rfl, hown, hb⟩ := hrel
      have hbd := dst_bd k x0 Hx
      have hB := hb.size
      have hsn : dstep (dst k x0) = dst (k + 1) x0 := rfl
      unfold dstep at hsn
      have HS := hid hsn
      clear hsn
      generalize hX : dst k x0 = X at *
      have HX := hid hX
      clear hX
      by_cases hlt : k < c
      · first
          | (exfalso; omega)
          | (have hlt' : ((k : Int) < (c : Int)) := by omega
             go_wp2_with (at_builtin; refine wpList_append_own _ rfl (.tmp 24) (.tmp 28) 24 rfl w.heap.size 3 i0 (.int .i64 0) 1 8 Try.underlying24 hi hz0 hz1 hz2 rfl (by decide) _ _ _ rfl (hown.alloc _) ⟨wr.heap.size, 0, none⟩ 1 1 [.int .i64 (dst (k + 1) x0 / 65536)] rfl rfl ?c1 ?c2 ?c3 ?c4 ?c5 ?_)
             case c1 => rw [HS.out]; exact (cell_one_new _ _ _)
             case c2 => intro u hu; simp at hu; subst hu; rfl
             case c3 => unfold maxLen; omega
             case c4 => omega
             case c5 => simp; omega
             intro v' w1 hown' hgrow _
             obtain ⟨hr1, hr2⟩ := rel_draws hB hown hb hown' hgrow
             clear hown' hgrow hown hb
             go_wp2
             go_roundw
             case rel => exact ⟨k + 1, by omega, by go_num, by rw [HS.out], hr1, hr2⟩
             case measure => simp [intOf]; omega)
      · go_wp2
        go_ret
        have hkc : k = c := by omega
        subst hkc
        exact ⟨_, rfl, hown, hb⟩
set_option maxHeartbeats 400000 in
set_option maxRecDepth 100000 in
theorem awake37 (w : World) : Calls Try.prog 25 #[] w fun e w' => e = .returned (.bool true) ∧ Below w.heap.size w w' := by
  go_enter Try.func25, Try.ntmps25
  go_wp2_with fail
  refine (draws_any 0 1 w).mono ?_
  rintro e w1 ⟨v, rfl, hown, hb⟩
  have hr := IntRow.of_owns hown
  have hl : dlist (cnt 1) (seed0 0) = [0] := by decide
  rw [hl] at hr
  obtain ⟨a, c, rfl, _, ha⟩ := hr
  obtain ⟨b, o, rfl, hc⟩ := ha (by simp)
  have h0 := hc 0 (by simp)
  simp at h0
  clear hc ha hown
  go_wp2
  go_ret
  exact ⟨rfl, hb⟩

set_option maxHeartbeats 400000 in
set_option maxRecDepth 100000 in
theorem draws_walk (seed n : Int) (w : World) : Calls Try.prog 3 #[.int .i64 seed, .int .i64 n] w fun e w' => e = .returned (.bool true) ∧ Below w.heap.size w w' := by
  by_cases h : 300 < n ∧ n ≤ 4096
  · obtain ⟨h1, h2⟩ := h
    go_enter Try.func3, Try.ntmps3
    go_wp2_with fail
    refine (awake37 w).mono ?_
    rintro e w1 ⟨rfl, hb⟩
    go_wp2
    go_ret
    exact ⟨rfl, hb⟩
  · by_cases h1 : 300 < n
    · have h2 : 4096 < n := by omega
      clear h
      go_enter Try.func3, Try.ntmps3
      go_wp2_with fail
      refine (awake37 w).mono ?_
      rintro e w1 ⟨rfl, hb⟩
      go_wp2_with fail
      refine (draws_any seed n w1).mono ?_
      rintro e w2 ⟨v2, rfl, hown2, hb2⟩
      go_wp2_with fail
      refine (rdraws_any seed n w2).mono ?_
      rintro e w3 ⟨v3, rfl, hown3, hb3⟩
      go_wp2_with fail
      refine (ints_any _ _ _ w3 ((IntRow.of_owns hown2).below hb3 (Nat.le_refl _)) (IntRow.of_owns hown3)).mono ?_
      rintro e w4 ⟨rfl, m, rfl⟩
      go_wp2_with fail
      go_ret
      exact ⟨rfl, bdrewN ((hb.trans (hb2.mono hb.size)).trans (hb3.mono (Nat.le_trans hb.size hb2.size))) m⟩
    · clear h
      go_enter Try.func3, Try.ntmps3
      go_wp2_with fail
      refine (awake37 w).mono ?_
      rintro e w1 ⟨rfl, hb⟩
      go_wp2_with fail
      refine (draws_any seed n w1).mono ?_
      rintro e w2 ⟨v2, rfl, hown2, hb2⟩
      go_wp2_with fail
      refine (rdraws_any seed n w2).mono ?_
      rintro e w3 ⟨v3, rfl, hown3, hb3⟩
      go_wp2_with fail
      refine (ints_any _ _ _ w3 ((IntRow.of_owns hown2).below hb3 (Nat.le_refl _)) (IntRow.of_owns hown3)).mono ?_
      rintro e w4 ⟨rfl, m, rfl⟩
      go_wp2_with fail
      go_ret
      exact ⟨rfl, bdrewN ((hb.trans (hb2.mono hb.size)).trans (hb3.mono (Nat.le_trans hb.size hb2.size))) m⟩

end Go.Proofs.Ytldiocdjgbehcaa
