/-
  Chapter 27's example (soughlaw27.awake) is true; a Step of nobody's op; DequeNone: the walk.
-/
import Derived.Test.YtldiocdjgbehcaaDequeList
import Derived.Test.YtldiocdjgbehcaaPush
namespace Go.Proofs.Ytldiocdjgbehcaa
open Go.RowKit

def push0 : DQ := ⟨0, 4, 7, false, false, 0, 0, 0, 0⟩
def ws0 : List Int := [1, 1, 0, 0, 0, 0]
theorem step1 : pushStep push0 ws0 = (⟨0, 4, 7, false, false, 1, 1, 0, 0⟩, ws0, false) := by kernel_rfl
theorem step2 : pushStep ⟨0, 4, 7, false, false, 1, 1, 0, 0⟩ ws0 = (⟨0, 4, 7, false, false, 2, 1, 1, 0⟩, ws0, false) := by kernel_rfl
theorem step3 : pushStep ⟨0, 4, 7, false, false, 2, 1, 1, 0⟩ ws0 = (⟨0, 4, 7, false, false, 3, 1, 1, 0⟩, [1, 1, 0, 7, 0, 0], false) := by kernel_rfl
theorem step4 : pushStep ⟨0, 4, 7, false, false, 3, 1, 1, 0⟩ [1, 1, 0, 7, 0, 0] = (⟨0, 4, 7, true, true, 4, 1, 1, 0⟩, [1, 2, 0, 7, 0, 0], true) := by kernel_rfl
theorem list1 : dqList [1, 2, 0, 7, 0, 0] 0 4 = [7] := by kernel_rfl
theorem pushed {p q r : Nat} {s s' : DQ} {ws ws' : List Int} {o : Bool} {w : World} (h : PlainAt w p q ws) (hs : OpAt w 171 r s) (hpr : r ≠ p ∧ r ≠ q) (ha : s.at_ < 100) (d : Int) (hst : pushStep s ws = (s', ws', o)) :
    Calls Try.prog 69 #[.pointer (some ⟨r, 0, none⟩), .iface 28 (.pointer (some ⟨p, 0, none⟩)), .int .i64 d] w fun e w' => e = .returned (.bool o) ∧ Turn w w' [q, r] ∧ PlainAt w' p q ws' ∧ OpAt w' 171 r s' := by
  have := push_any p q r s ws w h hs hpr ha d
  unfold PushPost at this
  rw [hst] at this
  exact this

set_option maxHeartbeats 1000000 in
set_option maxRecDepth 100000 in
theorem awake27 (w : World) : Calls Try.prog 68 #[] w fun e w' => e = .returned (.bool true) ∧ Below w.heap.size w w' := by
  go_enter Try.func68, Try.ntmps68
  go_wp2_with fail
  refine (newPlain_any 6 w).mono ?_
  rintro e w1 ⟨p, q, rfl, t1, h1, hp, hq⟩
  rw [show List.replicate (cutN 6) (0 : Int) = [0, 0, 0, 0, 0, 0] from rfl] at h1
  have B1 : Below w.heap.size w w1 := t1.below (Nat.le_refl _) (by simp)
  have s1 := t1.size
  clear t1
  have x0 := alloc_at w1 (.cells #[.int .i64 0, .int .i64 4] 138)
  obtain ⟨c0, c1⟩ := two_cells x0
  go_wp2_with fail
  refine (reset_any p q _ 0 4 _ (h1.alloc _) (by decide) (by decide)).mono ?_
  rintro e w2 ⟨rfl, t2, h2⟩
  rw [show mStore (mStore [0, 0, 0, 0, 0, 0] 0 1) (0 + 1) 1 = ws0 from rfl] at h2
  have lp := at_lt h1.1
  have lq := at_lt h1.2.1.1
  have x2 := t2.at x0 (by simp; omega)
  have s2 := t2.size
  simp only [World.size_alloc] at s2
  have B2 : Below w.heap.size w w2 := (B1.alloc s1 _).trans (t2.below (by simp; omega) (by simp; omega))
  clear t2 h1 B1 x0 c0 c1
  obtain ⟨c0, c1⟩ := two_cells x2
  go_wp2_with fail
  have x3 := alloc_at w2 (.cells push0.cells 171)
  have O3 : OpAt (w2.alloc (.cells push0.cells 171)) 171 w2.heap.size push0 := ⟨x3, by unfold DQ.Fine U64 push0; simp⟩
  have lp2 := at_lt h2.1
  have lq2 := at_lt h2.2.1.1
  have l2 := at_lt x2
  have h3 : PlainAt (w2.alloc (.cells push0.cells 171)) p q ws0 := h2.alloc _
  have x3' := alloc_old w2 (.cells push0.cells 171) x2
  have B3 : Below w.heap.size w (w2.alloc (.cells push0.cells 171)) := B2.alloc (by omega) _
  have hr : w2.heap.size ≠ p ∧ w2.heap.size ≠ q := by omega
  have hd : w1.heap.size ≠ q ∧ w1.heap.size ≠ w2.heap.size := by omega
  have hB3 : w.heap.size ≤ (w2.alloc (.cells push0.cells 171)).heap.size := by simp; omega
  clear h2 x2 B2 x3 c0 c1
  refine wp_loop_rounds 4 ?_
  rw [rounds_succ]
  go_wp2_with fail
  refine (pushed h3 O3 hr (by decide) 0 step1).mono ?_
  rintro e w4 ⟨rfl, t4, h4, O4⟩
  have x4 := t4.at x3' (by simp; omega)
  have B4 := B3.trans (t4.below (by omega) (by simp; omega))
  have hs4 := t4.size
  have hB4 : w.heap.size ≤ w4.heap.size := by omega
  clear t4 h3 O3 x3' B3
  go_wp2_with fail
  rw [rounds_succ]
  go_wp2_with fail
  refine (pushed h4 O4 hr (by decide) 0 step2).mono ?_
  rintro e w5 ⟨rfl, t5, h5, O5⟩
  have x5 := t5.at x4 (by simp; omega)
  have B5 := B4.trans (t5.below (by omega) (by simp; omega))
  have hs5 := t5.size
  have hB5 : w.heap.size ≤ w5.heap.size := by omega
  clear t5 h4 O4 x4 B4
  go_wp2_with fail
  rw [rounds_succ]
  go_wp2_with fail
  refine (pushed h5 O5 hr (by decide) 0 step3).mono ?_
  rintro e w6 ⟨rfl, t6, h6, O6⟩
  have x6 := t6.at x5 (by simp; omega)
  have B6 := B5.trans (t6.below (by omega) (by simp; omega))
  have hs6 := t6.size
  have hB6 : w.heap.size ≤ w6.heap.size := by omega
  clear t6 h5 O5 x5 B5
  go_wp2_with fail
  rw [rounds_succ]
  go_wp2_with fail
  refine (pushed h6 O6 hr (by decide) 0 step4).mono ?_
  rintro e w7 ⟨rfl, t7, h7, O7⟩
  have x7 := t7.at x6 (by simp; omega)
  have B7 := B6.trans (t7.below (by omega) (by simp; omega))
  have hs7 := t7.size
  have hB7 : w.heap.size ≤ w7.heap.size := by omega
  clear t7 h6 O6 x6 B6
  obtain ⟨c0, c1⟩ := two_cells x7
  obtain ⟨_, _, _, o3, _, _, _, _, _⟩ := O7.c
  go_wp2_with fail
  refine (list_any p q _ 0 4 w7 h7 (by decide) (by decide)).mono ?_
  rintro e w8 ⟨v8, rfl, hv8, b8⟩
  rw [list1] at hv8
  obtain ⟨a8, k8, rfl, _, ha8⟩ := hv8
  have x8 := (Turn.of_below b8 []).at x7 (by simp)
  have h8 := h7.turn (Turn.of_below b8 []) (by simp) (by simp)
  clear h7 O7 x7 c0 c1 o3 ha8
  obtain ⟨c0, c1⟩ := two_cells x8
  go_wp2_with fail
  refine (list_any p q _ 0 4 w8 h8 (by decide) (by decide)).mono ?_
  rintro e w9 ⟨v9, rfl, hv9, b9⟩
  rw [list1] at hv9
  obtain ⟨a9, k9, rfl, _, ha9⟩ := hv9
  obtain ⟨b, o, rfl, hc⟩ := ha9 (by simp)
  have h0 := hc 0 (by simp)
  simp only [Nat.add_zero, List.getElem_cons_zero] at h0
  have s8 := b8.size
  have B9 := (B7.trans (b8.mono hB7)).trans (b9.mono (by omega : w.heap.size ≤ w8.heap.size))
  clear hc ha9 c0 c1 x8 h8 b8 b9 B7
  go_wp2_with fail
  go_ret
  exact ⟨rfl, B9⟩

set_option maxHeartbeats 400000 in
set_option maxRecDepth 100000 in
theorem pushNil (m : Value) (d : Int) (w : World) : Calls Try.prog 69 #[.pointer none, m, .int .i64 d] w fun e w' => e = .returned (.bool true) ∧ w = w' := by
  go_enter Try.func69, Try.ntmps69
  go_wp2_with fail
  refine wp_scope_fwd 1 ?_
  go_wp2_with fail
  try rw [fwd_ret]
  go_ret
  exact ⟨rfl, rfl⟩
set_option maxHeartbeats 400000 in
set_option maxRecDepth 100000 in
theorem popNil (m : Value) (d : Int) (w : World) : Calls Try.prog 70 #[.pointer none, m, .int .i64 d] w fun e w' => e = .returned (.bool true) ∧ w = w' := by
  go_enter Try.func70, Try.ntmps70
  go_wp2_with fail
  refine wp_scope_fwd 1 ?_
  go_wp2_with fail
  try rw [fwd_ret]
  go_ret
  exact ⟨rfl, rfl⟩
set_option maxHeartbeats 400000 in
set_option maxRecDepth 100000 in
theorem stealNil (m : Value) (d : Int) (w : World) : Calls Try.prog 71 #[.pointer none, m, .int .i64 d] w fun e w' => e = .returned (.bool true) ∧ w = w' := by
  go_enter Try.func71, Try.ntmps71
  go_wp2_with fail
  refine wp_scope_fwd 1 ?_
  go_wp2_with fail
  try rw [fwd_ret]
  go_ret
  exact ⟨rfl, rfl⟩
set_option maxHeartbeats 400000 in
set_option maxRecDepth 100000 in
theorem room27 (c : Int) (w : World) : Calls Try.prog 73 #[.int .i64 c] w fun e w' => e = .returned (.int .i64 (roomN c)) ∧ w = w' := by
  rcases (by omega : c < 1 ∨ (1 ≤ c ∧ 4096 < c) ∨ (1 ≤ c ∧ c ≤ 4096)) with h | ⟨h, h1⟩ | ⟨h, h1⟩
  · rw [show roomN c = 1 by unfold roomN; omega]
    go_enter Try.func73, Try.ntmps73
    go_wp2
    go_ret
    exact ⟨rfl, rfl⟩
  · rw [show roomN c = 4096 by unfold roomN; omega]
    go_enter Try.func73, Try.ntmps73
    go_wp2
    go_ret
    exact ⟨rfl, rfl⟩
  · rw [show roomN c = c by unfold roomN; omega]
    go_enter Try.func73, Try.ntmps73
    go_wp2
    go_ret
    exact ⟨rfl, rfl⟩
set_option maxHeartbeats 400000 in
set_option maxRecDepth 100000 in
theorem words27 (c : Int) (w : World) : Calls Try.prog 72 #[.int .i64 c] w fun e w' => e = .returned (.int .i64 (2 + roomN c)) ∧ w = w' := by
  have h := roomN_bd c
  obtain ⟨h1, h2⟩ := h
  go_enter Try.func72, Try.ntmps72
  go_wp2_with fail
  refine (room_any c w).mono ?_
  rintro e w1 ⟨rfl, rfl⟩
  go_wp2_with fail
  go_ret
  exact ⟨rfl, rfl⟩

set_option maxHeartbeats 400000 in
set_option maxRecDepth 100000 in
theorem dequeNone_walk (c : Int) (w : World) : Calls Try.prog 11 #[.int .i64 c] w fun e w' => e = .returned (.bool true) ∧ Below w.heap.size w w' := by
  have h := roomN_bd c
  obtain ⟨h1, h2⟩ := h
  go_enter Try.func11, Try.ntmps11
  go_wp2_with fail
  refine (awake27 w).mono ?_
  rintro e w1 ⟨rfl, b1⟩
  go_wp2_with fail
  refine (pushNil _ _ w1).mono ?_
  rintro e w2 ⟨rfl, rfl⟩
  go_wp2_with fail
  refine (popNil _ _ w1).mono ?_
  rintro e w2 ⟨rfl, rfl⟩
  go_wp2_with fail
  refine (stealNil _ _ w1).mono ?_
  rintro e w2 ⟨rfl, rfl⟩
  go_wp2_with fail
  refine (words27 c w1).mono ?_
  rintro e w2 ⟨rfl, rfl⟩
  go_wp2_with fail
  refine (room27 c w1).mono ?_
  rintro e w2 ⟨rfl, rfl⟩
  go_wp2_with fail
  go_ret
  exact ⟨rfl, b1⟩
end Go.Proofs.Ytldiocdjgbehcaa
