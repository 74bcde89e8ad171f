/-
  Package deque's small functions over a Plain: room, bottom, place, Reset, Top, Bottom.
-/
import Derived.Test.YtldiocdjgbehcaaAhead

namespace Go.Proofs.Ytldiocdjgbehcaa
open Go.RowKit
def roomN (c : Int) : Int := min (max c 1) 4096
theorem roomN_bd (c : Int) : 1 ≤ roomN c ∧ roomN c ≤ 4096 := by unfold roomN; omega
def placeN (base cap i : Int) : Int := base + 2 + i % roomN cap
theorem placeN_bd (base cap i : Int) : base + 2 ≤ placeN base cap i ∧ placeN base cap i < base + 4098 := by
  have := roomN_bd cap
  unfold placeN
  have h1 := Int.emod_nonneg i (show roomN cap ≠ 0 by omega)
  have h2 := Int.emod_lt_of_pos i (show 0 < roomN cap by omega)
  omega

set_option maxHeartbeats 400000 in
set_option maxRecDepth 100000 in
theorem room_any (c : Int) (w : World) : Calls Try.prog 151 #[.int .i64 c] w fun e w' => e = .returned (.int .i64 (roomN c)) ∧ w = w' := by
  rcases (by omega : c < 1 ∨ (1 ≤ c ∧ 4096 < c) ∨ (1 ≤ c ∧ c ≤ 4096)) with h | ⟨h, h1⟩ | ⟨h, h1⟩
  · rw [show roomN c = 1 by unfold roomN; omega]
    go_enter Try.func151, Try.ntmps151
    go_wp2
    go_ret
    exact ⟨rfl, rfl⟩
  · rw [show roomN c = 4096 by unfold roomN; omega]
    go_enter Try.func151, Try.ntmps151
    go_wp2
    go_ret
    exact ⟨rfl, rfl⟩
  · rw [show roomN c = c by unfold roomN; omega]
    go_enter Try.func151, Try.ntmps151
    go_wp2
    go_ret
    exact ⟨rfl, rfl⟩

set_option maxHeartbeats 400000 in
set_option maxRecDepth 100000 in
theorem bottom_any (b c : Int) (w : World) (h0 : 0 ≤ b) (h1 : b ≤ 1099511627776) : Calls Try.prog 150 #[.agg #[.int .i64 b, .int .i64 c]] w fun e w' => e = .returned (.int .i64 (b + 1)) ∧ Turn w w' [] := by
  go_enter Try.func150, Try.ntmps150
  go_wp2
  go_ret
  exact ⟨rfl, (Turn.refl _ _).alloc _⟩

set_option maxHeartbeats 400000 in
set_option maxRecDepth 100000 in
theorem place_any (b c i : Int) (w : World) (h0 : 0 ≤ b) (h1 : b ≤ 1099511627776) (hi : 0 ≤ i ∧ i < 18446744073709551616) :
    Calls Try.prog 152 #[.agg #[.int .i64 b, .int .i64 c], .int .u64 i] w fun e w' => e = .returned (.int .i64 (placeN b c i)) ∧ Turn w w' [] := by
  have hr := roomN_bd c
  have h2 := Int.emod_nonneg i (show roomN c ≠ 0 by omega)
  have h3 := Int.emod_lt_of_pos i (show 0 < roomN c by omega)
  have e1 : IntKind.u64.wrap (roomN c) = roomN c := by rw [IntKind.wrap_u64]; omega
  have hpl : placeN b c i = b + 2 + i % roomN c := rfl
  rw [hpl]
  clear hpl
  obtain ⟨hr1, hr2⟩ := hr
  obtain ⟨hi1, hi2⟩ := hi
  have z1 : (roomN c == 0) = false := by simp; omega
  have z2 : ¬ roomN c = 0 := by omega
  have q0 : i.tmod (roomN c) = i % roomN c := Int.tmod_eq_emod_of_nonneg hi1
  have q4 : IntKind.i64.wrap (b + 2) = b + 2 := IntWalk.i64_in _ (by omega)
  have q1 : IntKind.i64.wrap (i % roomN c) = i % roomN c := IntWalk.i64_in _ (by omega)
  have q2 : IntKind.i64.wrap (b + 2 + i % roomN c) = b + 2 + i % roomN c := IntWalk.i64_in _ (by omega)
  go_enter Try.func152, Try.ntmps152
  go_wp2_with fail
  go_region_held3 (fun w' => w'.cell? ⟨w.heap.size, 0, none⟩ = some (.int .i64 b) ∧ w'.cell? ⟨w.heap.size, 1, none⟩ = some (.int .i64 c)) (go_keep)
    (first | (go_at_call 151; refine (room_any c _).mono ?_; rintro e w7 ⟨rfl, rfl⟩))
  go_wp2_with fail
  go_ret
  exact ⟨rfl, ((Turn.refl _ _).alloc _).drew⟩

theorem two_cells {w : World} {b : Nat} {x0 x1 : Value} {t : TypeId} (h : w.heap[b]? = some (.cells #[x0, x1] t (0, 0))) : w.cell? ⟨b, 0, none⟩ = some x0 ∧ w.cell? ⟨b, 1, none⟩ = some x1 :=
  ⟨by rw [cell_at h]; rfl, by rw [cell_at h]; rfl⟩
set_option maxHeartbeats 400000 in
set_option maxRecDepth 100000 in
theorem reset_any (p q : Nat) (ws : List Int) (b c : Int) (w : World) (h : PlainAt w p q ws) (h0 : 0 ≤ b) (h1 : b ≤ 1099511627776) :
    Calls Try.prog 104 #[.agg #[.int .i64 b, .int .i64 c], .iface 28 (.pointer (some ⟨p, 0, none⟩))] w fun e w' => e = .returned (.tuple #[]) ∧ Turn w w' [q] ∧ PlainAt w' p q (mStore (mStore ws b 1) (b + 1) 1) := by
  have hp := at_lt h.1
  have hq := at_lt h.2.1.1
  go_enter Try.func104, Try.ntmps104
  go_wp2_with fail
  refine (or_any _ _ _).mono ?_
  rintro e w1 ⟨rfl, rfl⟩
  go_wp2_with fail
  refine (plainStore_any p q ws b 1 _ (h.alloc _) (by decide)).mono ?_
  rintro e w1 ⟨rfl, t1, p1⟩
  have x1 := t1.at (alloc_at w (.cells #[.int .i64 b, .int .i64 c] 138)) (by simp; omega)
  have T1 := ((Turn.refl w [q]).alloc (.cells #[.int .i64 b, .int .i64 c] 138)).then_ t1
  clear t1
  have c0 : w1.cell? ⟨w.heap.size, 0, none⟩ = some (.int .i64 b) := by rw [cell_at x1]; rfl
  have c1 : w1.cell? ⟨w.heap.size, 1, none⟩ = some (.int .i64 c) := by rw [cell_at x1]; rfl
  go_wp2_with fail
  go_region_held3 (fun w' => w'.cell? ⟨w.heap.size, 0, none⟩ = some (.int .i64 b) ∧ w'.cell? ⟨w.heap.size, 1, none⟩ = some (.int .i64 c)) (first | (refine ⟨?_, ?_⟩ <;> assumption) | go_keep)
    (first
      | (go_at_call 150; refine (bottom_any b c _ h0 h1).mono ?_; rintro e w2 ⟨rfl, t2⟩; have x2 := t2.at x1 (by simp); obtain ⟨d0, d1⟩ := two_cells x2)
      | (go_at_call 43; refine (plainStore_any p q _ (b + 1) 1 _ (p1.turn ((Turn.refl _ []).drew.then_ t2) (by simp) (by simp)) (by decide)).mono ?_; rintro e w3 ⟨rfl, t3, p3⟩; obtain ⟨d4, d5⟩ := two_cells (t3.at x2 (by simp; omega))))
  all_goals (try go_wp2_with fail)
  all_goals go_returns
  all_goals exact ⟨rfl, (T1.drew.then_ (t2.mono (by simp))).then_ t3, p3⟩
end Go.Proofs.Ytldiocdjgbehcaa
