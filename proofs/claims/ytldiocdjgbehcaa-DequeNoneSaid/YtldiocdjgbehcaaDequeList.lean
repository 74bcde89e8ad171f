/-
  Package deque's Top, Bottom and List over a Plain.
-/
import Derived.Test.YtldiocdjgbehcaaDeque
import Derived.Deep.AppendLies
namespace Go.Proofs.Ytldiocdjgbehcaa
open Go.RowKit
def U64' (x : Int) : Prop := 0 ≤ x ∧ x < 18446744073709551616
/-- A word as an int. -/
def asI (x : Int) : Int := IntKind.i64.wrap x
theorem asI_bd (x : Int) : -9223372036854775808 ≤ asI x ∧ asI x ≤ 9223372036854775807 := by unfold asI; rw [IntKind.wrap_i64]; omega

set_option maxHeartbeats 400000 in
set_option maxRecDepth 100000 in
theorem top_any (p q : Nat) (ws : List Int) (b c : Int) (w : World) (h : PlainAt w p q ws) :
    Calls Try.prog 92 #[.agg #[.int .i64 b, .int .i64 c], .iface 28 (.pointer (some ⟨p, 0, none⟩))] w fun e w' => e = .returned (.int .i64 (asI (mLoad ws b))) ∧ Turn w w' [] := by
  have x0 := alloc_at w (.cells #[.int .i64 b, .int .i64 c] 138)
  have P0 := h.alloc (.cells #[.int .i64 b, .int .i64 c] 138)
  have T0 := (Turn.refl w []).alloc (.cells #[.int .i64 b, .int .i64 c] 138)
  obtain ⟨c0, c1⟩ := two_cells x0
  go_enter Try.func92, Try.ntmps92
  go_wp2_with fail
  go_region_held3 (fun w' => w'.cell? ⟨w.heap.size, 0, none⟩ = some (.int .i64 b)) (first | assumption | go_keep)
    (first
      | (go_at_call 41; refine (or_any _ _ _).mono ?_; rintro e w1 ⟨rfl, rfl⟩)
      | (go_at_call 82; refine (plainLoad_any p q ws b _ (P0.turn ((Turn.refl _ []).drew) (by simp) (by simp))).mono ?_; rintro e w3 ⟨rfl, t3⟩; have d0 := (two_cells (t3.at x0 (by simp))).1))
  all_goals (try go_wp2_with fail)
  all_goals go_ret
  all_goals exact ⟨rfl, T0.drew.then_ t3⟩

set_option maxHeartbeats 400000 in
set_option maxRecDepth 100000 in
theorem bot_any (p q : Nat) (ws : List Int) (b c : Int) (w : World) (h : PlainAt w p q ws) (h0 : 0 ≤ b) (h1 : b ≤ 1099511627776) :
    Calls Try.prog 94 #[.agg #[.int .i64 b, .int .i64 c], .iface 28 (.pointer (some ⟨p, 0, none⟩))] w fun e w' => e = .returned (.int .i64 (asI (mLoad ws (b + 1)))) ∧ Turn w w' [] := by
  have x0 := alloc_at w (.cells #[.int .i64 b, .int .i64 c] 138)
  have P0 := h.alloc (.cells #[.int .i64 b, .int .i64 c] 138)
  have T0 := (Turn.refl w []).alloc (.cells #[.int .i64 b, .int .i64 c] 138)
  obtain ⟨c0, c1⟩ := two_cells x0
  go_enter Try.func94, Try.ntmps94
  go_wp2_with fail
  go_region_held3 (fun w' => w'.cell? ⟨w.heap.size, 0, none⟩ = some (.int .i64 b) ∧ w'.cell? ⟨w.heap.size, 1, none⟩ = some (.int .i64 c)) (first | (refine ⟨?_, ?_⟩ <;> assumption) | go_keep)
    (first
      | (go_at_call 41; refine (or_any _ _ _).mono ?_; rintro e w1 ⟨rfl, rfl⟩)
      | (go_at_call 150; refine (bottom_any b c _ h0 h1).mono ?_; rintro e w2 ⟨rfl, t2⟩; have x2 := t2.at x0 (by simp); obtain ⟨d0, d1⟩ := two_cells x2)
      | (go_at_call 82; refine (plainLoad_any p q ws (b + 1) _ (P0.turn ((Turn.refl _ []).drew.then_ t2) (by simp) (by simp))).mono ?_; rintro e w3 ⟨rfl, t3⟩; obtain ⟨d4, d5⟩ := two_cells (t3.at x2 (by simp))))
  all_goals (try go_wp2_with fail)
  all_goals go_ret
  all_goals exact ⟨rfl, (T0.drew.then_ t2).then_ t3⟩

theorem len_own {w : World} {B e sz n : Nat} {v : Value} {xs : List Value} (h : w.ownsRow B e sz v n xs) : ∀ W, (Builtin.len_ #[40] 3 #[v]).run Try.prog W = .ok (.int .i64 n) W := by
  intro W
  rcases h.2 with ⟨rfl, rfl⟩ | ⟨g, cap, cur, rfl, _⟩
  · kernel_rfl
  · kernel_rfl
/-- How many numbers a deque has; the numbers. -/
def dqCount (ws : List Int) (b c : Int) : Nat := (min (max (asI (mLoad ws (b + 1)) - asI (mLoad ws b)) 0) (roomN c)).toNat
def dqNum (ws : List Int) (b c : Int) (j : Nat) : Int := mLoad ws (placeN b c (IntKind.u64.wrap (asI (mLoad ws b) + j)))
def dqTake (ws : List Int) (b c : Int) (k : Nat) : List Value := ((List.range k).map (dqNum ws b c)).map (Value.int .u64)
def dqList (ws : List Int) (b c : Int) : List Int := (List.range (dqCount ws b c)).map (dqNum ws b c)
theorem dqTake_succ (ws : List Int) (b c : Int) (k : Nat) : dqTake ws b c (k + 1) = dqTake ws b c k ++ [.int .u64 (dqNum ws b c k)] := by
  simp [dqTake, List.range_succ]

set_option maxHeartbeats 1000000 in
set_option maxRecDepth 100000 in
theorem list_any (p q : Nat) (ws : List Int) (b c : Int) (w : World) (h : PlainAt w p q ws) (h0 : 0 ≤ b) (h1 : b ≤ 1099511627776) :
    Calls Try.prog 90 #[.agg #[.int .i64 b, .int .i64 c], .iface 28 (.pointer (some ⟨p, 0, none⟩))] w fun e w' => ∃ v, e = .returned v ∧ IntRow w' .u64 v (dqList ws b c) ∧ Below w.heap.size w w' := by
  obtain ⟨i0, hi, hz0, hz1, hz2⟩ := info_parts infoU
  have hrm := roomN_bd c
  obtain ⟨tt, htt⟩ : ∃ t, t = asI (mLoad ws b) := ⟨_, rfl⟩
  obtain ⟨bb, hbb⟩ : ∃ t, t = asI (mLoad ws (b + 1)) := ⟨_, rfl⟩
  have ht := asI_bd (mLoad ws b)
  have hb := asI_bd (mLoad ws (b + 1))
  have hcn : (dqCount ws b c : Int) = min (max (bb - tt) 0) (roomN c) := by unfold dqCount; rw [← htt, ← hbb]; omega
  rw [← htt] at ht
  rw [← hbb] at hb
  have HT := hid htt
  have HB := hid hbb
  have HC := hid hcn
  clear htt hbb hcn
  have hp := at_lt h.1
  have hq := at_lt h.2.1.1
  have H := hid h
  have x0 := alloc_at w (.cells #[.int .i64 b, .int .i64 c] 138)
  have P0 := h.alloc (.cells #[.int .i64 b, .int .i64 c] 138)
  obtain ⟨c0, c1⟩ := two_cells x0
  clear h
  go_enter Try.func90, Try.ntmps90
  go_wp2_with fail
  refine (or_any _ _ _).mono ?_
  rintro e w1 ⟨rfl, rfl⟩
  go_wp2_with fail
  refine (top_any p q ws b c _ P0).mono ?_
  rintro e w1 ⟨rfl, t1⟩
  rw [← HT.out]
  have x1 := t1.at x0 (by simp)
  have P1 := P0.turn t1 (by simp) (by simp)
  have B1 : Below w.heap.size w w1 := ((Below.refl _ _).alloc (Nat.le_refl _) _).trans (t1.below (by simp) (by simp))
  clear P0 t1 c0 c1 x0
  go_wp2_with fail
  go_loopw [5, 6] (fun v i wr => ∃ k : Nat, k ≤ dqCount ws b c ∧ i = .int .i64 (tt + k) ∧ wr.ownsRow (w.heap.size + 1) 32 1 v k (dqTake ws b c k) ∧ wr.heap[w.heap.size]? = some (.cells #[.int .i64 b, .int .i64 c] 138 (0, 0)) ∧ Below w.heap.size w wr) (fun _ i _ => (tt + dqCount ws b c - intOf i).toNat)
  case atStart => exact ⟨0, Nat.zero_le _, by simp, World.ownsRow_nil _ _ _ _, x1, B1⟩
  case round =>
    clear x1 B1 P1
    obtain ⟨k, hk, rfl, hown, xr, hbl⟩ := hrel
    have hcn := HC.out
    have Pr : PlainAt wr p q ws := ⟨(hbl.block p hp).trans H.out.1, ⟨(hbl.block q hq).trans H.out.2.1.1, H.out.2.1.2⟩, H.out.2.2⟩
    obtain ⟨c0, c1⟩ := two_cells xr
    have lr := at_lt xr
    go_wp2_with fail
    refine (bot_any p q ws b c _ Pr h0 h1).mono ?_
    rintro e w2 ⟨rfl, t2⟩
    rw [← HB.out]
    have x2 := t2.at xr (by simp)
    have P2 := Pr.turn t2 (by simp) (by simp)
    have B2 := hbl.trans (t2.below (B := w.heap.size) (by omega) (by simp))
    have own2 : w2.ownsRow (w.heap.size + 1) 32 1 u5 k (dqTake ws b c k) := hown.kept (row := none) ⟨t2.os, t2.tape, t2.output, t2.size, fun i hi _ => t2.block i hi (by simp)⟩ (by cases hv : u5.ownBlock <;> simp)
    have l2 := at_lt x2
    clear hown xr hbl Pr t2 c0 c1
    obtain ⟨c0, c1⟩ := two_cells x2
    have hlen := len_own own2
    by_cases hlt : k < dqCount ws b c
    · have a1 : tt + (k : Int) < bb := by omega
      have a2 : (k : Int) < roomN c := by omega
      have a3 : k < 4096 := by omega
      clear hcn
      go_wp2_with fail
      refine (room_any c _).mono ?_
      rintro e w3 ⟨rfl, rfl⟩
      go_wp2_with fail
      have hu : U64' (IntKind.u64.wrap (tt + k)) := by unfold U64'; rw [IntKind.wrap_u64]; omega
      obtain ⟨ii, hii⟩ : ∃ i, i = IntKind.u64.wrap (tt + k) := ⟨_, rfl⟩
      rw [← hii] at hu
      have hiw : IntKind.u64.wrap (tt + k) = ii := hii.symm
      have hnum : dqNum ws b c k = mLoad ws (placeN b c ii) := by unfold dqNum; rw [← HT.out, hii]
      have HN := hid hnum
      clear hnum hii
      go_region_held3 (fun w' => w'.cell? ⟨w.heap.size, 0, none⟩ = some (.int .i64 b) ∧ w'.cell? ⟨w.heap.size, 1, none⟩ = some (.int .i64 c)) (first | (refine ⟨?_, ?_⟩ <;> (first | assumption | (rw [World.cell?_alloc_past _ _ _ (by omega)]; assumption))) | go_keep)
        (first
          | (go_at_call 152; refine (place_any b c ii _ h0 h1 hu).mono ?_; rintro e w4 ⟨rfl, t4⟩; have x4 := t4.at x2 (by simp); obtain ⟨d0, d1⟩ := two_cells x4; have own4 : w4.ownsRow (w.heap.size + 1) 32 1 u5 k (dqTake ws b c k) := own2.kept (row := none) ⟨t4.os, t4.tape, t4.output, t4.size, fun i hi _ => t4.block i hi (by simp)⟩ (by cases hv : u5.ownBlock <;> simp))
          | (go_at_call 82; refine (plainLoad_any p q ws (placeN b c ii) _ (P2.turn ((Turn.refl _ []).drew.then_ t4) (by simp) (by simp))).mono ?_; rintro e w5 ⟨rfl, t5⟩; have x5 := t5.at x4 (by simp); obtain ⟨d4, d5⟩ := two_cells x5; have l5 := at_lt x5; have own5 : w5.ownsRow (w.heap.size + 1) 32 1 u5 k (dqTake ws b c k) := own4.kept (row := none) ⟨t5.os, t5.tape, t5.output, t5.size, fun i hi _ => t5.block i hi (by simp)⟩ (by cases hv : u5.ownBlock <;> simp))
          | (refine step_append_lies _ (by rfl) _ _ _ (by rfl) (w.heap.size + 1) 32 i0 _ 1 8 Try.underlying40 hi hz0 hz1 hz2 rfl (by omega) u5 k (dqTake ws b c k) (by rfl) (own5.alloc _) ⟨w5.heap.size, 0, none⟩ 1 1 [.int .u64 (mLoad ws (placeN b c ii))] (by rfl) (by rfl) (World.news_of_block (cs := #[.int .u64 (mLoad ws (placeN b c ii))]) (t := 32) (fr := (0, 0)) (heap_alloc_new w5 _)) (by simp [Value.oneCell']) (by omega) (by unfold maxLen; omega) (by omega) (by simp; omega) (w5.heap.size + 1) (by simp) ?_; intro gg cap w6 hown6 hgrow hat hlt6; have x6 : w6.heap[w.heap.size]? = some (.cells #[.int .i64 b, .int .i64 c] 138 (0, 0)) := (hgrow.block _ (by simp; omega) (fun e => by have := (own5.lt _ e.symm).1; omega)).trans (alloc_old _ _ x5); obtain ⟨d6, d7⟩ := two_cells x6))
      all_goals
        have hown' : w6.ownsRow (w.heap.size + 1) 32 1 (.slice (some ⟨gg, 0, none⟩) (k + 1) cap) (k + 1) (dqTake ws b c (k + 1)) := by rw [dqTake_succ, HN.out]; exact hown6
        have B5 : Below w.heap.size w w5 := (B2.drew.trans (t4.below (by simp; omega) (by simp))).trans (t5.below (by have := t4.size; simp at this; omega) (by simp))
        have B6 : Below w.heap.size w w6 := (B5.alloc (by omega) _).grown hgrow (by simp; omega) (fun j hj => by have := (own5.lt j hj).1; omega)
        clear hown6 hgrow own5 own4 own2 t4 t5 x4 x5 x2 d0 d1 d4 d5 d6 d7 c0 c1 B5 B2 P2 hlen hat HN
        go_wp2_with fail
        go_roundw
        case rel => exact ⟨k + 1, by omega, by rw [show tt + ((k + 1 : Nat) : Int) = tt + (k : Int) + 1 by omega], hown', x6, B6⟩
        case measure => simp [intOf]; omega
    · have hkc : k = dqCount ws b c := by omega
      have hfin : ∀ W : World, W.heap = w2.heap → IntRow W .u64 u5 (dqList ws b c) := by
        intro W hW
        refine IntRow.of_owns (B := w.heap.size + 1) (e := 32) (n := k) ⟨?_, ?_⟩
        · simp [dqList, hkc]
        · have := own2.2
          rw [hW]
          unfold dqTake at this
          rw [hkc] at this
          rw [hkc]
          exact this
      by_cases a1 : tt + (k : Int) < bb
      · have a2 : decide ((k : Int) < roomN c) = false := by simp; omega
        go_wp2_with fail
        refine (room_any c _).mono ?_
        rintro e w3 ⟨rfl, rfl⟩
        go_wp2_with fail
        go_ret
        exact ⟨_, rfl, hfin _ rfl, B2⟩
      · have a2 : decide (tt + (k : Int) < bb) = false := by simpa using a1
        go_wp2_with fail
        go_ret
        exact ⟨_, rfl, hfin _ rfl, B2⟩
end Go.Proofs.Ytldiocdjgbehcaa
