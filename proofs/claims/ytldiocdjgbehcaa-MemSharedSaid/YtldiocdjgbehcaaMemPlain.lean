/-
  MemPlain: whatever a Plain is asked, it tells what a list of words would: the walk.
-/
import Derived.Test.YtldiocdjgbehcaaAwake22
import Derived.Deep.RegionHeld3
namespace Go.Proofs.Ytldiocdjgbehcaa
open Go.RowKit

theorem Words.introw {w : World} {q : Nat} {ws : List Int} (h : Words w q ws) (hl : ws.length ≤ 1048576) {c : Nat} : IntRow w .u64 (.slice (some ⟨q, 0, none⟩) ws.length c) ws :=
  ⟨_, _, rfl, by unfold maxLen; omega, fun _ => ⟨q, 0, rfl, fun i hi => by
    have := h.c hi
    rw [Nat.zero_add]
    simpa [List.getD, hi] using this⟩⟩

set_option maxHeartbeats 800000 in
set_option maxRecDepth 100000 in
theorem memPlain_walk (n : Int) (v : Value) (l : List Act) (w : World) (hv : ActRow w v l) : Calls Try.prog 4 #[.int .i64 n, v] w fun e w' => e = .returned (.bool true) ∧ Below w.heap.size w w' := by
  obtain ⟨a, c, rfl, hm, hc, ha⟩ := hv
  have HA := hid ha
  clear ha
  by_cases h1 : 50 < n
  · go_enter Try.func4, Try.ntmps4
    go_wp2_with fail
    refine (awake22 w).mono ?_
    rintro e w1 ⟨rfl, t1⟩
    go_wp2_with fail
    go_ret
    exact ⟨rfl, t1.below (Nat.le_refl _) (by simp)⟩
  · have d1 : decide (50 < n) = false := by simpa using h1
    by_cases h2 : 60 < l.length
    · have d2 : (60 : Int) < (l.length : Int) := by omega
      go_enter Try.func4, Try.ntmps4
      go_wp2_with fail
      refine (awake22 w).mono ?_
      rintro e w1 ⟨rfl, t1⟩
      go_wp2_with fail
      go_ret
      exact ⟨rfl, t1.below (Nat.le_refl _) (by simp)⟩
    · have d2 : decide ((60 : Int) < (l.length : Int)) = false := by simp; omega
      have h2' : l.length ≤ 60 := by omega
      clear h1 h2
      go_enter Try.func4, Try.ntmps4
      go_wp2_with fail
      refine (awake22 w).mono ?_
      rintro e w1 ⟨rfl, t1⟩
      go_wp2_with fail
      refine (newPlain_any n w1).mono ?_
      rintro e w2 ⟨p, q, rfl, t2, pl2, hp, hq⟩
      go_wp2_with fail
      refine (newRef_any n w2).mono ?_
      rintro e w3 ⟨p', q', rfl, t3, rf3, hp', hq'⟩
      have pl3 := pl2.turn t3 (by simp) (by simp)
      have b3 : Below w.heap.size w w3 := ((t1.then_ t2).then_ t3).below (Nat.le_refl _) (by simp)
      have s1 := t1.size
      have s2 := t2.size
      have lp := at_lt pl2.1
      have lq := at_lt pl2.2.1.1
      clear t1 t2 t3 pl2
      obtain ⟨ws, hws⟩ : ∃ ws, ws = List.replicate (cutN n) (0 : Int) := ⟨_, rfl⟩
      rw [← hws] at pl3 rf3
      clear hws
      go_wp2_with fail
      go_loopw [28] (fun i wr => ∃ k : Nat, k ≤ l.length ∧ i = .int .i64 k ∧ ∃ ws, PlainAt wr p q ws ∧ RefAt wr p' q' ws ∧ Below w.heap.size w wr) (fun i _ => l.length - (intOf i).toNat)
      case atStart => exact ⟨0, Nat.zero_le _, rfl, ws, pl3, rf3, b3⟩
      case round =>
        clear pl3 rf3 b3 ws
        obtain ⟨k, hk, rfl, ws, pl, rf, bl⟩ := hrel
        have hsz := bl.size
        by_cases hlt : k < l.length
        · obtain ⟨b, o, rfl, hi⟩ := HA.out (fun e => by subst e; cases hlt)
          obtain ⟨e0, e1, e2, e3, b1, b2⟩ := hi k hlt
          clear hi
          have hb : b < w.heap.size := World.block_lt_of_cell? w _ e0
          have f0 := (bl.cell (p := ⟨b, o + k * 4, none⟩) hb).trans e0
          have f1 := (bl.cell (p := ⟨b, o + k * 4 + 1, none⟩) hb).trans e1
          have f2 := (bl.cell (p := ⟨b, o + k * 4 + 2, none⟩) hb).trans e2
          have f3 := (bl.cell (p := ⟨b, o + k * 4 + 3, none⟩) hb).trans e3
          clear e0 e1 e2 e3
          generalize l[k].1 = kd at *
          generalize l[k].2.1 = t at *
          generalize l[k].2.2.1 = xa at *
          generalize l[k].2.2.2.1 = xb at *
          have hlt' : (k : Int) < (l.length : Int) := by omega
          go_wp2_with fail
          refine (kind22 kd _).mono ?_
          rintro e w4 ⟨rfl, rfl⟩
          go_wp2_with fail
          have lp5 := at_lt pl.1
          have lq5 := at_lt pl.2.1.1
          have lp6 := at_lt rf.1
          have lq6 := at_lt rf.2.1.1
          have hne : p ≠ p' ∧ p ≠ q' ∧ q ≠ p' ∧ q ≠ q' := by omega
          obtain ⟨g1, g2, g3, g4⟩ := hne
          refine (plain_any p q ws (kindN kd) t xa xb _ (pl.alloc _) b1 b2).mono ?_
          rintro e w5 ⟨rfl, t5, pl5⟩
          have hx : w5.heap[wr.heap.size]? = some (.cells #[.int .i64 (kindN kd), .int .i64 t, .int .u64 xa, .int .u64 xb] 34 (0, 0)) :=
            t5.at (alloc_at _ _) (by simp; omega)
          have x0 : w5.cell? ⟨wr.heap.size, 0, none⟩ = some (.int .i64 (kindN kd)) := by rw [cell_at hx]; rfl
          have x1 : w5.cell? ⟨wr.heap.size, 1, none⟩ = some (.int .i64 t) := by rw [cell_at hx]; rfl
          have x2 : w5.cell? ⟨wr.heap.size, 2, none⟩ = some (.int .u64 xa) := by rw [cell_at hx]; rfl
          have x3 : w5.cell? ⟨wr.heap.size, 3, none⟩ = some (.int .u64 xb) := by rw [cell_at hx]; rfl
          have rf5 : RefAt w5 p' q' ws := (rf.alloc _).turn t5 (by simp; omega) (by simp; omega)
          have T5 : Below w.heap.size w w5 := (bl.alloc hsz _).trans (t5.below (by simp; omega) (by simp; omega))
          have hs5 := t5.size
          simp only [World.size_alloc] at hs5
          clear t5 hx pl rf bl f0 f1 f2 f3
          go_wp2_with fail
          refine (do_any p' q' ws (kindN kd) t xa xb _ rf5 b1 b2).mono ?_
          rintro e w6 ⟨rfl, t6, rf6⟩
          have pl6 := pl5.turn t6 (by simp; omega) (by simp; omega)
          have T6 : Below w.heap.size w w6 := T5.trans (t6.below (by omega) (by simp; omega))
          clear t6 pl5 rf5 T5 x0 x1 x2 x3
          generalize doV ws (kindN kd) t xa = rv at *
          generalize doIs ws (kindN kd) t xa = ri at *
          generalize doTo ws (kindN kd) t xa xb = ws' at *
          go_wp2_with fail
          go_roundw
          case rel => exact ⟨k + 1, by omega, by go_num, ws', pl6, rf6, T6⟩
          case measure => simp [intOf]; omega
        · have hkl : decide ((k : Int) < (l.length : Int)) = false := by simp; omega
          go_wp2_with fail
          have c0 := rf.c0
          have lp6 := at_lt rf.1
          have lp5 := at_lt pl.1
          have hbw : Below w.heap.size w wr := bl
          have hlen : (((ws.length : Int) == (ws.length : Int))) = true := by simp
          go_region_held3 (fun w' => w'.cell? ⟨p', 0, none⟩ = some (.slice (some ⟨q', 0, none⟩) ws.length ws.length)) (first | assumption | go_keep)
            (first
              | (go_at_call 35; refine (plainLen_any p q ws _ ?_).mono ?_; (exact pl.turn ((Turn.refl _ []).drew) (by simp) (by simp)); rintro e w7 ⟨rfl, rfl⟩)
              | (go_at_call 37; refine (all_any p q ws _ ?_).mono ?_; (exact pl.turn ((Turn.refl _ []).drew) (by simp) (by simp)); rintro e w8 ⟨v8, rfl, hown8, hb8⟩; have c8 : w8.cell? ⟨p', 0, none⟩ = some (.slice (some ⟨q', 0, none⟩) ws.length ws.length) := (hb8.cell (p := ⟨p', 0, none⟩) (by simpa using lp6)).trans c0)
              | (go_at_call 36; refine (same10_any _ _ ws w8 ?_ ?_).mono ?_; (exact IntRow.of_owns hown8); (exact (Words.introw rf.2.1 rf.2.2).below (w := wr) ⟨hb8.os, hb8.tape, hb8.output, hb8.size, hb8.block⟩ (Nat.le_refl _)); rintro e w9 ⟨rfl, m9, rfl⟩))
          go_wp2_with fail
          go_ret
          exact ⟨rfl, bdrewN (hbw.trans ((Below.mono (B := wr.heap.size) ⟨hb8.os, hb8.tape, hb8.output, hb8.size, hb8.block⟩ hsz))) _⟩
end Go.Proofs.Ytldiocdjgbehcaa
