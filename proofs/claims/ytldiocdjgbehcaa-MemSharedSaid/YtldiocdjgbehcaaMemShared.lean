/-
  MemShared: whatever a Shared is asked, one behind the other, it tells what a Plain does: the walk.
-/
import Derived.Test.YtldiocdjgbehcaaMemPlain
namespace Go.Proofs.Ytldiocdjgbehcaa
open Go.RowKit
set_option maxHeartbeats 400000 in
set_option maxRecDepth 100000 in
theorem shared_any (p q : Nat) (ws : List Int) (k t a b : Int) (w : World) (h : SharedAt w p q ws) (ha : 0 ≤ a ∧ a < 18446744073709551616) (hb : 0 ≤ b ∧ b < 18446744073709551616) :
    Calls Try.prog 39 #[.pointer (some ⟨p, 0, none⟩), .agg #[.int .i64 k, .int .i64 t, .int .u64 a, .int .u64 b]] w fun e w' =>
      e = .returned (.tuple #[.int .u64 (doV ws k t a), .bool (doIs ws k t a)]) ∧ Turn w w' [q] ∧ SharedAt w' p q (doTo ws k t a b) := by
  have hx := h.alloc (.cells #[.int .i64 k, .int .i64 t, .int .u64 a, .int .u64 b] 34)
  have ht := (Turn.refl w [q]).alloc (.cells #[.int .i64 k, .int .i64 t, .int .u64 a, .int .u64 b] 34)
  by_cases h1 : k = 1
  · subst h1
    go_enter Try.func39, Try.ntmps39
    go_wp2_with fail
    refine (sharedLoad_any p q ws t _ hx).mono ?_
    rintro e w1 ⟨rfl, t1⟩
    go_wp2_with fail
    go_ret2
    exact ⟨by simp [doV, doIs], ht.then_ (t1.mono (by simp)), by simpa [doTo] using hx.turn t1 (by simp) (by simp)⟩
  · have b1 : (k == 1) = false := by simpa using h1
    by_cases h2 : k = 2
    · subst h2
      go_enter Try.func39, Try.ntmps39
      go_wp2_with fail
      refine (sharedStore_any p q ws t a _ hx ha).mono ?_
      rintro e w1 ⟨rfl, t1, p1⟩
      go_wp2_with fail
      go_ret2
      exact ⟨by simp [doV, doIs], ht.then_ t1, by simpa [doTo] using p1⟩
    · have b2 : (k == 2) = false := by simpa using h2
      by_cases h3 : k = 3
      · subst h3
        go_enter Try.func39, Try.ntmps39
        go_wp2_with fail
        refine (sharedCas_any p q ws t a b _ hx hb).mono ?_
        rintro e w1 ⟨rfl, t1, p1⟩
        go_wp2_with fail
        go_ret2
        exact ⟨by simp [doV, doIs], ht.then_ t1, by simpa [doTo] using p1⟩
      · have b3 : (k == 3) = false := by simpa using h3
        have e1 : doV ws k t a = mSum ws t a := by simp [doV, h1, h2, h3]
        have e2 : doIs ws k t a = false := by simp [doIs, h3]
        have e3 : doTo ws k t a b = mAddTo ws t a := by simp [doTo, h1, h2, h3]
        rw [e1, e2, e3]
        clear e1 e2 e3 h1 h2 h3
        go_enter Try.func39, Try.ntmps39
        go_wp2_with fail
        refine (sharedAdd_any p q ws t a _ hx).mono ?_
        rintro e w1 ⟨rfl, t1, p1⟩
        go_wp2_with fail
        go_ret2
        exact ⟨rfl, ht.then_ t1, p1⟩


set_option maxHeartbeats 400000 in
set_option maxRecDepth 100000 in
theorem allShared_any (p q : Nat) (ws : List Int) (w : World) (h : SharedAt w p q ws) :
    Calls Try.prog 37 #[.iface 46 (.pointer (some ⟨p, 0, none⟩))] w fun e w' => ∃ v, e = .returned v ∧ w'.ownsRow w.heap.size 32 1 v ws.length (ws.map (.int .u64)) ∧ Below w.heap.size w w' := by
  obtain ⟨i0, hi, hz0, hz1, hz2⟩ := info_parts infoU
  have hlen := h.2.2
  have H := hid h
  have hp := at_lt h.1
  have hq := at_lt h.2.1.1
  go_enter Try.func37, Try.ntmps37
  go_wp2_with fail
  refine (or_any _ _ _).mono ?_
  rintro e w1 ⟨rfl, rfl⟩
  go_wp2_with fail
  refine (sharedLen_any p q ws _ h).mono ?_
  rintro e w1 ⟨rfl, rfl⟩
  clear h
  go_wp2_with fail
  go_loopw [3, 4, 9] (fun v _ i wr => ∃ k : Nat, k ≤ ws.length ∧ i = .int .i64 k ∧ wr.ownsRow w.heap.size 32 1 v k (uTake ws k) ∧ Below w.heap.size w wr) (fun _ _ i _ => ws.length - (intOf i).toNat)
  case atStart => exact ⟨0, Nat.zero_le _, rfl, World.ownsRow_nil _ _ _ _, Below.refl _ _⟩
  case round =>
    obtain ⟨k, hk, rfl, hown, hb⟩ := hrel
    by_cases hlt : k < ws.length
    · have hlt' : (k : Int) < (ws.length : Int) := by omega
      have hB := hb.size
      have hr : SharedAt wr p q ws := ⟨(hb.block p hp).trans H.out.1, ⟨(hb.block q hq).trans H.out.2.1.1, H.out.2.1.2⟩, hlen⟩
      have hld : mLoad ws (k : Int) = ws.getD k 0 := load_hit
      go_wp2_with fail
      refine (sharedLoad_any p q ws _ _ hr).mono ?_
      rintro e w1 ⟨rfl, t1⟩
      rw [hld]
      clear hld hr
      obtain ⟨x, hx⟩ : ∃ x, x = ws.getD k 0 := ⟨_, rfl⟩
      rw [← hx]
      have HX := hid hx
      clear hx
      have hs1 := t1.size
      have hown1 : w1.ownsRow w.heap.size 32 1 u3 k (uTake ws k) := hown.kept (row := none) ⟨t1.os, t1.tape, t1.output, t1.size, fun i hi _ => t1.block i hi (by simp)⟩ (by cases hv : u3.ownBlock <;> simp)
      have hb1 : Below w.heap.size w w1 := hb.trans (t1.below hB (by simp))
      clear t1 hown hb
      go_wp2_with (at_builtin; refine wpList_append_own _ rfl (.tmp 12) (.tmp 16) 40 rfl w.heap.size 32 i0 (.int .u64 0) 1 8 Try.underlying40 hi hz0 hz1 hz2 rfl (by decide) _ _ _ rfl (hown1.alloc _) ⟨w1.heap.size, 0, none⟩ 1 1 [.int .u64 x] rfl rfl ?c1 ?c2 ?c3 ?c4 ?c5 ?_)
      case c1 => exact (cell_one_new _ _ _)
      case c2 => intro u hu; simp at hu; subst hu; rfl
      case c3 => unfold maxLen; omega
      case c4 => omega
      case c5 => simp; omega
      intro v' w2 hown' hgrow _
      obtain ⟨hr1, hr2⟩ := rel_all hlt HX.out (by omega) hown1 hb1 hown' hgrow
      clear hown' hgrow hown1 hb1
      go_wp2
      go_roundw
      case rel => exact ⟨k + 1, by omega, by go_num, hr1, hr2⟩
      case measure => simp [intOf]; omega
    · go_wp2
      go_ret
      have hkc : k = ws.length := by omega
      subst hkc
      unfold uTake at hown
      rw [List.take_length] at hown
      exact ⟨_, rfl, hown, hb⟩

set_option maxHeartbeats 800000 in
set_option maxRecDepth 100000 in
theorem memShared_walk (n : Int) (v : Value) (l : List Act) (w : World) (hv : ActRow w v l) : Calls Try.prog 5 #[.int .i64 n, v] w fun e w' => e = .returned (.bool true) ∧ Below w.heap.size w w' := by
  obtain ⟨a, c, rfl, hm, hc, ha⟩ := hv
  have HA := hid ha
  clear ha
  by_cases h1 : 50 < n
  · go_enter Try.func5, Try.ntmps5
    go_wp2_with fail
    refine (awake22 w).mono ?_
    rintro e w1 ⟨rfl, t1⟩
    go_wp2_with fail
    go_ret
    exact ⟨rfl, t1.below (Nat.le_refl _) (by simp)⟩
  · have d1 : decide (50 < n) = false := by simpa using h1
    by_cases h2 : 60 < l.length
    · have d2 : (60 : Int) < (l.length : Int) := by omega
      go_enter Try.func5, Try.ntmps5
      go_wp2_with fail
      refine (awake22 w).mono ?_
      rintro e w1 ⟨rfl, t1⟩
      go_wp2_with fail
      go_ret
      exact ⟨rfl, t1.below (Nat.le_refl _) (by simp)⟩
    · have d2 : decide ((60 : Int) < (l.length : Int)) = false := by simp; omega
      have h2' : l.length ≤ 60 := by omega
      clear h1 h2
      go_enter Try.func5, Try.ntmps5
      go_wp2_with fail
      refine (awake22 w).mono ?_
      rintro e w1 ⟨rfl, t1⟩
      go_wp2_with fail
      refine (newShared_any n w1).mono ?_
      rintro e w2 ⟨p, q, rfl, t2, pl2, hp, hq⟩
      go_wp2_with fail
      refine (newPlain_any n w2).mono ?_
      rintro e w3 ⟨p', q', rfl, t3, rf3, hp', hq'⟩
      have pl3 := pl2.turn t3 (by simp) (by simp)
      have b3 : Below w.heap.size w w3 := ((t1.then_ t2).then_ t3).below (Nat.le_refl _) (by simp)
      have s1 := t1.size
      have s2 := t2.size
      have lp := at_lt pl2.1
      have lq := at_lt pl2.2.1.1
      clear t1 t2 t3 pl2
      obtain ⟨ws, hws⟩ : ∃ ws, ws = List.replicate (cutN n) (0 : Int) := ⟨_, rfl⟩
      rw [← hws] at pl3 rf3
      clear hws
      go_wp2_with fail
      go_loopw [28] (fun i wr => ∃ k : Nat, k ≤ l.length ∧ i = .int .i64 k ∧ ∃ ws, SharedAt wr p q ws ∧ PlainAt wr p' q' ws ∧ Below w.heap.size w wr) (fun i _ => l.length - (intOf i).toNat)
      case atStart => exact ⟨0, Nat.zero_le _, rfl, ws, pl3, rf3, b3⟩
      case round =>
        clear pl3 rf3 b3 ws
        obtain ⟨k, hk, rfl, ws, pl, rf, bl⟩ := hrel
        have hsz := bl.size
        by_cases hlt : k < l.length
        · obtain ⟨b, o, rfl, hi⟩ := HA.out (fun e => by subst e; cases hlt)
          obtain ⟨e0, e1, e2, e3, b1, b2⟩ := hi k hlt
          clear hi
          have hb : b < w.heap.size := World.block_lt_of_cell? w _ e0
          have f0 := (bl.cell (p := ⟨b, o + k * 4, none⟩) hb).trans e0
          have f1 := (bl.cell (p := ⟨b, o + k * 4 + 1, none⟩) hb).trans e1
          have f2 := (bl.cell (p := ⟨b, o + k * 4 + 2, none⟩) hb).trans e2
          have f3 := (bl.cell (p := ⟨b, o + k * 4 + 3, none⟩) hb).trans e3
          clear e0 e1 e2 e3
          generalize l[k].1 = kd at *
          generalize l[k].2.1 = t at *
          generalize l[k].2.2.1 = xa at *
          generalize l[k].2.2.2.1 = xb at *
          have hlt' : (k : Int) < (l.length : Int) := by omega
          go_wp2_with fail
          refine (kind22 kd _).mono ?_
          rintro e w4 ⟨rfl, rfl⟩
          go_wp2_with fail
          have lp5 := at_lt pl.1
          have lq5 := at_lt pl.2.1.1
          have lp6 := at_lt rf.1
          have lq6 := at_lt rf.2.1.1
          have hne : p ≠ p' ∧ p ≠ q' ∧ q ≠ p' ∧ q ≠ q' := by omega
          obtain ⟨g1, g2, g3, g4⟩ := hne
          refine (shared_any p q ws (kindN kd) t xa xb _ (pl.alloc _) b1 b2).mono ?_
          rintro e w5 ⟨rfl, t5, pl5⟩
          have hx : w5.heap[wr.heap.size]? = some (.cells #[.int .i64 (kindN kd), .int .i64 t, .int .u64 xa, .int .u64 xb] 34 (0, 0)) :=
            t5.at (alloc_at _ _) (by simp; omega)
          have x0 : w5.cell? ⟨wr.heap.size, 0, none⟩ = some (.int .i64 (kindN kd)) := by rw [cell_at hx]; rfl
          have x1 : w5.cell? ⟨wr.heap.size, 1, none⟩ = some (.int .i64 t) := by rw [cell_at hx]; rfl
          have x2 : w5.cell? ⟨wr.heap.size, 2, none⟩ = some (.int .u64 xa) := by rw [cell_at hx]; rfl
          have x3 : w5.cell? ⟨wr.heap.size, 3, none⟩ = some (.int .u64 xb) := by rw [cell_at hx]; rfl
          have rf5 : PlainAt w5 p' q' ws := (rf.alloc _).turn t5 (by simp; omega) (by simp; omega)
          have T5 : Below w.heap.size w w5 := (bl.alloc hsz _).trans (t5.below (by simp; omega) (by simp; omega))
          have hs5 := t5.size
          simp only [World.size_alloc] at hs5
          clear t5 hx pl rf bl f0 f1 f2 f3
          go_wp2_with fail
          refine (plain_any p' q' ws (kindN kd) t xa xb _ rf5 b1 b2).mono ?_
          rintro e w6 ⟨rfl, t6, rf6⟩
          have pl6 := pl5.turn t6 (by simp; omega) (by simp; omega)
          have T6 : Below w.heap.size w w6 := T5.trans (t6.below (by omega) (by simp; omega))
          clear t6 pl5 rf5 T5 x0 x1 x2 x3
          generalize doV ws (kindN kd) t xa = rv at *
          generalize doIs ws (kindN kd) t xa = ri at *
          generalize doTo ws (kindN kd) t xa xb = ws' at *
          go_wp2_with fail
          go_roundw
          case rel => exact ⟨k + 1, by omega, by go_num, ws', pl6, rf6, T6⟩
          case measure => simp [intOf]; omega
        · have hkl : decide ((k : Int) < (l.length : Int)) = false := by simp; omega
          go_wp2_with fail
          go_wp2_with fail
          refine (sharedLen_any p q ws wr pl).mono ?_
          rintro e w7 ⟨rfl, rfl⟩
          go_wp2_with fail
          refine (plainLen_any p' q' ws wr rf).mono ?_
          rintro e w7 ⟨rfl, rfl⟩
          go_wp2_with fail
          refine (allShared_any p q ws wr pl).mono ?_
          rintro e w7 ⟨v7, rfl, hown7, hb7⟩
          have rf7 := rf.turn (Turn.of_below hb7 []) (by simp) (by simp)
          go_wp2_with fail
          refine (all_any p' q' ws w7 rf7).mono ?_
          rintro e w8 ⟨v8, rfl, hown8, hb8⟩
          go_wp2_with fail
          refine (same10_any _ _ ws w8 ((IntRow.of_owns hown7).below hb8 (Nat.le_refl _)) (IntRow.of_owns hown8)).mono ?_
          rintro e w9 ⟨rfl, m9, rfl⟩
          go_wp2_with fail
          go_ret
          have hs7 := hb7.size
          exact ⟨rfl, bdrewN ((bl.trans (hb7.mono hsz)).trans (hb8.mono (by omega))) _⟩
end Go.Proofs.Ytldiocdjgbehcaa
