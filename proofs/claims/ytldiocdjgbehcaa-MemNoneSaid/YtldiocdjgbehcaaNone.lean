/-
  A memory that nobody made (a nil pointer, or one to an empty struct): it is asked, and nothing is told. MemNone: the walk.
-/
import Derived.Test.YtldiocdjgbehcaaAwake22
namespace Go.Proofs.Ytldiocdjgbehcaa
open Go.RowKit
/-- Nobody's memory: nil, or a struct of no words. -/
def NoMem (w : World) (v : Value) : Prop := v = .pointer none ∨ ∃ p, v = .pointer (some ⟨p, 0, none⟩) ∧ w.cell? ⟨p, 0, none⟩ = some (.int .i64 0)
theorem no_has (a : Int) : (decide (0 ≤ a) && decide (a < 0)) = false := by simp
theorem NoMem.turn {w w' : World} {v : Value} (h : NoMem w v) (t : Turn w w' []) : NoMem w' v := by
  rcases h with h | ⟨p, h, hc⟩
  · exact .inl h
  · exact .inr ⟨p, h, by rw [World.cell?_of_block (w := w) (t.block p (World.block_lt_of_cell? w _ hc) (by simp))]; exact hc⟩
set_option maxHeartbeats 400000 in
set_option maxRecDepth 100000 in
theorem noPlainLoad (v : Value) (a : Int) (w : World) (h : NoMem w v) :
    Calls Try.prog 82 #[v, .int .i64 a] w fun e w' => e = .returned (.int .u64 0) ∧ Turn w w' [] := by
  rcases h with rfl | ⟨p, rfl, hc⟩
  · go_enter Try.func82, Try.ntmps82
    go_wp2_with fail
    go_returns
    exact ⟨rfl, Turn.refl _ _⟩
  · have hp := World.block_lt_of_cell? w _ hc
    have hb := no_has a
    go_enter Try.func82, Try.ntmps82
    go_wp2_with fail
    refine (has_any _ _ _).mono ?_
    rintro e w1 ⟨rfl, rfl⟩
    rw [hb]
    go_wp2_with fail
    go_returns
    exact ⟨rfl, (Turn.refl _ _).alloc _⟩
set_option maxHeartbeats 400000 in
set_option maxRecDepth 100000 in
theorem noPlainStore (v : Value) (a x : Int) (w : World) (h : NoMem w v) :
    Calls Try.prog 43 #[v, .int .i64 a, .int .u64 x] w fun e w' => e = .returned (.tuple #[]) ∧ Turn w w' [] := by
  rcases h with rfl | ⟨p, rfl, hc⟩
  · go_enter Try.func43, Try.ntmps43
    go_wp2_with fail
    go_returns
    exact ⟨rfl, Turn.refl _ _⟩
  · have hp := World.block_lt_of_cell? w _ hc
    have hb := no_has a
    go_enter Try.func43, Try.ntmps43
    go_wp2_with fail
    refine (has_any _ _ _).mono ?_
    rintro e w1 ⟨rfl, rfl⟩
    rw [hb]
    go_wp2_with fail
    go_returns
    exact ⟨rfl, (Turn.refl _ _).alloc _⟩
set_option maxHeartbeats 400000 in
set_option maxRecDepth 100000 in
theorem noPlainCAS (v : Value) (a x y : Int) (w : World) (h : NoMem w v) :
    Calls Try.prog 131 #[v, .int .i64 a, .int .u64 x, .int .u64 y] w fun e w' => e = .returned (.bool false) ∧ Turn w w' [] := by
  rcases h with rfl | ⟨p, rfl, hc⟩
  · go_enter Try.func131, Try.ntmps131
    go_wp2_with fail
    go_returns
    exact ⟨rfl, Turn.refl _ _⟩
  · have hp := World.block_lt_of_cell? w _ hc
    have hb := no_has a
    go_enter Try.func131, Try.ntmps131
    go_wp2_with fail
    refine (has_any _ _ _).mono ?_
    rintro e w1 ⟨rfl, rfl⟩
    rw [hb]
    go_wp2_with fail
    go_returns
    exact ⟨rfl, (Turn.refl _ _).alloc _⟩
set_option maxHeartbeats 400000 in
set_option maxRecDepth 100000 in
theorem noPlainAdd (v : Value) (a x : Int) (w : World) (h : NoMem w v) :
    Calls Try.prog 54 #[v, .int .i64 a, .int .u64 x] w fun e w' => e = .returned (.int .u64 0) ∧ Turn w w' [] := by
  rcases h with rfl | ⟨p, rfl, hc⟩
  · go_enter Try.func54, Try.ntmps54
    go_wp2_with fail
    go_returns
    exact ⟨rfl, Turn.refl _ _⟩
  · have hp := World.block_lt_of_cell? w _ hc
    have hb := no_has a
    go_enter Try.func54, Try.ntmps54
    go_wp2_with fail
    refine (has_any _ _ _).mono ?_
    rintro e w1 ⟨rfl, rfl⟩
    rw [hb]
    go_wp2_with fail
    go_returns
    exact ⟨rfl, (Turn.refl _ _).alloc _⟩
set_option maxHeartbeats 400000 in
set_option maxRecDepth 100000 in
theorem noPlainLen (v : Value) (w : World) (h : NoMem w v) :
    Calls Try.prog 35 #[v] w fun e w' => e = .returned (.int .i64 0) ∧ w = w' := by
  rcases h with rfl | ⟨p, rfl, hc⟩
  · go_enter Try.func35, Try.ntmps35
    go_wp2_with fail
    go_returns
    exact ⟨rfl, rfl⟩
  · go_enter Try.func35, Try.ntmps35
    go_wp2_with fail
    go_returns
    exact ⟨rfl, rfl⟩
set_option maxHeartbeats 400000 in
set_option maxRecDepth 100000 in
theorem noPlain (v : Value) (k t a b : Int) (w : World) (h : NoMem w v) :
    Calls Try.prog 33 #[v, .agg #[.int .i64 k, .int .i64 t, .int .u64 a, .int .u64 b]] w fun e w' => e = .returned (.tuple #[.int .u64 0, .bool false]) ∧ Turn w w' [] := by
  have ht := (Turn.refl w []).alloc (.cells #[.int .i64 k, .int .i64 t, .int .u64 a, .int .u64 b] 34)
  have hx := h.turn ht
  clear h
  by_cases h1 : k = 1
  · subst h1
    go_enter Try.func33, Try.ntmps33
    go_wp2_with fail
    refine (noPlainLoad v t _ hx).mono ?_
    rintro e w1 ⟨rfl, t1⟩
    go_wp2_with fail
    go_ret2
    exact ⟨rfl, ht.then_ t1⟩
  · have b1 : (k == 1) = false := by simpa using h1
    by_cases h2 : k = 2
    · subst h2
      go_enter Try.func33, Try.ntmps33
      go_wp2_with fail
      refine (noPlainStore v t a _ hx).mono ?_
      rintro e w1 ⟨rfl, t1⟩
      go_wp2_with fail
      go_ret2
      exact ⟨rfl, ht.then_ t1⟩
    · have b2 : (k == 2) = false := by simpa using h2
      by_cases h3 : k = 3
      · subst h3
        go_enter Try.func33, Try.ntmps33
        go_wp2_with fail
        refine (noPlainCAS v t a b _ hx).mono ?_
        rintro e w1 ⟨rfl, t1⟩
        go_wp2_with fail
        go_ret2
        exact ⟨rfl, ht.then_ t1⟩
      · have b3 : (k == 3) = false := by simpa using h3
        clear h1 h2 h3
        go_enter Try.func33, Try.ntmps33
        go_wp2_with fail
        refine (noPlainAdd v t a _ hx).mono ?_
        rintro e w1 ⟨rfl, t1⟩
        go_wp2_with fail
        go_ret2
        exact ⟨rfl, ht.then_ t1⟩
set_option maxHeartbeats 400000 in
set_option maxRecDepth 100000 in
theorem noSharedLoad (v : Value) (a : Int) (w : World) (h : NoMem w v) :
    Calls Try.prog 133 #[v, .int .i64 a] w fun e w' => e = .returned (.int .u64 0) ∧ Turn w w' [] := by
  rcases h with rfl | ⟨p, rfl, hc⟩
  · go_enter Try.func133, Try.ntmps133
    go_wp2_with fail
    go_returns
    exact ⟨rfl, Turn.refl _ _⟩
  · have hp := World.block_lt_of_cell? w _ hc
    have hb := no_has a
    go_enter Try.func133, Try.ntmps133
    go_wp2_with fail
    refine (has_any _ _ _).mono ?_
    rintro e w1 ⟨rfl, rfl⟩
    rw [hb]
    go_wp2_with fail
    go_returns
    exact ⟨rfl, (Turn.refl _ _).alloc _⟩
set_option maxHeartbeats 400000 in
set_option maxRecDepth 100000 in
theorem noSharedStore (v : Value) (a x : Int) (w : World) (h : NoMem w v) :
    Calls Try.prog 134 #[v, .int .i64 a, .int .u64 x] w fun e w' => e = .returned (.tuple #[]) ∧ Turn w w' [] := by
  rcases h with rfl | ⟨p, rfl, hc⟩
  · go_enter Try.func134, Try.ntmps134
    go_wp2_with fail
    go_returns
    exact ⟨rfl, Turn.refl _ _⟩
  · have hp := World.block_lt_of_cell? w _ hc
    have hb := no_has a
    go_enter Try.func134, Try.ntmps134
    go_wp2_with fail
    refine (has_any _ _ _).mono ?_
    rintro e w1 ⟨rfl, rfl⟩
    rw [hb]
    go_wp2_with fail
    go_returns
    exact ⟨rfl, (Turn.refl _ _).alloc _⟩
set_option maxHeartbeats 400000 in
set_option maxRecDepth 100000 in
theorem noSharedCAS (v : Value) (a x y : Int) (w : World) (h : NoMem w v) :
    Calls Try.prog 128 #[v, .int .i64 a, .int .u64 x, .int .u64 y] w fun e w' => e = .returned (.bool false) ∧ Turn w w' [] := by
  rcases h with rfl | ⟨p, rfl, hc⟩
  · go_enter Try.func128, Try.ntmps128
    go_wp2_with fail
    go_returns
    exact ⟨rfl, Turn.refl _ _⟩
  · have hp := World.block_lt_of_cell? w _ hc
    have hb := no_has a
    go_enter Try.func128, Try.ntmps128
    go_wp2_with fail
    refine (has_any _ _ _).mono ?_
    rintro e w1 ⟨rfl, rfl⟩
    rw [hb]
    go_wp2_with fail
    go_returns
    exact ⟨rfl, (Turn.refl _ _).alloc _⟩
set_option maxHeartbeats 400000 in
set_option maxRecDepth 100000 in
theorem noSharedAdd (v : Value) (a x : Int) (w : World) (h : NoMem w v) :
    Calls Try.prog 129 #[v, .int .i64 a, .int .u64 x] w fun e w' => e = .returned (.int .u64 0) ∧ Turn w w' [] := by
  rcases h with rfl | ⟨p, rfl, hc⟩
  · go_enter Try.func129, Try.ntmps129
    go_wp2_with fail
    go_returns
    exact ⟨rfl, Turn.refl _ _⟩
  · have hp := World.block_lt_of_cell? w _ hc
    have hb := no_has a
    go_enter Try.func129, Try.ntmps129
    go_wp2_with fail
    refine (has_any _ _ _).mono ?_
    rintro e w1 ⟨rfl, rfl⟩
    rw [hb]
    go_wp2_with fail
    go_returns
    exact ⟨rfl, (Turn.refl _ _).alloc _⟩
set_option maxHeartbeats 400000 in
set_option maxRecDepth 100000 in
theorem noSharedLen (v : Value) (w : World) (h : NoMem w v) :
    Calls Try.prog 40 #[v] w fun e w' => e = .returned (.int .i64 0) ∧ w = w' := by
  rcases h with rfl | ⟨p, rfl, hc⟩
  · go_enter Try.func40, Try.ntmps40
    go_wp2_with fail
    go_returns
    exact ⟨rfl, rfl⟩
  · go_enter Try.func40, Try.ntmps40
    go_wp2_with fail
    go_returns
    exact ⟨rfl, rfl⟩
set_option maxHeartbeats 400000 in
set_option maxRecDepth 100000 in
theorem noShared (v : Value) (k t a b : Int) (w : World) (h : NoMem w v) :
    Calls Try.prog 39 #[v, .agg #[.int .i64 k, .int .i64 t, .int .u64 a, .int .u64 b]] w fun e w' => e = .returned (.tuple #[.int .u64 0, .bool false]) ∧ Turn w w' [] := by
  have ht := (Turn.refl w []).alloc (.cells #[.int .i64 k, .int .i64 t, .int .u64 a, .int .u64 b] 34)
  have hx := h.turn ht
  clear h
  by_cases h1 : k = 1
  · subst h1
    go_enter Try.func39, Try.ntmps39
    go_wp2_with fail
    refine (noSharedLoad v t _ hx).mono ?_
    rintro e w1 ⟨rfl, t1⟩
    go_wp2_with fail
    go_ret2
    exact ⟨rfl, ht.then_ t1⟩
  · have b1 : (k == 1) = false := by simpa using h1
    by_cases h2 : k = 2
    · subst h2
      go_enter Try.func39, Try.ntmps39
      go_wp2_with fail
      refine (noSharedStore v t a _ hx).mono ?_
      rintro e w1 ⟨rfl, t1⟩
      go_wp2_with fail
      go_ret2
      exact ⟨rfl, ht.then_ t1⟩
    · have b2 : (k == 2) = false := by simpa using h2
      by_cases h3 : k = 3
      · subst h3
        go_enter Try.func39, Try.ntmps39
        go_wp2_with fail
        refine (noSharedCAS v t a b _ hx).mono ?_
        rintro e w1 ⟨rfl, t1⟩
        go_wp2_with fail
        go_ret2
        exact ⟨rfl, ht.then_ t1⟩
      · have b3 : (k == 3) = false := by simpa using h3
        clear h1 h2 h3
        go_enter Try.func39, Try.ntmps39
        go_wp2_with fail
        refine (noSharedAdd v t a _ hx).mono ?_
        rintro e w1 ⟨rfl, t1⟩
        go_wp2_with fail
        go_ret2
        exact ⟨rfl, ht.then_ t1⟩

set_option maxHeartbeats 400000 in
set_option maxRecDepth 100000 in
theorem orNil_any (w : World) : Calls Try.prog 41 #[.nilIface] w fun e w' => ∃ p q, e = .returned (.iface 28 (.pointer (some ⟨p, 0, none⟩))) ∧ Turn w w' [] ∧ PlainAt w' p q [] ∧ w.heap.size ≤ p ∧ w.heap.size ≤ q := by
  go_enter Try.func41, Try.ntmps41
  go_wp2_with fail
  refine (newPlain_any 0 w).mono ?_
  rintro e w1 ⟨p, q, rfl, t1, h1, hp, hq⟩
  go_wp2_with fail
  go_ret
  exact ⟨p, q, rfl, t1, h1, hp, hq⟩

set_option maxHeartbeats 400000 in
set_option maxRecDepth 100000 in
theorem allNil_any (w : World) : Calls Try.prog 37 #[.nilIface] w fun e w' => e = .returned (.slice none 0 0) ∧ Turn w w' [] := by
  go_enter Try.func37, Try.ntmps37
  go_wp2_with fail
  refine (orNil_any w).mono ?_
  rintro e w1 ⟨p, q, rfl, t1, h1, hp, hq⟩
  go_wp2_with fail
  refine (plainLen_any p q [] w1 h1).mono ?_
  rintro e w2 ⟨rfl, rfl⟩
  go_wp2_with fail
  refine wp_loop_rounds 1 ?_
  rw [rounds_succ]
  go_wp2_with fail
  go_ret
  exact ⟨rfl, t1⟩

set_option maxHeartbeats 400000 in
set_option maxRecDepth 100000 in
theorem allNo_any (v : Value) (w : World) (h : NoMem w v) : Calls Try.prog 37 #[.iface 28 v] w fun e w' => e = .returned (.slice none 0 0) ∧ w = w' := by
  rcases h with rfl | ⟨p, rfl, hc⟩
  · go_enter Try.func37, Try.ntmps37
    go_wp2_with fail
    refine (or_any _ _ w).mono ?_
    rintro e w1 ⟨rfl, rfl⟩
    go_wp2_with fail
    refine (noPlainLen _ w (.inl rfl)).mono ?_
    rintro e w1 ⟨rfl, rfl⟩
    go_wp2_with fail
    refine wp_loop_rounds 1 ?_
    rw [rounds_succ]
    go_wp2_with fail
    go_ret
    exact ⟨rfl, rfl⟩
  · have h : NoMem w (.pointer (some ⟨p, 0, none⟩)) := .inr ⟨p, rfl, hc⟩
    go_enter Try.func37, Try.ntmps37
    go_wp2_with fail
    refine (or_any _ _ w).mono ?_
    rintro e w1 ⟨rfl, rfl⟩
    go_wp2_with fail
    refine (noPlainLen _ w h).mono ?_
    rintro e w1 ⟨rfl, rfl⟩
    go_wp2_with fail
    refine wp_loop_rounds 1 ?_
    rw [rounds_succ]
    go_wp2_with fail
    go_ret
    exact ⟨rfl, rfl⟩

theorem four_cells {w : World} {b : Nat} {x0 x1 x2 x3 : Value} {t : TypeId} (h : w.heap[b]? = some (.cells #[x0, x1, x2, x3] t (0, 0))) :
    w.cell? ⟨b, 0, none⟩ = some x0 ∧ w.cell? ⟨b, 1, none⟩ = some x1 ∧ w.cell? ⟨b, 2, none⟩ = some x2 ∧ w.cell? ⟨b, 3, none⟩ = some x3 ∧ w.frozen? ⟨b, 0, none⟩ = false :=
  ⟨by rw [cell_at h]; rfl, by rw [cell_at h]; rfl, by rw [cell_at h]; rfl, by rw [cell_at h]; rfl, frozen_at h⟩

set_option maxHeartbeats 800000 in
set_option maxRecDepth 100000 in
theorem memNone_walk (k t a b : Int) (w : World) : Calls Try.prog 6 #[.agg #[.int .i64 k, .int .i64 t, .int .u64 a, .int .u64 b]] w fun e w' => e = .returned (.bool true) ∧ Below w.heap.size w w' := by
  go_enter Try.func6, Try.ntmps6
  go_wp2_with fail
  refine (awake22 _).mono ?_
  rintro e w1 ⟨rfl, t1⟩
  have x1 := t1.at (alloc_at w (.cells #[.int .i64 k, .int .i64 t, .int .u64 a, .int .u64 b] 34)) (by simp)
  have T1 := ((Turn.refl w []).alloc (.cells #[.int .i64 k, .int .i64 t, .int .u64 a, .int .u64 b] 34)).then_ t1
  clear t1
  obtain ⟨f0, f1, f2, f3, f4⟩ := four_cells x1
  go_wp2_with fail
  refine (kind22 k _).mono ?_
  rintro e w2 ⟨rfl, rfl⟩
  have x2 := set_at (i := 0) (.int .i64 (kindN k)) x1
  have T2 := T1.setCell (p := ⟨w.heap.size, 0, none⟩) (.inr (Nat.le_refl _)) (.int .i64 (kindN k))
  simp only [List.setIfInBounds_toArray, List.set_cons_zero] at x2
  obtain ⟨g0, g1, g2, g3, g4⟩ := four_cells x2
  have B2 : w.heap.size < (w1.setCell ⟨w.heap.size, 0, none⟩ (.int .i64 (kindN k))).heap.size := at_lt x2
  generalize kindN k = K at *
  clear x1 T1
  go_wp2_with fail
  clear f0 f1 f2 f3 f4
  obtain ⟨W, hW⟩ : ∃ W, W = w1.setCell ⟨w.heap.size, 0, none⟩ (.int .i64 K) := ⟨_, rfl⟩
  rw [← hW] at x2 T2 g0 g1 g2 g3 g4 B2 ⊢
  clear hW
  refine (noPlain _ K t a b W (.inl rfl)).mono ?_
  rintro e w3 ⟨rfl, t3⟩
  have x3 := t3.at x2 (by simp)
  have T3 := T2.then_ t3
  clear x2 T2 g0 g1 g2 g3 g4 t3 B2
  obtain ⟨g0, g1, g2, g3, g4⟩ := four_cells x3
  go_wp2_with fail
  refine (noShared _ K t a b w3 (.inl rfl)).mono ?_
  rintro e w4 ⟨rfl, t4⟩
  have x4 := t4.at x3 (by simp)
  have T4 := T3.then_ t4
  have B4 := at_lt x4
  clear x3 T3 g0 g1 g2 g3 g4 t4
  obtain ⟨g0, g1, g2, g3, g4⟩ := four_cells x4
  go_wp2_with fail
  refine (noPlain _ K t a b _ (.inr ⟨_, rfl, by rw [World.cell?_alloc_at _ _ _ _ rfl]; rfl⟩)).mono ?_
  rintro e w5 ⟨rfl, t5⟩
  have x5 := t5.at (alloc_old _ _ x4) (by simp)
  have T5 := (T4.alloc _).then_ t5
  clear x4 T4 g0 g1 g2 g3 g4 t5 B4
  have B5 := at_lt x5
  obtain ⟨g0, g1, g2, g3, g4⟩ := four_cells x5
  go_wp2_with fail
  refine (noShared _ K t a b _ (.inr ⟨_, rfl, by rw [World.cell?_alloc_at _ _ _ _ rfl]; rfl⟩)).mono ?_
  rintro e w6 ⟨rfl, t6⟩
  have T6 := (T5.alloc _).then_ t6
  clear x5 T5 g0 g1 g2 g3 g4 t6 B5
  go_wp2_with fail
  refine (noPlainLen _ w6 (.inl rfl)).mono ?_
  rintro e w7 ⟨rfl, rfl⟩
  go_wp2_with fail
  refine (noSharedLen _ w6 (.inl rfl)).mono ?_
  rintro e w7 ⟨rfl, rfl⟩
  go_wp2_with fail
  refine (allNil_any w6).mono ?_
  rintro e w7 ⟨rfl, t7⟩
  go_wp2_with fail
  refine (orNil_any w7).mono ?_
  rintro e w8 ⟨p8, q8, rfl, t8, h8, _, _⟩
  go_wp2_with fail
  refine (plainLen_any p8 q8 [] w8 h8).mono ?_
  rintro e w9 ⟨rfl, rfl⟩
  have T8 := (T6.then_ t7).then_ t8
  clear T6 t7 t8 h8
  go_wp2_with fail
  refine (allNo_any _ _ (.inr ⟨_, rfl, by rw [World.cell?_alloc_at _ _ _ _ rfl]; rfl⟩)).mono ?_
  rintro e w9 ⟨rfl, rfl⟩
  go_wp2_with fail
  go_ret
  exact ⟨rfl, (T8.alloc _).below (Nat.le_refl _) (by simp)⟩

theorem agg_of {v : Value} {l : List Value} (hv : ∃ cs, v = .agg cs) (h : v.cells.toList = l) : v = .agg l.toArray := by
  obtain ⟨cs, rfl⟩ := hv
  subst h
  rfl
theorem memNone_walk' (v : Value) (d : Act) (w : World) (h : Reads w actSh v.cells.toList d) (hv : ∃ cs, v = .agg cs) : Calls Try.prog 6 #[v] w fun e w' => e = .returned (.bool true) ∧ Below w.heap.size w w' := by
  rw [agg_of hv (act_cells h).1]
  exact memNone_walk _ _ _ _ w
end Go.Proofs.Ytldiocdjgbehcaa
