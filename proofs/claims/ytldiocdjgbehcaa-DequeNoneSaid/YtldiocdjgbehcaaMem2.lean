/-
  The reference's memory asked (New, Do), and a Plain asked likewise (soughlaw22.plain): one description of both, over the list of words.
-/
import Derived.Test.YtldiocdjgbehcaaMem
namespace Go.Proofs.Ytldiocdjgbehcaa
open Go.RowKit
/-- What an operation tells, and the words then. -/
def doV (ws : List Int) (k at_ a : Int) : Int := if k = 1 then mLoad ws at_ else if k = 2 ∨ k = 3 then 0 else mSum ws at_ a
def doIs (ws : List Int) (k at_ a : Int) : Bool := if k = 3 then mCas ws at_ a else false
def doTo (ws : List Int) (k at_ a b : Int) : List Int := if k = 1 then ws else if k = 2 then mStore ws at_ a else if k = 3 then mCasTo ws at_ a b else mAddTo ws at_ a
theorem doTo_length (ws : List Int) (k t a b : Int) : (doTo ws k t a b).length = ws.length := by
  unfold doTo
  split
  · rfl
  · split
    · exact mStore_length _ _ _
    · split
      · exact mCasTo_length _ _ _ _
      · exact mAddTo_length _ _ _

theorem RefAt.c0 {w : World} {p q : Nat} {ws : List Int} (h : RefAt w p q ws) : w.cell? ⟨p, 0, none⟩ = some (.slice (some ⟨q, 0, none⟩) ws.length ws.length) := by rw [cell_at h.1]; rfl
theorem RefAt.set {w : World} {p q : Nat} {ws : List Int} (h : RefAt w p q ws) {i : Nat} {x : Int} (hx : 0 ≤ x ∧ x < 18446744073709551616) : RefAt (w.setCell ⟨q, i, none⟩ (.int .u64 x)) p q (ws.set i x) :=
  ⟨by rw [Below.heap_setCell _ _ _ _ h.ne]; simpa using h.1, h.2.1.set hx, by simpa using h.2.2⟩
theorem RefAt.alloc {w : World} {p q : Nat} {ws : List Int} (h : RefAt w p q ws) (o : Obj) : RefAt (w.alloc o) p q ws := h.turn ((Turn.refl _ []).alloc o) (by simp) (by simp)
theorem RefAt.drewN {w : World} {p q : Nat} {ws : List Int} (h : RefAt w p q ws) (n : Nat) : RefAt (w.drewN n) p q ws := h.turn ((Turn.refl _ []).drewN n) (by simp) (by simp)
theorem RefAt.drew {w : World} {p q : Nat} {ws : List Int} (h : RefAt w p q ws) : RefAt w.drew p q ws := h.turn ((Turn.refl _ []).drew) (by simp) (by simp)

set_option maxHeartbeats 400000 in
set_option maxRecDepth 100000 in
theorem refHas_any (p q : Nat) (ws : List Int) (a : Int) (w : World) (h : RefAt w p q ws) :
    Calls Try.prog 132 #[.pointer (some ⟨p, 0, none⟩), .int .i64 a] w fun e w' => e = .returned (.bool (mHas ws a)) ∧ w = w' := by
  have c0 := h.c0
  by_cases hh : 0 ≤ a
  · go_enter Try.func132, Try.ntmps132
    go_wp2_with fail
    go_ret
    exact ⟨by simp [mHas, hh], rfl⟩
  · have h' : decide (0 ≤ a) = false := by simpa using hh
    go_enter Try.func132, Try.ntmps132
    go_wp2_with fail
    go_ret
    exact ⟨by simp [mHas, h'], rfl⟩

set_option maxHeartbeats 400000 in
set_option maxRecDepth 100000 in
theorem newRef_any (n : Int) (w : World) :
    Calls Try.prog 31 #[.int .i64 n] w fun e w' => ∃ p q, e = .returned (.pointer (some ⟨p, 0, none⟩)) ∧ Turn w w' [] ∧ RefAt w' p q (List.replicate (cutN n) 0) ∧ w.heap.size ≤ p ∧ w.heap.size ≤ q := by
  have hl := cutN_le n
  obtain ⟨c, hc⟩ : ∃ c, c = cutN n := ⟨_, rfl⟩
  rw [← hc] at hl ⊢
  have hmk := run_make_row' (P := Try.prog) 40 32 (.int .u64 0) 8 Try.underlying40 infoU rfl .i64 .i64 c (by omega) (by omega)
  have hcase : (n < 0 ∧ (c : Int) = 0) ∨ (0 ≤ n ∧ 1048576 < n ∧ (c : Int) = 1048576) ∨ (0 ≤ n ∧ n ≤ 1048576 ∧ (c : Int) = n) := by unfold cutN at hc; omega
  clear hc
  rcases hcase with ⟨g, g2⟩ | ⟨g, g1, g2⟩ | ⟨g, g1, g2⟩
  all_goals
    rw [g2] at hmk
    clear g2
    go_enter Try.func31, Try.ntmps31
    go_wp2_with fail
    go_ret
    refine ⟨_, w.heap.size, rfl, ((Turn.refl _ _).alloc _).alloc _, ⟨?_, ⟨?_, zeros_bd _⟩, by rw [List.length_replicate]; exact hl⟩, ?_, ?_⟩
    · rw [alloc_at' _ _ (by simp)]; simp only [List.length_replicate]
    · refine alloc_old _ _ ?_
      rw [alloc_at, made_u64]
    · simp
    · simp

theorem results_tmp2' {fn : Func} {t u : Tmp} (h : fn.results = #[.tmp t, .tmp u]) (tmps : Array Value) (P : Program) (w : World) :
    (results fn tmps).run P w = .ok (.tuple #[tmps.getD t undef, tmps.getD u undef]) w := by simp [results, h]

set_option maxHeartbeats 400000 in
set_option maxRecDepth 100000 in
theorem plain_any (p q : Nat) (ws : List Int) (k t a b : Int) (w : World) (h : PlainAt w p q ws) (ha : 0 ≤ a ∧ a < 18446744073709551616) (hb : 0 ≤ b ∧ b < 18446744073709551616) :
    Calls Try.prog 33 #[.pointer (some ⟨p, 0, none⟩), .agg #[.int .i64 k, .int .i64 t, .int .u64 a, .int .u64 b]] w fun e w' =>
      e = .returned (.tuple #[.int .u64 (doV ws k t a), .bool (doIs ws k t a)]) ∧ Turn w w' [q] ∧ PlainAt w' p q (doTo ws k t a b) := by
  have hx := h.alloc (.cells #[.int .i64 k, .int .i64 t, .int .u64 a, .int .u64 b] 34)
  have ht := (Turn.refl w [q]).alloc (.cells #[.int .i64 k, .int .i64 t, .int .u64 a, .int .u64 b] 34)
  by_cases h1 : k = 1
  · subst h1
    go_enter Try.func33, Try.ntmps33
    go_wp2_with fail
    refine (plainLoad_any p q ws t _ hx).mono ?_
    rintro e w1 ⟨rfl, t1⟩
    go_wp2_with fail
    go_ret2
    exact ⟨by simp [doV, doIs], ht.then_ (t1.mono (by simp)), by simpa [doTo] using hx.turn t1 (by simp) (by simp)⟩
  · have b1 : (k == 1) = false := by simpa using h1
    by_cases h2 : k = 2
    · subst h2
      go_enter Try.func33, Try.ntmps33
      go_wp2_with fail
      refine (plainStore_any p q ws t a _ hx ha).mono ?_
      rintro e w1 ⟨rfl, t1, p1⟩
      go_wp2_with fail
      go_ret2
      exact ⟨by simp [doV, doIs], ht.then_ t1, by simpa [doTo] using p1⟩
    · have b2 : (k == 2) = false := by simpa using h2
      by_cases h3 : k = 3
      · subst h3
        go_enter Try.func33, Try.ntmps33
        go_wp2_with fail
        refine (plainCas_any p q ws t a b _ hx hb).mono ?_
        rintro e w1 ⟨rfl, t1, p1⟩
        go_wp2_with fail
        go_ret2
        exact ⟨by simp [doV, doIs], ht.then_ t1, by simpa [doTo] using p1⟩
      · have b3 : (k == 3) = false := by simpa using h3
        have e1 : doV ws k t a = mSum ws t a := by simp [doV, h1, h2, h3]
        have e2 : doIs ws k t a = false := by simp [doIs, h3]
        have e3 : doTo ws k t a b = mAddTo ws t a := by simp [doTo, h1, h2, h3]
        rw [e1, e2, e3]
        clear e1 e2 e3 h1 h2 h3
        go_enter Try.func33, Try.ntmps33
        go_wp2_with fail
        refine (plainAdd_any p q ws t a _ hx).mono ?_
        rintro e w1 ⟨rfl, t1, p1⟩
        go_wp2_with fail
        go_ret2
        exact ⟨rfl, ht.then_ t1, p1⟩

theorem do_miss {ws : List Int} {k t a b : Int} (h : mHas ws t = false) : doV ws k t a = 0 ∧ doIs ws k t a = false ∧ doTo ws k t a b = ws := by
  have hh : ¬ (0 ≤ t ∧ t < (ws.length : Int)) := by
    intro hh; rw [mHas_true hh.1 hh.2] at h; cases h
  refine ⟨?_, ?_, ?_⟩
  · unfold doV; rw [load_miss hh]; simp [mSum, h]
  · simp [doIs, mCas, h]
  · unfold doTo; rw [store_miss hh]; simp [mCasTo, mCas, mAddTo, h]

set_option maxHeartbeats 800000 in
set_option maxRecDepth 100000 in
theorem do_any (p q : Nat) (ws : List Int) (k t a b : Int) (w : World) (h : RefAt w p q ws) (ha : 0 ≤ a ∧ a < 18446744073709551616) (hb : 0 ≤ b ∧ b < 18446744073709551616) :
    Calls Try.prog 34 #[.pointer (some ⟨p, 0, none⟩), .agg #[.int .i64 k, .int .i64 t, .int .u64 a, .int .u64 b]] w fun e w' =>
      e = .returned (.tuple #[.int .u64 (doV ws k t a), .bool (doIs ws k t a)]) ∧ Turn w w' [q] ∧ RefAt w' p q (doTo ws k t a b) := by
  have hx := h.alloc (.cells #[.int .i64 k, .int .i64 t, .int .u64 a, .int .u64 b] 34)
  have ht := (Turn.refl w [q]).alloc (.cells #[.int .i64 k, .int .i64 t, .int .u64 a, .int .u64 b] 34)
  have hlen := h.2.2
  have hp := at_lt h.1
  have hq := at_lt h.2.1.1
  have c0 := h.c0
  rcases hh' : mHas ws t with _ | _
  · obtain ⟨e1, e2, e3⟩ := do_miss (k := k) (a := a) (b := b) hh'
    rw [e1, e2, e3]
    go_enter Try.func34, Try.ntmps34
    go_wp2_with fail
    refine (refHas_any p q ws t _ hx).mono ?_
    rintro e w1 ⟨rfl, rfl⟩
    rw [hh']
    go_wp2_with fail
    go_ret2
    exact ⟨rfl, ht, hx⟩
  · have hh : 0 ≤ t ∧ t < (ws.length : Int) := by simpa [mHas] using hh'
    obtain ⟨n, rfl⟩ := Int.eq_ofNat_of_zero_le hh.1
    have hn : n < ws.length := by omega
    have c2 := h.2.1.c hn
    have f2 := h.2.1.fr n
    have hz := h.2.1.bd n
    have i1 : (0 : Int) ≤ (n : Int) := by omega
    have i2 : (n : Int) < (ws.length : Int) := by omega
    by_cases h1 : k = 1
    · subst h1
      have e1 : doV ws 1 n a = ws.getD n 0 := by simp [doV, load_hit]
      rw [e1, show doIs ws 1 n a = false from rfl, show doTo ws 1 n a b = ws from rfl]
      clear e1
      generalize ws.getD n 0 = z at *
      go_enter Try.func34, Try.ntmps34
      go_wp2_with fail
      refine (refHas_any p q ws n _ hx).mono ?_
      rintro e w1 ⟨rfl, rfl⟩
      rw [hh']
      go_wp2_with fail
      go_quiet (fail)
      go_wp2_with fail
      go_ret2
      exact ⟨rfl, ht.drewN _, hx.drewN _⟩
    · have b1 : (k == 1) = false := by simpa using h1
      by_cases h2 : k = 2
      · subst h2
        have e3 : doTo ws 2 n a b = ws.set n a := by simp [doTo, store_hit]
        rw [e3, show doIs ws 2 n a = false from rfl, show doV ws 2 n a = 0 from rfl]
        clear e3
        generalize ws.getD n 0 = z at *
        go_enter Try.func34, Try.ntmps34
        go_wp2_with fail
        refine (refHas_any p q ws n _ hx).mono ?_
        rintro e w1 ⟨rfl, rfl⟩
        rw [hh']
        go_wp2_with fail
        go_region
        go_wp2_with fail
        go_ret2
        refine ⟨rfl, ?_, ?_⟩
        · (repeat (first | exact Turn.refl _ _ | refine Turn.drew ?_ | refine Turn.drewN ?_ _ | refine Turn.alloc ?_ _ | refine Turn.setCell ?_ (.inl (by simp)) _))
        · (repeat (first | exact h | refine RefAt.drew ?_ | refine RefAt.drewN ?_ _ | refine RefAt.alloc ?_ _ | refine RefAt.set ?_ ha))
      · have b2 : (k == 2) = false := by simpa using h2
        by_cases h3 : k = 3
        · subst h3
          by_cases he : ws.getD n 0 = a
          · have e1 : mCas ws n a = true := by unfold mCas; rw [hh', load_hit, he]; simp
            have e3 : doTo ws 3 n a b = ws.set n b := by simp [doTo, mCasTo, e1, store_hit]
            rw [e3, show doIs ws 3 n a = true from e1, show doV ws 3 n a = 0 from rfl]
            clear e1 e3
            have hne : (ws.getD n 0 == a) = true := by rw [he]; simp
            generalize ws.getD n 0 = z at *
            clear he
            go_enter Try.func34, Try.ntmps34
            go_wp2_with fail
            refine (refHas_any p q ws n _ hx).mono ?_
            rintro e w1 ⟨rfl, rfl⟩
            rw [hh']
            go_wp2_with fail
            go_quiet (fail)
            go_wp2_with fail
            go_region
            go_wp2_with fail
            go_ret2
            refine ⟨rfl, ?_, ?_⟩
            · (repeat (first | exact Turn.refl _ _ | refine Turn.drew ?_ | refine Turn.drewN ?_ _ | refine Turn.alloc ?_ _ | refine Turn.setCell ?_ (.inl (by simp)) _))
            · (repeat (first | exact h | refine RefAt.drew ?_ | refine RefAt.drewN ?_ _ | refine RefAt.alloc ?_ _ | refine RefAt.set ?_ hb))
          · have e1 : mCas ws n a = false := by unfold mCas; rw [hh', load_hit]; simpa using he
            have e3 : doTo ws 3 n a b = ws := by simp [doTo, mCasTo, e1]
            rw [e3, show doIs ws 3 n a = false from e1, show doV ws 3 n a = 0 from rfl]
            clear e1 e3
            have hne : (ws.getD n 0 == a) = false := by simpa using he
            generalize ws.getD n 0 = z at *
            clear he
            go_enter Try.func34, Try.ntmps34
            go_wp2_with fail
            refine (refHas_any p q ws n _ hx).mono ?_
            rintro e w1 ⟨rfl, rfl⟩
            rw [hh']
            go_wp2_with fail
            go_quiet (fail)
            go_wp2_with fail
            go_ret2
            refine ⟨rfl, ?_, ?_⟩
            · (repeat (first | exact Turn.refl _ _ | refine Turn.drew ?_ | refine Turn.drewN ?_ _ | refine Turn.alloc ?_ _ | refine Turn.setCell ?_ (.inl (by simp)) _))
            · (repeat (first | exact h | refine RefAt.drew ?_ | refine RefAt.drewN ?_ _ | refine RefAt.alloc ?_ _ | refine RefAt.set ?_ hb))
        · have b3 : (k == 3) = false := by simpa using h3
          have e1 : mSum ws n a = IntKind.u64.wrap (ws.getD n 0 + a) := by rw [IntKind.wrap_u64]; simp only [mSum, hh', if_true, load_hit]
          have e2 : mAddTo ws n a = ws.set n (IntKind.u64.wrap (ws.getD n 0 + a)) := by rw [IntKind.wrap_u64]; simp only [mAddTo, hh', if_true, load_hit, store_hit]
          have hy : 0 ≤ IntKind.u64.wrap (ws.getD n 0 + a) ∧ IntKind.u64.wrap (ws.getD n 0 + a) < 18446744073709551616 := by rw [IntKind.wrap_u64]; omega
          have e4 : doV ws k n a = mSum ws n a := by simp [doV, h1, h2, h3]
          have e5 : doIs ws k n a = false := by simp [doIs, h3]
          have e6 : doTo ws k n a b = mAddTo ws n a := by simp [doTo, h1, h2, h3]
          rw [e4, e5, e6, e1, e2]
          clear e1 e2 e4 e5 e6 h1 h2 h3
          generalize ws.getD n 0 = z at *
          obtain ⟨s, hs⟩ : ∃ s, IntKind.u64.wrap (z + a) = s := ⟨_, rfl⟩
          rw [hs] at hy ⊢
          have c3 : (w.setCell ⟨q, n, none⟩ (.int .u64 s)).cell? ⟨q, n, none⟩ = some (.int .u64 s) := World.cell?_setCell_same _ _ _ c2
          have c4 : (w.setCell ⟨q, n, none⟩ (.int .u64 s)).cell? ⟨p, 0, none⟩ = some (.slice (some ⟨q, 0, none⟩) ws.length ws.length) := by
            rw [World.cell?_setCell_other _ _ _ _ (fun e => h.ne (congrArg Addr.block e).symm)]; exact c0
          go_enter Try.func34, Try.ntmps34
          go_wp2_with fail
          refine (refHas_any p q ws n _ hx).mono ?_
          rintro e w1 ⟨rfl, rfl⟩
          rw [hh']
          go_wp2_with fail
          go_region
          go_wp2_with fail
          go_quiet (fail)
          go_wp2_with fail
          go_ret2
          refine ⟨rfl, ?_, ?_⟩
          · (repeat (first | exact Turn.refl _ _ | refine Turn.drew ?_ | refine Turn.drewN ?_ _ | refine Turn.alloc ?_ _ | refine Turn.setCell ?_ (.inl (by simp)) _))
          · (repeat (first | exact h | refine RefAt.drew ?_ | refine RefAt.drewN ?_ _ | refine RefAt.alloc ?_ _ | refine RefAt.set ?_ hy))
end Go.Proofs.Ytldiocdjgbehcaa
