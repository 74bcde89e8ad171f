/-
  Package mem's Shared, asked one thing behind the other: contracts over the list of its words (sync/atomic by the kit's laws for one goroutine).
-/
import Derived.Test.YtldiocdjgbehcaaAll
namespace Go.Proofs.Ytldiocdjgbehcaa
open Go.RowKit
/-- Block q holds the words ws, as atomic words. -/
def SWords (w : World) (q : Nat) (ws : List Int) : Prop :=
  w.heap[q]? = some (.cells (ws.map (Value.int .u64)).toArray 274 (0, 0)) ∧ ∀ x ∈ ws, 0 ≤ x ∧ x < 18446744073709551616
/-- Block p is a Shared with the words ws, which lie in block q. -/
def SharedAt (w : World) (p q : Nat) (ws : List Int) : Prop :=
  w.heap[p]? = some (.cells #[.int .i64 ws.length, .slice (some ⟨q, 0, none⟩) ws.length ws.length] 55 (0, 0)) ∧ SWords w q ws ∧ ws.length ≤ 1048576
theorem SWords.turn {w w' : World} {q : Nat} {ws : List Int} {S : List Nat} (h : SWords w q ws) (t : Turn w w' S) (hq : q ∉ S) : SWords w' q ws := ⟨t.at h.1 hq, h.2⟩
theorem SharedAt.turn {w w' : World} {p q : Nat} {ws : List Int} {S : List Nat} (h : SharedAt w p q ws) (t : Turn w w' S) (hp : p ∉ S) (hq : q ∉ S) : SharedAt w' p q ws := ⟨t.at h.1 hp, h.2.1.turn t hq, h.2.2⟩
theorem SharedAt.ne {w : World} {p q : Nat} {ws : List Int} (h : SharedAt w p q ws) : p ≠ q := by
  rintro rfl
  have := h.1.symm.trans h.2.1.1
  simp at this
theorem SharedAt.c0 {w : World} {p q : Nat} {ws : List Int} (h : SharedAt w p q ws) : w.cell? ⟨p, 0, none⟩ = some (.int .i64 ws.length) := by rw [cell_at h.1]; rfl
theorem SharedAt.c1 {w : World} {p q : Nat} {ws : List Int} (h : SharedAt w p q ws) : w.cell? ⟨p, 1, none⟩ = some (.slice (some ⟨q, 0, none⟩) ws.length ws.length) := by rw [cell_at h.1]; rfl
theorem SWords.c {w : World} {q : Nat} {ws : List Int} (h : SWords w q ws) {i : Nat} (hi : i < ws.length) : w.cell? ⟨q, i, none⟩ = some (.int .u64 (ws.getD i 0)) := by
  rw [cell_at h.1]; simp [hi, List.getD]
theorem SWords.fr {w : World} {q : Nat} {ws : List Int} (h : SWords w q ws) (i : Nat) : w.frozen? ⟨q, i, none⟩ = false := frozen_at h.1
theorem SWords.set {w : World} {q : Nat} {ws : List Int} (h : SWords w q ws) {i : Nat} {x : Int} (hx : 0 ≤ x ∧ x < 18446744073709551616) : SWords (w.setCell ⟨q, i, none⟩ (.int .u64 x)) q (ws.set i x) := by
  refine ⟨?_, fun y hy => ?_⟩
  · rw [set_at _ h.1]
    simp [List.map_set]
  · rcases List.mem_or_eq_of_mem_set hy with hy | rfl
    · exact h.2 y hy
    · exact hx
theorem SharedAt.set {w : World} {p q : Nat} {ws : List Int} (h : SharedAt w p q ws) {i : Nat} {x : Int} (hx : 0 ≤ x ∧ x < 18446744073709551616) : SharedAt (w.setCell ⟨q, i, none⟩ (.int .u64 x)) p q (ws.set i x) :=
  ⟨by rw [Below.heap_setCell _ _ _ _ h.ne]; simpa using h.1, h.2.1.set hx, by simpa using h.2.2⟩
theorem SharedAt.alloc {w : World} {p q : Nat} {ws : List Int} (h : SharedAt w p q ws) (o : Obj) : SharedAt (w.alloc o) p q ws := h.turn ((Turn.refl w []).alloc o) (by simp) (by simp)

theorem infoA : (Try.prog.info? 274).map (fun i => (i.zero, i.size, i.bytes)) = some (some (.agg #[.int .u64 0]), 1, 8) := by kernel_rfl
theorem run_make_rowA {P : Program} (t e : TypeId) (z : Value) (bytes : Nat) (ht : P.underlying t = some (.slice e)) (hinfo : (P.info? e).map (fun i => (i.zero, i.size, i.bytes)) = some (some z, 1, bytes))
    (kl kc : IntKind) (n : Nat) (hbytes : bytes * n ≤ 281474976710656) (h63 : n ≤ 9223372036854775807) (w : World) :
    (Instr.makeSlice t (.int kl (n : Int)) (.int kc (n : Int))).run P w = .ok (.slice (some ⟨w.heap.size, 0, none⟩) n n) (w.alloc (.cells (madeCells z.cells n) e)) := by
  obtain ⟨i, hi, hz, hs, hb⟩ := info_parts hinfo
  have hb' : (i.bytes : Int) * (n : Int) ≤ 281474976710656 := by
    have h : ((i.bytes * n : Nat) : Int) ≤ 281474976710656 := by rw [hb]; omega
    rwa [Int.natCast_mul] at h
  have hr := run_make (P := P) w t e i z ht hi hz kl kc n n (by omega) (Int.le_refl _) hb' (by omega)
  simp only [Int.toNat_natCast, hs, Nat.mul_one] at hr
  exact hr

set_option maxHeartbeats 400000 in
set_option maxRecDepth 100000 in
theorem newShared_any (n : Int) (w : World) :
    Calls Try.prog 38 #[.int .i64 n] w fun e w' => ∃ p q, e = .returned (.pointer (some ⟨p, 0, none⟩)) ∧ Turn w w' [] ∧ SharedAt w' p q (List.replicate (cutN n) 0) ∧ w.heap.size ≤ p ∧ w.heap.size ≤ q := by
  have hl := cutN_le n
  have hmk := run_make_rowA (P := Try.prog) 53 274 (.agg #[.int .u64 0]) 8 Try.underlying53 infoA .i64 .i64 (cutN n) (by omega) (by omega)
  rw [show (Value.agg #[.int .u64 0]).cells = #[.int .u64 0] from rfl] at hmk
  have hfld := field_size
  go_enter Try.func38, Try.ntmps38
  go_wp2_with fail
  refine (cut_any n _).mono ?_
  rintro e w1 ⟨rfl, t1⟩
  go_wp2_with fail
  refine (cut_any n _).mono ?_
  rintro e w2 ⟨rfl, t2⟩
  go_wp2_with fail
  go_ret
  have s1 := t1.size
  have s2 := t2.size
  refine ⟨_, w2.heap.size, rfl, ((t1.then_ t2).alloc _).alloc _, ⟨?_, ⟨?_, zeros_bd _⟩, by simpa using hl⟩, ?_, ?_⟩
  · rw [alloc_at' _ _ (by simp)]; simp
  · refine alloc_old _ _ ?_
    rw [alloc_at, made_u64]
  · omega
  · omega

set_option maxHeartbeats 400000 in
set_option maxRecDepth 100000 in
theorem sharedLen_any (p q : Nat) (ws : List Int) (w : World) (h : SharedAt w p q ws) :
    Calls Try.prog 40 #[.pointer (some ⟨p, 0, none⟩)] w fun e w' => e = .returned (.int .i64 ws.length) ∧ w = w' := by
  have c0 := h.c0
  go_enter Try.func40, Try.ntmps40
  go_wp2_with fail
  go_ret
  exact ⟨rfl, rfl⟩

set_option maxHeartbeats 400000 in
set_option maxRecDepth 100000 in
theorem atLoad_any (q n : Nat) (x : Int) (w : World) (hc : w.cell? ⟨q, n, none⟩ = some (.int .u64 x)) :
    Calls Try.prog 180 #[.pointer (some ⟨q, n, none⟩)] w fun e w' => e = .returned (.int .u64 x) ∧ w = w' := by
  have hl := run_call_load (P := Try.prog) Try.func201 (by kernel_rfl) (by kernel_rfl) (by kernel_rfl) .u64 (by kernel_rfl) hc
  go_enter Try.func180, Try.ntmps180
  go_wp2
  go_ret
  exact ⟨rfl, rfl⟩
set_option maxHeartbeats 400000 in
set_option maxRecDepth 100000 in
theorem atStore_any (q n : Nat) (u x : Int) (w : World) (hc : w.cell? ⟨q, n, none⟩ = some (.int .u64 u)) (hz : w.frozen? ⟨q, n, none⟩ = false) :
    Calls Try.prog 181 #[.pointer (some ⟨q, n, none⟩), .int .u64 x] w fun e w' => e = .returned (.tuple #[]) ∧ w.setCell ⟨q, n, none⟩ (.int .u64 x) = w' := by
  have hl := run_call_store (P := Try.prog) Try.func202 (by kernel_rfl) (by kernel_rfl) (by kernel_rfl) (by kernel_rfl) (k := .u64) (y := x) hc hz
  go_enter Try.func181, Try.ntmps181
  go_wp2
  go_returns
  exact ⟨rfl, rfl⟩
set_option maxHeartbeats 400000 in
set_option maxRecDepth 100000 in
theorem atAdd_any (q n : Nat) (u x : Int) (w : World) (hc : w.cell? ⟨q, n, none⟩ = some (.int .u64 u)) (hz : w.frozen? ⟨q, n, none⟩ = false) :
    Calls Try.prog 179 #[.pointer (some ⟨q, n, none⟩), .int .u64 x] w fun e w' => e = .returned (.int .u64 (IntKind.u64.wrap (u + x))) ∧ w.setCell ⟨q, n, none⟩ (.int .u64 (IntKind.u64.wrap (u + x))) = w' := by
  have hl := run_call_add (P := Try.prog) Try.func200 (by kernel_rfl) (by kernel_rfl) (by kernel_rfl) .u64 (by kernel_rfl) (y := x) (s := IntKind.u64.wrap (u + x)) hc hz rfl
  generalize IntKind.u64.wrap (u + x) = s at *
  go_enter Try.func179, Try.ntmps179
  go_wp2
  go_ret
  exact ⟨rfl, rfl⟩
set_option maxHeartbeats 400000 in
set_option maxRecDepth 100000 in
theorem atCas_hit (q n : Nat) (x y : Int) (w : World) (hc : w.cell? ⟨q, n, none⟩ = some (.int .u64 x)) (hz : w.frozen? ⟨q, n, none⟩ = false) :
    Calls Try.prog 178 #[.pointer (some ⟨q, n, none⟩), .int .u64 x, .int .u64 y] w fun e w' => e = .returned (.bool true) ∧ w.setCell ⟨q, n, none⟩ (.int .u64 y) = w' := by
  have hl := run_call_cas_hit (P := Try.prog) Try.func199 (by kernel_rfl) (by kernel_rfl) (by kernel_rfl) .u64 (by kernel_rfl) (y := y) hc hz
  go_enter Try.func178, Try.ntmps178
  go_wp2
  go_ret
  exact ⟨rfl, rfl⟩
set_option maxHeartbeats 400000 in
set_option maxRecDepth 100000 in
theorem atCas_miss (q n : Nat) (u x y : Int) (w : World) (hc : w.cell? ⟨q, n, none⟩ = some (.int .u64 u)) (hz : w.frozen? ⟨q, n, none⟩ = false) (hne : ¬ u = x) :
    Calls Try.prog 178 #[.pointer (some ⟨q, n, none⟩), .int .u64 x, .int .u64 y] w fun e w' => e = .returned (.bool false) ∧ w = w' := by
  have hl := run_call_cas_miss (P := Try.prog) Try.func199 (by kernel_rfl) (by kernel_rfl) (by kernel_rfl) .u64 (by kernel_rfl) (o := x) (y := y) hc hz hne
  go_enter Try.func178, Try.ntmps178
  go_wp2
  go_ret
  exact ⟨rfl, rfl⟩

set_option maxHeartbeats 400000 in
set_option maxRecDepth 100000 in
theorem sharedLoad_any (p q : Nat) (ws : List Int) (a : Int) (w : World) (h : SharedAt w p q ws) :
    Calls Try.prog 133 #[.pointer (some ⟨p, 0, none⟩), .int .i64 a] w fun e w' => e = .returned (.int .u64 (mLoad ws a)) ∧ Turn w w' [] := by
  have c0 := h.c0
  have c1 := h.c1
  have hlen := h.2.2
  have hp := at_lt h.1
  by_cases hh : 0 ≤ a ∧ a < (ws.length : Int)
  · obtain ⟨n, rfl⟩ := Int.eq_ofNat_of_zero_le hh.1
    have hn : n < ws.length := by omega
    have hb := hasPlain n ws.length (by omega) (by omega)
    have c2 := h.2.1.c hn
    rw [load_hit]
    generalize ws.getD n 0 = x at *
    have hq := at_lt h.2.1.1
    go_enter Try.func133, Try.ntmps133
    go_wp2_with fail
    refine (has_any _ _ _).mono ?_
    rintro e w1 ⟨rfl, rfl⟩
    rw [hb]
    go_wp2_with fail
    refine (atLoad_any q n x _ (by rw [World.cell?_alloc_past _ _ _ hq]; exact c2)).mono ?_
    rintro e w1 ⟨rfl, rfl⟩
    go_wp2_with fail
    go_ret
    exact ⟨rfl, (Turn.refl _ _).alloc _⟩
  · have hb := hasPlain' a ws.length hh
    rw [load_miss hh]
    go_enter Try.func133, Try.ntmps133
    go_wp2_with fail
    refine (has_any _ _ _).mono ?_
    rintro e w1 ⟨rfl, rfl⟩
    rw [hb]
    go_wp2_with fail
    go_ret
    exact ⟨rfl, (Turn.refl _ _).alloc _⟩

set_option maxHeartbeats 400000 in
set_option maxRecDepth 100000 in
theorem sharedStore_any (p q : Nat) (ws : List Int) (a x : Int) (w : World) (h : SharedAt w p q ws) (hx : 0 ≤ x ∧ x < 18446744073709551616) :
    Calls Try.prog 134 #[.pointer (some ⟨p, 0, none⟩), .int .i64 a, .int .u64 x] w fun e w' => e = .returned (.tuple #[]) ∧ Turn w w' [q] ∧ SharedAt w' p q (mStore ws a x) := by
  have c0 := h.c0
  have c1 := h.c1
  have hlen := h.2.2
  have hp := at_lt h.1
  by_cases hh : 0 ≤ a ∧ a < (ws.length : Int)
  · obtain ⟨n, rfl⟩ := Int.eq_ofNat_of_zero_le hh.1
    have hn : n < ws.length := by omega
    have hb := hasPlain n ws.length (by omega) (by omega)
    have c2 := h.2.1.c hn
    have f2 := h.2.1.fr n
    rw [store_hit]
    generalize ws.getD n 0 = y at *
    have hq := at_lt h.2.1.1
    go_enter Try.func134, Try.ntmps134
    go_wp2_with fail
    refine (has_any _ _ _).mono ?_
    rintro e w1 ⟨rfl, rfl⟩
    rw [hb]
    go_wp2_with fail
    refine (atStore_any q n y x _ (by rw [World.cell?_alloc_past _ _ _ hq]; exact c2) (by rw [World.frozen?_alloc_past _ _ _ hq]; exact f2)).mono ?_
    rintro e w1 ⟨rfl, rfl⟩
    go_wp2_with fail
    go_returns
    refine ⟨rfl, ?_, ?_⟩
    · (repeat (first | exact Turn.refl _ _ | refine Turn.alloc ?_ _ | refine Turn.setCell ?_ (.inl (by simp)) _))
    · (repeat (first | exact h | refine SharedAt.alloc ?_ _ | refine SharedAt.set ?_ hx))
  · have hb := hasPlain' a ws.length hh
    rw [store_miss hh]
    go_enter Try.func134, Try.ntmps134
    go_wp2_with fail
    refine (has_any _ _ _).mono ?_
    rintro e w1 ⟨rfl, rfl⟩
    rw [hb]
    go_wp2_with fail
    go_returns
    exact ⟨rfl, (Turn.refl _ _).alloc _, h.alloc _⟩

set_option maxHeartbeats 400000 in
set_option maxRecDepth 100000 in
theorem sharedCas_any (p q : Nat) (ws : List Int) (a x y : Int) (w : World) (h : SharedAt w p q ws) (hy : 0 ≤ y ∧ y < 18446744073709551616) :
    Calls Try.prog 128 #[.pointer (some ⟨p, 0, none⟩), .int .i64 a, .int .u64 x, .int .u64 y] w fun e w' => e = .returned (.bool (mCas ws a x)) ∧ Turn w w' [q] ∧ SharedAt w' p q (mCasTo ws a x y) := by
  have c0 := h.c0
  have c1 := h.c1
  have hlen := h.2.2
  have hp := at_lt h.1
  by_cases hh : 0 ≤ a ∧ a < (ws.length : Int)
  · obtain ⟨n, rfl⟩ := Int.eq_ofNat_of_zero_le hh.1
    have hn : n < ws.length := by omega
    have hb := hasPlain n ws.length (by omega) (by omega)
    have c2 := h.2.1.c hn
    have f2 := h.2.1.fr n
    have hq := at_lt h.2.1.1
    have hH := mHas_true (ws := ws) (a := n) (by omega) (by omega)
    have hL : mLoad ws n = ws.getD n 0 := load_hit
    by_cases he : ws.getD n 0 = x
    · have e1 : mCas ws n x = true := by unfold mCas; rw [hH, hL, he]; simp
      have e2 : mCasTo ws n x y = ws.set n y := by simp [mCasTo, e1, store_hit]
      rw [e1, e2]
      clear e1 e2 hL hH
      have hne : (ws.getD n 0 != x) = false := by rw [he]; simp
      generalize ws.getD n 0 = z at *
      have HE := hid he
      clear he
      go_enter Try.func128, Try.ntmps128
      go_wp2_with fail
      refine (has_any _ _ _).mono ?_
      rintro e w1 ⟨rfl, rfl⟩
      rw [hb]
      go_wp2_with fail
      obtain rfl := HE.out
      refine (atCas_hit q n z y _ (by rw [World.cell?_alloc_past _ _ _ hq]; exact c2) (by rw [World.frozen?_alloc_past _ _ _ hq]; exact f2)).mono ?_
      rintro e w1 ⟨rfl, rfl⟩
      go_wp2_with fail
      go_returns
      refine ⟨rfl, ?_, ?_⟩
      · (repeat (first | exact Turn.refl _ _ | refine Turn.alloc ?_ _ | refine Turn.setCell ?_ (.inl (by simp)) _))
      · (repeat (first | exact h | refine SharedAt.alloc ?_ _ | refine SharedAt.set ?_ hy))
    · have e1 : mCas ws n x = false := by unfold mCas; rw [hH, hL]; simpa using he
      have e2 : mCasTo ws n x y = ws := by simp [mCasTo, e1]
      rw [e1, e2]
      clear e1 e2 hL hH
      have hne : (ws.getD n 0 != x) = true := by simpa using he
      generalize ws.getD n 0 = z at *
      have HE := hid he
      clear he
      go_enter Try.func128, Try.ntmps128
      go_wp2_with fail
      refine (has_any _ _ _).mono ?_
      rintro e w1 ⟨rfl, rfl⟩
      rw [hb]
      go_wp2_with fail
      refine (atCas_miss q n z x y _ (by rw [World.cell?_alloc_past _ _ _ hq]; exact c2) (by rw [World.frozen?_alloc_past _ _ _ hq]; exact f2) HE.out).mono ?_
      rintro e w1 ⟨rfl, rfl⟩
      go_wp2_with fail
      go_returns
      exact ⟨rfl, (Turn.refl _ _).alloc _, h.alloc _⟩
  · have hb := hasPlain' a ws.length hh
    have e1 : mCas ws a x = false := by simp only [mCas, mHas, hb, Bool.false_and]
    have e2 : mCasTo ws a x y = ws := by simp [mCasTo, e1]
    rw [e1, e2]
    clear e1 e2
    go_enter Try.func128, Try.ntmps128
    go_wp2_with fail
    refine (has_any _ _ _).mono ?_
    rintro e w1 ⟨rfl, rfl⟩
    rw [hb]
    go_wp2_with fail
    go_ret
    exact ⟨rfl, (Turn.refl _ _).alloc _, h.alloc _⟩

set_option maxHeartbeats 400000 in
set_option maxRecDepth 100000 in
theorem sharedAdd_any (p q : Nat) (ws : List Int) (a d : Int) (w : World) (h : SharedAt w p q ws) :
    Calls Try.prog 129 #[.pointer (some ⟨p, 0, none⟩), .int .i64 a, .int .u64 d] w fun e w' => e = .returned (.int .u64 (mSum ws a d)) ∧ Turn w w' [q] ∧ SharedAt w' p q (mAddTo ws a d) := by
  have c0 := h.c0
  have c1 := h.c1
  have hlen := h.2.2
  have hp := at_lt h.1
  by_cases hh : 0 ≤ a ∧ a < (ws.length : Int)
  · obtain ⟨n, rfl⟩ := Int.eq_ofNat_of_zero_le hh.1
    have hn : n < ws.length := by omega
    have hb := hasPlain n ws.length (by omega) (by omega)
    have c2 := h.2.1.c hn
    have f2 := h.2.1.fr n
    have hq := at_lt h.2.1.1
    have hH := mHas_true (ws := ws) (a := n) (by omega) (by omega)
    have e1 : mSum ws n d = IntKind.u64.wrap (ws.getD n 0 + d) := by rw [IntKind.wrap_u64]; simp only [mSum, hH, if_true, load_hit]
    have e2 : mAddTo ws n d = ws.set n (IntKind.u64.wrap (ws.getD n 0 + d)) := by rw [IntKind.wrap_u64]; simp only [mAddTo, hH, if_true, load_hit, store_hit]
    have hy : 0 ≤ IntKind.u64.wrap (ws.getD n 0 + d) ∧ IntKind.u64.wrap (ws.getD n 0 + d) < 18446744073709551616 := by rw [IntKind.wrap_u64]; omega
    rw [e1, e2]
    clear e1 e2 hH
    generalize ws.getD n 0 = z at *
    obtain ⟨s, hs⟩ : ∃ s, IntKind.u64.wrap (z + d) = s := ⟨_, rfl⟩
    rw [hs] at hy ⊢
    have HS := hid hs
    clear hs
    go_enter Try.func129, Try.ntmps129
    go_wp2_with fail
    refine (has_any _ _ _).mono ?_
    rintro e w1 ⟨rfl, rfl⟩
    rw [hb]
    go_wp2_with fail
    refine (atAdd_any q n z d _ (by rw [World.cell?_alloc_past _ _ _ hq]; exact c2) (by rw [World.frozen?_alloc_past _ _ _ hq]; exact f2)).mono ?_
    rintro e w1 ⟨rfl, rfl⟩
    rw [HS.out]
    go_wp2_with fail
    go_returns
    refine ⟨rfl, ?_, ?_⟩
    · (repeat (first | exact Turn.refl _ _ | refine Turn.alloc ?_ _ | refine Turn.setCell ?_ (.inl (by simp)) _))
    · (repeat (first | exact h | refine SharedAt.alloc ?_ _ | refine SharedAt.set ?_ hy))
  · have hb := hasPlain' a ws.length hh
    have e1 : mSum ws a d = 0 := by simp only [mSum, mHas, hb]; rfl
    have e2 : mAddTo ws a d = ws := by simp only [mAddTo, mHas, hb]; rfl
    rw [e1, e2]
    clear e1 e2
    go_enter Try.func129, Try.ntmps129
    go_wp2_with fail
    refine (has_any _ _ _).mono ?_
    rintro e w1 ⟨rfl, rfl⟩
    rw [hb]
    go_wp2_with fail
    go_ret
    exact ⟨rfl, (Turn.refl _ _).alloc _, h.alloc _⟩

end Go.Proofs.Ytldiocdjgbehcaa
