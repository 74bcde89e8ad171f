/-
  Package mem's Plain, and the reference's memory: contracts of what they are asked, over the list of their words.
-/
import Derived.Test.YtldiocdjgbehcaaTurn
import Derived.Test.YtldiocdjgbehcaaInts
namespace Go.Proofs.Ytldiocdjgbehcaa
open Go.RowKit
/-- Block q holds the words ws. -/
def Words (w : World) (q : Nat) (ws : List Int) : Prop :=
  w.heap[q]? = some (.cells (ws.map (Value.int .u64)).toArray 32 (0, 0)) ∧ ∀ x ∈ ws, 0 ≤ x ∧ x < 18446744073709551616
/-- Block p is a Plain with the words ws, which lie in block q. -/
def PlainAt (w : World) (p q : Nat) (ws : List Int) : Prop :=
  w.heap[p]? = some (.cells #[.int .i64 ws.length, .slice (some ⟨q, 0, none⟩) ws.length ws.length] 52 (0, 0)) ∧ Words w q ws ∧ ws.length ≤ 1048576

theorem Words.turn {w w' : World} {q : Nat} {ws : List Int} {S : List Nat} (h : Words w q ws) (t : Turn w w' S) (hq : q ∉ S) : Words w' q ws := ⟨t.at h.1 hq, h.2⟩
theorem PlainAt.turn {w w' : World} {p q : Nat} {ws : List Int} {S : List Nat} (h : PlainAt w p q ws) (t : Turn w w' S) (hp : p ∉ S) (hq : q ∉ S) : PlainAt w' p q ws := ⟨t.at h.1 hp, h.2.1.turn t hq, h.2.2⟩
theorem PlainAt.ne {w : World} {p q : Nat} {ws : List Int} (h : PlainAt w p q ws) : p ≠ q := by
  rintro rfl
  have := h.1.symm.trans h.2.1.1
  simp at this

def mHas (ws : List Int) (a : Int) : Bool := decide (0 ≤ a) && decide (a < ws.length)
def mLoad (ws : List Int) (a : Int) : Int := if a < 0 then 0 else ws.getD a.toNat 0
def mStore (ws : List Int) (a x : Int) : List Int := if a < 0 then ws else ws.set a.toNat x


/-- Block p is the reference's memory with the words ws, which lie in block q. -/
def RefAt (w : World) (p q : Nat) (ws : List Int) : Prop :=
  w.heap[p]? = some (.cells #[.slice (some ⟨q, 0, none⟩) ws.length ws.length] 42 (0, 0)) ∧ Words w q ws ∧ ws.length ≤ 1048576
theorem RefAt.turn {w w' : World} {p q : Nat} {ws : List Int} {S : List Nat} (h : RefAt w p q ws) (t : Turn w w' S) (hp : p ∉ S) (hq : q ∉ S) : RefAt w' p q ws := ⟨t.at h.1 hp, h.2.1.turn t hq, h.2.2⟩
theorem RefAt.ne {w : World} {p q : Nat} {ws : List Int} (h : RefAt w p q ws) : p ≠ q := by
  rintro rfl
  have := h.1.symm.trans h.2.1.1
  simp at this
def cutN (n : Int) : Nat := (min (max n 0) 1048576).toNat
theorem cutN_le (n : Int) : cutN n ≤ 1048576 := by unfold cutN; omega
theorem infoU : (Try.prog.info? 32).map (fun i => (i.zero, i.size, i.bytes)) = some (some (.int .u64 0), 1, 8) := by kernel_rfl

set_option maxHeartbeats 400000 in
set_option maxRecDepth 100000 in
theorem has_any (n a : Int) (w : World) :
    Calls Try.prog 135 #[.agg #[.int .i64 n], .int .i64 a] w fun e w' => e = .returned (.bool (decide (0 ≤ a) && decide (a < n))) ∧ w.alloc (.cells #[.int .i64 n] 50) = w' := by
  by_cases h : 0 ≤ a
  · go_enter Try.func135, Try.ntmps135
    go_wp2
    go_ret
    exact ⟨by simp [h], rfl⟩
  · have h' : decide (0 ≤ a) = false := by simpa using h
    go_enter Try.func135, Try.ntmps135
    go_wp2
    go_ret
    exact ⟨by simp, rfl⟩
set_option maxHeartbeats 400000 in
set_option maxRecDepth 100000 in
theorem cut_any (n : Int) (w : World) :
    Calls Try.prog 130 #[.int .i64 n] w fun e w' => e = .returned (.agg #[.int .i64 (cutN n)]) ∧ Turn w w' [] := by
  have hc : (cutN n : Int) = min (max n 0) 1048576 := by unfold cutN; omega
  rw [hc]
  clear hc
  rcases (by omega : n < 0 ∨ (0 ≤ n ∧ 1048576 < n) ∨ (0 ≤ n ∧ n ≤ 1048576)) with h | ⟨h, h1⟩ | ⟨h, h1⟩
  · rw [show min (max n 0) 1048576 = 0 by omega]
    go_enter Try.func130, Try.ntmps130
    go_wp2
    go_returns
    exact ⟨rfl, (Turn.refl _ _).alloc _⟩
  · rw [show min (max n 0) 1048576 = 1048576 by omega]
    go_enter Try.func130, Try.ntmps130
    go_wp2
    go_returns
    exact ⟨rfl, (Turn.refl _ _).alloc _⟩
  · rw [show min (max n 0) 1048576 = n by omega]
    go_enter Try.func130, Try.ntmps130
    go_wp2
    go_returns
    exact ⟨rfl, (Turn.refl _ _).alloc _⟩

theorem field_size : ∀ (x : Int) (w : World), (Instr.field 50 (.agg #[.int .i64 x]) 0).run Try.prog w = .ok (.int .i64 x) w := fun _ _ => by kernel_rfl
theorem zeros_bd (n : Nat) : ∀ x ∈ List.replicate n (0 : Int), 0 ≤ x ∧ x < 18446744073709551616 := by
  intro x hx; rw [(List.mem_replicate.1 hx).2]; decide

set_option maxHeartbeats 400000 in
set_option maxRecDepth 100000 in
theorem newPlain_any (n : Int) (w : World) :
    Calls Try.prog 30 #[.int .i64 n] w fun e w' => ∃ p q, e = .returned (.pointer (some ⟨p, 0, none⟩)) ∧ Turn w w' [] ∧ PlainAt w' p q (List.replicate (cutN n) 0) ∧ w.heap.size ≤ p ∧ w.heap.size ≤ q := by
  have hl := cutN_le n
  have hmk := run_make_row' (P := Try.prog) 40 32 (.int .u64 0) 8 Try.underlying40 infoU rfl .i64 .i64 (cutN n) (by omega) (by omega)
  have hfld := field_size
  go_enter Try.func30, Try.ntmps30
  go_wp2_with fail
  refine (cut_any n _).mono ?_
  rintro e w1 ⟨rfl, t1⟩
  go_wp2_with fail
  refine (cut_any n _).mono ?_
  rintro e w2 ⟨rfl, t2⟩
  go_wp2_with fail
  go_ret
  have s1 := t1.size
  have s2 := t2.size
  refine ⟨_, w2.heap.size, rfl, ((t1.then_ t2).alloc _).alloc _, ⟨?_, ⟨?_, zeros_bd _⟩, by simpa using hl⟩, ?_, ?_⟩
  · rw [alloc_at' _ _ (by simp)]; simp
  · refine alloc_old _ _ ?_
    rw [alloc_at, made_u64]
  · omega
  · omega

/-- Of a Plain: the cells that a method reads. -/
theorem PlainAt.c0 {w : World} {p q : Nat} {ws : List Int} (h : PlainAt w p q ws) : w.cell? ⟨p, 0, none⟩ = some (.int .i64 ws.length) := by rw [cell_at h.1]; rfl
theorem PlainAt.c1 {w : World} {p q : Nat} {ws : List Int} (h : PlainAt w p q ws) : w.cell? ⟨p, 1, none⟩ = some (.slice (some ⟨q, 0, none⟩) ws.length ws.length) := by rw [cell_at h.1]; rfl
theorem Words.c {w : World} {q : Nat} {ws : List Int} (h : Words w q ws) {i : Nat} (hi : i < ws.length) : w.cell? ⟨q, i, none⟩ = some (.int .u64 (ws.getD i 0)) := by
  rw [cell_at h.1]; simp [hi, List.getD]
theorem Words.fr {w : World} {q : Nat} {ws : List Int} (h : Words w q ws) (i : Nat) : w.frozen? ⟨q, i, none⟩ = false := frozen_at h.1
theorem Words.bd {w : World} {q : Nat} {ws : List Int} (h : Words w q ws) (i : Nat) : 0 ≤ ws.getD i 0 ∧ ws.getD i 0 < 18446744073709551616 := by
  by_cases hi : i < ws.length
  · have := h.2 (ws.getD i 0) (by simp [List.getD, hi])
    exact this
  · simp [List.getD, List.getElem?_eq_none (Nat.le_of_not_lt hi)]
theorem Words.set {w : World} {q : Nat} {ws : List Int} (h : Words w q ws) {i : Nat} {x : Int} (hx : 0 ≤ x ∧ x < 18446744073709551616) : Words (w.setCell ⟨q, i, none⟩ (.int .u64 x)) q (ws.set i x) := by
  refine ⟨?_, fun y hy => ?_⟩
  · rw [set_at _ h.1]
    simp [List.map_set]
  · rcases List.mem_or_eq_of_mem_set hy with hy | rfl
    · exact h.2 y hy
    · exact hx
theorem mHas_true {ws : List Int} {a : Int} (h : 0 ≤ a) (h1 : a < ws.length) : mHas ws a = true := by simp [mHas, h, h1]

theorem hasPlain (a n : Int) (h : 0 ≤ a) (h1 : a < n) : (decide (0 ≤ a) && decide (a < n)) = true := by simp [h, h1]
theorem hasPlain' (a n : Int) (h : ¬ (0 ≤ a ∧ a < n)) : (decide (0 ≤ a) && decide (a < n)) = false := by simp; omega
theorem load_hit {ws : List Int} {a : Nat} : mLoad ws (a : Int) = ws.getD a 0 := by
  unfold mLoad; rw [if_neg (by omega)]; rfl
theorem load_miss {ws : List Int} {a : Int} (h : ¬ (0 ≤ a ∧ a < (ws.length : Int))) : mLoad ws a = 0 := by
  unfold mLoad
  split
  · rfl
  · rw [List.getD, List.getElem?_eq_none (by omega)]; rfl
theorem store_hit {ws : List Int} {a : Nat} (x : Int) : mStore ws (a : Int) x = ws.set a x := by
  unfold mStore; rw [if_neg (by omega)]; rfl
theorem store_miss {ws : List Int} {a x : Int} (h : ¬ (0 ≤ a ∧ a < (ws.length : Int))) : mStore ws a x = ws := by
  unfold mStore
  split
  · rfl
  · exact List.set_eq_of_length_le (by omega)
theorem mStore_length (ws : List Int) (a x : Int) : (mStore ws a x).length = ws.length := by unfold mStore; split <;> simp

set_option maxHeartbeats 400000 in
set_option maxRecDepth 100000 in
theorem plainLoad_any (p q : Nat) (ws : List Int) (a : Int) (w : World) (h : PlainAt w p q ws) :
    Calls Try.prog 82 #[.pointer (some ⟨p, 0, none⟩), .int .i64 a] w fun e w' => e = .returned (.int .u64 (mLoad ws a)) ∧ Turn w w' [] := by
  have c0 := h.c0
  have c1 := h.c1
  have hlen := h.2.2
  have hp := at_lt h.1
  by_cases hh : 0 ≤ a ∧ a < (ws.length : Int)
  · obtain ⟨n, rfl⟩ := Int.eq_ofNat_of_zero_le hh.1
    have hn : n < ws.length := by omega
    have hb := hasPlain n ws.length (by omega) (by omega)
    have c2 := h.2.1.c hn
    rw [load_hit]
    generalize ws.getD n 0 = x at *
    have hq := at_lt h.2.1.1
    go_enter Try.func82, Try.ntmps82
    go_wp2_with fail
    refine (has_any _ _ _).mono ?_
    rintro e w1 ⟨rfl, rfl⟩
    rw [hb]
    go_wp2_with fail
    go_ret
    exact ⟨rfl, (Turn.refl _ _).alloc _⟩
  · have hb := hasPlain' a ws.length hh
    rw [load_miss hh]
    go_enter Try.func82, Try.ntmps82
    go_wp2_with fail
    refine (has_any _ _ _).mono ?_
    rintro e w1 ⟨rfl, rfl⟩
    rw [hb]
    go_wp2_with fail
    go_ret
    exact ⟨rfl, (Turn.refl _ _).alloc _⟩

theorem PlainAt.set {w : World} {p q : Nat} {ws : List Int} (h : PlainAt w p q ws) {i : Nat} {x : Int} (hx : 0 ≤ x ∧ x < 18446744073709551616) : PlainAt (w.setCell ⟨q, i, none⟩ (.int .u64 x)) p q (ws.set i x) :=
  ⟨by rw [Below.heap_setCell _ _ _ _ h.ne]; simpa using h.1, h.2.1.set hx, by simpa using h.2.2⟩
theorem PlainAt.alloc {w : World} {p q : Nat} {ws : List Int} (h : PlainAt w p q ws) (o : Obj) : PlainAt (w.alloc o) p q ws := h.turn ((Turn.refl _ []).alloc o) (by simp) (by simp)

set_option maxHeartbeats 400000 in
set_option maxRecDepth 100000 in
theorem plainStore_any (p q : Nat) (ws : List Int) (a x : Int) (w : World) (h : PlainAt w p q ws) (hx : 0 ≤ x ∧ x < 18446744073709551616) :
    Calls Try.prog 43 #[.pointer (some ⟨p, 0, none⟩), .int .i64 a, .int .u64 x] w fun e w' => e = .returned (.tuple #[]) ∧ Turn w w' [q] ∧ PlainAt w' p q (mStore ws a x) := by
  have c0 := h.c0
  have c1 := h.c1
  have hlen := h.2.2
  have hp := at_lt h.1
  by_cases hh : 0 ≤ a ∧ a < (ws.length : Int)
  · obtain ⟨n, rfl⟩ := Int.eq_ofNat_of_zero_le hh.1
    have hn : n < ws.length := by omega
    have hb := hasPlain n ws.length (by omega) (by omega)
    have c2 := h.2.1.c hn
    have f2 := h.2.1.fr n
    rw [store_hit]
    generalize ws.getD n 0 = y at *
    have hq := at_lt h.2.1.1
    go_enter Try.func43, Try.ntmps43
    go_wp2_with fail
    refine (has_any _ _ _).mono ?_
    rintro e w1 ⟨rfl, rfl⟩
    rw [hb]
    go_wp2_with fail
    go_returns
    exact ⟨rfl, ((Turn.refl _ _).setCell (.inl (by simp)) _).alloc _, (h.set hx).alloc _⟩
  · have hb := hasPlain' a ws.length hh
    rw [store_miss hh]
    go_enter Try.func43, Try.ntmps43
    go_wp2_with fail
    refine (has_any _ _ _).mono ?_
    rintro e w1 ⟨rfl, rfl⟩
    rw [hb]
    go_wp2_with fail
    go_returns
    exact ⟨rfl, (Turn.refl _ _).alloc _, h.alloc _⟩

/-- CAS: whether it is done, and the words then. -/
def mCas (ws : List Int) (a old : Int) : Bool := mHas ws a && (mLoad ws a == old)
def mCasTo (ws : List Int) (a old to : Int) : List Int := if mCas ws a old then mStore ws a to else ws
theorem mCasTo_length (ws : List Int) (a o t : Int) : (mCasTo ws a o t).length = ws.length := by unfold mCasTo; split <;> simp [mStore_length]

set_option maxHeartbeats 400000 in
set_option maxRecDepth 100000 in
theorem plainCas_any (p q : Nat) (ws : List Int) (a x y : Int) (w : World) (h : PlainAt w p q ws) (hy : 0 ≤ y ∧ y < 18446744073709551616) :
    Calls Try.prog 131 #[.pointer (some ⟨p, 0, none⟩), .int .i64 a, .int .u64 x, .int .u64 y] w fun e w' => e = .returned (.bool (mCas ws a x)) ∧ Turn w w' [q] ∧ PlainAt w' p q (mCasTo ws a x y) := by
  have c0 := h.c0
  have c1 := h.c1
  have hlen := h.2.2
  have hp := at_lt h.1
  by_cases hh : 0 ≤ a ∧ a < (ws.length : Int)
  · obtain ⟨n, rfl⟩ := Int.eq_ofNat_of_zero_le hh.1
    have hn : n < ws.length := by omega
    have hb := hasPlain n ws.length (by omega) (by omega)
    have c2 := h.2.1.c hn
    have f2 := h.2.1.fr n
    have hq := at_lt h.2.1.1
    have hH := mHas_true (ws := ws) (a := n) (by omega) (by omega)
    have hL : mLoad ws n = ws.getD n 0 := load_hit
    by_cases he : ws.getD n 0 = x
    · have e1 : mCas ws n x = true := by unfold mCas; rw [hH, hL, he]; simp
      have e2 : mCasTo ws n x y = ws.set n y := by simp [mCasTo, e1, store_hit]
      rw [e1, e2]
      clear e1 e2 hL hH
      have hne : (ws.getD n 0 != x) = false := by rw [he]; simp
      generalize ws.getD n 0 = z at *
      have HE := hid he
      clear he
      go_enter Try.func131, Try.ntmps131
      go_wp2_with fail
      refine (has_any _ _ _).mono ?_
      rintro e w1 ⟨rfl, rfl⟩
      rw [hb]
      go_wp2_with fail
      go_returns
      exact ⟨rfl, ((Turn.refl _ _).setCell (.inl (by simp)) _).alloc _, (h.set hy).alloc _⟩
    · have e1 : mCas ws n x = false := by unfold mCas; rw [hH, hL]; simpa using he
      have e2 : mCasTo ws n x y = ws := by simp [mCasTo, e1]
      rw [e1, e2]
      clear e1 e2 hL hH
      have hne : (ws.getD n 0 != x) = true := by simpa using he
      generalize ws.getD n 0 = z at *
      clear he
      go_enter Try.func131, Try.ntmps131
      go_wp2_with fail
      refine (has_any _ _ _).mono ?_
      rintro e w1 ⟨rfl, rfl⟩
      rw [hb]
      go_wp2_with fail
      go_returns
      exact ⟨rfl, (Turn.refl _ _).alloc _, h.alloc _⟩
  · have hb := hasPlain' a ws.length hh
    have e1 : mCas ws a x = false := by simp only [mCas, mHas, hb, Bool.false_and]
    have e2 : mCasTo ws a x y = ws := by simp [mCasTo, e1]
    rw [e1, e2]
    clear e1 e2
    go_enter Try.func131, Try.ntmps131
    go_wp2_with fail
    refine (has_any _ _ _).mono ?_
    rintro e w1 ⟨rfl, rfl⟩
    rw [hb]
    go_wp2_with fail
    go_ret
    exact ⟨rfl, (Turn.refl _ _).alloc _, h.alloc _⟩

/-- Add: what is told, and the words then. -/
def mSum (ws : List Int) (a d : Int) : Int := if mHas ws a then (mLoad ws a + d) % 18446744073709551616 else 0
def mAddTo (ws : List Int) (a d : Int) : List Int := if mHas ws a then mStore ws a ((mLoad ws a + d) % 18446744073709551616) else ws
theorem mAddTo_length (ws : List Int) (a d : Int) : (mAddTo ws a d).length = ws.length := by unfold mAddTo; split <;> simp [mStore_length]
def W64 : Int := 18446744073709551616

set_option maxHeartbeats 400000 in
set_option maxRecDepth 100000 in
theorem plainAdd_any (p q : Nat) (ws : List Int) (a d : Int) (w : World) (h : PlainAt w p q ws) :
    Calls Try.prog 54 #[.pointer (some ⟨p, 0, none⟩), .int .i64 a, .int .u64 d] w fun e w' => e = .returned (.int .u64 (mSum ws a d)) ∧ Turn w w' [q] ∧ PlainAt w' p q (mAddTo ws a d) := by
  have c0 := h.c0
  have c1 := h.c1
  have hlen := h.2.2
  have hp := at_lt h.1
  by_cases hh : 0 ≤ a ∧ a < (ws.length : Int)
  · obtain ⟨n, rfl⟩ := Int.eq_ofNat_of_zero_le hh.1
    have hn : n < ws.length := by omega
    have hb := hasPlain n ws.length (by omega) (by omega)
    have c2 := h.2.1.c hn
    have f2 := h.2.1.fr n
    have hq := at_lt h.2.1.1
    have hH := mHas_true (ws := ws) (a := n) (by omega) (by omega)
    have e1 : mSum ws n d = IntKind.u64.wrap (ws.getD n 0 + d) := by rw [IntKind.wrap_u64]; simp only [mSum, hH, if_true, load_hit]
    have e2 : mAddTo ws n d = ws.set n (IntKind.u64.wrap (ws.getD n 0 + d)) := by rw [IntKind.wrap_u64]; simp only [mAddTo, hH, if_true, load_hit, store_hit]
    have hy : 0 ≤ IntKind.u64.wrap (ws.getD n 0 + d) ∧ IntKind.u64.wrap (ws.getD n 0 + d) < 18446744073709551616 := by rw [IntKind.wrap_u64]; omega
    rw [e1, e2]
    clear e1 e2 hH
    generalize ws.getD n 0 = z at *
    obtain ⟨s, hs⟩ : ∃ s, IntKind.u64.wrap (z + d) = s := ⟨_, rfl⟩
    rw [hs] at hy ⊢
    have c3 : (w.setCell ⟨q, n, none⟩ (.int .u64 s)).cell? ⟨q, n, none⟩ = some (.int .u64 s) := World.cell?_setCell_same _ _ _ c2
    have c4 : (w.setCell ⟨q, n, none⟩ (.int .u64 s)).cell? ⟨p, 1, none⟩ = some (.slice (some ⟨q, 0, none⟩) ws.length ws.length) := by
      rw [World.cell?_setCell_other _ _ _ _ (fun e => h.ne (congrArg Addr.block e).symm)]; exact c1
    go_enter Try.func54, Try.ntmps54
    go_wp2_with fail
    refine (has_any _ _ _).mono ?_
    rintro e w1 ⟨rfl, rfl⟩
    rw [hb]
    go_wp2_with fail
    go_returns
    exact ⟨rfl, ((Turn.refl _ _).setCell (.inl (by simp)) _).alloc _, (h.set hy).alloc _⟩
  · have hb := hasPlain' a ws.length hh
    have e1 : mSum ws a d = 0 := by simp only [mSum, mHas, hb]; rfl
    have e2 : mAddTo ws a d = ws := by simp only [mAddTo, mHas, hb]; rfl
    rw [e1, e2]
    clear e1 e2
    go_enter Try.func54, Try.ntmps54
    go_wp2_with fail
    refine (has_any _ _ _).mono ?_
    rintro e w1 ⟨rfl, rfl⟩
    rw [hb]
    go_wp2_with fail
    go_ret
    exact ⟨rfl, (Turn.refl _ _).alloc _, h.alloc _⟩

set_option maxHeartbeats 400000 in
set_option maxRecDepth 100000 in
theorem plainLen_any (p q : Nat) (ws : List Int) (w : World) (h : PlainAt w p q ws) :
    Calls Try.prog 35 #[.pointer (some ⟨p, 0, none⟩)] w fun e w' => e = .returned (.int .i64 ws.length) ∧ w = w' := by
  have c0 := h.c0
  go_enter Try.func35, Try.ntmps35
  go_wp2_with fail
  go_ret
  exact ⟨rfl, rfl⟩
end Go.Proofs.Ytldiocdjgbehcaa
