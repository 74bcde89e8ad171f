/-
  Aw: what the claim uses of them.
-/
import Derived.Laws.ComplexArith
import Derived.RangeFuncRecord
import Derived.Test.YtacacplipaeokaaBn2
namespace Go.Proofs.Ytacacplipaeokaa
open Ieee
/-- A datum that is a whole number. -/
def IsInt (d : Datum) (N : Int) : Prop := ∃ s m p, d = .number s m p ∧ m * 2 ^ p.toNat = N.natAbs * 2 ^ (-p).toNat ∧ (N ≠ 0 → s = decide (N < 0))
theorem shl_pow (m k : Nat) : m <<< k = m * 2 ^ k := Nat.shiftLeft_eq m k
theorem signed_abs (s : Bool) (m u : Nat) : (signed s m u).natAbs = m * 2 ^ u := by
  unfold signed
  rw [shl_pow]
  split
  · rw [Int.natAbs_neg, Int.natAbs_natCast]
  · rw [Int.natAbs_natCast]
/-- m * 2^p is N: at whatever place it is written. -/
theorem scale_nat {m A : Nat} {p base : Int} (h : m * 2 ^ p.toNat = A * 2 ^ (-p).toNat) (hb : base ≤ p) : m * 2 ^ (p - base).toNat * 2 ^ base.toNat = A * 2 ^ (-base).toNat := by
  rcases Int.lt_or_le base 0 with h0 | h0
  · rcases Int.lt_or_le p 0 with h1 | h1
    · have e1 : p.toNat = 0 := by omega
      have e2 : base.toNat = 0 := by omega
      rw [e1, Nat.pow_zero, Nat.mul_one] at h
      rw [e2, Nat.pow_zero, Nat.mul_one, h, Nat.mul_assoc, ← Nat.pow_add]
      congr 2; omega
    · have e1 : (-p).toNat = 0 := by omega
      have e2 : base.toNat = 0 := by omega
      have e3 : (p - base).toNat = p.toNat + (-base).toNat := by omega
      rw [e1, Nat.pow_zero, Nat.mul_one] at h
      rw [e2, Nat.pow_zero, Nat.mul_one, e3, Nat.pow_add, ← Nat.mul_assoc, h]
  · have e1 : (-p).toNat = 0 := by omega
    have e2 : (-base).toNat = 0 := by omega
    rw [e1, Nat.pow_zero, Nat.mul_one] at h
    rw [e2, Nat.pow_zero, Nat.mul_one, Nat.mul_assoc, ← Nat.pow_add, ← h]
    congr 2; omega
theorem signed_val {s : Bool} {m u : Nat} {N : Int} {A B : Nat} (h : m * 2 ^ u * A = N.natAbs * B) (hs : N ≠ 0 → s = decide (N < 0)) (hA : 0 < A) : signed s m u * (A : Int) = N * (B : Int) := by
  have h' : ((m * 2 ^ u : Nat) : Int) * (A : Int) = (N.natAbs : Int) * (B : Int) := by exact_mod_cast h
  by_cases h0 : N = 0
  · subst h0
    have hm : m * 2 ^ u = 0 := by
      have : m * 2 ^ u * A = 0 := by rw [h]; simp
      rcases Nat.mul_eq_zero.1 this with h1 | h1
      · exact h1
      · omega
    have : signed s m u = 0 := Int.natAbs_eq_zero.1 (by rw [signed_abs, hm])
    rw [this]; simp
  · have hs := hs h0
    subst hs
    unfold signed
    rw [shl_pow]
    by_cases hn : N < 0
    · rw [decide_eq_true hn, if_pos rfl, Int.neg_mul, h', ← Int.neg_mul]
      congr 1; omega
    · rw [decide_eq_false hn, if_neg (by decide), h']
      congr 1; omega
theorem pow_pos' (k : Nat) : 0 < 2 ^ k := Nat.two_pow_pos k
theorem isInt_sum {d e : Datum} {N M : Int} (hd : IsInt d N) (he : IsInt e M) : ∃ x, d.sum e = some x ∧ IsInt x (N + M) := by
  obtain ⟨s, m, i, rfl, h1, h2⟩ := hd
  obtain ⟨t, n, j, rfl, h3, h4⟩ := he
  refine ⟨_, rfl, _, _, _, rfl, ?_, ?_⟩
  all_goals
    have e1 := signed_val (scale_nat h1 (Int.min_le_left i j)) h2 (pow_pos' _)
    have e2 := signed_val (scale_nat h3 (Int.min_le_right i j)) h4 (pow_pos' _)
    have e3 : (signed s m (i - min i j).toNat + signed t n (j - min i j).toNat) * ((2 ^ (min i j).toNat : Nat) : Int) = (N + M) * ((2 ^ (-(min i j)).toNat : Nat) : Int) := by rw [Int.add_mul, e1, e2, Int.add_mul]
  · have := congrArg Int.natAbs e3
    rw [Int.natAbs_mul, Int.natAbs_mul, Int.natAbs_natCast, Int.natAbs_natCast] at this
    exact this
  · intro hne
    generalize signed s m (i - min i j).toNat + signed t n (j - min i j).toNat = T at e3
    have hp := pow_pos' (min i j).toNat
    have hq := pow_pos' (-(min i j)).toNat
    generalize (2 : Nat) ^ (min i j).toNat = P at e3 hp
    generalize (2 : Nat) ^ (-(min i j)).toNat = Q at e3 hq
    have hT : T ≠ 0 := by
      intro h0
      rw [h0, Int.zero_mul] at e3
      rcases Int.mul_eq_zero.1 e3.symm with h5 | h5
      · exact hne h5
      · omega
    rw [if_neg hT]
    refine decide_eq_decide.2 ⟨fun h => ?_, fun h => ?_⟩
    · have : T * (P : Int) < 0 := Int.mul_neg_of_neg_of_pos h (by omega)
      rw [e3] at this
      rcases Int.lt_or_le (N + M) 0 with h5 | h5
      · exact h5
      · have := Int.mul_nonneg h5 (show (0 : Int) ≤ Q by omega)
        omega
    · have : (N + M) * (Q : Int) < 0 := Int.mul_neg_of_neg_of_pos h (by omega)
      rw [← e3] at this
      rcases Int.lt_or_le T 0 with h5 | h5
      · exact h5
      · have := Int.mul_nonneg h5 (show (0 : Int) ≤ P by omega)
        omega
theorem isInt_opp {d : Datum} {N : Int} (h : IsInt d N) : IsInt d.opposite (-N) := by
  obtain ⟨s, m, p, rfl, h1, h2⟩ := h
  refine ⟨_, _, _, rfl, by rw [Int.natAbs_neg]; exact h1, fun hne => ?_⟩
  rw [h2 (by omega)]
  by_cases hn : N < 0
  · rw [decide_eq_true hn, decide_eq_false (by omega)]; rfl
  · rw [decide_eq_false hn, decide_eq_true (by omega)]; rfl
theorem isInt_prod {d e : Datum} {N M : Int} (hd : IsInt d N) (he : IsInt e M) : ∃ x, d.product e = some x ∧ IsInt x (N * M) := by
  obtain ⟨s, m, i, rfl, h1, h2⟩ := hd
  obtain ⟨t, n, j, rfl, h3, h4⟩ := he
  refine ⟨_, rfl, _, _, _, rfl, ?_, fun hne => ?_⟩
  · rw [Int.natAbs_mul]
    have h5 : (m * 2 ^ i.toNat) * (n * 2 ^ j.toNat) = (N.natAbs * 2 ^ (-i).toNat) * (M.natAbs * 2 ^ (-j).toNat) := by rw [h1, h3]
    obtain ⟨c, hc1, hc2⟩ : ∃ c, i.toNat + j.toNat = (i + j).toNat + c ∧ (-i).toNat + (-j).toNat = (-(i + j)).toNat + c := ⟨i.toNat + j.toNat - (i + j).toNat, by omega, by omega⟩
    have e1 : (m * 2 ^ i.toNat) * (n * 2 ^ j.toNat) = (m * n * 2 ^ (i + j).toNat) * 2 ^ c := by
      rw [Nat.mul_assoc (m * n), ← Nat.pow_add, ← hc1, Nat.pow_add]; ac_rfl
    have e2 : (N.natAbs * 2 ^ (-i).toNat) * (M.natAbs * 2 ^ (-j).toNat) = (N.natAbs * M.natAbs * 2 ^ (-(i + j)).toNat) * 2 ^ c := by
      rw [Nat.mul_assoc (N.natAbs * M.natAbs), ← Nat.pow_add, ← hc2, Nat.pow_add]; ac_rfl
    rw [e1, e2] at h5
    exact Nat.eq_of_mul_eq_mul_right (pow_pos' c) h5
  · have hN : N ≠ 0 := fun h => hne (by rw [h, Int.zero_mul])
    have hM : M ≠ 0 := fun h => hne (by rw [h, Int.mul_zero])
    rw [h2 hN, h4 hM]
    rcases Int.lt_or_gt_of_ne hN with a | a <;> rcases Int.lt_or_gt_of_ne hM with b | b
    · have := Int.mul_pos_of_neg_of_neg a b
      rw [decide_eq_true a, decide_eq_true b, decide_eq_false (by omega)]; rfl
    · have := Int.mul_neg_of_neg_of_pos a b
      rw [decide_eq_true a, decide_eq_false (by omega), decide_eq_true this]; rfl
    · have := Int.mul_neg_of_pos_of_neg a b
      rw [decide_eq_false (by omega), decide_eq_true b, decide_eq_true this]; rfl
    · have := Int.mul_pos a b
      rw [decide_eq_false (by omega), decide_eq_false (by omega), decide_eq_false (by omega)]; rfl
theorem log2_mul_pow {A k : Nat} (h : A ≠ 0) : (A * 2 ^ k).log2 = A.log2 + k := by
  have hne : A * 2 ^ k ≠ 0 := Nat.mul_ne_zero h (Nat.pos_iff_ne_zero.1 (pow_pos' k))
  refine (Nat.log2_eq_iff hne).2 ⟨?_, ?_⟩
  · rw [Nat.pow_add]; exact Nat.mul_le_mul_right _ ((Nat.log2_eq_iff h).1 rfl).1
  · rw [show A.log2 + k + 1 = A.log2 + 1 + k by omega, Nat.pow_add]
    exact Nat.mul_lt_mul_of_pos_right ((Nat.log2_eq_iff h).1 rfl).2 (pow_pos' k)
/-- A cut that leaves nothing over. -/
theorem cut_exact (way : Toward) (neg : Bool) {A k : Nat} (h : A ≠ 0) : way.cut neg (A * 2 ^ k) k = A := by
  have hmin : min k ((A * 2 ^ k).log2 + 2) = k := by rw [log2_mul_pow h]; omega
  unfold Toward.cut
  dsimp only
  rw [hmin, shl_pow, Nat.one_mul, Nat.mul_div_cancel _ (pow_pos' k), Nat.mul_mod_left]
  cases way
  · have h1 : ¬ 2 ^ k < 2 * 0 := by simp
    have h2 : ((2 ^ k : Nat) == 2 * 0) = false := by
      have := pow_pos' k
      simp
    simp [h2]
  · cases neg <;> rfl
  · cases neg <;> rfl
  · rfl
theorem cut_zero (way : Toward) (neg : Bool) (k : Nat) : way.cut neg 0 k = 0 := by
  unfold Toward.cut
  dsimp only
  have hmin : 1 <<< min k ((0 : Nat).log2 + 2) ≠ 0 := by rw [shl_pow, Nat.one_mul]; exact Nat.pos_iff_ne_zero.1 (pow_pos' _)
  generalize (1 : Nat) <<< min k ((0 : Nat).log2 + 2) = g at hmin
  rw [Nat.zero_div, Nat.zero_mod]
  cases way
  · have h2 : (g == 2 * 0) = false := by simpa using hmin
    simp [h2]
  · cases neg <;> rfl
  · cases neg <;> rfl
  · rfl
theorem isInt_toInt {d : Datum} {N : Int} (h : IsInt d N) : d.toInt .zero = some N := by
  obtain ⟨s, m, p, rfl, h1, h2⟩ := h
  have e : Toward.zero.cut s (m <<< p.toNat) (-p).toNat = N.natAbs := by
    rw [shl_pow, h1]
    by_cases h0 : N = 0
    · subst h0; rw [Int.natAbs_zero, Nat.zero_mul]; exact cut_zero _ _ _
    · exact cut_exact _ _ (by omega)
  show some (signed s (Toward.zero.cut s (m <<< p.toNat) (-p).toNat) 0) = some N
  rw [e]
  congr 1
  have := signed_val (s := s) (m := N.natAbs) (u := 0) (N := N) (A := 1) (B := 1) (by simp) h2 (by decide)
  simpa using this
theorem word_read (s : Bool) {rung : Nat} (h : rung < 2 ^ 63) : (double.word s rung / double.signWeight % 2 == 1) = s ∧ double.word s rung % double.signWeight = rung := by
  have hw : double.signWeight = 9223372036854775808 := by decide
  have h' : rung < 9223372036854775808 := h
  unfold Format.word
  rw [hw]
  cases s
  · rw [if_neg (by decide)]
    refine ⟨?_, by omega⟩
    rw [show rung / 9223372036854775808 = 0 by omega]; rfl
  · rw [if_pos rfl]
    refine ⟨?_, by omega⟩
    rw [show (9223372036854775808 + rung) / 9223372036854775808 = 1 by omega]; rfl
theorem read_zero (s : Bool) : double.read (double.word s 0) = .number s 0 (-1074) := by
  cases s <;> decide
theorem read_normal (s : Bool) {L kept : Nat} (hL : L ≤ 52) (h1 : 4503599627370496 ≤ kept) (h2 : kept < 9007199254740992) : double.read (double.word s ((L + 1022) * 4503599627370496 + kept)) = .number s kept ((L : Int) - 52) := by
  have hb : double.binade = 4503599627370496 := by decide
  have hi : double.infRung = 9218868437227405312 := by decide
  have hl : double.leastPlace = -1074 := by decide
  obtain ⟨e1, e2⟩ := word_read s (rung := (L + 1022) * 4503599627370496 + kept) (by show _ < 9223372036854775808; omega)
  unfold Format.read
  dsimp only
  rw [e1, e2, hb, hi, hl, if_neg (by omega), if_pos (by omega)]
  congr 1
  · omega
  · have : ((L + 1022) * 4503599627370496 + kept) / 4503599627370496 = L + 1023 := by omega
    rw [this]; omega
theorem isInt_write {d : Datum} {N : Int} (h : IsInt d N) (hN : N.natAbs < 9007199254740992) : IsInt (double.read (double.write d)) N := by
  obtain ⟨s, m, p, rfl, h1, h2⟩ := h
  have hb : double.binade = 4503599627370496 := by decide
  have hi : double.infRung = 9218868437227405312 := by decide
  have hl : double.leastPlace = -1074 := by decide
  show IsInt (double.read (double.nearest s m p)) N
  by_cases h0 : N = 0
  · subst h0
    have hm : m = 0 := by
      rw [Int.natAbs_zero, Nat.zero_mul] at h1
      rcases Nat.mul_eq_zero.1 h1 with h | h
      · exact h
      · exact absurd h (Nat.pos_iff_ne_zero.1 (pow_pos' _))
    subst hm
    have : double.nearest s 0 p = double.word s 0 := rfl
    rw [this, read_zero]
    exact ⟨s, 0, -1074, rfl, by rw [Nat.zero_mul, Int.natAbs_zero, Nat.zero_mul], fun h => absurd rfl h⟩
  · obtain ⟨A, hA⟩ : ∃ A, A = N.natAbs := ⟨_, rfl⟩
    rw [← hA] at h1 hN
    have hA0 : A ≠ 0 := by omega
    have hm0 : m ≠ 0 := by
      intro h
      subst h
      rw [Nat.zero_mul] at h1
      rcases Nat.mul_eq_zero.1 h1.symm with h | h
      · exact hA0 h
      · exact absurd h (Nat.pos_iff_ne_zero.1 (pow_pos' _))
    have hlog : (p : Int) + m.log2 = A.log2 := by
      have e := congrArg Nat.log2 h1
      rw [log2_mul_pow hm0, log2_mul_pow hA0] at e
      omega
    obtain ⟨L, hL⟩ : ∃ L, L = A.log2 := ⟨_, rfl⟩
    rw [← hL] at hlog
    have hA1 := ((Nat.log2_eq_iff hA0).1 hL.symm).1
    have hA2 := ((Nat.log2_eq_iff hA0).1 hL.symm).2
    have hL52 : L ≤ 52 := by
      refine Nat.le_of_not_lt fun h => ?_
      have : 2 ^ 53 ≤ 2 ^ L := Nat.pow_le_pow_right (by decide) h
      have : (2 : Nat) ^ 53 = 9007199254740992 := by decide
      omega
    obtain ⟨K, hK⟩ : ∃ K, K = A * 2 ^ (52 - L) := ⟨_, rfl⟩
    have hK1 : 4503599627370496 ≤ K := by
      have : 2 ^ L * 2 ^ (52 - L) ≤ K := by rw [hK]; exact Nat.mul_le_mul_right _ hA1
      rw [← Nat.pow_add, show L + (52 - L) = 52 by omega] at this
      exact this
    have hK2 : K < 9007199254740992 := by
      have : K < 2 ^ (L + 1) * 2 ^ (52 - L) := by rw [hK]; exact Nat.mul_lt_mul_of_pos_right hA2 (pow_pos' _)
      rw [← Nat.pow_add, show L + 1 + (52 - L) = 53 by omega] at this
      exact this
    have hK0 : K ≠ 0 := by omega
    have hlast : max (p + (m.log2 : Int) - 52) (-1074) = (L : Int) - 52 := by omega
    have hcut : Toward.even.cut s (m <<< (p - ((L : Int) - 52)).toNat) (((L : Int) - 52) - p).toNat = K := by
      rw [shl_pow]
      rcases Int.lt_or_le p ((L : Int) - 52) with h | h
      · have e1 : (p - ((L : Int) - 52)).toNat = 0 := by omega
        have e2 : p.toNat = 0 := by omega
        rw [e2, Nat.pow_zero, Nat.mul_one] at h1
        rw [e1, Nat.pow_zero, Nat.mul_one, h1]
        have e3 : (-p).toNat = (52 - L) + (((L : Int) - 52) - p).toNat := by omega
        rw [e3, Nat.pow_add, ← Nat.mul_assoc, ← hK]
        exact cut_exact _ _ hK0
      · have e1 : (((L : Int) - 52) - p).toNat = 0 := by omega
        have e2 := scale_nat h1 h
        rw [show ((L : Int) - 52).toNat = 0 by omega, Nat.pow_zero, Nat.mul_one, show (-((L : Int) - 52)).toNat = 52 - L by omega, ← hK] at e2
        rw [e1, e2]
        have := cut_exact .even s (A := K) (k := 0) hK0
        rw [Nat.pow_zero, Nat.mul_one] at this
        exact this
    have hn : double.nearest s m p = double.word s ((L + 1022) * 4503599627370496 + K) := by
      unfold Format.nearest
      rw [if_neg hm0]
      dsimp only
      rw [hl, hb, hi]
      show double.word s (min ((max (p + (m.log2 : Int) - 52) (-1074) - -1074).toNat * 4503599627370496 + Toward.even.cut s (m <<< (p - max (p + (m.log2 : Int) - 52) (-1074)).toNat) (max (p + (m.log2 : Int) - 52) (-1074) - p).toNat) 9218868437227405312) = _
      rw [hlast, hcut, show ((L : Int) - 52 - -1074).toNat = L + 1022 by omega]
      have hmin : (L + 1022) * 4503599627370496 + K ≤ 9218868437227405312 := by omega
      exact congrArg (double.word s) (Nat.min_eq_left hmin)
    have e : double.read (double.nearest s m p) = .number s K ((L : Int) - 52) := (congrArg double.read hn).trans (read_normal s hL52 hK1 hK2)
    rw [e]
    refine ⟨s, K, (L : Int) - 52, rfl, ?_, h2⟩
    rw [← hA, show ((L : Int) - 52).toNat = 0 by omega, Nat.pow_zero, Nat.mul_one, show (-((L : Int) - 52)).toNat = 52 - L by omega]
    exact hK
/-- The bits of a float64 that is a whole number below 2^53. -/
structure IsF (b : Nat) (N : Int) : Prop where
  lt : b < 2 ^ 64
  isInt : IsInt (double.read b) N
theorem isInt_nat (N : Int) : IsInt (.number (decide (N < 0)) N.natAbs 0) N := ⟨_, _, _, rfl, by simp, fun _ => rfl⟩
theorem isF_write {d : Datum} {N : Int} (h : IsInt d N) (hN : N.natAbs < 9007199254740992) : IsF (double.write d) N := ⟨double.write_lt d, isInt_write h hN⟩
theorem isF_of {N : Int} (hN : N.natAbs < 9007199254740992) : IsF (Go.FloatKind.nearest .f64 N) N := isF_write (isInt_nat N) hN
theorem isF_add {x y : Nat} {N M : Int} (hx : IsF x N) (hy : IsF y M) (h : (N + M).natAbs < 9007199254740992) : ∃ r, floatBits .add .f64 x y = some r ∧ IsF r (N + M) := by
  obtain ⟨d, e1, e2⟩ := isInt_sum hx.isInt hy.isInt
  exact ⟨double.write d, congrArg (Option.map double.write) e1, isF_write e2 h⟩
theorem isF_sub {x y : Nat} {N M : Int} (hx : IsF x N) (hy : IsF y M) (h : (N - M).natAbs < 9007199254740992) : ∃ r, floatBits .sub .f64 x y = some r ∧ IsF r (N - M) := by
  obtain ⟨d, e1, e2⟩ := isInt_sum hx.isInt (isInt_opp hy.isInt)
  rw [← Int.sub_eq_add_neg] at e2
  exact ⟨double.write d, congrArg (Option.map double.write) e1, isF_write e2 h⟩
theorem isF_mul {x y : Nat} {N M : Int} (hx : IsF x N) (hy : IsF y M) (h : (N * M).natAbs < 9007199254740992) : ∃ r, floatBits .mul .f64 x y = some r ∧ IsF r (N * M) := by
  obtain ⟨d, e1, e2⟩ := isInt_prod hx.isInt hy.isInt
  exact ⟨double.write d, congrArg (Option.map double.write) e1, isF_write e2 h⟩
theorem isF_int {x : Nat} {N : Int} (hx : IsF x N) (k : IntKind) (h : k.min ≤ N ∧ N ≤ k.max) : floatToIntVal .f64 x k = some N := by
  unfold floatToIntVal
  have : (FloatKind.f64.decode x).toInt .zero = some N := isInt_toInt hx.isInt
  rw [this]
  exact if_pos h
theorem isF_zero : IsF 0 0 := ⟨by decide, ⟨false, 0, -1074, read_zero false, by rw [Nat.zero_mul, Int.natAbs_zero, Nat.zero_mul], fun h => absurd rfl h⟩⟩
theorem flip_bit {b : Nat} (h : b < 2 ^ 64) : b ^^^ 2 ^ 63 = if b < 2 ^ 63 then b + 2 ^ 63 else b - 2 ^ 63 := by
  have e : ((BitVec.ofNat 64 b) ^^^ (BitVec.ofNat 64 (2 ^ 63))).toNat = b ^^^ 2 ^ 63 := by
    rw [BitVec.toNat_xor, BitVec.toNat_ofNat, BitVec.toNat_ofNat, Nat.mod_eq_of_lt h, Nat.mod_eq_of_lt (by decide)]
  by_cases hb : b < 2 ^ 63
  · rw [if_pos hb]
    have := Nat.two_pow_add_eq_or_of_lt hb 1
    rw [Nat.mul_one] at this
    rw [Nat.add_comm, this]
    refine Nat.eq_of_testBit_eq fun i => ?_
    rw [Nat.testBit_xor, Nat.testBit_or, Nat.testBit_two_pow]
    by_cases hi : 63 = i
    · subst hi
      rw [Nat.testBit_lt_two_pow hb]; rfl
    · rw [decide_eq_false hi]; simp
  · rw [if_neg hb]
    obtain ⟨c, rfl⟩ : ∃ c, b = 2 ^ 63 + c := ⟨b - 2 ^ 63, by omega⟩
    have hc : c < 2 ^ 63 := by
      have : (2 : Nat) ^ 64 = 2 ^ 63 + 2 ^ 63 := by decide
      omega
    have := Nat.two_pow_add_eq_or_of_lt hc 1
    rw [Nat.mul_one] at this
    rw [Nat.add_sub_cancel_left, this]
    refine Nat.eq_of_testBit_eq fun i => ?_
    rw [Nat.testBit_xor, Nat.testBit_or, Nat.testBit_two_pow]
    by_cases hi : 63 = i
    · subst hi
      rw [Nat.testBit_lt_two_pow hc]; rfl
    · rw [decide_eq_false hi]; simp
theorem isF_neg {x : Nat} {N : Int} (hx : IsF x N) : IsF (Go.Op.negFloat .f64 x) (-N) := by
  have e : Go.Op.negFloat .f64 x = x ^^^ 2 ^ 63 := rfl
  have hlt : x < 18446744073709551616 := hx.lt
  have hsw : double.signWeight = 9223372036854775808 := by decide
  have hread : double.read (x ^^^ 2 ^ 63) = (double.read x).opposite := by
    rw [flip_bit hx.lt]
    have h63 : (2 : Nat) ^ 63 = 9223372036854775808 := by decide
    rw [h63]
    unfold Format.read
    dsimp only
    rw [hsw]
    by_cases hb : x < 9223372036854775808
    · rw [if_pos hb, show (x + 9223372036854775808) / 9223372036854775808 % 2 = 1 by omega, show (x + 9223372036854775808) % 9223372036854775808 = x by omega, show x / 9223372036854775808 % 2 = 0 by omega, show x % 9223372036854775808 = x by omega]
      repeat' split
      all_goals rfl
    · rw [if_neg hb, show (x - 9223372036854775808) / 9223372036854775808 % 2 = 0 by omega, show (x - 9223372036854775808) % 9223372036854775808 = x - 9223372036854775808 by omega, show x / 9223372036854775808 % 2 = 1 by omega, show x % 9223372036854775808 = x - 9223372036854775808 by omega]
      repeat' split
      all_goals rfl
  rw [e]
  refine ⟨?_, by rw [hread]; exact isInt_opp hx.isInt⟩
  rw [flip_bit hx.lt]
  have h63 : (2 : Nat) ^ 63 = 9223372036854775808 := by decide
  have h64 : (2 : Nat) ^ 64 = 18446744073709551616 := by decide
  rw [h63, h64]
  split <;> omega
/-- Block b is one of cells. -/
def CellsAt (w : World) (b : Nat) : Prop := ∃ c T fz, w.heap[b]? = some (.cells c T fz)
/-- Block b is one of F's, and of cells. -/
def FC (F : Nat → Prop) (w : World) (b : Nat) : Prop := F b ∧ CellsAt w b
/-- As 'Reads', in blocks of F. -/
def FReads (F : Nat → Prop) (w : World) : (s : Sh) → List Value → s.T → Prop
  | .int k, cs, (n : Int) => cs = [.int k n]
  | .bool, cs, (b : Bool) => cs = [.bool b]
  | .str, cs, (s : ByteArray) => cs = [.string s]
  | .slice e, cs, (l : List e.T) => ∃ (a : Option Addr) (c : Nat), cs = [.slice a l.length c] ∧ l.length ≤ c ∧ c ≤ maxLen ∧ (a = none → c = 0) ∧
      (l ≠ [] → ∃ b o, a = some ⟨b, o, none⟩ ∧ FC F w b ∧ ∀ i, (h : i < l.length) → ∃ cs', cs'.length = e.size ∧ Lies w b (o + i * e.size) cs' ∧ FReads F w e cs' l[i])
  | .nil, cs, _ => cs = []
  | .field f r, cs, (d : f.T × r.T) => ∃ c1 c2, cs = c1 ++ c2 ∧ c1.length = f.size ∧ FReads F w f c1 d.1 ∧ FReads F w r c2 d.2
/-- The slice (a, len, cap) lies in block b, len elements of e cells from off on. -/
def MRef (w : World) (b off len e : Nat) (a : Addr) (cap : Nat) : Prop :=
  ∃ c T fz, w.heap[b]? = some (.cells c T fz) ∧ len ≤ cap ∧ cap ≤ maxLen ∧ ((a = ⟨b, off, none⟩ ∧ off + cap * e ≤ c.size) ∨ (a.block = b ∧ a.spot = none ∧ len = 0 ∧ cap = 0))
inductive VRel (F : Nat → Prop) (w : World) : AV → Value → Prop where
  | int (k : IntKind) (n : Int) : VRel F w (.int k n) (.int k n)
  | bool (b : Bool) : VRel F w (.bool b) (.bool b)
  | str (s : ByteArray) : VRel F w (.str s) (.string s)
  | fsl (e : Sh) (l : List e.T) (v : Value) (h : FReads F w (.slice e) [v] l) : VRel F w (.fsl e l) v
  | zsl (a : Option Addr) : VRel F w .zsl (.slice a 0 0)
  | esl (a : Addr) (c : Nat) (h : c ≤ maxLen) : VRel F w .esl (.slice (some a) 0 c)
  | nils : VRel F w .nils (.slice none 0 0)
  | mref (b off len e : Nat) (a : Addr) (cap : Nat) (h : MRef w b off len e a cap) : VRel F w (.mref b off len e) (.slice (some a) len cap)
  | nilp : VRel F w .nilp (.pointer none)
  | ptr (b off : Nat) (h : CellsAt w b) : VRel F w (.ptr b off) (.pointer (some ⟨b, off, none⟩))
  | eptr (cs : List AV) (b o : Nat) (f : Nat → Value) (hF : FC F w b) (h1 : ∀ i x, cs[i]? = some x → w.cell? ⟨b, o + i, none⟩ = some (f i)) (hl : ∀ (i : Nat) (x : AV), cs[i]? = some x → x.leaf = true) (h : ∀ i x, cs[i]? = some x → VRel F w x (f i)) : VRel F w (.eptr cs) (.pointer (some ⟨b, o, none⟩))
  | agg (cs : List AV) (vs : Array Value) (hs : cs.length = vs.size) (hl : ∀ (i : Nat) (x : AV), cs[i]? = some x → x.leaf = true) (h : ∀ i x, cs[i]? = some x → VRel F w x (vs.getD i undef)) : VRel F w (.agg cs) (.agg vs)
  | tup (cs : List AV) (vs : Array Value) (hs : cs.length = vs.size) (h : ∀ i x, cs[i]? = some x → VRel F w x (vs.getD i undef)) : VRel F w (.tup cs) (.tuple vs)
  | iface (t : TypeId) (a : AV) (v : Value) (h : VRel F w a v) : VRel F w (.iface t a) (.iface t v)
  | nilif : VRel F w .nilif .nilIface
  | fn (f : Fn) (c1 c2 : List AV) (v1 v2 : Array Value) (hs1 : c1.length = v1.size) (hs2 : c2.length = v2.size) (h1 : ∀ i x, c1[i]? = some x → VRel F w x (v1.getD i undef)) (h2 : ∀ i x, c2[i]? = some x → VRel F w x (v2.getD i undef)) : VRel F w (.fn f c1 c2) (.func f v1 v2)
  | nilfn : VRel F w .nilfn .nilFunc
  | nilm : VRel F w .nilm (.map none)
  | flt (n : Int) (b : Nat) (h : IsF b n) : VRel F w (.flt n) (.float .f64 b)
  | cpx (n m : Int) (a b : Nat) (h1 : IsF a n) (h2 : IsF b m) : VRel F w (.cpx n m) (.complex .f64 a b)
  | any (v : Value) : VRel F w .any v
  | via (x : AV) (v : Value) (hl : x.leaf = true) (h : VRel F w x v) : VRel F w (.via x) v
  | mapr (b : Nat) : VRel F w (.mapr b) (.map (some b))
  | itr (b : Nat) : VRel F w (.itr b) (.pointer (some ⟨b, 0, none⟩))
def VRels (F : Nat → Prop) (w : World) (xs : List AV) (vs : Array Value) : Prop := xs.length = vs.size ∧ ∀ i x, xs[i]? = some x → VRel F w x (vs.getD i undef)
/-- A map's entries, the n-th one's first. -/
def mapE : Nat → List (Int × Int) → List MapEntry
  | _, [] => []
  | n, p :: l => { key := .int .i64 p.1, val := .int .i64 p.2, born := n } :: mapE (n + 1) l
/-- What is no row of cells, as its block's one cell. -/
def objM : AV → Option Obj
  | .mapc l => some (.map (mapE 0 l).toArray l.length)
  | .itrc m c s => some (.mapIter (some m) c s.toArray c)
  | _ => none
def HoldsC (F : Nat → Prop) (w : World) (b : Nat) (cs : List AV) : Prop :=
  ∃ c T, w.heap[b]? = some (.cells c T (0, 0)) ∧ cs.length ≤ c.size ∧ ∀ (i : Nat) (x : AV), cs[i]? = some x → x.leaf = true ∧ VRel F w x (c.getD i undef)
/-- Block b holds the cells cs, and may be written; or it is a map, or goes over one. -/
def Holds (F : Nat → Prop) (w : World) (b : Nat) (cs : List AV) : Prop :=
  ¬ F b ∧ (HoldsC F w b cs ∨ (∃ x o, cs = [x] ∧ w.heap[b]? = some o ∧ objM x = some o) ∨ ∃ L t, cs = [.loopc L t] ∧ w.heap[b]? = some (.loop L) ∧ ∀ i, VRel F w (t i) (L.tmps.getD i undef))
structure RelHp (F : Nat → Prop) (w : World) (σ : Hp) : Prop where
  nodup : (σ.map Prod.fst).Nodup
  holds : ∀ p ∈ σ, Holds F w p.1 p.2
  low : ∀ b, F b → b < w.heap.size
/-- From (F, w) to (F', w'): what is frozen stays; no block turns into another kind. -/
structure Stp (F : Nat → Prop) (w : World) (F' : Nat → Prop) (w' : World) : Prop where
  os : w'.os = w.os
  tape : w'.tape = w.tape
  output : w'.output = w.output
  size : w.heap.size ≤ w'.heap.size
  sub : ∀ b, F b → F' b
  fix : ∀ b, F b → w'.heap[b]? = w.heap[b]?
  rows : ∀ (b : Nat) (c : Array Value) (T : TypeId) (fz : Nat × Nat), w.heap[b]? = some (.cells c T fz) → ∃ (c' : Array Value) (fz' : Nat × Nat), w'.heap[b]? = some (.cells c' T fz') ∧ c'.size = c.size
  drawn : w.drawn ≤ w'.drawn
/-- f is a function with a body. -/
def Enters (P : Program) (f : FuncId) : Prop := ∀ (args : Array Value) (w : World), (callFunc f args).run P w = .ok (.enter f args) w
/-- What a call of f with args does over the memory σ. -/
def ACalls (P : Program) (f : FuncId) (args : List AV) (σ : Hp) (R : AV → Hp → Prop) : Prop :=
  Enters P f ∧ ∀ F w vs, VRels F w args vs → RelHp F w σ → Calls P f vs w fun e w' => ∃ r v σ' F', e = .returned v ∧ Stp F w F' w' ∧ RelHp F' w' σ' ∧ VRel F' w' r v ∧ R r σ'
/-- The i-th block of a memory ahead of the others. -/
def pull (i : Nat) (σ : Hp) : Hp := match σ[i]? with | some p => p :: σ.eraseIdx i | none => σ
def pulls : List Nat → Hp → Hp
  | [], σ => σ
  | i :: r, σ => pull i (pulls r σ)
/-- A memory, of which less is spoken. -/
inductive Shed : Hp → Hp → Prop where
  | refl (σ : Hp) : Shed σ σ
  | pull (js : List Nat) {σ σ2 : Hp} (h : Shed (pulls js σ) σ2) : Shed σ σ2
  | drop (k n : Nat) {σ σ2 : Hp} (h : Shed (σ.take k ++ σ.drop (k + n)) σ2) : Shed σ σ2
  | perm {σ σ1 σ2 : Hp} (hp : σ1.Perm σ) (h : Shed σ1 σ2) : Shed σ σ2
  /-- Cells that are nil read as empty lists. -/
  | nilc (i b' : Nat) (cs cs2 : List AV) {σ σ2 : Hp} (hi : σ[i]? = some (b', cs)) (hl : cs2.length = cs.length) (hk : ∀ (k : Nat) (x y : AV), cs[k]? = some x → cs2[k]? = some y → x = y ∨ (x = .nils ∧ ∃ e : Sh, y = .fsl e [])) (h : Shed (σ.set i (b', cs2)) σ2) : Shed σ σ2
/-- A value that leads to a block which is written no more reads as a list for good. -/
inductive FrzRel (b off len es : Nat) (e : Sh) (l : List e.T) : AV → AV → Prop where
  | here : FrzRel b off len es e l (.mref b off len es) (.fsl e l)
  | refl (x : AV) : FrzRel b off len es e l x x
  | tup (xs ys : List AV) (h : xs.length = ys.length) (hi : ∀ (i : Nat) (x y : AV), xs[i]? = some x → ys[i]? = some y → FrzRel b off len es e l x y) : FrzRel b off len es e l (.tup xs) (.tup ys)
  | agg (xs ys : List AV) (h : xs.length = ys.length) (hl : ∀ (i : Nat) (y : AV), ys[i]? = some y → y.leaf = true) (hi : ∀ (i : Nat) (x y : AV), xs[i]? = some x → ys[i]? = some y → FrzRel b off len es e l x y) : FrzRel b off len es e l (.agg xs) (.agg ys)
  | nil (e' : Sh) : FrzRel b off len es e l .nils (.fsl e' [])
  | esl (e' : Sh) : FrzRel b off len es e l .esl (.fsl e' [])
  | via {x y : AV} (h : FrzRel b off len es e l x y) : FrzRel b off len es e l (.via x) y
inductive CallAt (P : Program) (f : FuncId) (K : AV → Hp → Prop) : List AV → Hp → Prop where
  | mk {args : List AV} {σ : Hp} (js : List Nat) (R : AV → Hp → Prop) (call : ACalls P f args (pulls js σ) R) (go : ∀ r σ', R r σ' → K r σ') : CallAt P f K args σ
  | perm {args : List AV} {σ σ2 : Hp} (R : AV → Hp → Prop) (hp : σ2.Perm σ) (call : ACalls P f args σ2 R) (go : ∀ r σ', R r σ' → ∃ σ3, σ3.Perm σ' ∧ K r σ3) : CallAt P f K args σ
  | frz {args args' : List AV} {σ : Hp} (j b off len es : Nat) (cs : List AV) (e : Sh) (l : List e.T) (h1 : σ[j]? = some (b, cs)) (h2 : (cs.drop off).take (len * es) = l.flatMap e.cells) (h3 : l.length = len ∧ e.size = es ∧ 0 < es) (h4 : FrzRel b off len es e l (.tup args) (.tup args')) (h : CallAt P f K args' (σ.eraseIdx j)) : CallAt P f K args σ
  | frzc {args : List AV} {σ : Hp} (j b off len es : Nat) (cs : List AV) (e : Sh) (l : List e.T) (h1 : σ[j]? = some (b, cs)) (h2 : (cs.drop off).take (len * es) = l.flatMap e.cells) (h3 : l.length = len ∧ e.size = es ∧ 0 < es) (i k b' : Nat) (cs' : List AV) (hi : (σ.eraseIdx j)[i]? = some (b', cs')) (hk : cs'[k]? = some (.mref b off len es)) (h : CallAt P f K args ((σ.eraseIdx j).set i (b', cs'.set k (.fsl e l)))) : CallAt P f K args σ
inductive CallQ (P : Program) (f : FuncId) (args : List AV) (σ : Hp) (K : AV → Prop) : Prop where
  | mk (js : List Nat) (r : AV) (call : ACalls P f args (pulls js σ) (fun r' σ' => r' = r ∧ σ' = pulls js σ)) (go : K r) : CallQ P f args σ K
  | perm {σ2 : Hp} (hp : σ2.Perm σ) (r : AV) (call : ACalls P f args σ2 (fun r' σ' => r' = r ∧ σ2.Perm σ')) (go : K r) : CallQ P f args σ K
/-- A round of a range over a function, asked for by yield. -/
def YCalls (P : Program) (l : Nat) (args : List AV) (σ : Hp) (R : AV → Hp → Prop) : Prop :=
  ∀ F w vs, VRels F w args vs → RelHp F w σ → ∃ f tmps assign body, (Instr.yield l vs).run P w = .ok (.round l f tmps assign body) w ∧
    RoundIn Fence.wide 0 P l f tmps assign body w fun e w' => ∃ r v σ' F', e = .returned v ∧ Stp F w F' w' ∧ RelHp F' w' σ' ∧ VRel F' w' r v ∧ R r σ'
inductive YieldAt (P : Program) (l : Nat) (K : AV → Hp → Prop) : List AV → Hp → Prop where
  | mk {args : List AV} {σ : Hp} (js : List Nat) (R : AV → Hp → Prop) (call : YCalls P l args (pulls js σ) R) (go : ∀ r σ', R r σ' → K r σ') : YieldAt P l K args σ
  | perm {args : List AV} {σ σ2 : Hp} (R : AV → Hp → Prop) (hp : σ2.Perm σ) (call : YCalls P l args σ2 R) (go : ∀ r σ', R r σ' → ∃ σ3, σ3.Perm σ' ∧ K r σ3) : YieldAt P l K args σ
section
variable (P : Program) (TT : TypeId → Option TI)
/-- The method m of what lies behind a pointer of type t is function g. -/
def Meth (t : TypeId) (m : String) (g : FuncId) : Prop :=
  ∀ (a : Addr) (w : World), (method (P.types.size + Made.depth) t (.pointer (some a)) m).run P w = .ok (g, .pointer (some a)) w
inductive InvAt (t : TypeId) (m : String) (K : FuncId → Prop) : Prop where
  | mk (g : FuncId) (h : Meth P t m g) (go : K g) : InvAt t m K
/-- What is called, and with what: a function's number, and its arguments. -/
def calleeW (c : Call) (ρ : Operand → AV) (K : FuncId → List AV → Prop) (KY : Nat → List AV → Prop) : Prop :=
  match c.callee with
  | .value f => match ρ f with
    | .fn (.func g) first cap => K g (first ++ (c.args.toList.map fun x => unvia (ρ x)) ++ cap)
    | .fn (.yield l) [] [] => KY l (c.args.toList.map fun x => unvia (ρ x))
    | _ => False
  | .invoke r m => match ρ r with
    | .iface t (.ptr b o) => InvAt P t m fun g => K g (.ptr b o :: c.args.toList.map fun x => unvia (ρ x))
    | .iface t (.eptr cs) => InvAt P t m fun g => K g (.eptr cs :: c.args.toList.map fun x => unvia (ρ x))
    | _ => False
  | .builtin _ => False
/-- What a slice's elements are, in cells. -/
inductive SrcAt (σ : Hp) (es : Nat) : AV → Nat → List AV → Prop where
  | nils : SrcAt σ es .nils 0 []
  | zsl : SrcAt σ es .zsl 0 []
  | esl : SrcAt σ es .esl 0 []
  | fsl (s : Sh) (l : List s.T) (h : s.size = es) : SrcAt σ es (.fsl s l) l.length (l.flatMap s.cells)
  | mref (j b off len : Nat) (cs : List AV) (h1 : σ[j]? = some (b, cs)) (h2 : off + len * es ≤ cs.length) : SrcAt σ es (.mref b off len es) len ((cs.drop off).take (len * es))
/-- append: of what is nil, or of an open slice; the old slice is not to be used again. -/
inductive Append0 (i : TI) (σ : Hp) (s x : AV) (K : AV → Hp → Prop) : Prop where
  | fresh (n : Nat) (new : List AV) (hs : s = .nils ∨ s = .zsl) (hx : SrcAt σ i.size x n new) (hn : n ≤ 1048576) (hb : i.bytes ≤ 1024) (h0 : 0 < i.size) (go : n ≠ 0 → ∀ b, K (.mref b 0 n i.size) ((b, new) :: σ)) (same : n = 0 → K s σ)
  | more (j b len n : Nat) (cs new : List AV) (hs : s = .mref b 0 len i.size) (h1 : σ[j]? = some (b, cs)) (h2 : len * i.size ≤ cs.length) (hx : SrcAt σ i.size x n new) (hn : len + n ≤ 1048576) (hb : i.bytes ≤ 1024) (h0 : 0 < i.size)
      (go : ∀ b', K (.mref b' 0 (len + n) i.size) ((b', cs.take (len * i.size) ++ new) :: σ.eraseIdx j)) : Append0 i σ s x K
  /-- A slice that may begin behind its block's beginning: it is in place, or anew. -/
  | moreO (j b off len n : Nat) (cs new : List AV) (hs : s = .mref b off len i.size) (h1 : σ[j]? = some (b, cs)) (h2 : off + len * i.size ≤ cs.length) (hx : SrcAt σ i.size x n new) (hn : len + n ≤ 1048576) (hb : i.bytes ≤ 1024) (h0 : 0 < i.size)
      (goIn : K (.mref b off (len + n) i.size) ((b, cs.take (off + len * i.size) ++ new) :: σ.eraseIdx j))
      (go : ∀ b', K (.mref b' 0 (len + n) i.size) ((b', (cs.drop off).take (len * i.size) ++ new) :: σ.eraseIdx j)) : Append0 i σ s x K
inductive AppendAt (i : TI) (σ : Hp) (s x : AV) (K : AV → Hp → Prop) : Prop where
  | fresh (n : Nat) (new : List AV) (hs : s = .nils ∨ s = .zsl) (hx : SrcAt σ i.size x n new) (hn : n ≤ 1048576) (hb : i.bytes ≤ 1024) (h0 : 0 < i.size) (go : n ≠ 0 → ∀ b, K (.mref b 0 n i.size) ((b, new) :: σ)) (same : n = 0 → K s σ)
  | more (j b len n : Nat) (cs new : List AV) (hs : s = .mref b 0 len i.size) (h1 : σ[j]? = some (b, cs)) (h2 : len * i.size ≤ cs.length) (hx : SrcAt σ i.size x n new) (hn : len + n ≤ 1048576) (hb : i.bytes ≤ 1024) (h0 : 0 < i.size)
      (go : ∀ b', K (.mref b' 0 (len + n) i.size) ((b', cs.take (len * i.size) ++ new) :: σ.eraseIdx j)) : AppendAt i σ s x K
  /-- A slice that may begin behind its block's beginning: it is in place, or anew. -/
  | moreO (j b off len n : Nat) (cs new : List AV) (hs : s = .mref b off len i.size) (h1 : σ[j]? = some (b, cs)) (h2 : off + len * i.size ≤ cs.length) (hx : SrcAt σ i.size x n new) (hn : len + n ≤ 1048576) (hb : i.bytes ≤ 1024) (h0 : 0 < i.size)
      (goIn : K (.mref b off (len + n) i.size) ((b, cs.take (off + len * i.size) ++ new) :: σ.eraseIdx j))
      (go : ∀ b', K (.mref b' 0 (len + n) i.size) ((b', (cs.drop off).take (len * i.size) ++ new) :: σ.eraseIdx j)) : AppendAt i σ s x K
  | perm {σ2 : Hp} (K2 : AV → Hp → Prop) (hp : σ2.Perm σ) (h : Append0 i σ2 s x K2) (hk : ∀ v σ3, K2 v σ3 → ∃ σ4, σ4.Perm σ3 ∧ (K v σ4 ∨ (v.leaf = true ∧ K (.via v) σ4))) : AppendAt i σ s x K
/-- append of so many zeros, to what is nil. -/
inductive AppendZ (i : TI) (σ : Hp) (s x : AV) (K : AV → Hp → Prop) : Prop where
  | nils (k : IntKind) (n : Int) (hs : s = .nils) (hx : x = .int k n) (hn : 0 ≤ n ∧ n ≤ 1048576) (hb : i.bytes ≤ 1024) (h0 : 0 < i.size) (go : 0 < n → ∀ b, K (.mref b 0 n.toNat i.size) ((b, repC i.zero n.toNat) :: σ)) (same : n = 0 → K .nils σ) : AppendZ i σ s x K
/-- clear: of what is nil or empty, or of an open slice. -/
inductive ClearAt (i : TI) (σ : Hp) (s : AV) (K : Hp → Prop) : Prop where
  | none (hs : s = .nils ∨ s = .zsl ∨ s = .esl) (go : K σ)
  | mref (j b off len : Nat) (cs : List AV) (hs : s = .mref b off len i.size) (h1 : σ[j]? = some (b, cs)) (h2 : off + len * i.size ≤ cs.length) (go : K (σ.set j (b, splice cs off (repC i.zero len))))
/-- copy: into an open slice that is long enough. -/
inductive CopyAt (i : TI) (σ : Hp) (d x : AV) (K : AV → Hp → Prop) : Prop where
  | mref (j b off len n : Nat) (cs new : List AV) (hd : d = .mref b off len i.size) (h1 : σ[j]? = some (b, cs)) (h2 : off + len * i.size ≤ cs.length) (hx : SrcAt σ i.size x n new) (hn : n ≤ len) (go : K (.int .i64 n) (σ.set j (b, splice cs off new)))
  | none (new : List AV) (hd : d = .nils ∨ d = .zsl ∨ d = .esl) (hx : SrcAt σ i.size x 0 new) (go : K (.int .i64 0) σ)
  /-- Of an open slice that has no less. -/
  | part (j b off len : Nat) (cs : List AV) (hd : d = .mref b off len i.size) (h1 : σ[j]? = some (b, cs)) (h2 : off + len * i.size ≤ cs.length) (j2 b2 off2 n : Nat) (cs2 : List AV) (hx : x = .mref b2 off2 n i.size) (h3 : σ[j2]? = some (b2, cs2)) (h4 : off2 + n * i.size ≤ cs2.length) (hn : len ≤ n) (go : K (.int .i64 len) (σ.set j (b, splice cs off ((cs2.drop off2).take (len * i.size)))))
/-- A map is written. -/
def mapPutW (t : TypeId) (m k x : AV) (σ : Hp) (K : AV → Hp → Prop) : Prop :=
  match mapZ TT t, k, x with
  | some _, .int .i64 n, .int .i64 v => MapAt σ m fun j b l => K .any (σ.set j (b, [.mapc (putM l n v)]))
  | _, _, _ => False
/-- A range over a map begins; a step; what the step came to. -/
def rangeW (t : TypeId) (m : AV) (σ : Hp) (K : AV → Hp → Prop) : Prop :=
  match mapZ TT t with
  | some _ => MapAt σ m fun _ b l => ∀ r, K (.itr r) ((r, [.itrc b l.length []]) :: σ)
  | none => False
inductive NextAt (σ : Hp) (x : AV) (K : AV → Hp → Prop) : Prop where
  | mk (j j2 r b : Nat) (l : List (Int × Int)) (seen : List Nat) (hx : x = .itr r) (h1 : σ[j]? = some (r, [.itrc b l.length seen])) (h2 : σ[j2]? = some (b, [.mapc l]))
      (stop : (∀ i : Nat, i < l.length → i ∈ seen) → K (.tup [.bool false]) σ)
      (go : ∀ (i : Nat) (p : Int × Int), l[i]? = some p → i ∉ seen → K (.tup [.bool true, .int .i64 p.1, .int .i64 p.2]) (σ.set j (r, [.itrc b l.length (seen ++ [i])]))) : NextAt σ x K
inductive EntryAt (σ : Hp) (x : AV) (K : AV → Hp → Prop) : Prop where
  | mk (j j2 r b i : Nat) (l : List (Int × Int)) (p : Int × Int) (seen : List Nat) (hx : x = .itr r) (h1 : σ[j]? = some (r, [.itrc b l.length (seen ++ [i])])) (h2 : σ[j2]? = some (b, [.mapc l])) (h3 : l[i]? = some p)
      (go : K (.tup [.int .i64 p.1, .int .i64 p.2]) σ) : EntryAt σ x K
/-- An operation. -/
def opW (o : Op) (ρ : Operand → AV) (σ : Hp) (K : AV → Hp → Prop) : Prop :=
  match o with
  | .box _ x => match (ρ x).cells? with | some cs => ∀ b, K (.ptr b 0) ((b, cs) :: σ) | none => False
  | .alloc e => match TT e with | some i => ∀ b, K (.ptr b 0) ((b, i.zero) :: σ) | none => False
  | .buildSlice t len parts => match TT t with
    | some ⟨.slice e, _, _, _⟩ => match TT e with
      | some i => match fillA ((List.range len).map fun j => (j * i.size, i.size)) (repC i.zero len) (parts.toList.map fun p => (p.1, ρ p.2)), Nat.ble (len * i.size) 16777216, Nat.ble 1 i.size with
        | some cs, true, true => ∀ b, K (.mref b 0 len i.size) ((b, cs) :: σ)
        | _, _, _ => False
      | none => False
    | _ => False
  | .makeSlice t l c => match TT t, ρ l, ρ c with
    | some ⟨.slice e, _, _, _⟩, .int _ n, .int _ m => match TT e with
      | some i => With (0 ≤ n ∧ n ≤ m ∧ m ≤ 1048576 ∧ i.bytes ≤ 1024) (∀ b, K (.mref b 0 n.toNat i.size) ((b, repC i.zero n.toNat) :: σ))
      | none => False
    | _, _, _ => False
  | .store t a x => match TT t with
    | some i => match ρ a with | .ptr b o => StoreAt i σ b o (ρ x) (fun σ' => K .any σ') | _ => False
    | none => False
  | .makeMap t none => match mapZ TT t with | some _ => ∀ b, K (.mapr b) ((b, [.mapc []]) :: σ) | none => False
  | .mapUpdate t m k x => mapPutW TT t (unvia (ρ m)) (unvia (ρ k)) (unvia (ρ x)) σ K
  | .insert t m k x => mapPutW TT t (unvia (ρ m)) (unvia (ρ k)) (unvia (ρ x)) σ K
  | .range t x => rangeW TT t (unvia (ρ x)) σ K
  | .next x s => match s with | false => NextAt σ (unvia (ρ x)) K | true => False
  | .entry x => EntryAt σ (unvia (ρ x)) K
  | .call ⟨.builtin .append, args, tys⟩ => match args.toList, tys.toList with
    | [s, x], [t, t'] => match TT t, TT t' with
      | some ⟨.slice e, _, _, _⟩, some ⟨.slice _, _, _, _⟩ => match TT e with | some i => AppendAt i σ (unvia (ρ s)) (unvia (ρ x)) K | none => False
      | some ⟨.slice e, _, _, _⟩, some ⟨.int _, _, _, _⟩ => match TT e with | some i => AppendZ i σ (unvia (ρ s)) (unvia (ρ x)) K | none => False
      | _, _ => False
    | _, _ => False
  | .call ⟨.builtin .clear, args, tys⟩ => match args.toList, tys.toList with
    | [s], [t] => match TT t with
      | some ⟨.slice e, _, _, _⟩ => match TT e with | some i => ClearAt i σ (unvia (ρ s)) (fun σ' => K (.tup []) σ') | none => False
      | _ => False
    | _, _ => False
  | .call ⟨.builtin .copy, args, tys⟩ => match args.toList, tys.toList with
    | [d, x], [t, t'] => match TT t, TT t' with
      | some ⟨.slice e, _, _, _⟩, some ⟨.slice _, _, _, _⟩ => match TT e with | some i => CopyAt i σ (unvia (ρ d)) (unvia (ρ x)) K | none => False
      | _, _ => False
    | _, _ => False
  | .call ⟨.builtin b, args, tys⟩ => opD P TT (.call ⟨.builtin b, args, tys⟩) ρ σ (fun v => K v σ)
  | .call c => calleeW P c ρ (fun f xs => CallAt P f K xs σ) (fun l xs => YieldAt P l K xs σ)
  | o => opD P TT o ρ σ (fun v => K v σ)
/-- Whether an operation is wanted. -/
def guardW (ops : List Oper) (o : Oper) (t : Tm) (A B : Prop) : Prop :=
  match o.guard with
  | none => A
  | some (j, want) => match (ops[j]?).bind (·.dst) with
    | some d => match t d with
      | .bool b => (match want, b with | true, true => A | true, false => B | false, true => B | false, false => A)
      | .tup [] => B
      | _ => False
    | none => False
/-- The operations, in the text's order. -/
def opsW (ops : List Oper) (l : List Oper) : Tm → Hp → (Tm → Hp → Prop) → Prop :=
  List.rec (motive := fun _ => Tm → Hp → (Tm → Hp → Prop) → Prop) (fun t σ K => K t σ)
    (fun o _ ih t σ K => guardW ops o t (opW P TT o.op (ev t) σ fun v σ' => ih (put t o.dst v) σ' K) (ih (put t o.dst (.tup [])) σ K)) l
/-- An operation that leaves the memory alone, a call among them. -/
def opQ (o : Op) (ρ : Operand → AV) (σ : Hp) (K : AV → Prop) : Prop :=
  match o with
  | .call ⟨.builtin b, args, tys⟩ => opD P TT (.call ⟨.builtin b, args, tys⟩) ρ σ K
  | .call c => calleeW P c ρ (fun f xs => CallQ P f xs σ K) (fun _ _ => False)
  | o => opD P TT o ρ σ K
def opsQ (ops : List Oper) (l : List Oper) : Tm → Hp → (Tm → Prop) → Prop :=
  List.rec (motive := fun _ => Tm → Hp → (Tm → Prop) → Prop) (fun t _ K => K t)
    (fun o _ ih t σ K => guardW ops o t (opQ P TT o.op (ev t) σ fun v => ih (put t o.dst v) σ K) (ih (put t o.dst (.tup [])) σ K)) l
/-- Does an operation look at no memory? -/
def blind : Op → Bool
  | .move _ | .assign _ | .pick .. | .build .. | .nilCheck _ | .binOp .. | .unOp .. | .convert .. | .makeInterface .. | .makeFunc .. | .slice .. | .fieldAddr .. | .field .. | .indexAddr .. | .extract .. | .typeAssert .. => true
  | .call ⟨.builtin .len, _, _⟩ | .call ⟨.builtin .min, _, _⟩ | .call ⟨.builtin .max, _, _⟩ => true
  | _ => false
def readyA (ops : List Oper) (listed : List Bool) : List Nat :=
  (List.range ops.length).filter fun i => !listed.getD i true && (match ops[i]? with | some o => o.after.toList.all fun e => !Region.binds .any e || listed.getD e.on false | none => false)
/-- One operation, whichever may come up. -/
def oneW (ops : List Oper) (i : Nat) (t : Tm) (σ : Hp) (K : Tm → Hp → Prop) : Prop :=
  match ops[i]? with
  | some o => guardW ops o t (opW P TT o.op (ev t) σ fun v σ' => K (put t o.dst v) σ') (K (put t o.dst (.tup [])) σ)
  | none => False
def allW (f : Nat → Prop) (l : List Nat) : Prop :=
  List.rec (motive := fun _ => Prop) True (fun i r ih => match r with | [] => f i | _ => f i ∧ ih) l
def isLoad : Op → Bool
  | .load _ _ => true
  | _ => false
/-- May an operation turn the memory? -/
def effB (o : Op) : Bool := !(blind o || isLoad o)
def bindsA (o : Oper) (j : Nat) : Bool := o.after.toList.any fun e => Region.binds .any e && Nat.beq e.on j
/-- Do all operations that may turn the memory, and are still to come, wait for this one? -/
def waitA (ops : List Oper) (listed : List Bool) (i : Nat) : Bool := ops.zipIdx.all fun (o, j) => !effB o.op || listed.getD j false || bindsA o i
/-- An operation that may be taken ahead of the others. -/
def firstA (ops : List Oper) (listed : List Bool) (i : Nat) : Bool :=
  match ops[i]? with
  | some o => blind o.op || (isLoad o.op && waitA ops listed i)
  | none => false
/-- Whatever order is picked; of those that may be taken first the first one first. -/
def anyW (ops : List Oper) (n : Nat) : List Bool → Tm → Hp → (Tm → Hp → Prop) → Prop :=
  Nat.rec (motive := fun _ => List Bool → Tm → Hp → (Tm → Hp → Prop) → Prop) (fun _ _ _ _ => False)
    (fun _ ih listed t σ K => match readyA ops listed with
      | [] => K t σ
      | i :: r => match (i :: r).find? (firstA ops listed) with
        | some j => oneW P TT ops j t σ fun t' σ' => ih (listed.set j true) t' σ' K
        | none => allW (fun j => oneW P TT ops j t σ fun t' σ' => ih (listed.set j true) t' σ' K) (i :: r)) n
theorem anyW_succ {ops : List Oper} {n : Nat} {listed : List Bool} {t : Tm} {σ : Hp} {K : Tm → Hp → Prop} : anyW P TT ops (n + 1) listed t σ K = (match readyA ops listed with
      | [] => K t σ
      | i :: r => match (i :: r).find? (firstA ops listed) with
        | some j => oneW P TT ops j t σ fun t' σ' => anyW P TT ops n (listed.set j true) t' σ' K
        | none => allW (fun j => oneW P TT ops j t σ fun t' σ' => anyW P TT ops n (listed.set j true) t' σ' K) (i :: r)) := rfl
/-- What an operation looks at: temporaries. -/
def looksA (ops : List Oper) (o : Oper) : List Tmp :=
  (o.op.operands.toList.filterMap fun | .tmp t => some t | _ => none) ++ (match o.guard with | some (g, _) => ((ops[g]?).bind (·.dst)).toList | none => [])
/-- May the operations that look at nothing that others turn be walked in the text's order? -/
def quietOk (ops : List Oper) : Bool :=
  let z := ops.zipIdx
  z.all fun (o, i) =>
    (o.after.toList.all fun e => !Region.binds .any e || Nat.blt e.on i) &&
    (z.all fun (p, j) => match p.dst with
      | none => true
      | some d => (Nat.beq i j || match o.dst with | some d' => !Nat.beq d d' | none => true) &&
        (!(looksA ops o).any (Nat.beq d) || Nat.beq i j || (Nat.blt j i && bindsA o j) || (Nat.blt i j && bindsA p i)))
/-- Is each pair of operations one behind the other, or apart? -/
def apartOk (ops : List Oper) : Bool :=
  let z := ops.zipIdx
  z.all fun (o, i) => (match o.op with | .select .. => false | _ => true) && z.all fun (p, j) => Nat.beq i j || bindsA o j || bindsA p i || o.apart ops.toArray p
def upd (g : Tm) : List (Nat × AV) → Tm
  | [] => g
  | (i, v) :: r => fun j => match Nat.beq j i with | true => v | false => upd g r j
def agree (t : Tm) : List (Nat × AV) → Prop
  | [] => True
  | (i, v) :: r => t i = v ∧ agree t r
theorem upd_self {t : Tm} {l : List (Nat × AV)} (h : agree t l) : t = upd t l := by
  induction l with
  | nil => rfl
  | cons p r ih =>
    obtain ⟨i, v⟩ := p
    obtain ⟨h1, h2⟩ := h
    funext j
    show t j = (match Nat.beq j i with | true => v | false => upd t r j)
    cases hb : Nat.beq j i with
    | true => rw [Nat.eq_of_beq_eq_true hb]; exact h1
    | false => exact congrFun (ih h2) j
/-- What is known where several orders meet. -/
inductive Meet {S : Type} (L : S → List (Nat × AV)) (H : S → Hp) (t' : Tm) (σ' : Hp) : Prop where
  | mk (s : S) (h3 : agree t' (L s)) (h4 : Shed σ' (H s)) : Meet L H t' σ'
/-- One operation, whichever may come up; q: a call that leaves the memory alone. -/
def oneX (ops : List Oper) (q : Bool) (i : Nat) (t : Tm) (σ : Hp) (K : Tm → Hp → Prop) : Prop :=
  match ops[i]? with
  | some o => match q with
    | true => guardW ops o t (opQ P TT o.op (ev t) σ fun v => K (put t o.dst v) σ) (K (put t o.dst (.tup [])) σ)
    | false => guardW ops o t (opW P TT o.op (ev t) σ fun v σ' => K (put t o.dst v) σ') (K (put t o.dst (.tup [])) σ)
  | none => False
def memN (j : Nat) (l : List Nat) : Bool := l.any (Nat.beq j)
/-- All orders; Q: calls that leave the memory alone. -/
def allX (ops : List Oper) (Q : List Nat) (n : Nat) : List Bool → Tm → Hp → (Tm → Hp → Prop) → Prop :=
  Nat.rec (motive := fun _ => List Bool → Tm → Hp → (Tm → Hp → Prop) → Prop) (fun _ _ _ _ => False)
    (fun _ ih listed t σ K => (readyA ops listed = [] → K t σ) ∧ ∀ i ∈ readyA ops listed, oneX P TT ops (memN i Q) i t σ fun t' σ' => ih (listed.set i true) t' σ' K) n
/-- What each operation waits for, at whatever distance. -/
def rowT (o : Oper) (acc : List (List Nat)) : List Nat := o.after.toList.flatMap fun e => match Region.binds .any e with | true => e.on :: (acc[e.on]?).getD [] | false => []
def rowsT : List Oper → List (List Nat) → List (List Nat)
  | [], acc => acc
  | o :: os, acc => rowsT os (acc ++ [(rowT o acc).eraseDups])
def effX (ops : List Oper) (Q : List Nat) (k : Nat) : Bool := match ops[k]? with | some o => effB o.op && !memN k Q | none => false
/-- May an operation be taken ahead of the others? -/
def firstX (ops : List Oper) (rows : List (List Nat)) (Q : List Nat) (listed : List Bool) (j : Nat) : Bool :=
  match ops[j]? with
  | some o => (blind o.op && !memN j Q) || ((isLoad o.op || memN j Q) && (List.range ops.length).all fun k => listed.getD k false || !effX ops Q k || memN j ((rows[k]?).getD []))
  | none => false
/-- A plan of the orders that may be picked. -/
inductive Sch where
  | stop
  | one (j : Nat) (q : Bool) (s : Sch)
  | alt (j : Nat) (s r : Sch)
/-- Is a plan one of all orders? pend: those that are still to be planned of the ones that may come now. -/
def schOk (ops : List Oper) (rows : List (List Nat)) (Q : List Nat) : Sch → Nat → List Nat → List Bool → Bool
  | .stop, n, pend, listed => match n, pend, readyA ops listed with | _ + 1, [], [] => true | _, _, _ => false
  | .one j q s, n, pend, listed => match n, pend with
    | n + 1, [] => (memN j Q == q) && memN j (readyA ops listed) && (firstX ops rows Q listed j || (match readyA ops listed with | [i] => Nat.beq i j | _ => false)) && schOk ops rows Q s n [] (listed.set j true)
    | n, [i] => (memN j Q == q) && Nat.beq i j && schOk ops rows Q s n [] (listed.set j true)
    | _, _ => false
  | .alt j s r, n, pend, listed => match n, pend with
    | n + 1, [] => (match readyA ops listed with
      | i :: i2 :: l => Nat.beq i j && !memN j Q && schOk ops rows Q s n [] (listed.set j true) && schOk ops rows Q r n (i2 :: l) listed
      | _ => false)
    | n, i :: i2 :: l => Nat.beq i j && !memN j Q && schOk ops rows Q s n [] (listed.set j true) && schOk ops rows Q r n (i2 :: l) listed
    | _, _ => false
/-- The operations, by a plan. -/
def schW (ops : List Oper) (s : Sch) : Tm → Hp → (Tm → Hp → Prop) → Prop :=
  Sch.rec (motive := fun _ => Tm → Hp → (Tm → Hp → Prop) → Prop) (fun t σ K => K t σ)
    (fun j q _ ih t σ K => oneX P TT ops q j t σ fun t' σ' => ih t' σ' K)
    (fun j _ _ ih ihr t σ K => oneX P TT ops false j t σ (fun t' σ' => ih t' σ' K) ∧ ihr t σ K) s
def callN : Op → Bool
  | .call ⟨.builtin _, _, _⟩ => false
  | .call _ => true
  | _ => false
/-- A region's plan is one; Q are calls. -/
def planOk (ops : List Oper) (Q : List Nat) (s : Sch) : Bool :=
  apartOk ops && Q.all (fun j => match ops[j]? with | some o => callN o.op | none => false) && schOk ops (rowsT ops []) Q s (ops.length + 1) [] (List.replicate ops.length false)
/-- A region that draws its order. -/
inductive DrawW (ops : List Oper) (K : Tm → Hp → Prop) : Tm → Hp → Prop where
  | quiet {t : Tm} {σ : Hp} (h0 : quietOk ops = true) (h : opsQ P TT ops ops t σ fun t' => K t' σ) : DrawW ops K t σ
  | each {t : Tm} {σ : Hp} (h0 : apartOk ops = true) (h : anyW P TT ops (ops.length + 1) (List.replicate ops.length false) t σ K) : DrawW ops K t σ
  | sched {t : Tm} {σ : Hp} (Q : List Nat) (s : Sch) (h0 : planOk ops Q s = true) (h : schW P TT ops s t σ K) : DrawW ops K t σ
  | meet {t : Tm} {σ : Hp} {S : Type} (L : S → List (Nat × AV)) (H : S → Hp) (h0 : apartOk ops = true) (h : anyW P TT ops (ops.length + 1) (List.replicate ops.length false) t σ (Meet L H)) (go : ∀ s g, K (upd g (L s)) (H s)) : DrawW ops K t σ
  | meetS {t : Tm} {σ : Hp} {S : Type} (Q : List Nat) (s : Sch) (L : S → List (Nat × AV)) (H : S → Hp) (h0 : planOk ops Q s = true) (h : schW P TT ops s t σ (Meet L H)) (go : ∀ s g, K (upd g (L s)) (H s)) : DrawW ops K t σ
  | frz {t t' : Tm} {σ : Hp} (j b off len es : Nat) (cs : List AV) (e : Sh) (l : List e.T) (h1 : σ[j]? = some (b, cs)) (h2 : (cs.drop off).take (len * es) = l.flatMap e.cells) (h3 : l.length = len ∧ e.size = es ∧ 0 < es) (h4 : ∀ i, FrzRel b off len es e l (t i) (t' i)) (h : DrawW ops K t' (σ.eraseIdx j)) : DrawW ops K t σ
  | shed {t : Tm} {σ σ2 : Hp} (h1 : Shed σ σ2) (h : DrawW ops K t σ2) : DrawW ops K t σ
inductive Ex where
  | normal | exit (id : Nat) | goto (l : Nat) | ret
/-- A loop's head, known by a state. -/
def Head {S : Type} (L : S → List (Nat × AV)) (H : S → Hp) (p : S → Prop) (μ : S → Nat) (m : Nat) (t : Tm) (σ : Hp) : Prop := ∃ s g, m = μ s ∧ p s ∧ t = upd g (L s) ∧ σ = H s
/-- A round's end, known by the next state. -/
inductive NextR {S : Type} (L : S → List (Nat × AV)) (H : S → Hp) (p : S → Prop) (μ : S → Nat) (s : S) : Tm → Hp → Prop where
  | mk {t' : Tm} {σ' : Hp} (s' : S) (h1 : μ s' < μ s) (h2 : p s') (h3 : agree t' (L s')) (h4 : Shed σ' (H s')) : NextR L H p μ s t' σ'
  | frz {t' t2 : Tm} {σ' : Hp} (j b off len es : Nat) (cs : List AV) (e : Sh) (l : List e.T) (h1 : σ'[j]? = some (b, cs)) (h2 : (cs.drop off).take (len * es) = l.flatMap e.cells) (h3 : l.length = len ∧ e.size = es ∧ 0 < es) (h4 : ∀ i, FrzRel b off len es e l (t' i) (t2 i)) (h : NextR L H p μ s t2 (σ'.eraseIdx j)) : NextR L H p μ s t' σ'
  | frzc {t' : Tm} {σ' : Hp} (j b off len es : Nat) (cs : List AV) (e : Sh) (l : List e.T) (h1 : σ'[j]? = some (b, cs)) (h2 : (cs.drop off).take (len * es) = l.flatMap e.cells) (h3 : l.length = len ∧ e.size = es ∧ 0 < es) (i k b' : Nat) (cs' : List AV) (hi : (σ'.eraseIdx j)[i]? = some (b', cs')) (hk : cs'[k]? = some (.mref b off len es)) (h : NextR L H p μ s t' ((σ'.eraseIdx j).set i (b', cs'.set k (.fsl e l)))) : NextR L H p μ s t' σ'
  | shed {t' : Tm} {σ' σ2 : Hp} (h1 : Shed σ' σ2) (h : NextR L H p μ s t' σ2) : NextR L H p μ s t' σ'
  | nil {t' t2 : Tm} {σ' : Hp} (h4 : ∀ i, FrzRel 0 0 0 0 .bool [] (t' i) (t2 i)) (h : NextR L H p μ s t2 σ') : NextR L H p μ s t' σ'
/-- A loop, by a state that is known at its head; rounds are left as μ says. -/
inductive LoopW (body : Tm → Hp → (Ex → Tm → Hp → Prop) → Prop) (Q : Ex → Tm → Hp → Prop) : Tm → Hp → Prop where
  | mk {t : Tm} {σ : Hp} {S : Type} (L : S → List (Nat × AV)) (H : S → Hp) (p : S → Prop) (μ : S → Nat) (s0 : S) (h0 : p s0 ∧ agree t (L s0) ∧ σ = H s0)
      (round : ∀ s g, p s → body (upd g (L s)) (H s) (fun e t' σ' => match e with | .normal => NextR L H p μ s t' σ' | e => Q e t' σ')) : LoopW body Q t σ
  | frz {t t' : Tm} {σ : Hp} (j b off len es : Nat) (cs : List AV) (e : Sh) (l : List e.T) (h1 : σ[j]? = some (b, cs)) (h2 : (cs.drop off).take (len * es) = l.flatMap e.cells) (h3 : l.length = len ∧ e.size = es ∧ 0 < es) (h4 : ∀ i, FrzRel b off len es e l (t i) (t' i)) (h : LoopW body Q t' (σ.eraseIdx j)) : LoopW body Q t σ
  | shed {t : Tm} {σ σ2 : Hp} (h1 : Shed σ σ2) (h : LoopW body Q t σ2) : LoopW body Q t σ
  | wrap {t : Tm} {σ : Hp} (k : Nat) (v : AV) (h1 : t k = v) (h2 : v.leaf = true) (h : LoopW body Q (upd t [(k, .via v)]) σ) : LoopW body Q t σ
  | nil {t t' : Tm} {σ : Hp} (h4 : ∀ i, FrzRel 0 0 0 0 .bool [] (t i) (t' i)) (h : LoopW body Q t' σ) : LoopW body Q t σ
/-- Jumps forward: k of them at most. -/
def gotoW (R : Nat → Tm → Hp → (Ex → Tm → Hp → Prop) → Prop) (k : Nat) : Nat → Tm → Hp → (Ex → Tm → Hp → Prop) → Prop :=
  Nat.rec (motive := fun _ => Nat → Tm → Hp → (Ex → Tm → Hp → Prop) → Prop) (fun _ _ _ _ => False)
    (fun _ ih l t σ Q => R l t σ fun e t' σ' => match e with | .goto l' => ih l' t' σ' Q | e => Q e t' σ') k
/-- A jump, known by a state. -/
inductive NextG {S : Type} (lab : S → Nat) (L : S → List (Nat × AV)) (H : S → Hp) (p : S → Prop) (μ : S → Nat) (s : S) (l : Nat) : Tm → Hp → Prop where
  | mk {t' : Tm} {σ' : Hp} (s' : S) (h0 : l = lab s') (h1 : μ s' < μ s) (h2 : p s') (h3 : agree t' (L s')) (h4 : Shed σ' (H s')) : NextG lab L H p μ s l t' σ'
  | frz {t' t2 : Tm} {σ' : Hp} (j b off len es : Nat) (cs : List AV) (e : Sh) (d : List e.T) (h1 : σ'[j]? = some (b, cs)) (h2 : (cs.drop off).take (len * es) = d.flatMap e.cells) (h3 : d.length = len ∧ e.size = es ∧ 0 < es) (h4 : ∀ i, FrzRel b off len es e d (t' i) (t2 i)) (h : NextG lab L H p μ s l t2 (σ'.eraseIdx j)) : NextG lab L H p μ s l t' σ'
  | frzc {t' : Tm} {σ' : Hp} (j b off len es : Nat) (cs : List AV) (e : Sh) (d : List e.T) (h1 : σ'[j]? = some (b, cs)) (h2 : (cs.drop off).take (len * es) = d.flatMap e.cells) (h3 : d.length = len ∧ e.size = es ∧ 0 < es) (i k b' : Nat) (cs' : List AV) (hi : (σ'.eraseIdx j)[i]? = some (b', cs')) (hk : cs'[k]? = some (.mref b off len es)) (h : NextG lab L H p μ s l t' ((σ'.eraseIdx j).set i (b', cs'.set k (.fsl e d)))) : NextG lab L H p μ s l t' σ'
  | shed {t' : Tm} {σ' σ2 : Hp} (h1 : Shed σ' σ2) (h : NextG lab L H p μ s l t' σ2) : NextG lab L H p μ s l t' σ'
  | nil {t' t2 : Tm} {σ' : Hp} (h4 : ∀ i, FrzRel 0 0 0 0 .bool [] (t' i) (t2 i)) (h : NextG lab L H p μ s l t2 σ') : NextG lab L H p μ s l t' σ'
/-- A scope's jumps: some ahead; or round by round, by a state that is known behind the label. -/
inductive GotoW (R : Nat → Tm → Hp → (Ex → Tm → Hp → Prop) → Prop) (l : Nat) (Q : Ex → Tm → Hp → Prop) : Tm → Hp → Prop where
  | fwd {t : Tm} {σ : Hp} (k : Nat) (h : gotoW R k l t σ Q) : GotoW R l Q t σ
  | loop {t : Tm} {σ : Hp} {S : Type} (lab : S → Nat) (L : S → List (Nat × AV)) (H : S → Hp) (p : S → Prop) (μ : S → Nat) (s0 : S) (h0 : l = lab s0 ∧ p s0 ∧ agree t (L s0) ∧ Shed σ (H s0))
      (round : ∀ s g, p s → R (lab s) (upd g (L s)) (H s) (fun e t' σ' => match e with | .goto l' => NextG lab L H p μ s l' t' σ' | e => Q e t' σ')) : GotoW R l Q t σ
  | frz {t t' : Tm} {σ : Hp} (j b off len es : Nat) (cs : List AV) (e : Sh) (d : List e.T) (h1 : σ[j]? = some (b, cs)) (h2 : (cs.drop off).take (len * es) = d.flatMap e.cells) (h3 : d.length = len ∧ e.size = es ∧ 0 < es) (h4 : ∀ i, FrzRel b off len es e d (t i) (t' i)) (h : GotoW R l Q t' (σ.eraseIdx j)) : GotoW R l Q t σ
  | shed {t : Tm} {σ σ2 : Hp} (h1 : Shed σ σ2) (h : GotoW R l Q t σ2) : GotoW R l Q t σ
  | wrap {t : Tm} {σ : Hp} (k : Nat) (v : AV) (h1 : t k = v) (h2 : v.leaf = true) (h : GotoW R l Q (upd t [(k, .via v)]) σ) : GotoW R l Q t σ
/-- What yield hands back, and how the loop's record stands (rd: ready; dn e: left by e). -/
def YPost (l : Nat) (rd : AV) (dn : Ex → AV) (R1 : Ex → Hp → Prop) (r : AV) (σ' : Hp) : Prop :=
  (r = .bool true ∧ ∃ σ2, σ' = (l, [rd]) :: σ2 ∧ R1 .normal σ2) ∨ (r = .bool false ∧ ∃ e σ2, e ≠ .normal ∧ σ' = (l, [dn e]) :: σ2 ∧ R1 e σ2)
/-- How the loop's record stands behind the function that was ranged over. -/
def RgPost (l : Nat) (rd : AV) (dn : Ex → AV) (K : Ex → Hp → Prop) (_ : AV) (σ' : Hp) : Prop :=
  (∃ σ2, σ' = (l, [rd]) :: σ2 ∧ K .normal σ2) ∨ (∃ e σ2, e ≠ .normal ∧ σ' = (l, [dn e]) :: σ2 ∧ K e σ2)
/-- A range over a function: what it does, if each round is the body (B). -/
inductive RangeW (P : Program) (gf : FuncId) (cap : List AV) (m : Nat) (B : List AV → Hp → (Ex → Hp → Prop) → Prop) (K : Ex → Hp → Prop) : Hp → Prop where
  | mk {σ : Hp} (go : ∀ (l : Nat) (rd : AV) (dn : Ex → AV), (∀ (xs : List AV) (σ1 : Hp) (R1 : Ex → Hp → Prop), xs.length = m → B xs σ1 R1 → YCalls P l xs ((l, [rd]) :: σ1) (YPost l rd dn R1)) →
      ACalls P gf (.fn (.yield l) [] [] :: cap) ((l, [rd]) :: σ) (RgPost l rd dn K)) : RangeW P gf cap m B K σ
  | shed {σ σ2 : Hp} (h1 : Shed σ σ2) (h : RangeW P gf cap m B K σ2) : RangeW P gf cap m B K σ
/-- Temporaries, parameters of a round among them. -/
def psT : List Tmp → List AV → Tm → Tm
  | p :: ps, x :: xs, t => psT ps xs (put t (some p) x)
  | _, _, t => t
/-- The code, what it has within by rec. -/
def codeF (rec : Code → Tm → Hp → (Ex → Tm → Hp → Prop) → Prop) (c : Code) (t : Tm) (σ : Hp) (Q : Ex → Tm → Hp → Prop) : Prop :=
  match c with
  | .skip => Q .normal t σ
  | .label _ => Q .normal t σ
  | .exit id => Q (.exit id) t σ
  | .goto l => Q (.goto l) t σ
  | .ret => Q .ret t σ
  | .region _ ops draw => match draw with
    | false => opsW P TT ops.toList ops.toList t σ (Q .normal)
    | true => DrawW P TT ops.toList (Q .normal) t σ
  | .seq a b => rec a t σ fun e t' σ' => match e with | .normal => rec b t' σ' Q | e => Q e t' σ'
  | .cond c a b => match ev t c with | .bool x => (match x with | true => rec a t σ Q | false => rec b t σ Q) | _ => False
  | .block id c => rec c t σ fun e t' σ' => match e with
    | .exit i => (match Nat.beq i id with | true => Q .normal t' σ' | false => Q (.exit i) t' σ')
    | e => Q e t' σ'
  | .loop c => LoopW (fun t σ Q => rec c t σ Q) Q t σ
  | .scope c => rec c t σ fun e t' σ' => match e with
    | .goto l => GotoW (fun l t σ Q => match findLabel c l with | some r => rec r t σ Q | none => False) l Q t' σ'
    | e => Q e t' σ'
  | .rangeFunc g ps assign body => match ev t g with
    | .fn (.func gf) [] cap => RangeW P gf cap ps.size (fun xs σ1 R1 => rec assign (psT ps.toList xs t) σ1 fun e t' σ' => match e with | .normal => rec body t' σ' (fun e _ σ'' => R1 e σ'') | _ => False) (fun e σ' => Q e t σ') σ
    | _ => False
  | _ => False
def codeW (n : Nat) : Code → Tm → Hp → (Ex → Tm → Hp → Prop) → Prop :=
  Nat.rec (motive := fun _ => Code → Tm → Hp → (Ex → Tm → Hp → Prop) → Prop) (fun _ _ _ _ => False) (fun _ ih => codeF P TT ih) n
end
end Go.Proofs.Ytacacplipaeokaa
